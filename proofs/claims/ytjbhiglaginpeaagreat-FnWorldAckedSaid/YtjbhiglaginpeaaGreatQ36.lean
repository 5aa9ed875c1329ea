/- Parts of the proof, joined from several texts. No condition. -/
import Derived.Test.YtjbhiglaginpeaaGreatQ33
set_option maxRecDepth 100000
set_option maxHeartbeats 16000000
set_option linter.unusedVariables false
set_option linter.unusedSimpArgs false
namespace Go.Proofs.YtjbhiglaginpeaaGreat
open Go.RowKit
theorem vlEvents (bs : List UInt8) (q : Nat) (n : Int) (hn : 0 ≤ n ∧ n ≤ 100) (hq : q ≤ 500000) (hb : bs.length ≤ 2000) : FnE Tryz.prog 24 [100089] [.ptr 100089 0, aI n] (rdB bs q) (fun (l : List Ev) q' => ((l.length : Int) ≤ n ∧ ∀ e ∈ l, EvS e) ∧ q' ≤ q + 40000) (fun l _ => .d (dL 11 eEv l)) (fun _ q' => rdB bs q') := by
 have hE := fun q hq => vlEvent bs q hq hb
 obtain ⟨q0, hq0⟩ : ∃ q0, q0 = q := ⟨q, rfl⟩
 obtain ⟨m, rfl⟩ : ∃ m : Nat, n = (m : Int) := ⟨n.toNat, by omega⟩
 unfold rdB at hE ⊢
 refine fE Tryz.func24 Tryz.ntmps24 Tryz.results24 ?_
 repeat' (first
  | refine stp ?_
  | fail)
 refine WC.loop (fun k s => ∃ (i : Nat) (R : List Ev) (q : Nat), k + i = m ∧ R.length = i ∧ (∀ e ∈ R, EvS e) ∧ q ≤ q0 + 400 * i ∧ s = ⟨⟨19, [100089]⟩, [(0, .ptr 100089 0), (1, aI m), (5, .own 700 R.length), (6, aI (i : Nat))], [(100089, .blk [.d (dL 1 eBy bs), aI q]), (700, hL 56 11 eEv R)]⟩) m ⟨0, [], q, rfl, rfl, fun r h => (by cases h), by omega, rfl⟩ (imp (look [(100089, 100089)])) ?_
 rintro k s ⟨i, R, q, hk, hRl, hR, hq2, rfl⟩
 repeat' (first
  | refine stp ?_
  | (apply K.g0; apply K.callF; refine ceq (F := hE q (by omega)) (G := fun e q he => ?_))
  | (refine WC.cond rfl ?_ ?_ <;> intro hb <;> (try have hb' := nrm hb) <;> try (exfalso; omega)))
 ·exact loopQ.n (k - 1) _ (by omega) ⟨i + 1, R ++ [e], q, by omega, by simp; omega, (fun r h => (List.mem_append.1 h).elim (hR r) (fun h => by rw [List.mem_singleton.1 h]; exact he.1)), by omega, rfl⟩ (imp (look [(100089, 100089), (700, 17)]))
 ·exact retE.r ⟨R, q, ⟨⟨by omega, hR⟩, by omega⟩, RetHG.mk1 (look [(100089, 100089)]) (ResV.tmp rfl) (LeV.f2 rfl rfl) (LeH.blk rfl rfl (LeVs.cons LeV.dd (LeVs.cons LeV.dd LeVs.nil)) LeH.nil) rfl rfl⟩
theorem vlDrawPlay (bs : List UInt8) : FnE Tryz.prog 10 [] [.d (dL 1 eBy bs)] [] (fun (x : Int × List Ev) _ => ((-1 ≤ x.1 ∧ x.1 ≤ 31) ∧ x.2.length ≤ 100) ∧ ∀ e ∈ x.2, EvS e) (fun x _ => .tu [aI x.1, .d (dL 11 eEv x.2)]) (fun _ _ => []) := by
 have hO := vlOpen bs
 have hb : (bs.take 2000).length ≤ 2000 := by rw [List.length_take]; omega
 generalize bs.take 2000 = bt at hO hb
 have hP := fun q n hq => vlPick bt q n hq hb
 have hS := fun q hq => vlStart bt q hq hb
 have hM := fun q hq => vlLimit bt q hq hb
 have hE := fun q n hn hq => vlEvents bt q n hn hq hb
 obtain ⟨q, hq, hO⟩ : ∃ q : Nat, q = 0 ∧ FnH Tryz.prog 20 [] [.d (dL 1 eBy bs)] [] (.ptr 100089 0) (rdB bt q) := ⟨0, rfl, hO⟩
 unfold rdB at hO hP hS hM hE
 refine fE Tryz.func10 Tryz.ntmps10 Tryz.results10 ?_
 repeat' (first
  | refine stp ?_
  | (apply K.g0; apply K.callF; first | refine ceq (F := hS q (by omega)) (G := fun L q hl => ?_) | refine ceq (F := hM q (by omega)) (G := fun L q hl => ?_) | refine ceq (F := hE q _ (by omega) (by omega)) (G := fun l q he => ?_) | refine ceq (F := hP q _ (by omega) (by omega) (by omega)) (G := fun v q hv => ?_) | refine chq (F := hO) (G := ?_))
  | (refine WC.cond rfl ?_ ?_ <;> intro hb <;> (try have hb' := nrm hb) <;> try (exfalso; omega)))
 all_goals
  have he1 := he.1.1
  exact retE.r ⟨(L, l), 0, ⟨⟨hl.1, by dsimp only; omega⟩, he.1.2⟩, rehw2 (look [])⟩
end Go.Proofs.YtjbhiglaginpeaaGreat
