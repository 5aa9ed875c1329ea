/- The law FnWorldWaiting holds for every input: the call returns true and leaves all memory that was there as it was. No condition. -/
import Derived.Test.YtjbhiglaginpeaaGreatQ52
import Derived.Test.YtjbhiglaginpeaaGreatQ10
set_option maxRecDepth 100000
set_option maxHeartbeats 16000000
set_option linter.unusedVariables false
set_option linter.unusedSimpArgs false
namespace Go.Proofs.YtjbhiglaginpeaaGreat
open Go.RowKit
theorem wFnWorldWaiting (bs : List UInt8) : FnE Tryz.prog 7 [] [.d (dL 1 eBy bs)] [] (fun (_ : Unit) _ => True) (fun _ _ => aB true) (fun _ _ => []) := by
 have hD := vlDrawPlay bs
 refine fE Tryz.func7 Tryz.ntmps7 Tryz.results7 ?_
 repeat' (first
  | refine stp ?_
  | (apply K.g0; apply K.callF; refine ceq (F := hD) (G := fun x q hx => ?_))
  | (refine WC.cond rfl ?_ ?_ <;> intro hb <;> (try have hb' := nrm hb) <;> try (exfalso; omega)))
 ·exact retE.r ⟨(), 0, trivial, rehw1 (look [])⟩
 obtain ⟨limit, l⟩ := x
 dsimp only at hx ⊢
 have hI := vmWorldPlay limit l (fun e he => (hx.2 e he).i) (by omega)
 have hS := vlWorldPlay limit l (fun e he => (hx.2 e he).sz) (by omega)
 cases hR : playR limit l with
 | none =>
   rw [hR] at hI hS
   unfold newR at hI hS
   have hW := vlSameWorld wdZero wdZero_sz
   repeat' (first
    | refine stp ?_
    | (apply K.g0; apply K.callF; first | refine cq (F := hI) (G := ?_) | refine cq (F := hS) (G := ?_))
    | (apply K.g1; apply K.callF; refine cqt (F := hW) (G := ?_))
    | fail)
   all_goals exact retE.r ⟨(), 0, trivial, rehw1 (look [])⟩
 | some W =>
   rw [hR] at hI hS
   unfold newR at hI hS
   have hok := play_ok hR
   have hW := vlSameWorld W hok.sz
   have e1 := hok.sends; have e2 := hok.recvs; have e3 := hok.got
   have hst := hok.streams
   clear hok hR hx
   repeat' (first
    | refine stp ?_
    | (apply K.g0; apply K.callF; first | refine cq (F := hI) (G := ?_) | refine cq (F := hS) (G := ?_))
    | (apply K.g1; apply K.callF; refine cqt (F := hW) (G := ?_))
    | fail)
   clear hI hS hW hD
   refine WC.loop (fun k s => ∃ i : Nat, k + i = W.recvs.length ∧ s = ⟨⟨105, []⟩, [(5, .ptr 5 0), (9, aI (i : Nat))], [(5, .blk (av (eWd W)))]⟩) W.recvs.length ⟨0, rfl, rfl⟩ (imp (look [(5, 5)])) ?_
   rintro k s ⟨i, hk, rfl⟩
   by_cases hi : i < 3
   ·have hs := hst i hi
    repeat' (first
     | refine stp ?_
     | fail)
    refine WC.loop (fun k s => ∃ j : Nat, k + j = (W.recvs.getD i default).pieces.length ∧ s = ⟨⟨105, []⟩, [(5, .ptr 5 0), (9, aI (i : Nat)), (10, aI (j : Nat))], [(5, .blk (av (eWd W)))]⟩) (W.recvs.getD i default).pieces.length ⟨0, rfl, rfl⟩ (imp (look [(5, 5)])) ?_
    rintro k' s ⟨j, hk', rfl⟩
    have h6 := hs.rv.few
    by_cases hj : j < (W.recvs.getD i default).pieces.length
    ·obtain ⟨h1, h2, h3⟩ := st_piece hs (getD_mem' hj)
     have hp := vlIsPrefix ((W.recvs.getD i default).pieces.getD j default).data ((W.sends.getD i default).data.drop ((W.recvs.getD i default).pieces.getD j default).off.toNat)
     rw [h3] at hp
     repeat' (first
      | refine stp ?_
      | (apply K.g1; apply K.callF; refine cqt (F := hp) (G := ?_))
      | (refine DR.gS rfl rfl rfl ?_ ?_ <;> intro hb <;> (try have hb' := nrm hb) <;> try (exfalso; omega))
      | (apply K.rg 15; refine wdr [0, 1, 0, 4, 0, 28, 60, 124, 252, 511, 1023, 2047, 4095, 2047, 10239, 2047, 59391, 124927, 255999, 2047, 526335, 2091007, 4194303, 8388607, 16777215] 22 [80, 81, 82, 83, 84, 85, 86, 87, 88, 89, 90, 91, 92, 93, 94, 95, 96, 97, 98, 99, 100, 101] [] ?_)
      | refine dcl ?_)
     exact loopQ.n (k' - 1) _ (by omega) ⟨j + 1, by omega, rfl⟩ (imp (look [(5, 5)]))
    ·repeat' (first
      | refine stp ?_
      | fail)
     exact loopQ.n (k - 1) _ (by omega) ⟨i + 1, by omega, rfl⟩ (imp (look [(5, 5)]))
   ·repeat' (first
     | refine stp ?_
     | fail)
    exact retE.r ⟨(), 0, trivial, rehw1 (look [])⟩
theorem cFnWorldWaiting (A : Option Addr) (n c : Nat) (bs : List UInt8) (w : World) (hb : Byts w w.heap.size A n c bs) (h0 : A = none → c = 0) : Calls Tryz.prog 7 #[.slice A n c] w fun e w' => e = .returned (.bool true) ∧ Below w.heap.size w w' := (wFnWorldWaiting bs).law hb h0
end Go.Proofs.YtjbhiglaginpeaaGreat
namespace Go.Proofs.YtjbhiglaginpeaaGreat.fnWorldWaiting
open Go.ChangeShapes Go.WideShapes Go.ChangeAt Go.RowKit
open Go.ChangeMaps (open_string shut_string)
set_option linter.unusedVariables false
theorem lifted (os : Os) (started : os.Started) (H : Type) (enc : TypeId × Value → H) :
 ReturnsInHanded {} Tryz.checked os 7 .any (Rows.fnWorldWaitingSpec.pre6 enc Tryz.prog Tryz.f7 Rows.fnWorldWaitingRow.domain false) (Rows.fnWorldWaitingSpec.post enc Tryz.prog Tryz.f7 false true false false) := by
 refine returnsInHanded_of_change (C := Tryz.checked) own started (by kernel_rfl) Tryz.func7
  (ChangeSpec.witness6 (enc := enc) (C := Tryz.checked) false ⟨#[], #[.slice none 0 0], []⟩ 8 (by kernel_rfl) (by kernel_rfl) (by kernel_rfl) (by kernel_rfl)) ?_
 intro W base args ds gs before hval0 hW hcnd _
 have hval : ∀ (j : Nat) t v, Tryz.f7.params[j]? = some t → args[j]? = some v → Value.okWide Tryz.prog W .any base t v := hval0
 have hW' := hW
 obtain ⟨p, q, hA0, hV, rfl, hfz, hnd⟩ := hW
 have hA : DataW.TrodAll enc Tryz.prog W 0 (fun _ => true) true Tryz.f7.params.toList args.toList ds p := hA0
 rw [Tryz.params7] at hA hval
 obtain ⟨v0, vs0, d0, ds0, p0, q0, hargs, rfl, rfl, h0, r0⟩ := trodAll_cons hA
 obtain ⟨rfl, rfl, rfl⟩ := trodAll_nil r0
 obtain rfl : args = #[v0] := by cases args; simp_all
 obtain ⟨rfl, rfl⟩ := trodVars_none hV
 obtain ⟨a0, len0, cap0, rfl⟩ := okWide_slice Tryz.underlying22 (hval 0 22 v0 rfl rfl)
 have lt0 : ∀ x ∈ p0, x.block < W.heap.size := by obtain ⟨m, hm⟩ := h0; exact DataW.trod_lt m _ _ _ hm
 have n0 := open_nil Tryz.underlying22 Tryz.underlying5 (by kernel_rfl) h0
 obtain ⟨z0, w0⟩ := open_Byts Tryz.underlying22 Tryz.underlying5 (by kernel_rfl) h0
 clear hA0 hval0
 refine (cFnWorldWaiting a0 len0 cap0 z0 W w0 n0).mono fun e W' ⟨he, bel⟩ => ?_
 subst he
 exact ⟨_, rfl, _, _, _, [], _, [], hW', trodAll_mk1 (shut_bool Tryz.underlying4 _), (trodAll_cons_mk (Below.trod laidOut (by kernel_rfl) (of_decide_eq_true (by kernel_rfl)) h0 bel lt0) trodAll_mk0), rfl, bel.frame _, fun h => by cases h⟩
theorem closed : joinedFacts Tryz.prog 7 Tryz.f7 Rows.fnWorldWaitingSpec Rows.fnWorldWaitingRow = true := by
 unfold joinedFacts
 repeat' (with_reducible refine and_both ?_ ?_)
 all_goals first | (with_reducible exact words_open) | (rw [words_lifts]; rfl) | (rw [words_make]; rfl) | (as_aux_lemma => kernel_rfl)
theorem over : Rows.fnWorldWaitingRow.holds Tryz.pinned (OpenSpec.ofChange Rows.fnWorldWaitingSpec) :=
 OpenClaim.holds_of_wide 7 Tryz.f7 rfl rfl rfl rfl rfl rfl rfl ⟨rfl, rfl, rfl, rfl, rfl⟩ rfl rfl rfl rfl rfl (by kernel_rfl) Tryz.func7 closed
  (of_decide_eq_true (by kernel_rfl)) (by unfold Func.isWrapper; first | (rw [if_pos (by decide +kernel)]; kernel_rfl) | (rw [if_neg (by decide +kernel)]; exact ⟨rfl, rfl⟩))
  (fun os started H enc _ => lifted os started H enc)
theorem proved : Rows.FnWorldWaitingSaid := over
#print axioms proved
end Go.Proofs.YtjbhiglaginpeaaGreat.fnWorldWaiting
