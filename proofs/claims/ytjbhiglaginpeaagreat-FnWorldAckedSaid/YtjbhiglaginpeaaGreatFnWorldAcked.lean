/- The law FnWorldAcked holds for every input: the call returns true and leaves all memory that was there as it was. No condition. -/
import Derived.Test.YtjbhiglaginpeaaGreatQ52
import Derived.Test.YtjbhiglaginpeaaGreatQ10
set_option maxRecDepth 100000
set_option maxHeartbeats 16000000
set_option linter.unusedVariables false
set_option linter.unusedSimpArgs false
namespace Go.Proofs.YtjbhiglaginpeaaGreat
open Go.RowKit
theorem wFnWorldAcked (bs : List UInt8) : FnE Tryz.prog 8 [] [.d (dL 1 eBy bs)] [] (fun (_ : Unit) _ => True) (fun _ _ => aB true) (fun _ _ => []) := by
 have hD := vlDrawPlay bs
 refine fE Tryz.func8 Tryz.ntmps8 Tryz.results8 ?_
 repeat' (first
  | refine stp ?_
  | (apply K.g0; apply K.callF; refine ceq (F := hD) (G := fun x q hx => ?_))
  | (refine WC.cond rfl ?_ ?_ <;> intro hb <;> (try have hb' := nrm hb) <;> try (exfalso; omega)))
 ·exact retE.r ⟨(), 0, trivial, rehw1 (look [])⟩
 obtain ⟨limit, l⟩ := x
 dsimp only at hx ⊢
 have hI := vmWorldPlay limit l (fun e he => (hx.2 e he).i) (by omega)
 have hS := vlWorldPlay limit l (fun e he => (hx.2 e he).sz) (by omega)
 cases hR : playR limit l with
 | none =>
   rw [hR] at hI hS
   unfold newR at hI hS
   have hW := vlSameWorld wdZero wdZero_sz
   repeat' (first
    | refine stp ?_
    | (apply K.g0; apply K.callF; first | refine cq (F := hI) (G := ?_) | refine cq (F := hS) (G := ?_))
    | (apply K.g1; apply K.callF; refine cqt (F := hW) (G := ?_))
    | fail)
   all_goals exact retE.r ⟨(), 0, trivial, rehw1 (look [])⟩
 | some W =>
   rw [hR] at hI hS
   unfold newR at hI hS
   have hok := play_ok hR
   have hW := vlSameWorld W hok.sz
   have e1 := hok.sends; have e2 := hok.recvs; have e3 := hok.got
   have hst := hok.streams
   clear hok hR hx
   repeat' (first
    | refine stp ?_
    | (apply K.g0; apply K.callF; first | refine cq (F := hI) (G := ?_) | refine cq (F := hS) (G := ?_))
    | (apply K.g1; apply K.callF; refine cqt (F := hW) (G := ?_))
    | fail)
   clear hI hS hW hD
   refine WC.loop (fun k s => ∃ i : Nat, k + i = W.sends.length ∧ s = ⟨⟨119, []⟩, [(5, .ptr 5 0), (9, aI (i : Nat))], [(5, .blk (av (eWd W)))]⟩) W.sends.length ⟨0, rfl, rfl⟩ (imp (look [(5, 5)])) ?_
   rintro k s ⟨i, hk, rfl⟩
   by_cases hi : i < 3
   ·have hs := hst i hi
    have h6 := hs.sd.len; have h7 := hs.sd.few
    unfold bl at h6
    repeat' (first
     | refine stp ?_
     | fail)
    refine WC.loop (fun k s => ∃ j : Nat, k + j = (W.sends.getD i default).data.length + 1 ∧ s = ⟨⟨119, []⟩, [(5, .ptr 5 0), (9, aI (i : Nat)), (10, aI (j : Nat))], [(5, .blk (av (eWd W)))]⟩) ((W.sends.getD i default).data.length + 1) ⟨0, rfl, rfl⟩ (imp (look [(5, 5)])) ?_
    rintro k' s ⟨j, hk', rfl⟩
    by_cases hj : j ≤ (W.sends.getD i default).data.length
    ·have hH := vmRangesHas (W.sends.getD i default).acked j (by omega) hs.sd.acked.1
     have hV := vlRecvHas (W.recvs.getD i default) j hs.rv
     cases hh : hasR (W.sends.getD i default).acked j
     ·rw [hh] at hH
      repeat' (first
       | refine stp ?_
       | (apply K.g0; apply K.callF; refine cq (F := hH) (G := ?_))
       | fail)
      exact loopQ.n (k' - 1) _ (by omega) ⟨j + 1, by omega, rfl⟩ (imp (look [(5, 5)]))
     ·rw [hh] at hH
      obtain ⟨a1, a2⟩ := st_acked2 hs hh
      unfold bl at a1 a2
      by_cases hl : (j : Int) = (W.sends.getD i default).data.length
      ·have a3 := a1 hl
       repeat' (first
        | refine stp ?_
        | (apply K.g0; apply K.callF; refine cq (F := hH) (G := ?_))
        | (refine R.gS rfl rfl rfl ?_ ?_ <;> intro hb <;> (try have hb' := nrm hb) <;> try (exfalso; omega))
        | fail)
       exact loopQ.n (k' - 1) _ (by omega) ⟨j + 1, by omega, rfl⟩ (imp (look [(5, 5)]))
      ·rw [a2 hl] at hV
       repeat' (first
        | refine stp ?_
        | (apply K.g0; apply K.callF; refine cq (F := hH) (G := ?_))
        | (apply K.g1; apply K.callF; refine cqt (F := hV) (G := ?_))
        | (refine R.gS rfl rfl rfl ?_ ?_ <;> intro hb <;> (try have hb' := nrm hb) <;> try (exfalso; omega))
        | fail)
       exact loopQ.n (k' - 1) _ (by omega) ⟨j + 1, by omega, rfl⟩ (imp (look [(5, 5)]))
    ·repeat' (first
      | refine stp ?_
      | fail)
     exact loopQ.n (k - 1) _ (by omega) ⟨i + 1, by omega, rfl⟩ (imp (look [(5, 5)]))
   ·repeat' (first
     | refine stp ?_
     | fail)
    exact retE.r ⟨(), 0, trivial, rehw1 (look [])⟩
theorem cFnWorldAcked (A : Option Addr) (n c : Nat) (bs : List UInt8) (w : World) (hb : Byts w w.heap.size A n c bs) (h0 : A = none → c = 0) : Calls Tryz.prog 8 #[.slice A n c] w fun e w' => e = .returned (.bool true) ∧ Below w.heap.size w w' := (wFnWorldAcked bs).law hb h0
end Go.Proofs.YtjbhiglaginpeaaGreat
namespace Go.Proofs.YtjbhiglaginpeaaGreat.fnWorldAcked
open Go.ChangeShapes Go.WideShapes Go.ChangeAt Go.RowKit
open Go.ChangeMaps (open_string shut_string)
set_option linter.unusedVariables false
theorem lifted (os : Os) (started : os.Started) (H : Type) (enc : TypeId × Value → H) :
 ReturnsInHanded {} Tryz.checked os 8 .any (Rows.fnWorldAckedSpec.pre6 enc Tryz.prog Tryz.f8 Rows.fnWorldAckedRow.domain false) (Rows.fnWorldAckedSpec.post enc Tryz.prog Tryz.f8 false true false false) := by
 refine returnsInHanded_of_change (C := Tryz.checked) own started (by kernel_rfl) Tryz.func8
  (ChangeSpec.witness6 (enc := enc) (C := Tryz.checked) false ⟨#[], #[.slice none 0 0], []⟩ 8 (by kernel_rfl) (by kernel_rfl) (by kernel_rfl) (by kernel_rfl)) ?_
 intro W base args ds gs before hval0 hW hcnd _
 have hval : ∀ (j : Nat) t v, Tryz.f8.params[j]? = some t → args[j]? = some v → Value.okWide Tryz.prog W .any base t v := hval0
 have hW' := hW
 obtain ⟨p, q, hA0, hV, rfl, hfz, hnd⟩ := hW
 have hA : DataW.TrodAll enc Tryz.prog W 0 (fun _ => true) true Tryz.f8.params.toList args.toList ds p := hA0
 rw [Tryz.params8] at hA hval
 obtain ⟨v0, vs0, d0, ds0, p0, q0, hargs, rfl, rfl, h0, r0⟩ := trodAll_cons hA
 obtain ⟨rfl, rfl, rfl⟩ := trodAll_nil r0
 obtain rfl : args = #[v0] := by cases args; simp_all
 obtain ⟨rfl, rfl⟩ := trodVars_none hV
 obtain ⟨a0, len0, cap0, rfl⟩ := okWide_slice Tryz.underlying22 (hval 0 22 v0 rfl rfl)
 have lt0 : ∀ x ∈ p0, x.block < W.heap.size := by obtain ⟨m, hm⟩ := h0; exact DataW.trod_lt m _ _ _ hm
 have n0 := open_nil Tryz.underlying22 Tryz.underlying5 (by kernel_rfl) h0
 obtain ⟨z0, w0⟩ := open_Byts Tryz.underlying22 Tryz.underlying5 (by kernel_rfl) h0
 clear hA0 hval0
 refine (cFnWorldAcked a0 len0 cap0 z0 W w0 n0).mono fun e W' ⟨he, bel⟩ => ?_
 subst he
 exact ⟨_, rfl, _, _, _, [], _, [], hW', trodAll_mk1 (shut_bool Tryz.underlying4 _), (trodAll_cons_mk (Below.trod laidOut (by kernel_rfl) (of_decide_eq_true (by kernel_rfl)) h0 bel lt0) trodAll_mk0), rfl, bel.frame _, fun h => by cases h⟩
theorem closed : joinedFacts Tryz.prog 8 Tryz.f8 Rows.fnWorldAckedSpec Rows.fnWorldAckedRow = true := by
 unfold joinedFacts
 repeat' (with_reducible refine and_both ?_ ?_)
 all_goals first | (with_reducible exact words_open) | (rw [words_lifts]; rfl) | (rw [words_make]; rfl) | (as_aux_lemma => kernel_rfl)
theorem over : Rows.fnWorldAckedRow.holds Tryz.pinned (OpenSpec.ofChange Rows.fnWorldAckedSpec) :=
 OpenClaim.holds_of_wide 8 Tryz.f8 rfl rfl rfl rfl rfl rfl rfl ⟨rfl, rfl, rfl, rfl, rfl⟩ rfl rfl rfl rfl rfl (by kernel_rfl) Tryz.func8 closed
  (of_decide_eq_true (by kernel_rfl)) (by unfold Func.isWrapper; first | (rw [if_pos (by decide +kernel)]; kernel_rfl) | (rw [if_neg (by decide +kernel)]; exact ⟨rfl, rfl⟩))
  (fun os started H enc _ => lifted os started H enc)
theorem proved : Rows.FnWorldAckedSaid := over
#print axioms proved
end Go.Proofs.YtjbhiglaginpeaaGreat.fnWorldAcked
