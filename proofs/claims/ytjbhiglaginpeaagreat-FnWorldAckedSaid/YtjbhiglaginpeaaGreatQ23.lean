/- Parts of the proof, joined from several texts. No condition. -/
import Derived.Test.YtjbhiglaginpeaaGreatQ19
import Derived.Test.YtjbhiglaginpeaaGreatQ9
set_option maxRecDepth 100000
set_option maxHeartbeats 16000000
set_option linter.unusedVariables false
set_option linter.unusedSimpArgs false
namespace Go.Proofs.YtjbhiglaginpeaaGreat
open Go.RowKit
theorem ls_no1 {l : Ls} (h : inB l.next 0 1000 = false ∨ inB l.largest (-1) (l.next - 1) = false ∨ (l.flight.length : Int) > 12) : lsValid l = false := by
 unfold lsValid
 rcases h with h | h | h
 ·rw [h]; simp
 ·rw [h]; simp
 ·rw [decide_eq_false (p := l.flight.length ≤ 12) (by omega)]; simp
theorem ls_no2 {l : Ls} {i : Nat} (hi : i < l.flight.length) (h : pkAt l i = false) : lsValid l = false := by
 unfold lsValid
 rw [show pkTo l l.flight.length = false from List.all_eq_false.2 ⟨i, List.mem_range.2 hi, by rw [h]; exact Bool.false_ne_true⟩]; simp
theorem pkTo_succ {l : Ls} {i : Nat} : pkTo l (i + 1) = (pkTo l i && pkAt l i) := by simp [pkTo, List.range_succ]
theorem pk_no {l : Ls} {i : Nat} (h : inB (l.flight.getD i default).num 0 (l.next - 1) = false ∨ (l.flight.getD i default).num = l.largest ∨ inB (l.flight.getD i default).time 0 999 = false ∨ inB (l.flight.getD i default).size 1 99 = false ∨ (0 < i ∧ ((l.flight.getD i default).num ≤ (l.flight.getD ((i : Int) - 1).toNat default).num ∨ (l.flight.getD i default).time < (l.flight.getD ((i : Int) - 1).toNat default).time))) : pkAt l i = false := by
 unfold pkAt
 simp only
 rw [show ((i : Int) - 1).toNat = i - 1 by omega] at h
 rcases h with h | h | h | h | ⟨h0, h | h⟩
 ·rw [h]; simp
 ·rw [decide_eq_false (show ¬ (l.flight.getD i default).num ≠ l.largest by simpa using h)]; simp
 ·rw [h]; simp
 ·rw [h]; simp
 ·rw [decide_eq_false (show ¬ i = 0 by omega), decide_eq_false (show ¬ (l.flight.getD (i - 1) default).num < (l.flight.getD i default).num by omega)]; simp
 ·rw [decide_eq_false (show ¬ i = 0 by omega), decide_eq_false (show ¬ (l.flight.getD (i - 1) default).time ≤ (l.flight.getD i default).time by omega)]; simp
theorem pk_yes {l : Ls} {i : Nat} (h1 : inB (l.flight.getD i default).num 0 (l.next - 1) = true) (h2 : ¬ (l.flight.getD i default).num = l.largest) (h3 : inB (l.flight.getD i default).time 0 999 = true) (h4 : inB (l.flight.getD i default).size 1 99 = true) (h5 : i = 0 ∨ (¬ (l.flight.getD i default).num ≤ (l.flight.getD ((i : Int) - 1).toNat default).num ∧ ¬ (l.flight.getD i default).time < (l.flight.getD ((i : Int) - 1).toNat default).time)) : pkAt l i = true := by
 unfold pkAt
 simp only
 rw [show ((i : Int) - 1).toNat = i - 1 by omega] at h5
 rw [h1, h3, h4, decide_eq_true (show (l.flight.getD i default).num ≠ l.largest from h2)]
 rcases h5 with h5 | ⟨h5, h6⟩
 ·rw [decide_eq_true h5]; rfl
 ·rw [decide_eq_true (show (l.flight.getD (i - 1) default).num < (l.flight.getD i default).num by omega), decide_eq_true (show (l.flight.getD (i - 1) default).time ≤ (l.flight.getD i default).time by omega)]; simp
theorem vmLossValid (l : Ls) (h : l.flight.length ≤ 10000000) : FnP Tryz.prog 128 [.ag (av (eLs l))] (aB (lsValid l)) := by
 have hN : inB l.next 0 1000 = true → 0 ≤ l.next ∧ l.next ≤ 1000 := inB_iff.1
 refine fP Tryz.func128 Tryz.ntmps128 Tryz.results128 ?_
 by_cases h0 : 0 ≤ l.next ∧ l.next ≤ 1000
 ·skip
  repeat' (first
   | refine stp ?_
   | (apply K.g0; apply K.callF; refine cq (F := vmWithin _ _ _) (G := ?_))
   | (apply K.g1; apply K.callF; refine cqt (F := vmWithin _ _ _) (G := ?_))
   | (refine R.gS rfl rfl rfl ?_ ?_ <;> intro hb <;> (try have hb' := nrm hb) <;> try (exfalso; omega))
   | (refine WC.cond rfl ?_ ?_ <;> intro hb <;> (try have hb' := nrm hb) <;> try (exfalso; omega)))
  all_goals first
   | (rw [ls_no1 (by first | exact .inl (by assumption) | exact .inr (.inl (by assumption)) | exact .inr (.inr (by assumption)))]; (exact ret1))
   | skip
  refine WC.loop (fun k s => ∃ i : Nat, k + i = l.flight.length ∧ pkTo l i = true ∧ s = ⟨⟨85, []⟩, [(1, .ptr 1 0), (25, .d (dL 3 ePk l.flight)), (26, aI l.flight.length), (27, aI (i : Nat))], [(1, .blk (av (eLs l)))]⟩) l.flight.length ⟨0, rfl, rfl, rfl⟩ (imp (look [(1, 1)])) ?_
  rintro k s ⟨i, hk, ht, rfl⟩
  repeat' (first
   | refine stp ?_
   | (apply K.g0; apply K.callF; refine cq (F := vmWithin _ _ _) (G := ?_))
   | (apply K.g1; apply K.callF; refine cqt (F := vmWithin _ _ _) (G := ?_))
   | (refine R.gS rfl rfl rfl ?_ ?_ <;> intro hb <;> (try have hb' := nrm hb) <;> try (exfalso; omega))
   | (refine DR.gS rfl rfl rfl ?_ ?_ <;> intro hb <;> (try have hb' := nrm hb) <;> try (exfalso; omega))
   | (refine WC.cond rfl ?_ ?_ <;> intro hb <;> (try have hb' := nrm hb) <;> try (exfalso; omega))
   | (apply K.rg 8; refine wdr [0, 1, 3, 7, 15, 7, 39, 7, 135, 487, 999, 2023, 4095, 8191, 16383, 32767, 16383, 81919, 16383, 278527, 999423, 2047999, 4145151, 8388607, 16777215, 33554431] 23 [58, 59, 60, 61, 62, 63, 64, 65, 66, 67, 68, 69, 70, 71, 72, 73, 74, 75, 76, 77, 78, 79, 80] [] ?_)
   | refine dcl ?_)
  all_goals first
   | (obtain rfl : i = l.flight.length := (by omega)
      rw [show lsValid l = true from by unfold lsValid; rw [ht, show inB l.next 0 1000 = true by assumption, show inB l.largest (-1) (l.next - 1) = true by assumption, decide_eq_true (show l.flight.length ≤ 12 by omega)]; rfl]; (exact ret1))
   | (rw [ls_no2 (i := i) (by omega) (pk_no (by first | exact .inl (by assumption) | exact .inr (.inl (by assumption)) | exact .inr (.inr (.inl (by assumption))) | exact .inr (.inr (.inr (.inl (by assumption)))) | exact .inr (.inr (.inr (.inr ⟨by omega, .inl (by assumption)⟩))) | exact .inr (.inr (.inr (.inr ⟨by omega, .inr (by assumption)⟩)))))]; (exact ret1))
   | (refine loopQ.n (k - 1) _ (by omega) ⟨i + 1, by omega, by rw [pkTo_succ, ht, pk_yes (by assumption) (by assumption) (by assumption) (by assumption) (by first | exact .inl (by omega) | exact .inr ⟨by assumption, by assumption⟩)]; rfl, rfl⟩ (imp (look [(1, 1)])); done)
 ·have hf : inB l.next 0 1000 = false := by rw [Bool.eq_false_iff]; exact fun e => h0 (hN e)
  have hW := vmWithin l.next 0 1000
  rw [hf] at hW
  repeat' (first
   | refine stp ?_
   | (apply K.g0; apply K.callF; refine cq (F := hW) (G := ?_))
   | fail)
  rw [ls_no1 (.inl hf)]; (exact ret1)
theorem wnTo_no {l : List Wn} {i : Nat} (hi : i < l.length) (h : wnOk (l.getD i default) = false) : wnsValid l = false := by
 unfold wnsValid
 rw [show l.all wnOk = false from List.all_eq_false.2 ⟨_, getD_mem' hi, by rw [h]; exact Bool.false_ne_true⟩]; rfl
theorem wn_no {x : Wn} (h : inB x.size 1 64 = false ∨ inB x.thr 1 64 = false ∨ inB x.credit 0 999 = false ∨ inB x.rtt 1 99 = false) : wnOk x = false := by
 unfold wnOk
 rcases h with h | h | h | h <;> rw [h] <;> simp
theorem wn_yes {x : Wn} (h1 : inB x.size 1 64 = true) (h2 : inB x.thr 1 64 = true) (h3 : inB x.credit 0 999 = true) (h4 : inB x.rtt 1 99 = true) : wnOk x = true := by
 unfold wnOk; rw [h1, h2, h3, h4]; rfl
theorem vmWindowsValid (l : List Wn) (h : l.length ≤ 10000000) : FnP Tryz.prog 78 [.d (dL 4 eWn l)] (aB (wnsValid l)) := by
 refine fP Tryz.func78 Tryz.ntmps78 Tryz.results78 ?_
 repeat' (first
  | refine stp ?_
  | fail)
 refine WC.loop (fun k s => ∃ i : Nat, k + i = l.length ∧ (l.take i).all wnOk = true ∧ s = ⟨⟨37, []⟩, [(0, .d (dL 4 eWn l)), (5, .d (dL 4 eWn l)), (6, aI l.length), (7, aI (i : Nat))], []⟩) l.length ⟨0, rfl, rfl, rfl⟩ (imp (look [])) ?_
 rintro k s ⟨i, hk, ht, rfl⟩
 repeat' (first
  | refine stp ?_
  | (apply K.g0; apply K.callF; refine cq (F := vmWithin _ _ _) (G := ?_))
  | (apply K.g1; apply K.callF; refine cqt (F := vmWithin _ _ _) (G := ?_))
  | (refine R.gS rfl rfl rfl ?_ ?_ <;> intro hb <;> (try have hb' := nrm hb) <;> try (exfalso; omega))
  | (refine WC.cond rfl ?_ ?_ <;> intro hb <;> (try have hb' := nrm hb) <;> try (exfalso; omega)))
 all_goals first
  | (obtain rfl : i = l.length := (by omega)
     rw [List.take_of_length_le (Nat.le_refl _)] at ht
     rw [show wnsValid l = inB (l.length : Int) 1 4 from by unfold wnsValid; rw [ht]; rfl]; (exact ret1))
  | (rw [wnTo_no (i := i) (by omega) (wn_no (by first | exact .inl (by assumption) | exact .inr (.inl (by assumption)) | exact .inr (.inr (.inl (by assumption))) | exact .inr (.inr (.inr (by assumption)))))]; (exact ret1))
  | (refine loopQ.n (k - 1) _ (by omega) ⟨i + 1, by omega, by rw [take_snoc (by omega), List.all_append, ht, List.all_cons, List.all_nil, wn_yes (by assumption) (by assumption) (by assumption) (by assumption)]; rfl, rfl⟩ (imp (look [])); done)
theorem vmRttValid (r : Rt) : FnP Tryz.prog 129 [.ag (av (eRt r))] (aB (rtValid r)) := by
 refine fP Tryz.func129 Tryz.ntmps129 Tryz.results129 ?_
 repeat' (first
  | (apply K.g0; apply K.binOp; refine R.op rfl (OT.cmpG rfl rfl rfl rfl rfl (eq_rt r rtZero)) rfl ?_)
  | refine stp ?_
  | (apply K.g0; apply K.callF; refine cq (F := vmWithin _ _ _) (G := ?_))
  | (apply K.g1; apply K.callF; refine cqt (F := vmWithin _ _ _) (G := ?_))
  | (refine R.gS rfl rfl rfl ?_ ?_ <;> intro hb <;> (try have hb' := nrm hb) <;> try (exfalso; omega))
  | (refine WC.cond rfl ?_ ?_ <;> intro hb <;> (try have hb' := nrm hb) <;> try (exfalso; omega)))
 all_goals first
  | (rw [show rtValid r = true from by unfold rtValid; rw [decide_eq_true (show r = rtZero by assumption)]; rfl]; (exact ret1))
  | (rw [show rtValid r = inB r.vary 0 3999 from by unfold rtValid; simp [*]]; (exact ret1))
  | (rw [show rtValid r = false from by unfold rtValid; simp [*]]; (exact ret1))
end Go.Proofs.YtjbhiglaginpeaaGreat
