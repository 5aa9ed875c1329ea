/- Parts of the proof, joined from several texts. No condition. -/
import Derived.Test.YtjbhiglaginpeaaGreatQ14
set_option maxRecDepth 100000
set_option maxHeartbeats 16000000
set_option linter.unusedVariables false
set_option linter.unusedSimpArgs false
namespace Go.Proofs.YtjbhiglaginpeaaGreat
open Go.RowKit
def numK (k : Int) : Int := if k = 0 ∨ k = 1 ∨ k = 9 then 0 else if k = 3 then 3 else if k = 4 ∨ k = 7 then 2 else 1
def sFields (f : Fm) : Bool :=
 if f.kind = 2 then inB f.a 0 3 && (!f.ranges.isEmpty && rgValid f.ranges)
 else if f.kind = 3 then inB f.a 0 2 && (inB f.b 0 30 && (inB f.c 0 1 && decide (f.b + bl f.data ≤ 30)))
 else if f.kind = 4 then inB f.a 0 2 && inB f.b 0 30
 else if f.kind = 5 ∨ f.kind = 6 then inB f.a 0 9999
 else if f.kind = 7 then inB f.a 0 15 && inB f.b 0 9999
 else if f.kind = 8 then inB f.a 0 15
 else if f.kind = 10 then inB f.a 0 99
 else inB f.kind 0 10
def sFmB (f : Fm) : Bool :=
 !((decide (numK f.kind < 3) && decide (f.c ≠ 0)) || ((decide (numK f.kind < 2) && decide (f.b ≠ 0)) || (decide (numK f.kind < 1) && decide (f.a ≠ 0)))) &&
 (!((decide (f.kind ≠ 2) && !f.ranges.isEmpty) || ((decide (f.kind ≠ 3) && decide (f.kind ≠ 9)) && !f.data.isEmpty)) && (sFields f && decide (f.data.length ≤ 12)))
theorem sFm_eq (f : Fm) : sFmB f = fmValid f := by
 obtain ⟨k, a, b, c, d, l⟩ := f
 have hd : bl d = (d.length : Int) := rfl
 by_cases h0 : k = 0
 ·subst h0; rw [Bool.eq_iff_iff]; cases d <;> cases l <;> simp [sFmB, fmValid, fieldsOk, sFields, numK, inB, bl] <;> omega
 by_cases h1 : k = 1
 ·subst h1; rw [Bool.eq_iff_iff]; cases d <;> cases l <;> simp [sFmB, fmValid, fieldsOk, sFields, numK, inB, bl] <;> omega
 by_cases h9 : k = 9
 ·subst h9; rw [Bool.eq_iff_iff]; cases d <;> cases l <;> simp [sFmB, fmValid, fieldsOk, sFields, numK, inB, bl] <;> omega
 by_cases h2 : k = 2
 ·subst h2; rw [Bool.eq_iff_iff]; cases d <;> cases l <;> simp [sFmB, fmValid, fieldsOk, sFields, numK, inB, bl]
  constructor
  ·rintro ⟨⟨h1, h2⟩, ⟨h3, h4⟩, h5⟩; exact ⟨⟨⟨h3, h4⟩, ⟨by omega, by omega⟩, by omega, by omega⟩, h5⟩
  ·rintro ⟨⟨⟨h3, h4⟩, ⟨h6, h7⟩, h8, h9⟩, h5⟩; exact ⟨⟨by omega, by omega⟩, ⟨h3, h4⟩, h5⟩
 by_cases h3 : k = 3
 ·subst h3; rw [Bool.eq_iff_iff]
  have hl : ((d.length : Int) ≤ 12) ↔ d.length ≤ 12 := by omega
  cases d <;> cases l <;> simp [sFmB, fmValid, fieldsOk, sFields, numK, inB]
  ·simp [bl]; omega
  ·simp only [List.length_cons] at hd
   push_cast at hd
   omega
 by_cases h4 : k = 4
 ·subst h4; rw [Bool.eq_iff_iff]; cases d <;> cases l <;> simp [sFmB, fmValid, fieldsOk, sFields, numK, inB, bl] <;> omega
 by_cases h5 : k = 5
 ·subst h5; rw [Bool.eq_iff_iff]; cases d <;> cases l <;> simp [sFmB, fmValid, fieldsOk, sFields, numK, inB, bl] <;> omega
 by_cases h6 : k = 6
 ·subst h6; rw [Bool.eq_iff_iff]; cases d <;> cases l <;> simp [sFmB, fmValid, fieldsOk, sFields, numK, inB, bl] <;> omega
 by_cases h7 : k = 7
 ·subst h7; rw [Bool.eq_iff_iff]; cases d <;> cases l <;> simp [sFmB, fmValid, fieldsOk, sFields, numK, inB, bl] <;> omega
 by_cases h8 : k = 8
 ·subst h8; rw [Bool.eq_iff_iff]; cases d <;> cases l <;> simp [sFmB, fmValid, fieldsOk, sFields, numK, inB, bl] <;> omega
 by_cases h10 : k = 10
 ·subst h10; rw [Bool.eq_iff_iff]; cases d <;> cases l <;> simp [sFmB, fmValid, fieldsOk, sFields, numK, inB, bl] <;> omega
 ·have hk : inB k 0 10 = false := by rw [Bool.eq_false_iff]; intro h; have := inB_iff.1 h; omega
  simp [sFmB, fmValid, sFields, h0, h1, h2, h3, h4, h5, h6, h7, h8, h9, h10, hk]
theorem vl4Numbers (k : Int) : FnP Tryz.prog 119 [aI k] (aI (numK k)) := by
 refine fP Tryz.func119 Tryz.ntmps119 Tryz.results119 ?_
 repeat' (first
  | refine stp ?_
  | (refine WC.cond rfl ?_ ?_ <;> intro hb <;> (try have hb' := nrm hb) <;> try (exfalso; omega)))
 all_goals first
  | (rw [show numK k = 0 from if_pos (by omega)]; (exact ret1))
  | (rw [show numK k = 3 from (if_neg (by omega)).trans (if_pos (by omega))]; (exact ret1))
  | (rw [show numK k = 2 from (if_neg (by omega)).trans ((if_neg (by omega)).trans (if_pos (by omega)))]; (exact ret1))
  | (rw [show numK k = 1 from (if_neg (by omega)).trans ((if_neg (by omega)).trans (if_neg (by omega)))]; (exact ret1))
theorem ne_emp {α : Type} (l : List α) : (!l.isEmpty) = decide ((l.length : Int) > 0) := by cases l <;> simp
theorem vl4Fields (f : Fm) (hd : f.data.length ≤ 1000000000) (hr : f.ranges.length ≤ 10000000) : FnP Tryz.prog 120 [.ag (av (eFm f))] (aB (sFields f)) := by
 refine fP Tryz.func120 Tryz.ntmps120 Tryz.results120 ?_
 repeat' (first
  | refine stp ?_
  | (apply K.g0; apply K.callF; refine cq (F := vl6In _ _ _) (G := ?_))
  | (apply K.g1; apply K.callF; first | refine cqt (F := vl6In _ _ _) (G := ?_) | refine cqt (F := vlRangesValid _ hr) (G := ?_))
  | (refine R.gS rfl rfl rfl ?_ ?_ <;> intro hb <;> (try have hb' := nrmI hb) <;> try (exfalso; omega))
  | (refine WC.cond rfl ?_ ?_ <;> intro hb <;> (try have hb' := nrmI hb) <;> try (exfalso; omega)))
 all_goals
  refine RetG.mk1 (ResV.tmp rfl) (LeV.sc (congrArg Value.bool ?_))
  simp [sFields, ne_emp, bl, *]
  try first | rfl | omega
theorem vlFrameValid (f : Fm) (hd : f.data.length ≤ 1000000000) (hr : f.ranges.length ≤ 10000000) : FnP Tryz.prog 62 [.ag (av (eFm f))] (aB (fmValid f)) := by
 rw [← sFm_eq]
 refine fP Tryz.func62 Tryz.ntmps62 Tryz.results62 ?_
 repeat' (first
  | refine stp ?_
  | (apply K.g0; apply K.callF; first | refine cq (F := vl4Numbers _) (G := ?_) | refine cq (F := vl4Fields f hd hr) (G := ?_))
  | (refine R.gS rfl rfl rfl ?_ ?_ <;> intro hb <;> (try have hb' := nrm hb) <;> try (exfalso; omega))
  | (refine WC.cond rfl ?_ ?_ <;> intro hb <;> (try have hb' := nrm hb) <;> try (exfalso; omega)))
 all_goals
  refine RetG.mk1 (ResV.tmp rfl) (LeV.sc (congrArg Value.bool ?_))
  simp [sFmB, ne_emp, *]
  try (first | rfl | omega | (intros; simp_all; done) | (intros; simp_all; omega) | (simp_all [numK]; done) | (simp_all [numK]; omega) | (rw [Bool.eq_iff_iff]; simp_all [numK]; omega))
end Go.Proofs.YtjbhiglaginpeaaGreat
