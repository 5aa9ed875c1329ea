/- Parts of the proof, joined from several texts. No condition. -/
import Derived.Test.YtjbhiglaginpeaaGreatQ25
set_option maxRecDepth 100000
set_option maxHeartbeats 16000000
set_option linter.unusedVariables false
set_option linter.unusedSimpArgs false
namespace Go.Proofs.YtjbhiglaginpeaaGreat
open Go.RowKit
theorem last_bd {x : Int} {d : Bs} {f : Bool} (h : -1000 ≤ x ∧ x ≤ 1000) (hd : d.length ≤ 1000) : -3000 ≤ (Pt.mk x d f).last ∧ (Pt.mk x d f).last ≤ 3000 := by
 unfold Pt.last bl
 dsimp only
 split <;> omega
def nextOf (s : Sd) (first last fi : Int) : Option (Sd × Pt) :=
 if (decide (fi = first) && !(decide (last = (s.data.length : Int)) && (decide (fi = (s.data.length : Int)) && decide (first ≤ last)))) = true then none
 else if s.lost.length = 0 then some ({ s with next := (Pt.mk first ((s.data.drop first.toNat).take (fi - first).toNat) (decide (last = (s.data.length : Int)) && (decide (fi = (s.data.length : Int)) && decide (first ≤ last)))).last + 1 }, ⟨first, (s.data.drop first.toNat).take (fi - first).toNat, decide (last = (s.data.length : Int)) && (decide (fi = (s.data.length : Int)) && decide (first ≤ last))⟩)
 else some ({ s with lost := remP s.lost first (Pt.mk first ((s.data.drop first.toNat).take (fi - first).toNat) (decide (last = (s.data.length : Int)) && (decide (fi = (s.data.length : Int)) && decide (first ≤ last)))).last }, ⟨first, (s.data.drop first.toNat).take (fi - first).toNat, decide (last = (s.data.length : Int)) && (decide (fi = (s.data.length : Int)) && decide (first ≤ last))⟩)
theorem next_0 {s : Sd} {size : Int} (h : s.lost.length = 0) : sdNext s size = nextOf s s.next (s.many - 1) (max s.next (min (min (min (s.many - 1 + 1) (s.data.length : Int)) s.limit) (s.next + size))) := by
 unfold sdNext nextOf
 rw [List.length_eq_zero_iff.1 h]
 rfl
theorem next_1 {s : Sd} {size : Int} (h : ¬ s.lost.length = 0) : sdNext s size = nextOf s (s.lost.getD 0 default).lo (s.lost.getD 0 default).hi (max (s.lost.getD 0 default).lo (min (min ((s.lost.getD 0 default).hi + 1) (s.data.length : Int)) ((s.lost.getD 0 default).lo + size))) := by
 unfold sdNext nextOf
 rw [if_neg h]
 cases hl : s.lost with
 | nil => rw [hl] at h; simp at h
 | cons r t => rfl
section
variable {s : Sd} {x y z : Int}
theorem nextOf_none (h : z = x) (h2 : ¬ y = (s.data.length : Int) ∨ ¬ z = (s.data.length : Int) ∨ ¬ x ≤ y) : nextOf s x y z = none := by
 unfold nextOf
 rw [if_pos]
 rw [decide_eq_true h]
 rcases h2 with h2 | h2 | h2 <;> rw [decide_eq_false h2] <;> simp
theorem nextOf_fin0 (h0 : s.lost.length = 0) (h1 : y = (s.data.length : Int)) (h2 : z = (s.data.length : Int)) (h3 : x ≤ y) : nextOf s x y z = some ({ s with next := (Pt.mk x ((s.data.drop x.toNat).take (z - x).toNat) (decide (x ≤ y))).last + 1 }, ⟨x, (s.data.drop x.toNat).take (z - x).toNat, decide (x ≤ y)⟩) := by
 unfold nextOf
 rw [if_neg (by simp [h1, h2]; omega), if_pos h0, decide_eq_true h1, decide_eq_true h2, Bool.true_and, Bool.true_and]
theorem nextOf_fin1 (h0 : ¬ s.lost.length = 0) (h1 : y = (s.data.length : Int)) (h2 : z = (s.data.length : Int)) (h3 : x ≤ y) : nextOf s x y z = some ({ s with lost := remP s.lost x (Pt.mk x ((s.data.drop x.toNat).take (z - x).toNat) (decide (x ≤ y))).last }, ⟨x, (s.data.drop x.toNat).take (z - x).toNat, decide (x ≤ y)⟩) := by
 unfold nextOf
 rw [if_neg (by simp [h1, h2]; omega), if_neg h0, decide_eq_true h1, decide_eq_true h2, Bool.true_and, Bool.true_and]
theorem nextOf_dec0 (h0 : s.lost.length = 0) (h1 : y = (s.data.length : Int)) (h2 : z = (s.data.length : Int)) (h3 : ¬ z = x) : nextOf s x y z = some ({ s with next := (Pt.mk x ((s.data.drop x.toNat).take (z - x).toNat) (decide (x ≤ y))).last + 1 }, ⟨x, (s.data.drop x.toNat).take (z - x).toNat, decide (x ≤ y)⟩) := by
 unfold nextOf
 rw [if_neg (by rw [decide_eq_false h3]; simp), if_pos h0, decide_eq_true h1, decide_eq_true h2, Bool.true_and, Bool.true_and]
theorem nextOf_dec1 (h0 : ¬ s.lost.length = 0) (h1 : y = (s.data.length : Int)) (h2 : z = (s.data.length : Int)) (h3 : ¬ z = x) : nextOf s x y z = some ({ s with lost := remP s.lost x (Pt.mk x ((s.data.drop x.toNat).take (z - x).toNat) (decide (x ≤ y))).last }, ⟨x, (s.data.drop x.toNat).take (z - x).toNat, decide (x ≤ y)⟩) := by
 unfold nextOf
 rw [if_neg (by rw [decide_eq_false h3]; simp), if_neg h0, decide_eq_true h1, decide_eq_true h2, Bool.true_and, Bool.true_and]
theorem nextOf_no0 (h0 : s.lost.length = 0) (h2 : ¬ y = (s.data.length : Int) ∨ ¬ z = (s.data.length : Int)) (h3 : ¬ z = x) : nextOf s x y z = some ({ s with next := (Pt.mk x ((s.data.drop x.toNat).take (z - x).toNat) false).last + 1 }, ⟨x, (s.data.drop x.toNat).take (z - x).toNat, false⟩) := by
 unfold nextOf
 rw [if_neg (by rw [decide_eq_false h3]; simp), if_pos h0]
 rcases h2 with h2 | h2
 ·rw [decide_eq_false h2]; rfl
 ·rw [decide_eq_false h2, Bool.false_and, Bool.and_false]
theorem nextOf_no1 (h0 : ¬ s.lost.length = 0) (h2 : ¬ y = (s.data.length : Int) ∨ ¬ z = (s.data.length : Int)) (h3 : ¬ z = x) : nextOf s x y z = some ({ s with lost := remP s.lost x (Pt.mk x ((s.data.drop x.toNat).take (z - x).toNat) false).last }, ⟨x, (s.data.drop x.toNat).take (z - x).toNat, false⟩) := by
 unfold nextOf
 rw [if_neg (by rw [decide_eq_false h3]; simp), if_neg h0]
 rcases h2 with h2 | h2
 ·rw [decide_eq_false h2]; rfl
 ·rw [decide_eq_false h2, Bool.false_and, Bool.and_false]
end
theorem vmSendNext (s : Sd) (size : Int) (hs : SdOK s) (hz : 1 ≤ size ∧ size ≤ 12) : FnP Tryz.prog 102 [.ag (av (eSd s)), aI size] (nxtR s (sdNext s size)) := by
 obtain ⟨f1, f2⟩ := hs.few
 obtain ⟨⟨b0, b1⟩, b2⟩ := hs.bds
 have b3 := hs.lim
 have hv := vmSendValid s (by omega) (by omega) (by omega)
 rw [sd_ok hs] at hv
 have hw := vmWithin size 1 12
 rw [inB_iff.2 hz] at hw
 have hmany : 0 ≤ s.many ∧ s.many ≤ 31 := by
  have h1 := hs.nxt
  have h2 := many_le hs.len
  omega
 have hL : 0 < s.lost.length → 0 ≤ (s.lost.getD 0 default).lo ∧ (s.lost.getD 0 default).lo ≤ (s.lost.getD 0 default).hi ∧ (s.lost.getD 0 default).hi < s.next := fun h => lost_first hs h
 have hD : ∀ x z : Int, ((s.data.drop x.toNat).take (z - x).toNat).length ≤ 1000 := fun x z => by rw [List.length_take, List.length_drop]; omega
 refine FnP.intro Tryz.func102 rfl (by kernel_rfl) Tryz.ntmps102 Tryz.results102 (Nat.le_of_ble_eq_true rfl) (nxtR_no _ _) ?_
 by_cases h0 : s.lost.length = 0
 ·rw [next_0 h0]
  have hl1 := fun f => last_bd (x := s.next) (f := f) (by omega) (hD s.next (max s.next (min (min (min (s.many - 1 + 1) (s.data.length : Int)) s.limit) (s.next + size))))
  have hl2 := hl1 (decide (s.next ≤ s.many - 1))
  have hl3 := hl1 false
  repeat' (first
   | refine stp ?_
   | (apply K.g0; apply K.callF; first | refine cq (F := hv) (G := ?_) | refine cq (F := vmCopySend s (by omega) (by omega)) (G := ?_) | refine cq (F := vmLast ⟨s.next, _, decide (s.next ≤ s.many - 1)⟩ (by dsimp only; omega) (by dsimp only; rw [List.length_take, List.length_drop]; omega)) (G := ?_) | refine cq (F := vmLast ⟨s.next, _, false⟩ (by dsimp only; omega) (by dsimp only; rw [List.length_take, List.length_drop]; omega)) (G := ?_))
   | (apply K.g1; apply K.callF; refine cqt (F := hw) (G := ?_))
   | (apply KA.g0; apply KA.callF; refine cqa (F := vmPositions s (by omega)) (G := ?_))
   | (refine R.gS rfl rfl rfl ?_ ?_ <;> intro hb <;> (try have hb' := nrm hb) <;> try (exfalso; omega))
   | (refine WC.cond rfl ?_ ?_ <;> intro hb <;> (try have hb' := nrm hb) <;> try (exfalso; omega))
   | (apply K.rg 4; refine wdr [0, 1, 0, 4, 12, 15, 63] 6 [26, 27, 28, 29, 30, 8] [] ?_)
   | (apply K.rg 18; refine WC.drawD (ms := [0, 0, 1, 7, 15]) 3 [115, 116] [(2, [4])] (by kernel_rfl) (by kernel_rfl) ?_)
   | refine dcl ?_)
  all_goals first
   | (rw [nextOf_none (by omega) (by omega)]; (exact ret3))
   | (rw [nextOf_fin0 h0 (by omega) (by omega) (by omega)]; (exact ret3))
   | (rw [nextOf_dec0 h0 (by omega) (by omega) (by omega)]; (exact ret3))
   | (rw [nextOf_no0 h0 (by omega) (by omega)]; (exact ret3))
 ·rw [next_1 h0]
  have hL := hL (by omega)
  have hl1 := fun f => last_bd (x := (s.lost.getD 0 default).lo) (f := f) (by omega) (hD (s.lost.getD 0 default).lo (max (s.lost.getD 0 default).lo (min (min ((s.lost.getD 0 default).hi + 1) (s.data.length : Int)) ((s.lost.getD 0 default).lo + size))))
  have hl2 := hl1 (decide ((s.lost.getD 0 default).lo ≤ (s.lost.getD 0 default).hi))
  have hl3 := hl1 false
  repeat' (first
   | refine stp ?_
   | (apply K.g0; apply K.callF; first | refine cq (F := hv) (G := ?_) | refine cq (F := vmCopySend s (by omega) (by omega)) (G := ?_) | refine cq (F := vmRemoved s.lost _ _ (by omega) (by omega) (by omega)) (G := ?_))
   | (apply K.g1; apply K.callF; refine cqt (F := hw) (G := ?_))
   | (apply KA.g0; apply KA.callF; first | refine cqa (F := vmPositions s (by omega)) (G := ?_) | refine cqa (F := vmLast ⟨(s.lost.getD 0 default).lo, _, decide ((s.lost.getD 0 default).lo ≤ (s.lost.getD 0 default).hi)⟩ (by dsimp only; omega) (by dsimp only; rw [List.length_take, List.length_drop]; omega)) (G := ?_) | refine cqa (F := vmLast ⟨(s.lost.getD 0 default).lo, _, false⟩ (by dsimp only; omega) (by dsimp only; rw [List.length_take, List.length_drop]; omega)) (G := ?_))
   | (refine R.gS rfl rfl rfl ?_ ?_ <;> intro hb <;> (try have hb' := nrm hb) <;> try (exfalso; omega))
   | (refine WC.cond rfl ?_ ?_ <;> intro hb <;> (try have hb' := nrm hb) <;> try (exfalso; omega))
   | (apply K.rg 4; refine wdr [0, 1, 0, 4, 12, 15, 63] 6 [26, 27, 28, 29, 30, 8] [] ?_)
   | (apply K.rg 6; refine wdr [0, 1, 3, 7, 15, 0, 32, 96, 224, 480, 31, 2047] 11 [35, 36, 37, 38, 39, 40, 41, 42, 43, 44, 8] [] ?_)
   | (apply K.rg 16; refine wdr [0, 1, 0, 0, 8, 31, 63, 127] 5 [104, 105, 106, 107, 108] [] ?_)
   | (apply K.rg 18; refine WC.drawD (ms := [0, 0, 1, 7, 15]) 3 [115, 116] [(2, [4])] (by kernel_rfl) (by kernel_rfl) ?_)
   | refine dcl ?_)
  all_goals first
   | (rw [nextOf_none (by omega) (by omega)]; (exact ret3))
   | (rw [nextOf_fin1 h0 (by omega) (by omega) (by omega)]; (exact ret3))
   | (rw [nextOf_dec1 h0 (by omega) (by omega) (by omega)]; (exact ret3))
   | (rw [nextOf_no1 h0 (by omega) (by omega)]; (exact ret3))
end Go.Proofs.YtjbhiglaginpeaaGreat
