/- Parts of the proof, joined from several texts. No condition. -/
import Derived.Test.YtjbhiglaginpeaaGreatQ19
set_option maxRecDepth 100000
set_option maxHeartbeats 16000000
set_option linter.unusedVariables false
set_option linter.unusedSimpArgs false
namespace Go.Proofs.YtjbhiglaginpeaaGreat
open Go.RowKit
def setOk (l : List Rg) (x : Int) : Bool := rgValid l && topB l x
theorem topB_last {l : List Rg} {x : Int} (h : 0 < l.length) : topB l x = decide ((l.getD ((l.length : Int) - 1).toNat default).hi < x) := by
 have e : ((l.length : Int) - 1).toNat = l.length - 1 := by omega
 unfold topB
 rw [e, List.getLast?_eq_getElem?, List.getD_eq_getElem?_getD, List.getElem?_eq_getElem (by omega)]
 rfl
theorem topB_nil {l : List Rg} {x : Int} (h : l.length = 0) : topB l x = true := by rw [List.length_eq_zero_iff.1 h]; rfl
theorem setOk_no1 {l : List Rg} {x : Int} (h : rgValid l = false) : setOk l x = false := by unfold setOk; rw [h]; rfl
theorem setOk_no2 {l : List Rg} {x : Int} (h : rgValid l = true) (h0 : (l.length : Int) > 0) (h2 : (l.getD ((l.length : Int) - 1).toNat default).hi ≥ x) : setOk l x = false := by
 unfold setOk; rw [h, topB_last (by omega), decide_eq_false (by omega)]; rfl
theorem setOk_yes1 {l : List Rg} {x : Int} (h : rgValid l = true) (h0 : ¬ (l.length : Int) > 0) : setOk l x = true := by
 unfold setOk; rw [h, topB_nil (by omega)]; rfl
theorem setOk_yes2 {l : List Rg} {x : Int} (h : rgValid l = true) (h0 : (l.length : Int) > 0) (h2 : ¬ (l.getD ((l.length : Int) - 1).toNat default).hi ≥ x) : setOk l x = true := by
 unfold setOk; rw [h, topB_last (by omega), decide_eq_true (by omega)]; rfl
theorem sdV_no {s : Sd} (h : bl s.data > 30 ∨ inB s.limit 0 30 = false ∨ inB s.next 0 s.many = false ∨ s.limit < min s.next (bl s.data) ∨ setOk s.acked s.next = false ∨ setOk s.lost s.next = false ∨ ∃ i : Nat, i < s.next.toNat ∧ hasR s.acked i = true ∧ hasR s.lost i = true) : sdValid s = false := by
 unfold sdValid
 unfold setOk at h
 rcases h with h | h | h | h | h | h | ⟨i, hi, h1, h2⟩
 ·rw [decide_eq_false (by omega)]; simp
 ·rw [h]; simp
 ·rw [h]; simp
 ·rw [decide_eq_false (p := min s.next (bl s.data) ≤ s.limit) (by omega)]; simp
 ·rw [h]; simp
 ·rw [h]; simp
 ·rw [show apartTo s.acked s.lost s.next.toNat = false from List.all_eq_false.2 ⟨i, List.mem_range.2 hi, by simp [h1, h2]⟩]; simp
theorem sdV_yes {s : Sd} (h1 : ¬ bl s.data > 30) (h2 : inB s.limit 0 30 = true) (h3 : inB s.next 0 s.many = true) (h4 : ¬ s.limit < min s.next (bl s.data)) (h5 : setOk s.acked s.next = true) (h6 : setOk s.lost s.next = true) (h7 : ∀ j : Nat, j < s.next.toNat → (hasR s.acked j && hasR s.lost j) = false) : sdValid s = true := by
 unfold sdValid
 unfold setOk at h5 h6
 rw [decide_eq_true (show bl s.data ≤ 30 by omega), h2, h3, decide_eq_true (show min s.next (bl s.data) ≤ s.limit by omega), h5, h6]
 rw [show apartTo s.acked s.lost s.next.toNat = true from List.all_eq_true.2 (fun j hj => by rw [h7 j (List.mem_range.1 hj)]; rfl)]
 rfl
theorem rgV_bd {l : List Rg} (h : rgValid l = true) : RgBd l := rgOk_bd ((rgValid_iff l).1 h).2 (Int.le_refl _)
theorem setOk_bd {l : List Rg} {x : Int} (h : setOk l x = true) : RgBd l := by
 unfold setOk at h
 rw [Bool.and_eq_true] at h
 exact rgV_bd h.1
theorem vmSendValid (s : Sd) (h : s.data.length ≤ 10000000) (h1 : s.acked.length ≤ 10000000) (h2 : s.lost.length ≤ 10000000) : FnP Tryz.prog 125 [.ag (av (eSd s))] (aB (sdValid s)) := by
 refine fP Tryz.func125 Tryz.ntmps125 Tryz.results125 ?_
 repeat' (first
  | refine stp ?_
  | (apply KA.g1; apply KA.callF; first | refine cqat (F := vmWithin _ _ _) (G := ?_) | refine cqat (F := vmPositions s h) (G := ?_))
  | (refine DR.gS rfl rfl rfl ?_ ?_ <;> intro hb <;> (try have hb' := nrm hb) <;> try (exfalso; omega))
  | (refine WC.cond rfl ?_ ?_ <;> intro hb <;> (try have hb' := nrm hb) <;> try (exfalso; omega))
  | (apply K.rg 1; refine wdr [0, 1, 3, 7, 15, 31, 63, 127, 255, 511, 1023, 2047, 4095, 2047, 10239, 32767, 65535, 131071, 262143, 524287, 1048575, 524287, 2621439, 6815743, 16777215, 524287, 34078719, 134217727, 268435455] 27 [6, 7, 8, 9, 10, 11, 12, 13, 14, 15, 16, 17, 18, 19, 20, 21, 22, 23, 24, 25, 26, 27, 28, 29, 30, 31, 32] [] ?_)
  | refine dcl ?_)
 all_goals first
  | (rw [sdV_no (by first | exact .inl (by unfold bl; omega) | exact .inr (.inl (by assumption)) | exact .inr (.inr (.inl (by assumption))) | exact .inr (.inr (.inr (.inl (by unfold bl; omega)))))]; (exact ret1))
  | skip
 refine WC.loop (fun k s' => ∃ i : Nat, k + i = 2 ∧ (1 ≤ i → setOk s.acked s.next = true) ∧ (2 ≤ i → setOk s.lost s.next = true) ∧ s' = ⟨⟨82, []⟩, [(1, .ptr 1 0), (39, .own 39 2), (40, aI 2), (41, aI (i : Nat))], [(1, .blk (av (eSd s))), (39, .arr 40 1 2 (fun m => ((([AV.d (dL 2 eRg s.acked), AV.d (dL 2 eRg s.lost)].map dOf).drop (m * 1)).take 1)))]⟩) 2 ⟨0, rfl, fun h => by omega, fun h => by omega, rfl⟩ (imp (look [(1, 1), (39, 39)])) ?_
 rintro k s' ⟨i, hk, hA, hB, rfl⟩
 obtain rfl | rfl | rfl : i = 0 ∨ i = 1 ∨ i = 2 := (by omega)
 ·skip
  repeat' (first
   | refine stp ?_
   | (apply KA.g0; apply KA.callF; refine cqa (F := vmRangesValid s.acked h1) (G := ?_))
   | (refine DR.gS rfl rfl rfl ?_ ?_ <;> intro hb <;> (try have hb' := nrm hb) <;> try (exfalso; omega))
   | (refine WC.cond rfl ?_ ?_ <;> intro hb <;> (try have hb' := nrm hb) <;> try (exfalso; omega))
   | (apply K.rg 6; refine wdr [0, 1, 3, 7, 15, 31, 63, 127, 255, 255, 767, 1791, 4095, 8191, 16383, 255, 33023, 131071, 262143, 524287] 17 [45, 46, 47, 48, 49, 50, 51, 52, 53, 54, 55, 56, 57, 58, 59, 60, 61] [] ?_)
   | refine dcl ?_)
  all_goals first
   | (rw [sdV_no (.inr (.inr (.inr (.inr (.inl (by first | exact setOk_no1 (by assumption) | exact setOk_no2 (by assumption) (by assumption) (by assumption)))))))]; (exact ret1))
   | (refine loopQ.n (k - 1) _ (by omega) ⟨1, by omega, fun _ => (by first | exact setOk_yes1 (by assumption) (by assumption) | exact setOk_yes2 (by assumption) (by assumption) (by assumption)), fun h => by omega, rfl⟩ (imp (look [(1, 1), (39, 39)])); done)
 ·have hA := hA (by omega)
  repeat' (first
   | refine stp ?_
   | (apply KA.g0; apply KA.callF; refine cqa (F := vmRangesValid s.lost h2) (G := ?_))
   | (refine DR.gS rfl rfl rfl ?_ ?_ <;> intro hb <;> (try have hb' := nrm hb) <;> try (exfalso; omega))
   | (refine WC.cond rfl ?_ ?_ <;> intro hb <;> (try have hb' := nrm hb) <;> try (exfalso; omega))
   | (apply K.rg 6; refine wdr [0, 1, 3, 7, 15, 31, 63, 127, 255, 255, 767, 1791, 4095, 8191, 16383, 255, 33023, 131071, 262143, 524287] 17 [45, 46, 47, 48, 49, 50, 51, 52, 53, 54, 55, 56, 57, 58, 59, 60, 61] [] ?_)
   | refine dcl ?_)
  all_goals first
   | (rw [sdV_no (.inr (.inr (.inr (.inr (.inr (.inl (by first | exact setOk_no1 (by assumption) | exact setOk_no2 (by assumption) (by assumption) (by assumption))))))))]; (exact ret1))
   | (refine loopQ.n (k - 1) _ (by omega) ⟨2, by omega, fun _ => hA, fun _ => (by first | exact setOk_yes1 (by assumption) (by assumption) | exact setOk_yes2 (by assumption) (by assumption) (by assumption)), rfl⟩ (imp (look [(1, 1), (39, 39)])); done)
 have hA := hA (by omega)
 have hB := hB (by omega)
 have hbA := setOk_bd hA
 have hbB := setOk_bd hB
 have hnx : 0 ≤ s.next ∧ s.next ≤ 10000001 := by
  have := inB_iff.1 ‹inB s.next 0 s.many = true›
  unfold Sd.many bl at this
  split at this <;> omega
 clear hk
 repeat' (first
  | refine stp ?_
  | fail)
 refine WC.loop (fun k s' => ∃ i : Nat, k + i = s.next.toNat ∧ (∀ j : Nat, j < i → (hasR s.acked j && hasR s.lost j) = false) ∧ s' = ⟨⟨82, []⟩, [(1, .ptr 1 0), (67, aI s.next), (68, aI (i : Nat))], [(1, .blk (av (eSd s)))]⟩) s.next.toNat ⟨0, rfl, fun j hj => absurd hj (Nat.not_lt_zero j), rfl⟩ (imp (look [(1, 1)])) ?_
 rintro k s' ⟨i, hk, hs, rfl⟩
 repeat' (first
  | refine stp ?_
  | (apply K.g0; apply K.callF; refine cq (F := vmHas s.acked _ hbA) (G := ?_))
  | (apply K.g1; apply K.callF; refine cqt (F := vmHas s.lost _ hbB) (G := ?_))
  | (refine R.gS rfl rfl rfl ?_ ?_ <;> intro hb <;> (try have hb' := nrm hb) <;> try (exfalso; omega))
  | (refine WC.cond rfl ?_ ?_ <;> intro hb <;> (try have hb' := nrm hb) <;> try (exfalso; omega)))
 all_goals first
  | (rw [sdV_no (.inr (.inr (.inr (.inr (.inr (.inr ⟨i, by omega, by assumption, by assumption⟩))))))]; (exact ret1))
  | (rw [sdV_yes (by unfold bl; omega) (by assumption) (by assumption) (by unfold bl; omega) hA hB (fun j hj => hs j (by omega))]; (exact ret1))
  | (refine loopQ.n (k - 1) _ (by omega) ⟨i + 1, by omega, fun j hj => (Nat.lt_succ_iff_lt_or_eq.1 hj).elim (hs j) (fun e => by rw [e]; simp [*]; done), rfl⟩ (imp (look [(1, 1)])); done)
end Go.Proofs.YtjbhiglaginpeaaGreat
