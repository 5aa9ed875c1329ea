/- Parts of the proof, joined from several texts. No condition. -/
import Derived.Test.YtjbhiglaginpeaaGreatQ8
set_option maxRecDepth 100000
set_option maxHeartbeats 16000000
set_option linter.unusedVariables false
set_option linter.unusedSimpArgs false
namespace Go.Proofs.YtjbhiglaginpeaaGreat
open Go.RowKit
def sdOkAt (s : Sd) (i : Nat) : Bool := !((hasR s.acked i && hasR s.lost i) || ((hasR s.acked i || hasR s.lost i) && decide (s.next ≤ i)))
theorem sSendB_no {s : Sd} (h : bl s.data > 30 ∨ inB s.limit 0 30 = false ∨ inB s.next 0 s.many = false ∨ s.limit < min s.next (bl s.data) ∨ rgValid s.acked = false ∨ rgValid s.lost = false ∨ ∃ i, i < 1000 ∧ sdOkAt s i = false) : sdValid s = false := by
 rw [← sSend_eq]
 unfold sSendB
 rcases h with h | h | h | h | h | h | ⟨i, hi, h⟩
 ·rw [decide_eq_false (by omega)]; simp
 ·rw [h]; simp
 ·rw [h]; simp
 ·rw [decide_eq_false (p := min s.next (bl s.data) ≤ s.limit) (by omega)]; simp
 ·rw [h]; simp
 ·rw [h]; simp
 ·have : ((List.range 1000).all fun i => !((hasR s.acked i && hasR s.lost i) || ((hasR s.acked i || hasR s.lost i) && decide (s.next ≤ i)))) = false :=
   List.all_eq_false.2 ⟨i, List.mem_range.2 hi, by unfold sdOkAt at h; simp [h]⟩
  rw [this, Bool.and_false, Bool.and_false]
theorem sSendB_yes {s : Sd} (h1 : ¬ bl s.data > 30) (h2 : inB s.limit 0 30 = true) (h3 : inB s.next 0 s.many = true) (h4 : ¬ s.limit < min s.next (bl s.data)) (h5 : rgValid s.acked = true) (h6 : rgValid s.lost = true) (h7 : (List.range 1000).all (sdOkAt s) = true) : sdValid s = true := by
 rw [← sSend_eq]
 unfold sSendB
 rw [decide_eq_true (show bl s.data ≤ 30 by omega), h2, h3, decide_eq_true (show min s.next (bl s.data) ≤ s.limit by omega), h5, h6]
 simpa [sdOkAt] using h7
theorem rgAt_of {l : List Rg} {i : Nat} : rgAt l i = true ↔ lastHi l i + 2 ≤ (l.getD i default).lo ∧ (l.getD i default).lo ≤ (l.getD i default).hi ∧ (l.getD i default).hi ≤ 999 := by
 simp [rgAt]
theorem rg_no {l : List Rg} {i : Nat} (hi : i < l.length) (h : ¬ (lastHi l i + 2 ≤ (l.getD i default).lo ∧ (l.getD i default).lo ≤ (l.getD i default).hi ∧ (l.getD i default).hi ≤ 999)) : rgValid l = false := by
 unfold rgValid
 rw [rgTo_no (k := i) (by cases hh : rgAt l i with | false => rfl | true => exact absurd (rgAt_of.1 hh) h) hi, Bool.and_false]
theorem rg_all {l : List Rg} (h : rgTo l l.length = true) : rgValid l = decide ((l.length : Int) ≤ 16) := by
 unfold rgValid
 rw [h, Bool.and_true]
 exact decide_eq_decide.2 (by omega)
theorem vlRangesValid (l : List Rg) (h : l.length ≤ 10000000) : FnP Tryz.prog 168 [.d (dL 2 eRg l)] (aB (rgValid l)) := by
 refine fP Tryz.func168 Tryz.ntmps168 Tryz.results168 ?_
 repeat' (first
  | refine stp ?_
  | fail)
 refine WC.loop (fun k s => ∃ i, k + i = l.length ∧ rgTo l i = true ∧ s = ⟨⟨59, []⟩, [(0, .d (dL 2 eRg l)), (3, aI (i : Nat))], []⟩) l.length ⟨0, rfl, rfl, rfl⟩ (imp (look [])) ?_
 rintro k s ⟨i, hk, ht, rfl⟩
 have h0 : i = 0 → lastHi l i = -2 := fun e => by subst e; rfl
 have h1 : 0 < i → lastHi l i = (l.getD ((i : Int) - 1).toNat default).hi := fun e => by
  unfold lastHi
  rw [if_neg (by omega), show ((i : Int) - 1).toNat = i - 1 by omega]
 have h2 : 0 < i → 0 ≤ (l.getD ((i : Int) - 1).toNat default).hi ∧ (l.getD ((i : Int) - 1).toNat default).hi ≤ 999 := fun e => by
  have := rg_bd ht (i - 1) (by omega)
  rw [show ((i : Int) - 1).toNat = i - 1 by omega]
  omega
 repeat' (first
  | refine stp ?_
  | (refine DR.gS rfl rfl rfl ?_ ?_ <;> intro hb <;> (try have hb' := nrm hb) <;> try (exfalso; omega))
  | (refine WC.cond rfl ?_ ?_ <;> intro hb <;> (try have hb' := nrm hb) <;> try (exfalso; omega))
  | (apply K.rg 4; refine wdr [0, 0, 3, 7, 15, 31, 63, 127, 127, 511, 1023, 2047, 127, 127, 12415, 28799, 61567, 131071, 262143, 524287, 1048575, 1048575, 4194303, 8388607, 16777215, 33554431, 67108863, 134217727, 268435455, 536870911, 1073741823, 2147483647, 2147483647, 8589934591, 17179869183, 34359738367, 2147483647, 2147483647, 139586437119, 483183820799, 1032939634687, 2132451262463, 4331474518015, 8796093022207, 17592186044415, 35184372088831] 43 [10, 11, 12, 13, 14, 15, 16, 17, 18, 19, 20, 21, 22, 23, 24, 25, 26, 27, 28, 29, 30, 31, 32, 33, 34, 35, 36, 37, 38, 39, 40, 41, 42, 43, 44, 45, 46, 47, 48, 49, 50, 51, 52] [] ?_)
  | refine dcl ?_)
 all_goals first
  | (rw [rg_no (i := i) (by omega) (by omega)]; (exact ret1))
  | (obtain rfl : i = l.length := (by omega)
     rw [rg_all ht]; (exact ret1))
  | (refine loopQ.n (k - 1) _ (by omega) ⟨i + 1, by omega, by rw [rgTo_succ, ht, rgAt_of.2 (by omega)]; rfl, rfl⟩ (imp (look [])); done)
theorem vl32End (s : Sd) (h : s.data.length ≤ 1000000000) : FnP Tryz.prog 186 [.ag (av (eSd s))] (aI s.many) := by
 refine fP Tryz.func186 Tryz.ntmps186 Tryz.results186 ?_
 repeat' (first
  | refine stp ?_
  | (refine WC.cond rfl ?_ ?_ <;> intro hb <;> (try have hb' := nrm hb) <;> try (exfalso; omega)))
 all_goals first
  | (rw [show s.many = (s.data.length : Int) + 1 from if_pos (by assumption)]; (exact ret1))
  | (rw [show s.many = (s.data.length : Int) from if_neg (by simp [*])]; (exact ret1))
theorem vlSendValid (s : Sd) (h : s.data.length ≤ 1000000000) (h1 : s.acked.length ≤ 10000000) (h2 : s.lost.length ≤ 10000000) : FnP Tryz.prog 155 [.ag (av (eSd s))] (aB (sdValid s)) := by
 refine fP Tryz.func155 Tryz.ntmps155 Tryz.results155 ?_
 repeat' (first
  | refine stp ?_
  | (apply K.g1; apply K.callF; refine cqt (F := vlRangesValid _ (by first | exact h1 | exact h2)) (G := ?_))
  | (apply KA.g1; apply KA.callF; first | refine cqat (F := vl6In _ _ _) (G := ?_) | refine cqat (F := vl32End s h) (G := ?_))
  | (refine R.gS rfl rfl rfl ?_ ?_ <;> intro hb <;> (try have hb' := nrm hb) <;> try (exfalso; omega))
  | (refine DR.gS rfl rfl rfl ?_ ?_ <;> intro hb <;> (try have hb' := nrm hb) <;> try (exfalso; omega))
  | (refine WC.cond rfl ?_ ?_ <;> intro hb <;> (try have hb' := nrm hb) <;> try (exfalso; omega))
  | (apply K.rg 1; refine wdr [0, 1, 3, 7, 15, 31, 63, 127, 255, 511, 1023, 2047, 4095, 2047, 10239, 32767, 65535, 131071, 262143, 524287, 1048575, 524287, 2621439, 6815743, 16777215, 524287, 34078719, 134217727, 268435455, 536870911, 1073741823, 2147483647, 4294967295, 8589934591, 17179869183, 34359738367, 68719476735, 137438953471, 274877906943, 549755813887, 1099511627775] 27 [6, 7, 8, 9, 10, 11, 12, 13, 14, 15, 16, 17, 18, 19, 20, 21, 22, 23, 24, 25, 26, 27, 28, 29, 30, 31, 32] [] ?_)
  | refine dcl ?_)
 all_goals first
  | (rw [sSendB_no (by first | exact .inl (by unfold bl; omega) | exact .inr (.inl (by assumption)) | exact .inr (.inr (.inl (by assumption))) | exact .inr (.inr (.inr (.inl (by unfold bl; omega)))) | exact .inr (.inr (.inr (.inr (.inl (by assumption))))) | exact .inr (.inr (.inr (.inr (.inr (.inl (by assumption)))))))]; (exact ret1))
  | skip
 refine WC.loop (fun k s' => ∃ i : Nat, k + i = 1000 ∧ (∀ j, j < i → sdOkAt s j = true) ∧ s' = ⟨⟨75, []⟩, [(1, .ptr 1 0), (3, aI (i : Nat))], [(1, .blk (av (eSd s)))]⟩) 1000 ⟨0, rfl, fun j hj => absurd hj (Nat.not_lt_zero j), rfl⟩ (imp (look [(1, 1)])) ?_
 rintro k s' ⟨i, hk, hs, rfl⟩
 repeat' (first
  | refine stp ?_
  | (apply K.g0; apply K.callF; first | refine cq (F := vl2Has s.acked _ h1) (G := ?_) | refine cq (F := vl2Has s.lost _ h2) (G := ?_))
  | (refine R.gS rfl rfl rfl ?_ ?_ <;> intro hb <;> (try have hb' := nrm hb) <;> try (exfalso; omega))
  | (refine WC.cond rfl ?_ ?_ <;> intro hb <;> (try have hb' := nrm hb) <;> try (exfalso; omega)))
 all_goals first
  | (rw [sSendB_no (.inr (.inr (.inr (.inr (.inr (.inr ⟨i, by omega, by unfold sdOkAt; simp [*]; done⟩))))))]; (exact ret1))
  | (rw [sSendB_yes (by unfold bl; omega) (by assumption) (by assumption) (by unfold bl; omega) (by assumption) (by assumption) (List.all_eq_true.2 (fun j hj => hs j (by have := List.mem_range.1 hj; omega)))]; (exact ret1))
  | (refine loopQ.n (k - 1) _ (by omega) ⟨i + 1, by omega, fun j hj => (Nat.lt_succ_iff_lt_or_eq.1 hj).elim (hs j) (fun e => by rw [e]; unfold sdOkAt; simp [*]; omega), rfl⟩ (imp (look [(1, 1)])); done)
  | (refine loopQ.n (k - 1) _ (by omega) ⟨i + 1, by omega, fun j hj => (Nat.lt_succ_iff_lt_or_eq.1 hj).elim (hs j) (fun e => by rw [e]; unfold sdOkAt; simp [*]; done), rfl⟩ (imp (look [(1, 1)])); done)
theorem sd_ok {s : Sd} (hs : SdOK s) : sdValid s = true := (sd_iff s).2 hs
def wrR (s : Sd) (d : Bs) : AV := .tu [.ag (av (eSd (sdWrite s d))), aB (!(s.fin || decide (30 < bl s.data + bl d)))]
theorem wr_no {s : Sd} {d : Bs} (h : s.fin = true ∨ (s.data.length : Int) + d.length > 30) : wrR s d = .tu [.ag (av (eSd s)), aB false] := by
 have e : (s.fin || decide (30 < bl s.data + bl d)) = true := by
  rcases h with h | h
  ·rw [h]; rfl
  ·rw [decide_eq_true (show 30 < bl s.data + bl d from h), Bool.or_true]
 unfold wrR sdWrite
 rw [e]
 rfl
theorem wr_yes {s : Sd} {d : Bs} (h : s.fin = false) (h2 : ¬ (s.data.length : Int) + d.length > 30) : wrR s d = .tu [.ag (av (eSd { s with data := s.data ++ d })), aB true] := by
 have e : (s.fin || decide (30 < bl s.data + bl d)) = false := by
  rw [h, decide_eq_false (show ¬ 30 < bl s.data + bl d from h2)]; rfl
 unfold wrR sdWrite
 rw [e]
 rfl
theorem vlSendWrite (s : Sd) (d : Bs) (hs : SdOK s) (hd : d.length ≤ 10000000) : FnP Tryz.prog 110 [.ag (av (eSd s)), aS d] (wrR s d) := by
 obtain ⟨f1, f2⟩ := hs.few
 obtain ⟨⟨b0, b1⟩, b2⟩ := hs.bds
 have hv := vlSendValid s (by omega) (by omega) (by omega)
 rw [sd_ok hs] at hv
 refine fP Tryz.func110 Tryz.ntmps110 Tryz.results110 ?_
 repeat' (first
  | refine stp ?_
  | (apply K.g0; apply K.callF; first | refine cq (F := hv) (G := ?_) | refine cq (F := vl32Copy s (by omega) (by omega)) (G := ?_))
  | (refine R.gS rfl rfl rfl ?_ ?_ <;> intro hb <;> (try have hb' := nrm hb) <;> try (exfalso; omega))
  | (refine WC.cond rfl ?_ ?_ <;> intro hb <;> (try have hb' := nrm hb) <;> try (exfalso; omega)))
 all_goals first
  | (rw [wr_no (.inl (by assumption))]; (exact ret2))
  | (rw [wr_no (.inr (by assumption))]; (exact ret2))
  | (rw [wr_yes (by assumption) (by assumption)]; (exact ret2))
theorem vlSendFinish (s : Sd) (hs : SdOK s) : FnP Tryz.prog 111 [.ag (av (eSd s))] (.tu [.ag (av (eSd { s with fin := true })), aB (!s.fin)]) := by
 obtain ⟨f1, f2⟩ := hs.few
 obtain ⟨⟨b0, b1⟩, b2⟩ := hs.bds
 have hv := vlSendValid s (by omega) (by omega) (by omega)
 rw [sd_ok hs] at hv
 refine fP Tryz.func111 Tryz.ntmps111 Tryz.results111 ?_
 repeat' (first
  | refine stp ?_
  | (apply K.g0; apply K.callF; first | refine cq (F := hv) (G := ?_) | refine cq (F := vl32Copy s (by omega) (by omega)) (G := ?_))
  | (apply K.rg 5; refine WC.drawD (ms := [0, 0, 2, 6, 1, 31]) 5 [12, 13, 14, 15] [(4, [2])] (by kernel_rfl) (by kernel_rfl) ?_)
  | refine dcl ?_)
 (exact ret2)
end Go.Proofs.YtjbhiglaginpeaaGreat
