/- Parts of the proof, joined from several texts. No condition. -/
import Derived.Test.YtjbhiglaginpeaaGreatQ19
import Derived.Test.YtjbhiglaginpeaaGreatQ11
set_option maxRecDepth 100000
set_option maxHeartbeats 16000000
set_option linter.unusedVariables false
set_option linter.unusedSimpArgs false
namespace Go.Proofs.YtjbhiglaginpeaaGreat
open Go.RowKit
theorem vmCloneWindows (l : List Wn) (h : l.length ≤ 10000000) : FnH Tryz.prog 89 [] [.d (dL 4 eWn l)] [] (.own 900 l.length) [(900, hL 97 4 eWn l)] := by
 refine fH Tryz.func89 Tryz.ntmps89 Tryz.results89 ?_
 repeat' (first
  | (apply K.g0; apply K.binOp; refine R.isnilD rfl rfl rfl rfl rfl (fun bnil hnil => ?_))
  | refine stp ?_
  | (refine WC.cond rfl ?_ ?_ <;> intro hb <;> (try have hb' := nrm hb) <;> try (exfalso; omega)))
 ·obtain rfl := List.length_eq_zero_iff.1 (hnil (by assumption))
  first | exact reth0 (look []) | exact reth1 (look [])
 ·skip
  first | exact reth0 (look [(900, 7)]) | exact reth1 (look [(900, 7)])
theorem vmCloneRanges (l : List Rg) (h : l.length ≤ 10000000) : FnH Tryz.prog 92 [] [.d (dL 2 eRg l)] [] (.own 900 l.length) [(900, hL 116 2 eRg l)] := by
 refine fH Tryz.func92 Tryz.ntmps92 Tryz.results92 ?_
 repeat' (first
  | (apply K.g0; apply K.binOp; refine R.isnilD rfl rfl rfl rfl rfl (fun bnil hnil => ?_))
  | refine stp ?_
  | (refine WC.cond rfl ?_ ?_ <;> intro hb <;> (try have hb' := nrm hb) <;> try (exfalso; omega)))
 ·obtain rfl := List.length_eq_zero_iff.1 (hnil (by assumption))
  first | exact reth0 (look []) | exact reth1 (look [])
 ·skip
  first | exact reth0 (look [(900, 7)]) | exact reth1 (look [(900, 7)])
theorem vmClonePieces (l : List Pc) (h : l.length ≤ 10000000) : FnH Tryz.prog 135 [] [.d (dL 2 ePc l)] [] (.own 900 l.length) [(900, hL 50 2 ePc l)] := by
 refine fH Tryz.func135 Tryz.ntmps135 Tryz.results135 ?_
 repeat' (first
  | (apply K.g0; apply K.binOp; refine R.isnilD rfl rfl rfl rfl rfl (fun bnil hnil => ?_))
  | refine stp ?_
  | (refine WC.cond rfl ?_ ?_ <;> intro hb <;> (try have hb' := nrm hb) <;> try (exfalso; omega)))
 ·obtain rfl := List.length_eq_zero_iff.1 (hnil (by assumption))
  first | exact reth0 (look []) | exact reth1 (look [])
 ·skip
  first | exact reth0 (look [(900, 7)]) | exact reth1 (look [(900, 7)])
theorem vmCloneFlight (l : List Pk) (h : l.length ≤ 10000000) : FnH Tryz.prog 136 [] [.d (dL 3 ePk l)] [] (.own 900 l.length) [(900, hL 114 3 ePk l)] := by
 refine fH Tryz.func136 Tryz.ntmps136 Tryz.results136 ?_
 repeat' (first
  | (apply K.g0; apply K.binOp; refine R.isnilD rfl rfl rfl rfl rfl (fun bnil hnil => ?_))
  | refine stp ?_
  | (refine WC.cond rfl ?_ ?_ <;> intro hb <;> (try have hb' := nrm hb) <;> try (exfalso; omega)))
 ·obtain rfl := List.length_eq_zero_iff.1 (hnil (by assumption))
  first | exact reth0 (look []) | exact reth1 (look [])
 ·skip
  first | exact reth0 (look [(900, 7)]) | exact reth1 (look [(900, 7)])
theorem vmCopySend (s : Sd) (h1 : s.acked.length ≤ 10000000) (h2 : s.lost.length ≤ 10000000) : FnP Tryz.prog 85 [.ag (av (eSd s))] (.ag (av (eSd s))) := by
 refine fP Tryz.func85 Tryz.ntmps85 Tryz.results85 ?_
 repeat' (first
  | refine stp ?_
  | (apply KA.g0; apply KA.callF; refine cna (F := vmCloneRanges _ (by first | exact h1 | exact h2)) (G := ?_))
  | (apply K.rg 1; refine wdr [0, 1, 3, 0, 8, 31, 31, 127, 255, 511] 7 [3, 4, 5, 6, 7, 8, 9] [] ?_)
  | refine dcl ?_)
 (exact ret1)
theorem vmCopyRecv (s : Rv) (h : s.pieces.length ≤ 10000000) : FnP Tryz.prog 86 [.ag (av (eRv s))] (.ag (av (eRv s))) := by
 refine fP Tryz.func86 Tryz.ntmps86 Tryz.results86 ?_
 repeat' (first
  | refine stp ?_
  | (apply K.g0; apply K.callF; refine cn (F := vmClonePieces _ h) (G := ?_))
  | fail)
 (exact ret1)
theorem vmCopyWire (x : Wi) (h : x.frame.ranges.length ≤ 10000000) : FnP Tryz.prog 95 [.ag (av (eWi x))] (.ag (av (eWi x))) := by
 refine fP Tryz.func95 Tryz.ntmps95 Tryz.results95 ?_
 repeat' (first
  | refine stp ?_
  | (apply K.g0; apply K.callF; refine cn (F := vmCloneRanges _ h) (G := ?_))
  | fail)
 (exact ret1)
theorem vmPieceEnd (p : Pc) (h : -1000000 ≤ p.off ∧ p.off ≤ 1000000) (h' : p.data.length ≤ 10000000) : FnP Tryz.prog 69 [.ag (av (ePc p))] (aI p.fin) := by
 refine fP Tryz.func69 Tryz.ntmps69 Tryz.results69 ?_
 repeat' (first
  | refine stp ?_
  | fail)
 rw [show p.fin = p.off + (p.data.length : Int) from rfl]; (exact ret1)
theorem rvV_no1 {r : Rv} (h : inB r.limit 0 30 = false ∨ inB r.read 0 r.limit = false) : rvValid r = false := by
 unfold rvValid; rcases h with h | h <;> rw [h] <;> simp
theorem rvV_no2 {r : Rv} {i : Nat} (hi : i < r.pieces.length) (h : (r.pieces.getD i default).data = [] ∨ (r.pieces.getD i default).off ≤ rvLast r i ∨ bl (r.pieces.getD i default).data > r.limit - (r.pieces.getD i default).off) : rvValid r = false := by
 have ha : rvAt r i = false := by
  unfold rvAt
  rcases h with h | h | h
  ·rw [h]; rfl
  ·rw [decide_eq_false (show ¬ rvLast r i < _ by omega)]; simp
  ·rw [decide_eq_false (show ¬ bl (r.pieces.getD i default).data ≤ _ by omega)]; simp
 have : rvTo r r.pieces.length = false := List.all_eq_false.2 ⟨i, List.mem_range.2 hi, by rw [ha]; exact Bool.false_ne_true⟩
 unfold rvValid
 rw [this]; simp
theorem rvTo_succ {r : Rv} {i : Nat} : rvTo r (i + 1) = (rvTo r i && rvAt r i) := by simp [rvTo, List.range_succ]
theorem rvAt_yes {r : Rv} {i : Nat} (h1 : ¬ (r.pieces.getD i default).data = []) (h2 : ¬ (r.pieces.getD i default).off ≤ rvLast r i) (h3 : ¬ bl (r.pieces.getD i default).data > r.limit - (r.pieces.getD i default).off) : rvAt r i = true := by
 unfold rvAt
 rw [decide_eq_true (show rvLast r i < _ by omega), decide_eq_true (show bl (r.pieces.getD i default).data ≤ _ by omega)]
 cases hd : (r.pieces.getD i default).data with
 | nil => exact absurd hd h1
 | cons a t => rfl
theorem rvTo_bd {r : Rv} (h1 : inB r.limit 0 30 = true) (h2 : inB r.read 0 r.limit = true) {i : Nat} (h : rvTo r i = true) : ∀ j, j ≤ i → -1 ≤ rvLast r j ∧ rvLast r j ≤ 30 := by
 intro j
 have a1 := inB_iff.1 h1
 have a2 := inB_iff.1 h2
 induction j with
 | zero => intro _; unfold rvLast; rw [if_pos rfl]; omega
 | succ k ih =>
   intro hj
   have ih := ih (by omega)
   have hk := List.all_eq_true.1 h k (List.mem_range.2 (by omega))
   unfold rvAt at hk
   simp only [Bool.and_eq_true, decide_eq_true_eq] at hk
   unfold rvLast
   rw [if_neg (by omega), Nat.add_sub_cancel]
   unfold Pc.fin
   have h0 := bl_nonneg (r.pieces.getD k default).data
   omega
theorem vmRecvEnd (r : Rv) (hl : r.pieces.length ≤ 10000000) (hb : 0 < r.pieces.length → (-1000000 ≤ (r.pieces.getD ((r.pieces.length : Int) - 1).toNat default).off ∧ (r.pieces.getD ((r.pieces.length : Int) - 1).toNat default).off ≤ 1000000) ∧ (r.pieces.getD ((r.pieces.length : Int) - 1).toNat default).data.length ≤ 10000000) : FnP Tryz.prog 70 [.ag (av (eRv r))] (aI r.fin) := by
 have hP := fun h => vmPieceEnd (r.pieces.getD ((r.pieces.length : Int) - 1).toNat default) (hb h).1 (hb h).2
 refine fP Tryz.func70 Tryz.ntmps70 Tryz.results70 ?_
 repeat' (first
  | refine stp ?_
  | (apply K.g0; apply K.callF; refine cq (F := hP (by omega)) (G := ?_))
  | (refine WC.cond rfl ?_ ?_ <;> intro hb <;> (try have hb' := nrm hb) <;> try (exfalso; omega)))
 all_goals first
  | (rw [fin_end, if_pos (by omega)]; (exact ret1))
  | (rw [fin_end, if_neg (by omega)]; unfold Pc.fin; (exact ret1))
theorem vmRecvValid (r : Rv) (hl : r.pieces.length ≤ 10000000) (hd : ∀ p ∈ r.pieces, p.data.length ≤ 10000000 ∧ (-9223372036854775808 ≤ p.off ∧ p.off ≤ 9223372036854775807)) : FnP Tryz.prog 36 [.ag (av (eRv r))] (aB (rvValid r)) := by
 refine fP Tryz.func36 Tryz.ntmps36 Tryz.results36 ?_
 repeat' (first
  | refine stp ?_
  | (apply K.g0; apply K.callF; refine cq (F := vmWithin _ _ _) (G := ?_))
  | (apply K.g1; apply K.callF; refine cqt (F := vmWithin _ _ _) (G := ?_))
  | (refine R.gS rfl rfl rfl ?_ ?_ <;> intro hb <;> (try have hb' := nrm hb) <;> try (exfalso; omega))
  | (refine WC.cond rfl ?_ ?_ <;> intro hb <;> (try have hb' := nrm hb) <;> try (exfalso; omega)))
 ·rw [rvV_no1 (.inl (by assumption))]; (exact ret1)
 ·rw [rvV_no1 (.inr (by assumption))]; (exact ret1)
 have h1 : inB r.limit 0 30 = true := by assumption
 have h2 : inB r.read 0 r.limit = true := by assumption
 have a1 := inB_iff.1 h1
 have a2 := inB_iff.1 h2
 repeat' (first
  | refine stp ?_
  | fail)
 refine WC.loop (fun k s => ∃ i : Nat, k + i = r.pieces.length ∧ rvTo r i = true ∧ s = ⟨⟨63, []⟩, [(1, .ptr 1 0), (3, aI (rvLast r i)), (22, .d (dL 2 ePc r.pieces)), (23, aI r.pieces.length), (24, aI (i : Nat))], [(1, .blk (av (eRv r)))]⟩) r.pieces.length ⟨0, rfl, rfl, rfl⟩ (imp (look [(1, 1)])) ?_
 rintro k s ⟨i, hk, ht, rfl⟩
 have hb := rvTo_bd h1 h2 ht i (Nat.le_refl _)
 have hdi : i < r.pieces.length → (r.pieces.getD i default).data.length ≤ 10000000 ∧ (-9223372036854775808 ≤ (r.pieces.getD i default).off ∧ (r.pieces.getD i default).off ≤ 9223372036854775807) := fun h => hd _ (getD_mem' h)
 by_cases hi : i < r.pieces.length
 ·have hdi := hdi hi
  have hE := fun a b => vmPieceEnd (r.pieces.getD i default) a b
  repeat' (first
   | refine stp ?_
   | (apply K.g0; apply K.callF; refine cq (F := hE (by omega) (by omega)) (G := ?_))
   | (refine R.gS rfl rfl rfl ?_ ?_ <;> intro hb <;> (try have hb' := nrm hb) <;> try (exfalso; omega))
   | (refine WC.cond rfl ?_ ?_ <;> intro hb <;> (try have hb' := nrm hb) <;> try (exfalso; omega)))
  all_goals first
   | (rw [rvV_no2 (i := i) hi (by first | exact .inl (by assumption) | exact .inr (.inl (by omega)) | exact .inr (.inr (by unfold bl; omega)))]; (exact ret1))
   | (refine loopQ.n (k - 1) _ (by omega) ⟨i + 1, by omega, by rw [rvTo_succ, ht, rvAt_yes (by assumption) (by assumption) (by unfold bl; omega)]; rfl, rfl⟩ (imp (look [(1, 1)])); done)
 obtain rfl : i = r.pieces.length := (by omega)
 have hR := fun a => vmRecvEnd r hl a
 have hE : (0 < r.pieces.length → (-1000000 ≤ (r.pieces.getD ((r.pieces.length : Int) - 1).toNat default).off ∧ (r.pieces.getD ((r.pieces.length : Int) - 1).toNat default).off ≤ 1000000) ∧ (r.pieces.getD ((r.pieces.length : Int) - 1).toNat default).data.length ≤ 10000000) := fun h => by
  have e : ((r.pieces.length : Int) - 1).toNat = r.pieces.length - 1 := by omega
  rw [e]
  have h3 := List.all_eq_true.1 ht (r.pieces.length - 1) (List.mem_range.2 (by omega))
  have h4 := rvTo_bd h1 h2 ht (r.pieces.length - 1) (by omega)
  unfold rvAt at h3
  simp only [Bool.and_eq_true, decide_eq_true_eq] at h3
  have h5 := hd _ (getD_mem' (l := r.pieces) (i := r.pieces.length - 1) (by omega))
  have h0 := bl_nonneg (r.pieces.getD (r.pieces.length - 1) default).data
  omega
 clear hdi
 have hV : rvValid r = (decide (r.final = -1) || inB r.final r.fin r.limit) := by
  unfold rvValid
  rw [h1, h2, ht]; rfl
 repeat' (first
  | refine stp ?_
  | (apply K.g1; apply K.callF; refine cqt (F := vmWithin _ _ _) (G := ?_))
  | (apply KA.g1; apply KA.callF; refine cqat (F := hR hE) (G := ?_))
  | (refine DR.gS rfl rfl rfl ?_ ?_ <;> intro hb <;> (try have hb' := nrm hb) <;> try (exfalso; omega))
  | (apply K.rg 11; refine wdr [0, 1, 3, 7, 15, 31, 15, 79, 15, 271, 1023, 2047, 4095] 10 [51, 52, 53, 54, 55, 56, 57, 58, 59, 60] [] ?_)
  | refine dcl ?_)
 all_goals
  refine RetG.mk1 (ResV.tmp rfl) (LeV.sc (congrArg Value.bool ?_))
  rw [hV]
  simp [*]
end Go.Proofs.YtjbhiglaginpeaaGreat
