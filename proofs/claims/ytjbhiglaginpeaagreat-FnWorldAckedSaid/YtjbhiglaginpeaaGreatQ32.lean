/- Parts of the proof, joined from several texts. No condition. -/
import Derived.Test.YtjbhiglaginpeaaGreatQ29
import Derived.Test.YtjbhiglaginpeaaGreatQ9
import Derived.Test.YtjbhiglaginpeaaGreatQ28
import Derived.Test.YtjbhiglaginpeaaGreatQ6
set_option maxRecDepth 100000
set_option maxHeartbeats 16000000
set_option linter.unusedVariables false
set_option linter.unusedSimpArgs false
namespace Go.Proofs.YtjbhiglaginpeaaGreat
open Go.RowKit
def playR (limit : Int) (l : List Ev) : Option Wd := if inB limit 0 30 && decide (l.length ≤ 80) then some (playW (wdNew limit) l) else none
theorem play_snoc {W : Wd} {l : List Ev} {i : Nat} (h : i < l.length) : playW W (l.take (i + 1)) = doW (playW W (l.take i)) (l.getD i default) := by
 rw [take_snoc h]; unfold playW; rw [List.foldl_append]; rfl
theorem vlWorldPlay (limit : Int) (l : List Ev) (hs : ∀ e ∈ l, EvSz e) (hl : l.length ≤ 10000000) : FnP Tryz.prog 12 [aI limit, .d (dL 11 eEv l)] (newR (playR limit l)) := by
 unfold playR
 cases h : inB limit 0 30
 ·have hN := vlWorldNewNo limit h
  rw [show (false && decide (l.length ≤ 80)) = false from rfl, if_neg Bool.false_ne_true]
  refine fP Tryz.func12 Tryz.ntmps12 Tryz.results12 ?_
  repeat' (first
   | refine stp ?_
   | (apply K.g0; apply K.callF; refine cq (F := hN) (G := ?_))
   | fail)
  (exact ret2)
 have hN := vlWorldNew limit (inB_iff.1 h)
 have hn := wd_new (inB_iff.1 h)
 by_cases h80 : l.length ≤ 80
 ·rw [decide_eq_true h80, show (true && true) = true from rfl, if_pos rfl]
  refine fP Tryz.func12 Tryz.ntmps12 Tryz.results12 ?_
  repeat' (first
   | refine stp ?_
   | (apply K.g0; apply K.callF; refine cq (F := hN) (G := ?_))
   | fail)
  refine WC.loop (fun k s => ∃ (i : Nat) (V : Wd), k + i = l.length ∧ V = playW (wdNew limit) (l.take i) ∧ s = ⟨⟨36, []⟩, [(1, .d (dL 11 eEv l)), (4, .ptr 4 0), (6, .ptr 6 0), (8, aI (i : Nat))], [(4, .blk [.un, .un, .un, .un, .un, .un, .un, .un, .un, .un]), (6, .blk (av (eWd V)))]⟩) l.length ⟨0, wdNew limit, rfl, rfl, rfl⟩ (imp (look [(4, 4), (6, 6)])) ?_
  rintro k s ⟨i, V, hk, hV, rfl⟩
  have hok : WdOK V := by rw [hV]; exact wd_play _ hn
  have hD : i < l.length → FnP Tryz.prog 28 [.ag (av (eWd V)), .ag (av (eEv (l.getD i default)))] (.ag (av (eWd (doW V (l.getD i default))))) := fun h => vl51Do V hok _ (hs _ (getD_mem' h))
  have hC := vl51Copy V hok.sz
  repeat' (first
   | refine stp ?_
   | (apply K.g0; apply K.callF; first | refine cq (F := hD (by omega)) (G := ?_) | refine cq (F := hC) (G := ?_))
   | (refine WC.cond rfl ?_ ?_ <;> intro hb <;> (try have hb' := nrm hb) <;> try (exfalso; omega))
   | (apply K.rg 7; refine wdr [0, 0, 0, 6, 14, 31, 63] 5 [28, 29, 30, 31, 32] [] ?_)
   | refine dcl ?_)
  ·exact loopQ.n (k - 1) _ (by omega) ⟨i + 1, doW V (l.getD i default), by omega, by rw [play_snoc (by omega), hV], rfl⟩ (imp (look [(4, 4), (6, 6)]))
  ·obtain rfl : i = l.length := (by omega)
   rw [List.take_of_length_le (Nat.le_refl _)] at hV
   rw [← hV]; (exact ret2)
 ·rw [decide_eq_false h80, show (true && false) = false from rfl, if_neg Bool.false_ne_true]
  refine fP Tryz.func12 Tryz.ntmps12 Tryz.results12 ?_
  repeat' (first
   | refine stp ?_
   | (apply K.g0; apply K.callF; refine cq (F := hN) (G := ?_))
   | fail)
  (exact ret2)
theorem RvOK.pb {r : Rv} (h : RvOK r) {i : Nat} (hi : i < r.pieces.length) : (0 ≤ (r.pieces.getD i default).off ∧ (r.pieces.getD i default).off ≤ 30) ∧ (r.pieces.getD i default).off + ((r.pieces.getD i default).data.length : Int) ≤ 30 := by
 have h1 := pc_low h.pcs _ (getD_mem' hi)
 have h2 := h.lim
 have h3 := h.read
 have h4 := bl_nonneg (r.pieces.getD i default).data
 unfold Pc.fin at h1
 unfold bl at h1 h4
 omega
theorem waits_at {r : Rv} {x : Int} {i : Nat} (hi : i < r.pieces.length) (hn : ∀ j, j < i → (r.pieces.getD j default).holds x = false) (h : (r.pieces.getD i default).holds x = true) : waits r x = some ((r.pieces.getD i default).data.getD (x - (r.pieces.getD i default).off).toNat 0) := by
 unfold waits
 have : r.pieces.find? (fun p => p.holds x) = some (r.pieces.getD i default) := by
  rw [List.getD_eq_getElem?_getD, List.getElem?_eq_getElem hi] at h ⊢
  rw [List.find?_eq_some_iff_getElem]
  refine ⟨h, i, hi, rfl, fun j hj => ?_⟩
  have := hn j hj
  rw [List.getD_eq_getElem?_getD, List.getElem?_eq_getElem (by omega)] at this
  simpa using this
 rw [this]
theorem waits_no {r : Rv} {x : Int} (hn : ∀ j, j < r.pieces.length → (r.pieces.getD j default).holds x = false) : waits r x = none := by
 unfold waits
 rw [List.find?_eq_none.2]
 intro p hp
 obtain ⟨j, hj, rfl⟩ := mem_getD hp
 rw [hn j hj]
 exact Bool.false_ne_true
def waitR (o : Option UInt8) : AV := .tu [.d (.sc (.int .u8 ((o.getD 0).toNat : Int))), aB o.isSome]
theorem waitR_no (o : Option UInt8) : noId (waitR o) = true := rfl
theorem vmWaiting (r : Rv) (x : Int) (h : RvOK r) : FnP Tryz.prog 170 [.ag (av (eRv r)), aI x] (waitR (waits r x)) := by
 have hf := h.few
 refine FnP.intro Tryz.func170 rfl (by kernel_rfl) Tryz.ntmps170 Tryz.results170 (Nat.le_of_ble_eq_true rfl) (waitR_no _) ?_
 repeat' (first
  | refine stp ?_
  | fail)
 refine WC.loop (fun k s => ∃ i : Nat, k + i = r.pieces.length ∧ (∀ j, j < i → (r.pieces.getD j default).holds x = false) ∧ s = ⟨⟨30, []⟩, [(1, aI x), (2, .ptr 2 0), (9, .d (dL 2 ePc r.pieces)), (10, aI r.pieces.length), (11, aI (i : Nat))], [(2, .blk (av (eRv r)))]⟩) r.pieces.length ⟨0, rfl, fun j hj => absurd hj (Nat.not_lt_zero j), rfl⟩ (imp (look [(2, 2)])) ?_
 rintro k s ⟨i, hk, hn, rfl⟩
 by_cases hi : i < r.pieces.length
 ·have hb := h.pb hi
  have hE := vmPieceEnd (r.pieces.getD i default) (by omega) (by omega)
  have hW := vmWithin x (r.pieces.getD i default).off ((r.pieces.getD i default).fin - 1)
  have hfin : (r.pieces.getD i default).fin = (r.pieces.getD i default).off + ((r.pieces.getD i default).data.length : Int) := rfl
  cases hh : inB x (r.pieces.getD i default).off ((r.pieces.getD i default).fin - 1)
  ·rw [hh] at hW
   repeat' (first
    | refine stp ?_
    | (apply K.g0; apply K.callF; refine cq (F := hW) (G := ?_))
    | (apply KA.g0; apply KA.callF; refine cqa (F := hE) (G := ?_))
    | (apply K.rg 4; refine wdr [0, 0, 2, 0, 8, 24, 63] 6 [15, 16, 17, 18, 19, 20] [] ?_)
    | refine dcl ?_)
   exact loopQ.n (k - 1) _ (by omega) ⟨i + 1, by omega, fun j hj => (Nat.lt_succ_iff_lt_or_eq.1 hj).elim (hn j) (fun e => by rw [e]; exact hh), rfl⟩ (imp (look [(2, 2)]))
  ·rw [hh] at hW
   have hx := inB_iff.1 hh
   repeat' (first
    | (apply K.g0; apply K.index; refine R.op rfl (OT.atSz rfl rfl rfl rfl (by omega) (by omega)) rfl ?_)
    | refine stp ?_
    | (apply K.g0; apply K.callF; refine cq (F := hW) (G := ?_))
    | (apply KA.g0; apply KA.callF; refine cqa (F := hE) (G := ?_))
    | (apply K.rg 4; refine wdr [0, 0, 2, 0, 8, 24, 63] 6 [15, 16, 17, 18, 19, 20] [] ?_)
    | refine dcl ?_)
   rw [waits_at hi hn hh]; (exact ret2)
 ·obtain rfl : i = r.pieces.length := (by omega)
  repeat' (first
   | refine stp ?_
   | fail)
  rw [waits_no hn]; (exact ret2)
def clashAt (r : Rv) (off : Int) (d : Bs) (i : Nat) : Bool := match waits r (off + i) with
 | none => false
 | some c => c != d.getD i 0
theorem clash_eq (r : Rv) (off : Int) (d : Bs) : clash r off d = (List.range d.length).any (clashAt r off d) := rfl
theorem clashAt_none {r : Rv} {off : Int} {d : Bs} {i : Nat} (h : waits r (off + i) = none) : clashAt r off d i = false := by unfold clashAt; rw [h]
theorem clashAt_some {r : Rv} {off : Int} {d : Bs} {i : Nat} {c : UInt8} (h : waits r (off + i) = some c) : clashAt r off d i = (c != d.getD i 0) := by unfold clashAt; rw [h]
theorem clash_no2 {r : Rv} {off : Int} {d : Bs} (h : ∀ j, j < d.length → clashAt r off d j = false) : clash r off d = false := by
 rw [clash_eq, List.any_eq_false]
 intro j hj
 rw [h j (List.mem_range.1 hj)]
 exact Bool.false_ne_true
theorem clash_yes2 {r : Rv} {off : Int} {d : Bs} {i : Nat} (hi : i < d.length) (h : clashAt r off d i = true) : clash r off d = true := by rw [clash_eq]; exact List.any_eq_true.2 ⟨i, List.mem_range.2 hi, h⟩
theorem vmConflicts (r : Rv) (off : Int) (d : Bs) (h : RvOK r) (ho : 0 ≤ off ∧ off ≤ 30) (hd : d.length ≤ 12) : FnP Tryz.prog 173 [.ag (av (eRv r)), aI off, aS d] (aB (clash r off d)) := by
 refine fP Tryz.func173 Tryz.ntmps173 Tryz.results173 ?_
 repeat' (first
  | refine stp ?_
  | fail)
 refine WC.loop (fun k s => ∃ i : Nat, k + i = d.length ∧ (∀ j, j < i → clashAt r off d j = false) ∧ s = ⟨⟨32, []⟩, [(1, aI off), (2, aS d), (3, .ptr 3 0), (11, aI d.length), (12, aI (i : Nat))], [(3, .blk (av (eRv r)))]⟩) d.length ⟨0, rfl, fun j hj => absurd hj (Nat.not_lt_zero j), rfl⟩ (imp (look [(3, 3)])) ?_
 rintro k s ⟨i, hk, hn, rfl⟩
 have hW := vmWaiting r (off + i) h
 cases hw : waits r (off + i) with
 | none =>
   rw [hw] at hW
   repeat' (first
    | refine stp ?_
    | (apply K.g0; apply K.callF; refine cq (F := hW) (G := ?_))
    | (refine WC.cond rfl ?_ ?_ <;> intro hb <;> (try have hb' := nrm hb) <;> try (exfalso; omega)))
   all_goals first
    | (obtain rfl : i = d.length := (by omega)
       rw [clash_no2 hn]; (exact ret1))
    | (refine loopQ.n (k - 1) _ (by omega) ⟨i + 1, by omega, fun j hj => (Nat.lt_succ_iff_lt_or_eq.1 hj).elim (hn j) (fun e => by rw [e]; exact clashAt_none hw), rfl⟩ (imp (look [(3, 3)])); done)
 | some c =>
   rw [hw] at hW
   change FnP _ _ _ (.tu [.d (.sc (.int .u8 (c.toNat : Int))), aB true]) at hW
   have hcd : ((c.toNat : Int) = ((d.getD i 0).toNat : Int)) ↔ c = d.getD i 0 := ⟨fun e => UInt8.toNat_inj.1 (by omega), fun e => by rw [e]⟩
   repeat' (first
    | refine stp ?_
    | (apply K.g0; apply K.callF; refine cq (F := hW) (G := ?_))
    | (refine WC.cond rfl ?_ ?_ <;> intro hb <;> (try have hb' := nrm hb) <;> try (exfalso; omega)))
   all_goals first
    | (obtain rfl : i = d.length := (by omega)
       rw [clash_no2 hn]; (exact ret1))
    | (rw [clash_yes2 (i := i) (by omega) (by rw [clashAt_some hw]; simp only [bne_iff_ne, ne_eq]; intro e; exact absurd (hcd.2 e) (by assumption))]; (exact ret1))
    | (refine loopQ.n (k - 1) _ (by omega) ⟨i + 1, by omega, fun j hj => (Nat.lt_succ_iff_lt_or_eq.1 hj).elim (hn j) (fun e => by rw [e, clashAt_some hw]; simp only [bne_eq_false_iff_eq]; exact hcd.1 (by omega)), rfl⟩ (imp (look [(3, 3)])); done)
end Go.Proofs.YtjbhiglaginpeaaGreat
