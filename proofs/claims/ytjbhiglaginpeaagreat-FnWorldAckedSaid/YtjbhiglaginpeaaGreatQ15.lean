/- Parts of the proof, joined from several texts. No condition. -/
import Derived.Test.YtjbhiglaginpeaaGreatQ8
set_option maxRecDepth 100000
set_option maxHeartbeats 16000000
set_option linter.unusedVariables false
set_option linter.unusedSimpArgs false
namespace Go.Proofs.YtjbhiglaginpeaaGreat
open Go.RowKit
def nxtR (s : Sd) : Option (Sd × Pt) → AV
 | some (x, p) => .tu [.ag (av (eSd x)), .ag (av (ePt p)), aB true]
 | none => .tu [.ag (av (eSd s)), .ag (av (ePt ⟨0, [], false⟩)), aB false]
theorem nxtR_no (s : Sd) (o : Option (Sd × Pt)) : noId (nxtR s o) = true := by rcases o with _ | ⟨x, p⟩ <;> rfl
theorem sNext_lost {s : Sd} {size hi : Int} (h : 0 < s.lost.length) (hh : hi = if (s.lost.getD 0 default).hi < bl s.data ∨ size < (s.lost.getD 0 default).hi - (s.lost.getD 0 default).lo then min (s.lost.getD 0 default).hi ((s.lost.getD 0 default).lo + size - 1) else (s.lost.getD 0 default).hi) : sNext s size = some ({ s with lost := remP s.lost (s.lost.getD 0 default).lo hi }, sPart s (s.lost.getD 0 default).lo hi) := by
 subst hh
 unfold sNext
 cases hl : s.lost with
 | nil => rw [hl] at h; simp at h
 | cons r t => rfl
def e0 (s : Sd) (size : Int) : Int := min (min (s.data.length : Int) s.limit) (s.next + size)
theorem sNext_e {s : Sd} {size : Int} (h : s.lost.length = 0) : sNext s size = if (if (s.fin && decide (e0 s size = s.data.length)) = true then e0 s size + 1 else e0 s size) ≤ s.next then none else some ({ s with next := if (s.fin && decide (e0 s size = s.data.length)) = true then e0 s size + 1 else e0 s size }, sPart s s.next ((if (s.fin && decide (e0 s size = s.data.length)) = true then e0 s size + 1 else e0 s size) - 1)) := by
 unfold sNext
 rw [List.length_eq_zero_iff.1 h]
 rfl
theorem sNext_1 {s : Sd} {size : Int} (h : s.lost.length = 0) (hf : s.fin = true) (he : e0 s size = s.data.length) (hn : e0 s size + 1 ≤ s.next) : sNext s size = none := by rw [sNext_e h, hf, decide_eq_true he]; exact if_pos hn
theorem sNext_2 {s : Sd} {size : Int} (h : s.lost.length = 0) (hf : s.fin = true) (he : e0 s size = s.data.length) (hn : ¬ e0 s size + 1 ≤ s.next) : sNext s size = some ({ s with next := e0 s size + 1 }, sPart s s.next (e0 s size + 1 - 1)) := by rw [sNext_e h, hf, decide_eq_true he]; exact if_neg hn
theorem sNext_3 {s : Sd} {size : Int} (h : s.lost.length = 0) (hc : s.fin = false ∨ ¬ e0 s size = s.data.length) (hn : e0 s size ≤ s.next) : sNext s size = none := by
 rw [sNext_e h, show (s.fin && decide (e0 s size = s.data.length)) = false from by rcases hc with hc | hc <;> simp [hc]]; exact if_pos hn
theorem sNext_4 {s : Sd} {size : Int} (h : s.lost.length = 0) (hc : s.fin = false ∨ ¬ e0 s size = s.data.length) (hn : ¬ e0 s size ≤ s.next) : sNext s size = some ({ s with next := e0 s size }, sPart s s.next (e0 s size - 1)) := by
 rw [sNext_e h, show (s.fin && decide (e0 s size = s.data.length)) = false from by rcases hc with hc | hc <;> simp [hc]]; exact if_neg hn
theorem vl32Next (s : Sd) (size : Int) (hs : SdOK s) (hz : 1 ≤ size ∧ size ≤ 12) : FnP Tryz.prog 113 [.ag (av (eSd s)), aI size] (nxtR s (sNext s size)) := by
 obtain ⟨f1, f2⟩ := hs.few
 obtain ⟨⟨b0, b1⟩, b2⟩ := hs.bds
 have b3 := hs.lim
 have b4 := hs.nx
 have hL : 0 < s.lost.length → 0 ≤ (s.lost.getD 0 default).lo ∧ (s.lost.getD 0 default).lo ≤ (s.lost.getD 0 default).hi ∧ (s.lost.getD 0 default).hi < s.next := fun h => lost_first hs h
 refine FnP.intro Tryz.func113 rfl (by kernel_rfl) Tryz.ntmps113 Tryz.results113 (Nat.le_of_ble_eq_true rfl) (nxtR_no _ _) ?_
 repeat' (first
  | refine stp ?_
  | (apply K.g0; apply K.callF; first | refine cq (F := vl32Copy s (by omega) (by omega)) (G := ?_) | refine cq (F := vl2Remove s.lost _ _ (by omega) (by omega) (by omega)) (G := ?_))
  | (apply KA.g0; apply KA.callF; refine cqa (F := vl32Part s _ _ (by omega) (by omega) (by omega)) (G := ?_))
  | (refine R.gS rfl rfl rfl ?_ ?_ <;> intro hb <;> (try have hb' := nrm hb) <;> try (exfalso; omega))
  | (refine WC.cond rfl ?_ ?_ <;> intro hb <;> (try have hb' := nrm hb) <;> try (exfalso; omega))
  | (apply K.rg 8; refine wdr [0, 0, 0, 0, 14, 31, 63, 127] 5 [51, 52, 53, 54, 55] [] ?_)
  | (apply K.rg 15; refine wdr [0, 0, 0, 4, 0, 16, 62, 127, 255, 511] 7 [85, 86, 87, 88, 89, 90, 91] [] ?_)
  | refine dcl ?_)
 all_goals first
  | (rw [sNext_lost (by omega) (if_pos (by unfold bl; omega)).symm]; (exact ret3))
  | (rw [sNext_lost (by omega) (if_neg (by unfold bl; omega)).symm]; (exact ret3))
  | (rw [sNext_1 (by omega) (by assumption) (by unfold e0; omega) (by unfold e0; omega)]; (exact ret3))
  | (rw [sNext_2 (by omega) (by assumption) (by unfold e0; omega) (by unfold e0; omega)]; (exact ret3))
  | (rw [sNext_3 (by omega) (by first | exact .inl (by assumption) | exact .inr (by unfold e0; omega)) (by unfold e0; omega)]; (exact ret3))
  | (rw [sNext_4 (by omega) (by first | exact .inl (by assumption) | exact .inr (by unfold e0; omega)) (by unfold e0; omega)]; (exact ret3))
def ackR (x : Ls × List Int × List Int) : AV := .tu [.ag (av (eLs x.1)), .d (dL 1 eIn x.2.1), .d (dL 1 eIn x.2.2)]
def ackF (l : List Pk) (acked : List Rg) (top now delay : Int) : List Pk := l.filter fun p => !isDone acked p && !isLost acked top now delay p
def ackG (l : List Pk) (acked : List Rg) : List Int := (l.filter (isDone acked)).map Pk.num
def ackL (l : List Pk) (acked : List Rg) (top now delay : Int) : List Int := (l.filter (isLost acked top now delay)).map Pk.num
theorem ack_1 {l : List Pk} {acked : List Rg} {top now delay : Int} {i : Nat} (h : i < l.length) (hd : hasR acked (l.getD i default).num = true) :
 ackF (l.take (i + 1)) acked top now delay = ackF (l.take i) acked top now delay ∧ ackG (l.take (i + 1)) acked = ackG (l.take i) acked ++ [(l.getD i default).num] ∧ ackL (l.take (i + 1)) acked top now delay = ackL (l.take i) acked top now delay := by
 have h3 : isLost acked top now delay (l.getD i default) = false := by unfold isLost; rw [hd]; rfl
 have h4 : isDone acked (l.getD i default) = true := hd
 simp only [take_snoc h, ackF, ackG, ackL, List.filter_append, List.filter_cons, List.filter_nil, h3, h4, List.map_append]
 simp
theorem ack_2 {l : List Pk} {acked : List Rg} {top now delay : Int} {i : Nat} (h : i < l.length) (hd : hasR acked (l.getD i default).num = false) (h1 : (l.getD i default).num < top) (h2 : (l.getD i default).num ≤ top - 3 ∨ (l.getD i default).time ≤ now - delay) :
 ackF (l.take (i + 1)) acked top now delay = ackF (l.take i) acked top now delay ∧ ackG (l.take (i + 1)) acked = ackG (l.take i) acked ∧ ackL (l.take (i + 1)) acked top now delay = ackL (l.take i) acked top now delay ++ [(l.getD i default).num] := by
 have h3 : isLost acked top now delay (l.getD i default) = true := by unfold isLost; rw [hd, decide_eq_true h1]; simpa using h2
 have h4 : isDone acked (l.getD i default) = false := hd
 simp only [take_snoc h, ackF, ackG, ackL, List.filter_append, List.filter_cons, List.filter_nil, h3, h4, List.map_append]
 simp
theorem ack_3 {l : List Pk} {acked : List Rg} {top now delay : Int} {i : Nat} (h : i < l.length) (hd : hasR acked (l.getD i default).num = false) (h1 : ¬ (l.getD i default).num < top ∨ (¬ (l.getD i default).num ≤ top - 3 ∧ ¬ (l.getD i default).time ≤ now - delay)) :
 ackF (l.take (i + 1)) acked top now delay = ackF (l.take i) acked top now delay ++ [l.getD i default] ∧ ackG (l.take (i + 1)) acked = ackG (l.take i) acked ∧ ackL (l.take (i + 1)) acked top now delay = ackL (l.take i) acked top now delay := by
 have h3 : isLost acked top now delay (l.getD i default) = false := by
  unfold isLost
  rw [hd]
  rcases h1 with h1 | ⟨h1, h2⟩
  ·rw [decide_eq_false h1]; simp
  ·rw [decide_eq_false h1, decide_eq_false h2]; simp
 have h4 : isDone acked (l.getD i default) = false := hd
 simp only [take_snoc h, ackF, ackG, ackL, List.filter_append, List.filter_cons, List.filter_nil, h3, h4, List.map_append]
 simp
theorem top_last {l : List Rg} (h : 0 < l.length) : topOf l = (l.getD ((l.length : Int) - 1).toNat default).hi := by
 have e : ((l.length : Int) - 1).toNat = l.length - 1 := by omega
 unfold topOf
 rw [e, List.getLast?_eq_getElem?, List.getD_eq_getElem?_getD, List.getElem?_eq_getElem (by omega)]
 rfl
theorem top_nil {l : List Rg} (h : ¬ (0 < l.length)) : topOf l = -1 := by
 have h0 : l = [] := List.length_eq_zero_iff.1 (by omega)
 rw [h0]
 rfl
theorem vl22Ack (l : Ls) (acked : List Rg) (now delay : Int) (hl : LsOK l) (h : acked.length ≤ 1000) (hn : 0 ≤ now ∧ now ≤ 999) (hd : 0 ≤ delay ∧ delay ≤ 100000) (hTb : max l.largest (topOf acked) ≤ 1000000) : FnP Tryz.prog 189 [.ag (av (eLs l)), .d (dL 2 eRg acked), aI now, aI delay] (ackR (lsAck l acked now delay)) := by
 have b1 := hl.few
 have b2 := hl.top
 have b3 := hl.next
 obtain ⟨top, hE⟩ : ∃ top, max l.largest (topOf acked) = top := ⟨_, rfl⟩
 have hT0 : ¬ 0 < acked.length → l.largest = top := fun h => by rw [← hE, top_nil h]; omega
 have hT1 : 0 < acked.length → max l.largest (acked.getD ((acked.length : Int) - 1).toNat default).hi = top := fun h => by rw [← hE, top_last h]
 have hm : -1 ≤ top := by omega
 have hmx : top ≤ 1000000 := by omega
 refine fP Tryz.func189 Tryz.ntmps189 Tryz.results189 ?_
 repeat' (first
  | refine stp ?_
  | (refine WC.cond rfl ?_ ?_ <;> intro hb <;> (try have hb' := nrm hb) <;> try (exfalso; omega))
  | (apply K.rg 5; refine wdr [0, 1, 0, 0, 8, 24, 60, 124, 252, 511, 1023, 2047] 9 [27, 28, 29, 30, 31, 32, 33, 34, 35] [] ?_)
  | refine dcl ?_)
 all_goals
  refine WC.loop (fun k s => ∃ i F G L, k + i = l.flight.length ∧ F = ackF (l.flight.take i) acked top now delay ∧ G = ackG (l.flight.take i) acked ∧ L = ackL (l.flight.take i) acked top now delay ∧ s = ⟨⟨96, []⟩, [(1, .d (dL 2 eRg acked)), (2, aI now), (3, aI delay), (4, .ptr 4 0), (8, .ptr 8 0), (11, .ptr 11 0), (12, .own 701 G.length), (13, .own 702 L.length), (14, aI i)], [(4, .blk (av (eLs l))), (8, .blk [.un, .un, .un]), (11, .blk [aI l.next, .own 700 F.length, aI top]), (700, hL 114 3 ePk F), (701, hL 3 1 eIn G), (702, hL 3 1 eIn L)]⟩) l.flight.length ⟨0, [], [], [], rfl, rfl, rfl, rfl, rfl⟩ ?_ ?_
  ·first
    | (rw [← hT1 (by omega)]; exact imp (look [(4, 4), (8, 8), (11, 11)]))
    | (rw [← hT0 (by omega)]; exact imp (look [(4, 4), (8, 8), (11, 11)]))
  rintro k s ⟨i, F, G, L, hk, hF, hG, hL, rfl⟩
  have f1 : F.length ≤ 1000 := by rw [hF]; exact Nat.le_trans (List.length_filter_le _ _) (by rw [List.length_take]; omega)
  have f2 : G.length ≤ 1000 := by rw [hG]; unfold ackG; rw [List.length_map]; exact Nat.le_trans (List.length_filter_le _ _) (by rw [List.length_take]; omega)
  have f3 : L.length ≤ 1000 := by rw [hL]; unfold ackL; rw [List.length_map]; exact Nat.le_trans (List.length_filter_le _ _) (by rw [List.length_take]; omega)
  have hp : i < l.flight.length → 0 ≤ (l.flight.getD i default).num ∧ (l.flight.getD i default).num ≤ 1000 := fun h => by
   have := (hl.pk _ (getD_mem' h)).1
   omega
  have hx : i < l.flight.length → ¬ (l.flight.length ≤ i) := fun h => by omega
  repeat' (first
   | refine stp ?_
   | (apply K.g0; apply K.callF; refine cq (F := vl2Has acked _ (by omega)) (G := ?_))
   | (refine R.gS rfl rfl rfl ?_ ?_ <;> intro hb <;> (try have hb' := nrm hb) <;> try (exfalso; omega))
   | (refine WC.cond rfl ?_ ?_ <;> intro hb <;> (try have hb' := nrm hb) <;> try (exfalso; omega)))
  all_goals first
   | (obtain rfl : i = l.flight.length := (by omega)
      rw [List.take_of_length_le (Nat.le_refl _)] at hF hG hL
      rw [show lsAck l acked now delay = (⟨l.next, F, top⟩, G, L) from by rw [hF, hG, hL, ← hE]; rfl]; (exact ret3))
   | (refine loopQ.n (k - 1) _ (by omega) ⟨i + 1, F, G ++ [(l.flight.getD i default).num], L, by omega, hF.trans (ack_1 (by omega) (by assumption)).1.symm, ((ack_1 (top := top) (now := now) (delay := delay) (by omega) (by assumption)).2.1.trans (by rw [hG])).symm, hL.trans (ack_1 (by omega) (by assumption)).2.2.symm, rfl⟩ (imp (look [(4, 4), (8, 8), (11, 11), (700, 700), (701, 65), (702, 702)])); done)
   | (refine loopQ.n (k - 1) _ (by omega) ⟨i + 1, F, G, L ++ [(l.flight.getD i default).num], by omega, hF.trans (ack_2 (by omega) (by assumption) (by omega) (by omega)).1.symm, hG.trans (ack_2 (top := top) (now := now) (delay := delay) (by omega) (by assumption) (by omega) (by omega)).2.1.symm, ((ack_2 (by omega) (by assumption) (by omega) (by omega)).2.2.trans (by rw [hL])).symm, rfl⟩ (imp (look [(4, 4), (8, 8), (11, 11), (700, 700), (701, 701), (702, 92)])); done)
   | (refine loopQ.n (k - 1) _ (by omega) ⟨i + 1, F ++ [l.flight.getD i default], G, L, by omega, ((ack_3 (by omega) (by assumption) (by omega)).1.trans (by rw [hF])).symm, hG.trans (ack_3 (top := top) (now := now) (delay := delay) (by omega) (by assumption) (by omega)).2.1.symm, hL.trans (ack_3 (by omega) (by assumption) (by omega)).2.2.symm, rfl⟩ (imp (look [(4, 4), (8, 8), (11, 11), (700, 54), (701, 701), (702, 702)])); done)
end Go.Proofs.YtjbhiglaginpeaaGreat
