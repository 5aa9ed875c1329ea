/- Parts of the proof, joined from several texts. No condition. -/
import Derived.Test.YtjbhiglaginpeaaGreatQ23
import Derived.Test.YtjbhiglaginpeaaGreatQ21
import Derived.Test.YtjbhiglaginpeaaGreatQ15
import Derived.Test.YtjbhiglaginpeaaGreatQ8
import Derived.Test.YtjbhiglaginpeaaGreatQ9
set_option maxRecDepth 100000
set_option maxHeartbeats 16000000
set_option linter.unusedVariables false
set_option linter.unusedSimpArgs false
namespace Go.Proofs.YtjbhiglaginpeaaGreat
open Go.RowKit
theorem rv_ok {r : Rv} (h : RvOK r) : rvValid r = true := (rv_iff r).2 h
theorem ls_ok {l : Ls} (h : LsOK l) : lsValid l = true := (ls_iff l).2 h
theorem RvOK.pcb {r : Rv} (h : RvOK r) : ∀ p ∈ r.pieces, p.data.length ≤ 10000000 ∧ (-9223372036854775808 ≤ p.off ∧ p.off ≤ 9223372036854775807) := fun p hp => by
 have h1 := pc_low h.pcs p hp
 have h2 := h.lim
 have h3 := h.read
 unfold Pc.fin bl at h1
 omega
theorem rt_delay2 {r : Rt} (h : rtValid r = true) : 1 ≤ rtDelay r ∧ rtDelay r ≤ 1998 := by
 unfold rtValid at h
 simp only [Bool.or_eq_true, Bool.and_eq_true, decide_eq_true_eq, inB_iff] at h
 unfold rtDelay
 simp only
 split
 ·omega
 ·rcases h with h | h
  ·contradiction
  ·omega
theorem vmRecvGrantYes (r : Rv) (b : Int) (h : RvOK r) (hb : r.limit ≤ b ∧ b ≤ 30) : FnP Tryz.prog 109 [.ag (av (eRv r)), aI b] (.tu [.ag (av (eRv { r with limit := b })), aB true]) := by
 have hf := h.few
 have h2 := h.lim
 have hv := vmRecvValid r (by omega) h.pcb
 rw [rv_ok h] at hv
 have hw := vmWithin b 0 30
 rw [inB_iff.2 (by omega)] at hw
 refine fP Tryz.func109 Tryz.ntmps109 Tryz.results109 ?_
 repeat' (first
  | refine stp ?_
  | (apply K.g0; apply K.callF; first | refine cq (F := hv) (G := ?_) | refine cq (F := vmCopyRecv r (by omega)) (G := ?_))
  | (apply K.g1; apply K.callF; refine cqt (F := hw) (G := ?_))
  | fail)
 (exact ret2)
theorem vmRecvGrantNo (r : Rv) (b : Int) (h : RvOK r) (hb : ¬ (r.limit ≤ b ∧ b ≤ 30)) : FnP Tryz.prog 109 [.ag (av (eRv r)), aI b] (.tu [.un, aB false]) := by
 have hf := h.few
 have h2 := h.lim
 have hv := vmRecvValid r (by omega) h.pcb
 rw [rv_ok h] at hv
 refine fP Tryz.func109 Tryz.ntmps109 Tryz.results109 ?_
 repeat' (first
  | refine stp ?_
  | (apply K.g0; apply K.callF; first | refine cq (F := hv) (G := ?_) | refine cq (F := vmCopyRecv r (by omega)) (G := ?_))
  | (apply K.g1; apply K.callF; refine cqt (F := vmWithin b 0 30) (G := ?_))
  | (refine WC.cond rfl ?_ ?_ <;> intro hb <;> (try have hb' := nrmI hb) <;> try (exfalso; omega)))
 all_goals (exact ret2)
theorem vmCopyLossH (x : Ls) (h : x.flight.length ≤ 10000000) : FnH Tryz.prog 91 [] [.ag (av (eLs x))] [] (.ag [aI x.next, .own 900 x.flight.length, aI x.largest]) [(900, hL 114 3 ePk x.flight)] := by
 refine fH Tryz.func91 Tryz.ntmps91 Tryz.results91 ?_
 repeat' (first
  | refine stp ?_
  | (apply K.g0; apply K.callF; refine cn (F := vmCloneFlight _ h) (G := ?_))
  | fail)
 first | exact reth0 (look [(900, 5)]) | exact reth1 (look [(900, 5)])
theorem vmCopyRecvH (x : Rv) (h : x.pieces.length ≤ 10000000) : FnH Tryz.prog 86 [] [.ag (av (eRv x))] [] (.ag [aI x.read, .own 900 x.pieces.length, aI x.final, aI x.limit]) [(900, hL 50 2 ePc x.pieces)] := by
 refine fH Tryz.func86 Tryz.ntmps86 Tryz.results86 ?_
 repeat' (first
  | refine stp ?_
  | (apply K.g0; apply K.callF; refine cn (F := vmClonePieces _ h) (G := ?_))
  | fail)
 first | exact reth0 (look [(900, 5)]) | exact reth1 (look [(900, 5)])
theorem vmLossSend (x : Ls) (t z : Int) (h : LsOK x) (ht : 0 ≤ t ∧ t ≤ 999) (hz : 1 ≤ z ∧ z ≤ 99) : FnP Tryz.prog 103 [.ag (av (eLs x)), aI t, aI z] (sndR x (lsSend x t z)) := by
 have b1 := h.few
 have b3 := h.next
 have hv := vmLossValid x (by omega)
 rw [ls_ok h] at hv
 have h1 := vmWithin t 0 999
 rw [inB_iff.2 ht] at h1
 have h2 := vmWithin z 1 99
 rw [inB_iff.2 hz] at h2
 refine FnP.intro Tryz.func103 rfl (by kernel_rfl) Tryz.ntmps103 Tryz.results103 (Nat.le_of_ble_eq_true rfl) (sndR_no _ _) ?_
 repeat' (first
  | refine stp ?_
  | (apply K.g0; apply K.callF; first | refine chq (F := vmCopyLossH x (by omega)) (G := ?_) | refine cq (F := hv) (G := ?_))
  | (apply K.g1; apply K.callF; first | refine cqt (F := h1) (G := ?_) | refine cqt (F := h2) (G := ?_))
  | (refine R.gS rfl rfl rfl ?_ ?_ <;> intro hb <;> (try have hb' := nrm hb) <;> try (exfalso; omega))
  | (refine WC.cond rfl ?_ ?_ <;> intro hb <;> (try have hb' := nrm hb) <;> try (exfalso; omega))
  | (apply K.rg 9; refine WC.drawD (ms := [0, 0, 2, 1, 15, 31]) 4 [69, 70, 71] [(3, [6])] (by kernel_rfl) (by kernel_rfl) ?_)
  | refine dcl ?_)
 all_goals (first
  | (rw [lsSend_no (by omega)]; (exact ret3))
  | (rw [lsSend_yes (by omega) (by omega) (by omega)]; (exact ret3)))
theorem vmLossAck (l : Ls) (acked : List Rg) (now delay : Int) (hl : LsOK l) (hv : acked.length ≤ 16 ∧ rgOk (-2) acked) (hbel : rgBelow acked l.next) (hn : 0 ≤ now ∧ now ≤ 999) (hd : 1 ≤ delay ∧ delay ≤ 1998) : FnP Tryz.prog 175 [.ag (av (eLs l)), .d (dL 2 eRg acked), aI now, aI delay] (.tu [.ag (av (eLs (lsAck l acked now delay).1)), .d (dL 1 eIn (lsAck l acked now delay).2.1), .d (dL 1 eIn (lsAck l acked now delay).2.2), aB true]) := by
 have b1 := hl.few
 have b2 := hl.top
 have b3 := hl.next
 have hBd : RgBd acked := rgOk_bd hv.2 (Int.le_refl _)
 have htl := topOf_lt hbel b3.1
 have hlast : 0 < acked.length → (acked.getD ((acked.length : Int) - 1).toNat default).hi < l.next := fun h => by rw [← top_last h]; exact htl
 obtain ⟨top, hE⟩ : ∃ top, max l.largest (topOf acked) = top := ⟨_, rfl⟩
 have hT0 : ¬ 0 < acked.length → l.largest = top := fun h => by rw [← hE, top_nil h]; omega
 have hT1 : 0 < acked.length → max l.largest (acked.getD ((acked.length : Int) - 1).toNat default).hi = top := fun h => by rw [← hE, top_last h]
 have hm : -1 ≤ top := by omega
 have hmx : top ≤ 1000000 := by omega
 have hV := vmLossValid l (by omega)
 rw [ls_ok hl] at hV
 have hR := vmRangesValid acked (by omega)
 rw [(rgValid_iff acked).2 hv] at hR
 have h1 := vmWithin now 0 999
 rw [inB_iff.2 hn] at h1
 have h2 := vmWithin delay 1 1998
 rw [inB_iff.2 hd] at h2
 refine fP Tryz.func175 Tryz.ntmps175 Tryz.results175 ?_
 repeat' (first
  | refine stp ?_
  | (apply K.g0; apply K.callF; refine cq (F := hV) (G := ?_))
  | (apply K.g1; apply K.callF; first | refine cqt (F := hR) (G := ?_) | refine cqt (F := h1) (G := ?_) | refine cqt (F := h2) (G := ?_))
  | (refine WC.cond rfl ?_ ?_ <;> intro hb <;> (try have hb' := nrm hb) <;> try (exfalso; omega)))
 all_goals
  refine WC.loop (fun k s => ∃ i F G L, k + i = l.flight.length ∧ F = ackF (l.flight.take i) acked top now delay ∧ G = ackG (l.flight.take i) acked ∧ L = ackL (l.flight.take i) acked top now delay ∧ s = ⟨⟨116, []⟩, [(1, .d (dL 2 eRg acked)), (2, aI now), (3, aI delay), (4, .ptr 4 0), (8, .ptr 8 0), (12, .ptr 12 0), (14, .own 701 G.length), (15, .own 702 L.length), (63, .d (dL 3 ePk l.flight)), (64, aI l.flight.length), (65, aI (i : Nat))], [(4, .blk (av (eLs l))), (8, .blk [.un, .un, .un]), (12, .blk [aI l.next, .own 700 F.length, aI top]), (700, hL 114 3 ePk F), (701, hL 3 1 eIn G), (702, hL 3 1 eIn L)]⟩) l.flight.length ⟨0, [], [], [], rfl, rfl, rfl, rfl, rfl⟩ ?_ ?_
  ·first
    | (rw [← hT1 (by omega)]; exact imp (look [(4, 4), (8, 8), (12, 12)]))
    | (rw [← hT0 (by omega)]; exact imp (look [(4, 4), (8, 8), (12, 12)]))
  rintro k s ⟨i, F, G, L, hk, hF, hG, hL, rfl⟩
  have f1 : F.length ≤ 1000 := by rw [hF]; exact Nat.le_trans (List.length_filter_le _ _) (by rw [List.length_take]; omega)
  have f2 : G.length ≤ 1000 := by rw [hG]; unfold ackG; rw [List.length_map]; exact Nat.le_trans (List.length_filter_le _ _) (by rw [List.length_take]; omega)
  have f3 : L.length ≤ 1000 := by rw [hL]; unfold ackL; rw [List.length_map]; exact Nat.le_trans (List.length_filter_le _ _) (by rw [List.length_take]; omega)
  have hp : i < l.flight.length → 0 ≤ (l.flight.getD i default).num ∧ (l.flight.getD i default).num ≤ 1000 := fun h => by
   have := (hl.pk _ (getD_mem' h)).1
   omega
  have hx : i < l.flight.length → ¬ (l.flight.length ≤ i) := fun h => by omega
  repeat' (first
   | refine stp ?_
   | (apply K.g0; apply K.callF; refine cq (F := vmHas acked _ hBd) (G := ?_))
   | (refine R.gS rfl rfl rfl ?_ ?_ <;> intro hb <;> (try have hb' := nrm hb) <;> try (exfalso; omega))
   | (refine WC.cond rfl ?_ ?_ <;> intro hb <;> (try have hb' := nrm hb) <;> try (exfalso; omega)))
  all_goals first
   | (obtain rfl : i = l.flight.length := (by omega)
      rw [List.take_of_length_le (Nat.le_refl _)] at hF hG hL
      rw [show lsAck l acked now delay = (⟨l.next, F, top⟩, G, L) from by rw [hF, hG, hL, ← hE]; rfl]; (exact ret4))
   | (refine loopQ.n (k - 1) _ (by omega) ⟨i + 1, F, G ++ [(l.flight.getD i default).num], L, by omega, hF.trans (ack_1 (by omega) (by assumption)).1.symm, ((ack_1 (top := top) (now := now) (delay := delay) (by omega) (by assumption)).2.1.trans (by rw [hG])).symm, hL.trans (ack_1 (by omega) (by assumption)).2.2.symm, rfl⟩ (imp (look [(4, 4), (8, 8), (12, 12), (700, 700), (701, 84), (702, 702)])); done)
   | (refine loopQ.n (k - 1) _ (by omega) ⟨i + 1, F, G, L ++ [(l.flight.getD i default).num], by omega, hF.trans (ack_2 (by omega) (by assumption) (by omega) (by omega)).1.symm, hG.trans (ack_2 (top := top) (now := now) (delay := delay) (by omega) (by assumption) (by omega) (by omega)).2.1.symm, ((ack_2 (by omega) (by assumption) (by omega) (by omega)).2.2.trans (by rw [hL])).symm, rfl⟩ (imp (look [(4, 4), (8, 8), (12, 12), (700, 700), (701, 701), (702, 111)])); done)
   | (refine loopQ.n (k - 1) _ (by omega) ⟨i + 1, F ++ [l.flight.getD i default], G, L, by omega, ((ack_3 (by omega) (by assumption) (by omega)).1.trans (by rw [hF])).symm, hG.trans (ack_3 (top := top) (now := now) (delay := delay) (by omega) (by assumption) (by omega)).2.1.symm, hL.trans (ack_3 (by omega) (by assumption) (by omega)).2.2.symm, rfl⟩ (imp (look [(4, 4), (8, 8), (12, 12), (700, 73), (701, 701), (702, 702)])); done)
end Go.Proofs.YtjbhiglaginpeaaGreat
