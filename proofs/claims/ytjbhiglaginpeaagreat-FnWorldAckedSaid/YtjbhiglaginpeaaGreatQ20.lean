/- Parts of the proof, joined from several texts. No condition. -/
import Derived.Test.YtjbhiglaginpeaaGreatQ16
import Derived.Test.YtjbhiglaginpeaaGreatQ15
import Derived.Test.YtjbhiglaginpeaaGreatQ9
import Derived.Test.YtjbhiglaginpeaaGreatQ8
set_option maxRecDepth 100000
set_option maxHeartbeats 16000000
set_option linter.unusedVariables false
set_option linter.unusedSimpArgs false
namespace Go.Proofs.YtjbhiglaginpeaaGreat
open Go.RowKit
theorem eIn_getD {l : List Int} {i : Nat} (h : i < l.length) : l[i]? = some (l.getD i default) := by rw [List.getD_eq_getElem?_getD, List.getElem?_eq_getElem h]; rfl
def dropL (W V : Wd) (ws : List Wn) : List AV := [aI W.now, .own 901 V.sends.length, .d (dL 4 eRv W.recvs), .d (dL 1 eBs W.got), .own 904 W.paths.length, .own 905 W.rtts.length, .d (dL 4 eWn ws), .d (dL 1 eSn W.seen), .d (dL 6 eCd V.carried), .d (dL 9 eWi W.net)]
theorem vl51Acked (W : Wd) (hW : WdOK W) (p : Nat) (hp : p < 4) (acked : List Rg) (ha : AckIn W p acked) (hl : acked.length ≤ 1000) : FnP Tryz.prog 163 [.ag (av (eWd W)), aI p, .d (dL 2 eRg acked)] (.ag (av (eWd (doAck W p acked)))) := by
 have l1 := hW.sends; have l4 := hW.paths; have l5 := hW.rtts; have l6 := hW.windows
 have hpt := hW.path p hp
 have hrd := rt_delay hpt.rt
 have hnow := hW.now
 have htop : max (W.paths.getD p default).largest (topOf acked) ≤ 1000000 := by
  have h1 := topOf_lt ha.below hpt.ls.next.1
  have h2 := hpt.ls.top
  have h3 := hpt.ls.next
  change max (W.ls p).largest (topOf acked) ≤ 1000000
  omega
 have hok := ack_ok hW hp ha
 have hE := fun V hV => doAck_eq hW hp ha (V := V) hV
 have hA := vl22Ack (W.paths.getD p default) acked W.now (rtDelay (W.rtts.getD p default)) hpt.ls hl hnow hrd htop
 change FnP _ _ _ (ackR (ackX W p acked)) at hA
 generalize ackX W p acked = x at hok hE hA
 obtain ⟨l, done, lost⟩ := x
 have hf1 := hok.few.1
 have hf2 := hok.few.2
 dsimp only at hf1 hf2 hE
 have e0 : ({ W with paths := W.paths } : Wd) = W := rfl
 refine fP Tryz.func163 Tryz.ntmps163 Tryz.results163 ?_
 repeat' (first
  | refine stp ?_
  | (apply K.g0; apply K.callF; refine chq (F := vl51CopyS W hW.sz) (G := ?_))
  | (apply KA.g0; apply KA.callF; first | refine cqa (F := vlRttLossDelay _ hpt.rt) (G := ?_) | refine cqa (F := hA) (G := ?_))
  | (apply K.rg 2; refine WC.drawD (ms := [0, 1, 0, 7, 15, 0, 0, 64, 0, 256, 0, 1792, 3840, 7936, 16383, 32767, 65535, 65535, 65535, 0, 655359, 1835007, 4194303]) 22 [16, 17, 18, 19, 20, 21, 22, 23, 24, 25, 26, 27, 28, 29, 30, 15, 31, 32, 33, 7, 8] [(20, [7])] (by kernel_rfl) (by kernel_rfl) ?_)
  | refine dcl ?_)
 refine WC.loop (fun k s => ∃ (i : Nat) (V : Wd), k + i = done.length ∧ V = ackAll W p (done.take i) ∧ s = ⟨⟨110, []⟩, [(1, aI p), (2, .d (dL 2 eRg acked)), (3, .ptr 3 0), (6, .ptr 6 0), (7, .ptr 7 0), (8, .d (dL 1 eIn done)), (9, .d (dL 1 eIn lost)), (10, aI (i : Nat))], [(3, .blk (dropL W V V.windows)), (6, .blk [.un, .un, .un, .un, .un, .un, .un, .un, .un, .un]), (7, .blk (av (eLs l))), (901, hL 42 6 eSd V.sends), (904, hL 75 3 eLs W.paths), (905, hL 77 4 eRt W.rtts)]⟩) done.length ⟨0, W, rfl, rfl, rfl⟩ (imp (look [(3, 3), (6, 6), (7, 7), (901, 901), (904, 904), (905, 905)])) ?_
 rintro k s ⟨i, U, hk, hU, rfl⟩
 by_cases hi : i < done.length
 ·obtain ⟨q, hq, hs, hw1, hw2⟩ := ack_at (P := W.paths) hW (by omega) (mid_start hW p W.paths) hok.done (by rw [List.nil_append]; exact (List.nodup_append.1 hok.nodup).1) (eIn_getD hi)
  rw [e0] at hq hs hw1 hw2
  have hs'' : ackAll W p (done.take (i + 1)) = _ := hs.trans hq.ack
  change DropOK (ackAll W p (done.take i)) p _ q at hq
  change (ackAll W p (done.take i)).windows.length = 4 at hw1
  change wnsValid (ackAll W p (done.take i)).windows = true at hw2
  change _ = ({ ackAll W p (done.take i) with carried := _, sends := _, windows := _ } : Wd) at hs''
  rw [← hU] at hq hw1 hw2 hs''
  clear hs hU hE
  have hq3 := hq.sends
  have hq4 := hq.few
  have hqs := hq.st
  have hD := vl51Drop W U.sends U.carried U.windows p _ true q hq.at_ hq.lt (by omega) (by omega) (by omega) hq.sd hq.sent
  have hWn := vl23Ack U.windows p hw2 (by omega)
  have hlt := hq.lt
  clear hq
  repeat' (first
   | refine stp ?_
   | (apply K.g0; apply K.callF; first | refine chq (F := hD) (G := ?_) | refine cq (F := hWn) (G := ?_))
   | (apply K.rg 6; refine wdr [0, 0, 0, 0, 12, 28, 63, 127] 6 [40, 41, 42, 43, 44, 45] [] ?_)
   | refine dcl ?_)
  exact loopQ.n (k - 1) _ (by omega) ⟨i + 1, _, by omega, hs''.symm, rfl⟩ (imp (look [(3, 3), (6, 6), (7, 7), (901, 901), (904, 904), (905, 905)]))
 obtain rfl : i = done.length := (by omega)
 rw [List.take_of_length_le (Nat.le_refl _)] at hU
 have m1 := mid_ackAll hW (p := (p : Int)) (by omega) done [] (mid_start hW p W.paths) hok.done (by rw [List.nil_append]; exact (List.nodup_append.1 hok.nodup).1)
 rw [List.nil_append, e0] at m1
 change Mid W (ackAll W p done) p done W.paths at m1
 rw [← hU] at m1 hE
 have hw1 := m1.wins.1
 have hw2 := m1.wins.2
 clear hk hi
 repeat' (first
  | refine stp ?_
  | fail)
 refine WC.loop (fun k s => ∃ (i : Nat) (V : Wd), k + i = lost.length ∧ V = loseAll U p (lost.take i) ∧ s = ⟨⟨110, []⟩, [(1, aI p), (2, .d (dL 2 eRg acked)), (3, .ptr 3 0), (6, .ptr 6 0), (7, .ptr 7 0), (8, .d (dL 1 eIn done)), (9, .d (dL 1 eIn lost)), (11, aI (i : Nat))], [(3, .blk (dropL W V U.windows)), (6, .blk [.un, .un, .un, .un, .un, .un, .un, .un, .un, .un]), (7, .blk (av (eLs l))), (901, hL 42 6 eSd V.sends), (904, hL 75 3 eLs W.paths), (905, hL 77 4 eRt W.rtts)]⟩) lost.length ⟨0, U, rfl, rfl, rfl⟩ (imp (look [(3, 3), (6, 6), (7, 7), (901, 901), (904, 904), (905, 905)])) ?_
 rintro k s ⟨i, V, hk, hV, rfl⟩
 by_cases hi : i < lost.length
 ·obtain ⟨q, hq, hs⟩ := lose_at (P := W.paths) hW m1 hok.lost hok.nodup (eIn_getD hi)
  have hs'' : loseAll U p (lost.take (i + 1)) = _ := hs.trans hq.lose
  change DropOK (loseAll U p (lost.take i)) p _ q at hq
  change _ = ({ loseAll U p (lost.take i) with carried := _, sends := _ } : Wd) at hs''
  rw [← hV] at hq hs''
  clear hs hV hE
  have hq3 := hq.sends
  have hq4 := hq.few
  have hqs := hq.st
  have hD := vl51Drop W V.sends V.carried U.windows p _ false q hq.at_ hq.lt (by omega) (by omega) (by omega) hq.sd hq.sent
  have hlt := hq.lt
  clear hq
  repeat' (first
   | refine stp ?_
   | (apply K.g0; apply K.callF; refine chq (F := hD) (G := ?_))
   | (apply K.rg 11; refine wdr [0, 0, 0, 0, 12, 28, 63, 127] 6 [58, 59, 60, 61, 62, 63] [] ?_)
   | refine dcl ?_)
  exact loopQ.n (k - 1) _ (by omega) ⟨i + 1, _, by omega, hs''.symm, rfl⟩ (imp (look [(3, 3), (6, 6), (7, 7), (901, 901), (904, 904), (905, 905)]))
 obtain rfl : i = lost.length := (by omega)
 rw [List.take_of_length_le (Nat.le_refl _)] at hV
 have hE2 := hE V hV
 have hvw : V.windows = U.windows := by rw [hV]; exact loseAll_wins _ _ _
 clear hE hk hi
 have hT : 0 < done.length → ∃ t, timeOf (W.paths.getD p default).flight (done.getD (done.length - 1) default) = some t ∧ 0 ≤ t ∧ t ≤ 999 := fun h => hok.time _ (getD_mem' (by show _ < done.length; omega))
 have hfl : (W.paths.getD p default).flight.length ≤ 12 := hpt.ls.few
 by_cases hd0 : done.length = 0
 ·rw [ackRt_no hd0] at hE2
  repeat' (first
   | refine stp ?_
   | (apply K.g0; apply K.callF; refine cq (F := vl23Loss U.windows p hw2 (by omega)) (G := ?_))
   | (refine WC.cond rfl ?_ ?_ <;> intro hb <;> (try have hb' := nrm hb) <;> try (exfalso; omega)))
  ·rw [hE2, if_neg (by rw [List.isEmpty_iff_length_eq_zero]; omega), hvw]; (exact ret1)
  ·rw [hE2, if_pos (by rw [List.isEmpty_iff_length_eq_zero]; omega), hvw]; (exact ret1)
 ·obtain ⟨t, ht, ht1, ht2⟩ := hT (by omega)
  have hS := vl51Sent (W.paths.getD p default) (done.getD (done.length - 1) default) (by omega)
  rw [ht, Option.getD_some, show done.length - 1 = ((done.length : Int) - 1).toNat by omega] at hS
  have hUp := fun hx => vl21Update (W.rtts.getD p default) (W.now - t) hpt.rt hx
  repeat' (first
   | refine stp ?_
   | (apply K.g0; apply K.callF; refine cq (F := vl23Loss U.windows p hw2 (by omega)) (G := ?_))
   | (apply KA.g0; apply KA.callF; first | refine cqa (F := hS) (G := ?_) | refine cqa (F := hUp (by omega)) (G := ?_))
   | (refine WC.cond rfl ?_ ?_ <;> intro hb <;> (try have hb' := nrm hb) <;> try (exfalso; omega))
   | (apply K.rg 15; refine wdr [0, 1, 0, 4, 0, 28, 60, 0, 0, 256, 768, 1920, 3968, 8188, 16383, 32767] 14 [76, 77, 78, 79, 80, 81, 82, 83, 84, 85, 86, 87, 88, 89] [] ?_)
   | (apply K.rg 17; refine wdr [0, 1, 0, 0, 8, 0, 56, 120, 0, 504, 1023, 2047] 10 [93, 94, 95, 96, 97, 98, 99, 100, 101, 102] [] ?_)
   | refine dcl ?_)
  ·rw [hE2, if_neg (by rw [List.isEmpty_iff_length_eq_zero]; omega), hvw, ackRt_upd (by omega) ht (by omega)]; (exact ret1)
  ·rw [hE2, if_neg (by rw [List.isEmpty_iff_length_eq_zero]; omega), hvw, ackRt_late (by omega) ht (by omega)]; (exact ret1)
  ·rw [hE2, if_pos (by rw [List.isEmpty_iff_length_eq_zero]; omega), hvw, ackRt_upd (by omega) ht (by omega)]; (exact ret1)
  ·rw [hE2, if_pos (by rw [List.isEmpty_iff_length_eq_zero]; omega), hvw, ackRt_late (by omega) ht (by omega)]; (exact ret1)
end Go.Proofs.YtjbhiglaginpeaaGreat
