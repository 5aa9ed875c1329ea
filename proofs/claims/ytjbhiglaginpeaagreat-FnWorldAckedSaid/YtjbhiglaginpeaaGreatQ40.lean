/- Parts of the proof, joined from several texts. No condition. -/
import Derived.Test.YtjbhiglaginpeaaGreatQ39
import Derived.Test.YtjbhiglaginpeaaGreatQ30
import Derived.Test.YtjbhiglaginpeaaGreatQ20
import Derived.Test.YtjbhiglaginpeaaGreatQ10
set_option maxRecDepth 100000
set_option maxHeartbeats 16000000
set_option linter.unusedVariables false
set_option linter.unusedSimpArgs false
namespace Go.Proofs.YtjbhiglaginpeaaGreat
open Go.RowKit
theorem lost_win (l : List Int) (a b : List Wn) : (if l.isEmpty = true then a else b) = if l.length > 0 then b else a := by cases l <;> simp
theorem vmAcknowledge (W : Wd) (hW0 : WdOK W) (p : Nat) (hp : p < 4) (acked : List Rg) (ha : AckIn W p acked) (hl : acked.length ≤ 16) : FnH Tryz.prog 140 [910, 901, 902, 903, 904, 905, 907, 908, 909] [.ptr 910 0, aI p, .d (dL 2 eRg acked)] [(910, hW W), (901, hL 42 6 eSd W.sends), (904, hL 75 3 eLs W.paths), (905, hL 77 4 eRt W.rtts), (908, hL 82 6 eCd W.carried)] (.tu []) [(910, hW (doAck W p acked)), (901, hL 42 6 eSd (doAck W p acked).sends), (904, hL 75 3 eLs (doAck W p acked).paths), (905, hL 77 4 eRt (doAck W p acked).rtts), (908, hL 82 6 eCd (doAck W p acked).carried)] := by
 have l1 := hW0.sends; have l4 := hW0.paths; have l5 := hW0.rtts; have l6 := hW0.windows
 have hpt := hW0.path p hp
 have hfl : (W.paths.getD p default).flight.length ≤ 12 := hpt.ls.few
 have hrd := rt_delay2 hpt.rt
 have hnow := hW0.now
 have hok := ack_ok hW0 hp ha
 have hE := fun V hV => doAck_eq hW0 hp ha (V := V) hV
 have hRt := rtLoop_eq (W := W) (p := p) (done := (ackX W p acked).2.1) (nums_nodup hpt.ls) hok.time
 have hnd : ((W.paths.getD p default).flight.map Pk.num).Nodup := nums_nodup hpt.ls
 have hA := vmLossAck (W.paths.getD p default) acked W.now (rtDelay (W.rtts.getD p default)) hpt.ls ⟨hl, ha.ok⟩ ha.below hnow hrd
 change FnP _ _ _ (.tu [.ag (av (eLs (ackX W p acked).1)), .d (dL 1 eIn (ackX W p acked).2.1), .d (dL 1 eIn (ackX W p acked).2.2), aB true]) at hA
 generalize ackX W p acked = x at hok hE hA hRt
 obtain ⟨l, done, lost⟩ := x
 have hf1 := hok.few.1
 have hf2 := hok.few.2
 have htm := hok.time
 dsimp only at hf1 hf2 hE hA hRt htm
 change rtLoop p W.now done W.rtts (W.paths.getD p default).flight = _ at hRt
 obtain ⟨P, hP⟩ : ∃ P, P = W.paths.set p l := ⟨_, rfl⟩
 have hPl : P.length = W.paths.length := by rw [hP, List.length_set]
 have hE2 : ∀ V, V = loseAll (ackAll { W with paths := P } p done) p lost → doAck W p acked = ⟨W.now, V.sends, W.recvs, W.got, P, ackRt W p done, if lost.isEmpty = true then V.windows else wnLoss V.windows p, W.seen, V.carried, W.net⟩ := fun V hV => by
  have e1 : loseAll (ackAll { W with paths := P } p done) p lost = { loseAll (ackAll W p done) p lost with paths := P } := by rw [ackAll_paths done W p P, loseAll_paths lost _ p P]
  rw [hV, e1, hE _ rfl, hP]
 clear hE
 unfold hW
 refine fH Tryz.func140 Tryz.ntmps140 Tryz.results140 ?_
 repeat' (first
  | refine stp ?_
  | (apply KA.g0; apply KA.callF; first | refine cqa (F := vmRttLossDelay _ hpt.rt) (G := ?_) | refine cqa (F := hA) (G := ?_))
  | (apply K.rg 1; refine WC.drawD (ms := [0, 1, 3, 7, 0, 31, 63, 0, 0, 256, 768, 1792, 0, 4096, 12288, 28672, 0, 126976, 258048, 520192, 1048575, 2097151, 4194303, 4194303, 4194303, 4194303, 0, 75497471, 218103807, 503316479, 1073741823]) 30 [27, 28, 29, 30, 31, 32, 33, 34, 35, 36, 37, 38, 39, 40, 41, 42, 43, 44, 45, 46, 47, 26, 48, 49, 50, 51, 7, 8, 9] [(27, [7])] (by kernel_rfl) (by kernel_rfl) ?_)
  | (apply K.rg 3; refine WC.drawD (ms := [0, 1, 3, 7, 0, 0, 63, 127]) 6 [54, 55, 56, 57, 58, 59] [(7,[904])] (by kernel_rfl) (by kernel_rfl) ?_)
  | refine dcl ?_)
 refine WC.loop (fun k s => ∃ (i : Nat) (V : Wd), k + i = done.length ∧ V = ackAll { W with paths := P } p (done.take i) ∧ s = ⟨⟨185, [910, 901, 902, 903, 904, 905, 907, 908, 909]⟩, [(0, .ptr 910 0), (1, aI p), (6, .d (dL 3 ePk (W.paths.getD p default).flight)), (8, .d (dL 1 eIn done)), (9, .d (dL 1 eIn lost)), (61, .d (dL 1 eIn done)), (62, aI done.length), (63, aI (i : Nat))], [(910, .blk [aI V.now, .own 901 V.sends.length, .own 902 V.recvs.length, .own 903 V.got.length, .own 904 V.paths.length, .own 905 V.rtts.length, .d (dL 4 eWn V.windows), .own 907 V.seen.length, .own 908 V.carried.length, .own 909 V.net.length]), (901, hL 42 6 eSd V.sends), (904, hL 75 3 eLs P), (905, hL 77 4 eRt W.rtts), (908, hL 82 6 eCd V.carried)]⟩) done.length ⟨0, { W with paths := P }, rfl, rfl, rfl⟩ ?_ ?_
 ·rw [hP]
  exact imp lP
 rintro k s ⟨i, U, hk, hU, rfl⟩
 by_cases hi : i < done.length
 ·obtain ⟨q, hq, hs, hw1, hw2⟩ := ack_at (P := P) hW0 (by omega) (mid_start hW0 p P) hok.done (by rw [List.nil_append]; exact (List.nodup_append.1 hok.nodup).1) (eIn_getD hi)
  have hs'' : ackAll { W with paths := P } p (done.take (i + 1)) = _ := hs.trans hq.ack
  change DropOK (ackAll { W with paths := P } p (done.take i)) p _ q at hq
  change (ackAll { W with paths := P } p (done.take i)).windows.length = 4 at hw1
  change wnsValid (ackAll { W with paths := P } p (done.take i)).windows = true at hw2
  change _ = ({ ackAll { W with paths := P } p (done.take i) with carried := _, sends := _, windows := _ } : Wd) at hs''
  rw [← hU] at hq hw1 hw2 hs''
  clear hs hU hE2 hRt
  have hq3 := hq.sends
  have hq4 := hq.few
  have hqs := hq.st
  have hD := vmDrop U p _ q hq.at_ hq.lt (by omega)
  have hS := vmSendAck _ _ hq.sd hq.sent
  have hWn := vmWindowAck U.windows p hw2 (by omega)
  have hlt := hq.lt
  unfold hW at hD
  dsimp only at hD
  clear hq
  repeat' (first
   | (apply KA.g0; apply KA.store; refine DR.cons (OTg.storeEd rfl rfl rfl rfl rfl rfl (by omega) rfl rfl rfl rfl) rfl ?_)
   | refine stp ?_
   | (apply K.g0; apply K.callF; first | refine chq (F := hD) (G := ?_) | refine cq (F := hWn) (G := ?_))
   | (apply KA.g0; apply KA.callF; refine cqa (F := hS) (G := ?_))
   | (apply K.rg 8; refine WC.drawD (ms := [0, 1, 3, 7, 0, 16, 0, 64, 192, 448, 0, 1024, 4032, 8128, 0, 16384, 65472, 131008, 262080, 262080, 524287, 1572863]) 22 [72, 73, 74, 75, 76, 77, 78, 79, 80, 81, 82, 83, 84, 85, 86, 87, 88, 71, 89, 90, 91] [(21,[901])] (by kernel_rfl) (by kernel_rfl) ?_)
   | refine dcl ?_)
  exact loopQ.n (k - 1) _ (by omega) ⟨i + 1, _, by omega, hs''.symm, rfl⟩ (imp lP)
 obtain rfl : i = done.length := (by omega)
 rw [List.take_of_length_le (Nat.le_refl _)] at hU
 have m1 := mid_ackAll hW0 (p := (p : Int)) (by omega) done [] (mid_start hW0 p P) hok.done (by rw [List.nil_append]; exact (List.nodup_append.1 hok.nodup).1)
 rw [List.nil_append] at m1
 change Mid W (ackAll { W with paths := P } p done) p done P at m1
 rw [← hU] at m1 hE2
 have hur := m1.rtts
 clear hk hi
 repeat' (first
  | refine stp ?_
  | fail)
 refine WC.loop (fun k s => ∃ (i : Nat) (V : Wd), k + i = lost.length ∧ V = loseAll U p (lost.take i) ∧ s = ⟨⟨185, [910, 901, 902, 903, 904, 905, 907, 908, 909]⟩, [(0, .ptr 910 0), (1, aI p), (6, .d (dL 3 ePk (W.paths.getD p default).flight)), (8, .d (dL 1 eIn done)), (9, .d (dL 1 eIn lost)), (105, .d (dL 1 eIn lost)), (106, aI lost.length), (107, aI (i : Nat))], [(910, .blk [aI V.now, .own 901 V.sends.length, .own 902 V.recvs.length, .own 903 V.got.length, .own 904 V.paths.length, .own 905 V.rtts.length, .d (dL 4 eWn V.windows), .own 907 V.seen.length, .own 908 V.carried.length, .own 909 V.net.length]), (901, hL 42 6 eSd V.sends), (904, hL 75 3 eLs P), (905, hL 77 4 eRt W.rtts), (908, hL 82 6 eCd V.carried)]⟩) lost.length ⟨0, U, rfl, rfl, rfl⟩ (imp lP) ?_
 rintro k s ⟨i, V, hk, hV, rfl⟩
 by_cases hi : i < lost.length
 ·obtain ⟨q, hq, hs⟩ := lose_at (P := P) hW0 m1 hok.lost hok.nodup (eIn_getD hi)
  change DropOK (loseAll U p (lost.take i)) p _ q at hq
  change loseAll U p (lost.take (i + 1)) = loseOne (loseAll U p (lost.take i)) p _ at hs
  rw [← hV] at hq hs
  have hD := vmLose V p _ q hq
  rw [← hs] at hD
  unfold hW at hD
  repeat' (first
   | refine stp ?_
   | (apply K.g0; apply K.callF; refine chq (F := hD) (G := ?_))
   | fail)
  exact loopQ.n (k - 1) _ (by omega) ⟨i + 1, _, by omega, rfl, rfl⟩ (imp lP)
 obtain rfl : i = lost.length := (by omega)
 rw [List.take_of_length_le (Nat.le_refl _)] at hV
 have m2 := mid_loseAll hW0 lost done m1 hok.lost hok.nodup
 change Mid W (loseAll U p lost) p (done ++ lost) P at m2
 rw [← hV] at m2
 have hE3 := hE2 V hV
 have hvw : V.windows = U.windows := by rw [hV]; exact loseAll_wins _ _ _
 have w1 := m2.wins.1
 have hvr := m2.rtts
 have hvn := m2.now
 clear hE2 hk hi
 obtain ⟨ws, hws⟩ : ∃ ws, ws = if lost.length > 0 then wnLoss V.windows p else V.windows := ⟨_, rfl⟩
 have hws0 : (if lost.isEmpty = true then V.windows else wnLoss V.windows p) = ws := by
  rw [hws]
  exact lost_win lost _ _
 repeat' (first
  | refine stp ?_
  | (apply K.g0; apply K.callF; refine cq (F := vmWindowLoss V.windows p m2.wins.2 (by omega)) (G := ?_))
  | (refine WC.cond rfl ?_ ?_ <;> intro hb <;> (try have hb' := nrm hb) <;> try (exfalso; omega)))
 ·rw [if_pos (by omega)] at hws
  rw [← hws]
  refine WC.loop (fun k s => ∃ (i : Nat) (Rs : List Rt), k + i = (W.paths.getD p default).flight.length ∧ Rs = rtLoop p W.now done W.rtts ((W.paths.getD p default).flight.take i) ∧ s = ⟨⟨185, [910, 901, 902, 903, 904, 905, 907, 908, 909]⟩, [(0, .ptr 910 0), (1, aI p), (8, .d (dL 1 eIn done)), (131, .d (dL 3 ePk (W.paths.getD p default).flight)), (132, aI (W.paths.getD p default).flight.length), (133, aI (i : Nat))], [(910, .blk [aI V.now, .own 901 V.sends.length, .own 902 V.recvs.length, .own 903 V.got.length, .own 904 V.paths.length, .own 905 Rs.length, .d (dL 4 eWn ws), .own 907 V.seen.length, .own 908 V.carried.length, .own 909 V.net.length]), (901, hL 42 6 eSd V.sends), (904, hL 75 3 eLs P), (905, hL 77 4 eRt Rs), (908, hL 82 6 eCd V.carried)]⟩) (W.paths.getD p default).flight.length ⟨0, W.rtts, rfl, rfl, rfl⟩ ?_ ?_
  ·rw [hvr]
   exact imp lP
  rintro k s ⟨i, Rs, hk, hR, rfl⟩
  have hRl : Rs.length = 4 := by rw [hR, rtLoop_len, l5]
  by_cases hi : i < (W.paths.getD p default).flight.length
  ·have hpk := (hpt.ls.pk ((W.paths.getD p default).flight.getD i default) (getD_mem' hi)).2.2.1
   have hst := rtLoop_snoc (p := p) (now := W.now) (done := done) (R := W.rtts) hi
   rw [← hR] at hst
   by_cases hhit : 0 < done.length ∧ ((W.paths.getD p default).flight.getD i default).num = done.getD (done.length - 1) default ∧ ((W.paths.getD p default).flight.getD i default).time < W.now
   ·have hR0 : Rs = W.rtts := by rw [hR]; exact rtLoop_pre hnd hi (by rw [last_getD hhit.1, hhit.2.1])
    rw [rt_hit hhit.1 hhit.2.1 hhit.2.2] at hst
    have hrv : rtValid (Rs.getD p default) = true := by rw [hR0]; exact hpt.rt
    have hUp := vmRttUpdate (Rs.getD p default) (W.now - ((W.paths.getD p default).flight.getD i default).time) hrv (by omega)
    rw [show done.length - 1 = ((done.length : Int) - 1).toNat by omega] at hhit
    clear hR
    repeat' (first
     | (apply KA.g0; apply KA.store; refine DR.cons (OTg.storeEd rfl rfl rfl rfl rfl rfl (by omega) rfl rfl rfl rfl) rfl ?_)
     | refine stp ?_
     | (apply KA.g0; apply KA.callF; refine cqa (F := hUp) (G := ?_))
     | (refine DR.gS rfl rfl rfl ?_ ?_ <;> intro hb <;> (try have hb' := nrm hb) <;> try (exfalso; omega))
     | (apply K.rg 21; refine wdr [0, 1, 3, 7, 15, 31, 15, 15, 143, 399, 975, 1999, 4095, 8191, 16383, 32767, 65535, 131071, 262143, 32767, 557055, 2097151, 4194303] 21 [137, 138, 139, 140, 141, 142, 143, 144, 145, 146, 147, 148, 149, 150, 151, 152, 153, 154, 155, 156, 157] [] ?_)
     | (apply K.rg 22; refine WC.drawD (ms := [0, 1, 3, 7, 0, 0, 32, 96, 224, 0, 992, 2016, 0, 4096, 12288, 28672, 0, 65536, 258048, 524256, 1048544, 2097120, 2097120, 4194303, 12582911]) 25 [161, 162, 163, 164, 165, 166, 167, 168, 169, 170, 171, 172, 173, 174, 175, 176, 177, 178, 179, 180, 160, 181, 182, 183] [(24,[905])] (by kernel_rfl) (by kernel_rfl) ?_)
     | refine dcl ?_)
    exact loopQ.n (k - 1) _ (by omega) ⟨i + 1, _, by omega, hst.symm, rfl⟩ (imp lP)
   ·rw [rt_miss (by omega)] at hst
    rw [show done.length - 1 = ((done.length : Int) - 1).toNat by omega] at hhit
    clear hR
    repeat' (first
     | refine stp ?_
     | (refine DR.gS rfl rfl rfl ?_ ?_ <;> intro hb <;> (try have hb' := nrm hb) <;> try (exfalso; omega))
     | (apply K.rg 21; refine wdr [0, 1, 3, 7, 15, 31, 15, 15, 143, 399, 975, 1999, 4095, 8191, 16383, 32767, 65535, 131071, 262143, 32767, 557055, 2097151, 4194303] 21 [137, 138, 139, 140, 141, 142, 143, 144, 145, 146, 147, 148, 149, 150, 151, 152, 153, 154, 155, 156, 157] [] ?_)
     | refine dcl ?_)
    all_goals exact loopQ.n (k - 1) _ (by omega) ⟨i + 1, _, by omega, hst.symm, rfl⟩ (imp lP)
  ·obtain rfl : i = (W.paths.getD p default).flight.length := (by omega)
   rw [List.take_of_length_le (Nat.le_refl _), hRt] at hR
   repeat' (first
    | refine stp ?_
    | fail)
   rw [hE3, ← hR, ← m2.now, ← m2.recvs, ← m2.got, ← m2.seen, ← m2.net, ← m2.paths]
   rw [hws0]
   exact rehw0 lP
 ·rw [if_neg (by omega)] at hws
  rw [← hws]
  refine WC.loop (fun k s => ∃ (i : Nat) (Rs : List Rt), k + i = (W.paths.getD p default).flight.length ∧ Rs = rtLoop p W.now done W.rtts ((W.paths.getD p default).flight.take i) ∧ s = ⟨⟨185, [910, 901, 902, 903, 904, 905, 907, 908, 909]⟩, [(0, .ptr 910 0), (1, aI p), (8, .d (dL 1 eIn done)), (131, .d (dL 3 ePk (W.paths.getD p default).flight)), (132, aI (W.paths.getD p default).flight.length), (133, aI (i : Nat))], [(910, .blk [aI V.now, .own 901 V.sends.length, .own 902 V.recvs.length, .own 903 V.got.length, .own 904 V.paths.length, .own 905 Rs.length, .d (dL 4 eWn ws), .own 907 V.seen.length, .own 908 V.carried.length, .own 909 V.net.length]), (901, hL 42 6 eSd V.sends), (904, hL 75 3 eLs P), (905, hL 77 4 eRt Rs), (908, hL 82 6 eCd V.carried)]⟩) (W.paths.getD p default).flight.length ⟨0, W.rtts, rfl, rfl, rfl⟩ ?_ ?_
  ·rw [hvr]
   exact imp lP
  rintro k s ⟨i, Rs, hk, hR, rfl⟩
  have hRl : Rs.length = 4 := by rw [hR, rtLoop_len, l5]
  by_cases hi : i < (W.paths.getD p default).flight.length
  ·have hpk := (hpt.ls.pk ((W.paths.getD p default).flight.getD i default) (getD_mem' hi)).2.2.1
   have hst := rtLoop_snoc (p := p) (now := W.now) (done := done) (R := W.rtts) hi
   rw [← hR] at hst
   by_cases hhit : 0 < done.length ∧ ((W.paths.getD p default).flight.getD i default).num = done.getD (done.length - 1) default ∧ ((W.paths.getD p default).flight.getD i default).time < W.now
   ·have hR0 : Rs = W.rtts := by rw [hR]; exact rtLoop_pre hnd hi (by rw [last_getD hhit.1, hhit.2.1])
    rw [rt_hit hhit.1 hhit.2.1 hhit.2.2] at hst
    have hrv : rtValid (Rs.getD p default) = true := by rw [hR0]; exact hpt.rt
    have hUp := vmRttUpdate (Rs.getD p default) (W.now - ((W.paths.getD p default).flight.getD i default).time) hrv (by omega)
    rw [show done.length - 1 = ((done.length : Int) - 1).toNat by omega] at hhit
    clear hR
    repeat' (first
     | (apply KA.g0; apply KA.store; refine DR.cons (OTg.storeEd rfl rfl rfl rfl rfl rfl (by omega) rfl rfl rfl rfl) rfl ?_)
     | refine stp ?_
     | (apply KA.g0; apply KA.callF; refine cqa (F := hUp) (G := ?_))
     | (refine DR.gS rfl rfl rfl ?_ ?_ <;> intro hb <;> (try have hb' := nrm hb) <;> try (exfalso; omega))
     | (apply K.rg 21; refine wdr [0, 1, 3, 7, 15, 31, 15, 15, 143, 399, 975, 1999, 4095, 8191, 16383, 32767, 65535, 131071, 262143, 32767, 557055, 2097151, 4194303] 21 [137, 138, 139, 140, 141, 142, 143, 144, 145, 146, 147, 148, 149, 150, 151, 152, 153, 154, 155, 156, 157] [] ?_)
     | (apply K.rg 22; refine WC.drawD (ms := [0, 1, 3, 7, 0, 0, 32, 96, 224, 0, 992, 2016, 0, 4096, 12288, 28672, 0, 65536, 258048, 524256, 1048544, 2097120, 2097120, 4194303, 12582911]) 25 [161, 162, 163, 164, 165, 166, 167, 168, 169, 170, 171, 172, 173, 174, 175, 176, 177, 178, 179, 180, 160, 181, 182, 183] [(24,[905])] (by kernel_rfl) (by kernel_rfl) ?_)
     | refine dcl ?_)
    exact loopQ.n (k - 1) _ (by omega) ⟨i + 1, _, by omega, hst.symm, rfl⟩ (imp lP)
   ·rw [rt_miss (by omega)] at hst
    rw [show done.length - 1 = ((done.length : Int) - 1).toNat by omega] at hhit
    clear hR
    repeat' (first
     | refine stp ?_
     | (refine DR.gS rfl rfl rfl ?_ ?_ <;> intro hb <;> (try have hb' := nrm hb) <;> try (exfalso; omega))
     | (apply K.rg 21; refine wdr [0, 1, 3, 7, 15, 31, 15, 15, 143, 399, 975, 1999, 4095, 8191, 16383, 32767, 65535, 131071, 262143, 32767, 557055, 2097151, 4194303] 21 [137, 138, 139, 140, 141, 142, 143, 144, 145, 146, 147, 148, 149, 150, 151, 152, 153, 154, 155, 156, 157] [] ?_)
     | refine dcl ?_)
    all_goals exact loopQ.n (k - 1) _ (by omega) ⟨i + 1, _, by omega, hst.symm, rfl⟩ (imp lP)
  ·obtain rfl : i = (W.paths.getD p default).flight.length := (by omega)
   rw [List.take_of_length_le (Nat.le_refl _), hRt] at hR
   repeat' (first
    | refine stp ?_
    | fail)
   rw [hE3, ← hR, ← m2.now, ← m2.recvs, ← m2.got, ← m2.seen, ← m2.net, ← m2.paths]
   rw [hws0]
   exact rehw0 lP
end Go.Proofs.YtjbhiglaginpeaaGreat
