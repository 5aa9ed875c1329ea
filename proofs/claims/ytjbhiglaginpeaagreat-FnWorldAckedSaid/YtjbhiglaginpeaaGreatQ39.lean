/- Parts of the proof, joined from several texts. No condition. -/
import Derived.Test.YtjbhiglaginpeaaGreatQ37
import Derived.Test.YtjbhiglaginpeaaGreatQ8
import Derived.Test.YtjbhiglaginpeaaGreatQ9
import Derived.Test.YtjbhiglaginpeaaGreatQ25
import Derived.Test.YtjbhiglaginpeaaGreatQ16
import Derived.Test.YtjbhiglaginpeaaGreatQ10
import Derived.Test.YtjbhiglaginpeaaGreatQ28
import Derived.Test.YtjbhiglaginpeaaGreatQ30
import Derived.Test.YtjbhiglaginpeaaGreatQ6
set_option maxRecDepth 100000
set_option maxHeartbeats 16000000
set_option linter.unusedVariables false
set_option linter.unusedSimpArgs false
namespace Go.Proofs.YtjbhiglaginpeaaGreat
open Go.RowKit
theorem vmReady (x : Rv) (h : x.pieces.length ≤ 1000) : FnP Tryz.prog 153 [.ag (av (eRv x))] (aI (rvReady x)) := by
 refine fP Tryz.func153 Tryz.ntmps153 Tryz.results153 ?_
 repeat' (first
  | refine stp ?_
  | (refine DR.gS rfl rfl rfl ?_ ?_ <;> intro hb <;> (try have hb' := nrm hb) <;> try (exfalso; omega))
  | (refine WC.cond rfl ?_ ?_ <;> intro hb <;> (try have hb' := nrm hb) <;> try (exfalso; omega))
  | (apply K.rg 1; refine wdr [0, 1, 3, 7, 15, 31, 63, 127, 255, 511, 31, 1055, 4095, 8191] 12 [3, 4, 5, 6, 7, 8, 9, 10, 11, 12, 13, 14] [] ?_)
  | refine dcl ?_)
 all_goals first
  | (rw [rvReady_nil (by omega)]; (exact ret1))
  | (rw [rvReady_no (by omega) (by assumption)]; (exact ret1))
  | (rw [rvReady_yes (by omega) (by assumption)]; (exact ret1))
def vinL (n : Int) : Int := if n < 0 ∨ n > 1073741823 then 0 else if n < 64 then 1 else if n < 16384 then 2 else 4
theorem vmVarintLen (n : Int) : FnP Tryz.prog 184 [aI n] (aI (vinL n)) := by
 refine fP Tryz.func184 Tryz.ntmps184 Tryz.results184 ?_
 repeat' (first
  | refine stp ?_
  | (refine R.gS rfl rfl rfl ?_ ?_ <;> intro hb <;> (try have hb' := nrm hb) <;> try (exfalso; omega))
  | (refine WC.cond rfl ?_ ?_ <;> intro hb <;> (try have hb' := nrm hb) <;> try (exfalso; omega)))
 all_goals first
  | (rw [show vinL n = 0 by unfold vinL; split <;> omega]; (exact ret1))
  | (rw [show vinL n = 1 by unfold vinL; (repeat' split) <;> omega]; (exact ret1))
  | (rw [show vinL n = 2 by unfold vinL; (repeat' split) <;> omega]; (exact ret1))
  | (rw [show vinL n = 4 by unfold vinL; (repeat' split) <;> omega]; (exact ret1))
theorem vmWriteString (a : AV) (i : Nat) (l x : Bs) (ha : a = .d (.sc (.pointer none)) ∨ a = .ptr 100180 0) (hi : i = 700) (hl : l.length + x.length ≤ 100000000) : FnH Tryz.prog 148 [100180] [.ptr 100180 0, aS x] [(100180, .blk [a, .own i l.length]), (i, hL 5 1 eBy l)] (.tu [.un, .un]) [(100180, .blk [.ptr 100180 0, .own i (l ++ x).length]), (i, hL 5 1 eBy (l ++ x))] := by
 subst hi
 have hC := vmCopyCheck a (.own 700 l.length) ha 700 rfl
 rcases ha with rfl | rfl
 all_goals
  refine fH Tryz.func148 Tryz.ntmps148 Tryz.results148 ?_
  repeat' (first
   | (apply K.g0; apply K.callB; refine R.app rfl (OT.appStr (ti := Tryz.t5) (by kernel_rfl) rfl rfl rfl rfl rfl rfl rfl rfl (by omega)) rfl rfl ?_)
   | refine stp ?_
   | (apply K.g0; apply K.callF; refine chq (F := hC) (G := ?_))
   | fail)
  refine RetHG.mk2 (look [(100180, 100180), (700, 14)]) (ResV.tmp rfl) (ResV.tmp rfl) (.tu (.cons .un (.cons .un .nil))) (LeH.blk rfl rfl (.cons (.ptr rfl) (.cons (LeV.own rfl (by rw [List.length_append])) .nil)) (LeH.arr rfl rfl (by rw [List.length_append]) (fun _ _ => cat_app) LeH.nil)) rfl rfl
theorem vmFieldMany3 : FnP Tryz.prog 147 [aI 3] (aI 3) := by
 refine fP Tryz.func147 Tryz.ntmps147 Tryz.results147 ?_
 repeat' (first
  | refine stp ?_
  | fail)
 (exact ret1)
theorem vmVarintEncode (n : Int) (h : 0 ≤ n ∧ n < 64) : FnP Tryz.prog 149 [aI n] (.d (dS [byteP n])) := by
 have hL := vmVarintLen n
 rw [show vinL n = 1 from by unfold vinL; rw [if_neg (by omega), if_pos (by omega)]] at hL
 refine fP Tryz.func149 Tryz.ntmps149 Tryz.results149 ?_
 repeat' (first
  | refine stp ?_
  | (apply K.g0; apply K.callF; refine cq (F := hL) (G := ?_))
  | fail)
 (exact ret1)
theorem vmFrameEncode (f : Fm) (hv : fmValid f = true) (hk : f.kind = 3) (hr : f.ranges = []) : FnP Tryz.prog 104 [.ag (av (eFm f))] (.d (dS (encP f))) := by
 have hF := vmFrameValid f (by rw [hr]; intro r h; cases h) (by have := fm_sz hv; omega)
 rw [hv] at hF
 have hf := fm3 hv hk
 have hfs := fm_sz hv
 obtain ⟨kd, a, b, c, dt, rs⟩ := f
 dsimp only at hk hr hf hfs hF
 subst hk hr
 refine fP Tryz.func104 Tryz.ntmps104 Tryz.results104 ?_
 repeat' (first
  | (apply K.g0; apply K.alloc; refine R.newR rfl (OT.allocN (n := 100180) rfl rfl (fun _ => rfl)) rfl rfl ?_)
  | refine stp ?_
  | (apply K.g0; apply K.callF; refine cq (F := hF) (G := ?_))
  | (apply KA.g0; apply KA.callF; refine cqa (F := vmFieldMany3) (G := ?_))
  | (apply K.rg 3; refine wdr [0, 1, 3, 0, 8, 0, 32, 0, 128, 504, 0, 1024, 3072, 8184, 16383, 32767] 14 [13, 14, 15, 16, 17, 18, 19, 20, 21, 22, 23, 24, 25, 26] [] ?_)
  | refine dcl ?_)
 have hB : ∀ i, i < 5 → 0 ≤ ([3, a, b, c, (dt.length : Int)] : List Int).getD i default ∧ ([3, a, b, c, (dt.length : Int)] : List Int).getD i default < 64 := fun i hi => by
  have hbl : bl dt = (dt.length : Int) := rfl
  match i, hi with
  | 0, _ => show (0 : Int) ≤ 3 ∧ (3 : Int) < 64; omega
  | 1, _ => show 0 ≤ a ∧ a < 64; omega
  | 2, _ => show 0 ≤ b ∧ b < 64; omega
  | 3, _ => show 0 ≤ c ∧ c < 64; omega
  | 4, _ => show 0 ≤ (dt.length : Int) ∧ (dt.length : Int) < 64; omega
 generalize hl5 : ([3, a, b, c, (dt.length : Int)] : List Int) = l5 at hB
 have hl5n : l5.length = 5 := by rw [← hl5]; rfl
 refine WC.loop (fun k s => ∃ (i : Nat) (A : AV) (L : Bs), k + i = 5 ∧ (A = .d (.sc (.pointer none)) ∨ A = .ptr 100180 0) ∧ L = (l5.take i).map byteP ∧ s = ⟨⟨84, []⟩, [(1, .ptr 1 0), (7, .ptr 100180 0), (70, .own 701 5), (71, aI 5), (72, aI (i : Nat))], [(1, .blk (av (eFm ⟨3, a, b, c, dt, []⟩))), (100180, .blk [A, .own 700 L.length]), (700, hL 5 1 eBy L), (701, hL 3 1 eIn l5)]⟩) 5 ⟨0, _, [], rfl, .inl rfl, rfl, rfl⟩ ?_ ?_
 ·subst hl5
  refine Imp.mk2 (look [(1, 1), (100180, 100180), (701, 69)]) ?_ (LeH.blk rfl rfl ?_ (LeH.blk rfl rfl ?_ (LeH.virt rfl rfl (LeH.arr rfl rfl rfl (fun m hm => ?_) LeH.nil)))) rfl
  ·repeat' (first | (apply KE.ee; refine LeE.cons rfl ?_ ?_) | apply LeE.nil | exact LeV.ptr rfl | exact LeV.own rfl rfl | exact LeV.sc rfl)
  ·repeat' (first | exact LeVs.nil | refine LeVs.cons ?_ ?_ | exact LeV.dd | exact LeV.sc rfl)
  ·exact .cons (.sc rfl) (.cons (.empo rfl rfl rfl) .nil)
  ·match m, hm with
   | 0, _ => rfl
   | 1, _ => rfl
   | 2, _ => rfl
   | 3, _ => rfl
   | 4, _ => rfl
 rintro k s ⟨i, A, L, hk, hA, hL, rfl⟩
 have hLn : L.length = i := by rw [hL, List.length_map, List.length_take]; omega
 by_cases hi : i < 5
 ·have hW := vmWriteString A 700 L [byteP (l5.getD i default)] hA rfl (by rw [hLn]; simp; omega)
  have hV := vmVarintEncode (l5.getD i default) (hB i hi)
  have hS : L ++ [byteP (l5.getD i default)] = (l5.take (i + 1)).map byteP := by rw [take_snoc (by omega), List.map_append, hL]; rfl
  repeat' (first
   | refine stp ?_
   | (apply K.g0; apply K.callF; first | refine ch (F := hW) (G := ?_) | refine cq (F := hV) (G := ?_))
   | fail)
  exact loopQ.n (k - 1) _ (by omega) ⟨i + 1, _, L ++ [byteP (l5.getD i default)], by omega, .inr rfl, hS, rfl⟩ (imp (look [(1, 1), (100180, 100180), (700, 700), (701, 701)]))
 ·obtain rfl : i = 5 := (by omega)
  rw [List.take_of_length_le (by omega)] at hL
  have hne : L ≠ [] := fun h => by rw [h] at hLn; cases hLn
  have hS := vmBString A 700 (by decide) L hne
  have hE : encP ⟨3, a, b, c, dt, []⟩ = L ++ dt := by rw [hL, ← hl5]; rfl
  rw [hE]
  repeat' (first
   | (apply KA.g0; apply KA.callF; refine DR.cons (OTg.plain rfl (OT.callD rfl rfl rfl (.cons .same .nil) hS rfl rfl rfl rfl)) rfl ?_)
   | refine stp ?_
   | (apply K.rg 23; refine WC.drawD (ms := [0, 0, 2, 7, 15]) 3 [80, 81, 82] [(0,[100180, 700])] (by kernel_rfl) (by kernel_rfl) ?_)
   | refine dcl ?_)
  (exact ret1)
theorem vmDrop (V : Wd) (p n : Int) (k : Nat) (hk : carAt V p n = some k) (hl : k < V.carried.length) (hc : V.carried.length ≤ 1000) : FnH Tryz.prog 177 [910, 901, 902, 903, 904, 905, 907, 908, 909] [.ptr 910 0, aI p, aI n] [(910, hW V), (908, hL 82 6 eCd V.carried)] (.ag (av (eCd (V.carried.getD k default)))) [(910, hW { V with carried := V.carried.eraseIdx k }), (908, hL 82 6 eCd (V.carried.eraseIdx k))] := by
 have hF := vmCarriedAtH V p n
 rw [carI_at hk] at hF
 have hD := vmDelCarried 908 V.carried k hl
 unfold hW at hF ⊢
 refine fH Tryz.func177 Tryz.ntmps177 Tryz.results177 ?_
 repeat' (first
  | refine stp ?_
  | (apply K.g0; apply K.callF; first | refine chq (F := hF) (G := ?_) | refine chq (F := hD) (G := ?_))
  | fail)
 first | exact reth0 lP | exact reth1 lP
theorem vmLose (V : Wd) (p n : Int) (k : Nat) (h : DropOK V p n k) : FnH Tryz.prog 141 [910, 901, 902, 903, 904, 905, 907, 908, 909] [.ptr 910 0, aI p, aI n] [(910, hW V), (901, hL 42 6 eSd V.sends), (908, hL 82 6 eCd V.carried)] (.tu []) [(910, hW (loseOne V p n)), (901, hL 42 6 eSd (loseOne V p n).sends), (908, hL 82 6 eCd (loseOne V p n).carried)] := by
 have h3 := h.sends
 have hs := h.st
 have hD := vmDrop V p n k h.at_ h.lt (by have := h.few; omega)
 have hL := vmSendLoss _ _ h.sd h.sent
 rw [h.lose]
 unfold hW at hD ⊢
 dsimp only at hD ⊢
 refine fH Tryz.func141 Tryz.ntmps141 Tryz.results141 ?_
 repeat' (first
  | (apply KA.g0; apply KA.store; refine DR.cons (OTg.storeEd rfl rfl rfl rfl rfl rfl (by omega) rfl rfl rfl rfl) rfl ?_)
  | refine stp ?_
  | (apply K.g0; apply K.callF; refine chq (F := hD) (G := ?_))
  | (apply KA.g0; apply KA.callF; refine cqa (F := hL) (G := ?_))
  | (apply K.rg 1; refine WC.drawD (ms := [0, 1, 3, 7, 0, 16, 0, 64, 192, 448, 0, 1024, 4032, 8128, 0, 16384, 65472, 131008, 262080, 262080, 524287, 1572863]) 22 [12, 13, 14, 15, 16, 17, 18, 19, 20, 21, 22, 23, 24, 25, 26, 27, 28, 11, 29, 30, 31] [(21,[901])] (by kernel_rfl) (by kernel_rfl) ?_)
  | refine dcl ?_)
 exact rehw0 lP
theorem vmTimeout (W : Wd) (hW0 : WdOK W) (p : Nat) (hp : p < 4) : FnH Tryz.prog 100 [910, 901, 902, 903, 904, 905, 907, 908, 909] [.ptr 910 0, aI p] [(910, hW W), (901, hL 42 6 eSd W.sends), (904, hL 75 3 eLs W.paths), (908, hL 82 6 eCd W.carried)] (.tu []) [(910, hW (doTimeout W p)), (901, hL 42 6 eSd (doTimeout W p).sends), (904, hL 75 3 eLs (doTimeout W p).paths), (908, hL 82 6 eCd (doTimeout W p).carried)] := by
 have l1 := hW0.sends; have l4 := hW0.paths; have l6 := hW0.windows
 have hfl : (W.paths.getD p default).flight.length ≤ 12 := (hW0.path p hp).ls.few
 have hcar := fl_cars hW0 hp
 obtain ⟨P, hP⟩ : ∃ P, P = W.paths.set p { W.paths.getD p default with flight := [] } := ⟨_, rfl⟩
 have hPl : P.length = W.paths.length := by rw [hP, List.length_set]
 have hE : ∀ V, V = loseAll { W with paths := P } p ((W.paths.getD p default).flight.map Pk.num) → doTimeout W p = if (W.paths.getD p default).flight.length > 0 then { V with windows := wnLoss V.windows p } else V := fun V hV => by
  have hfe : (W.ls (p : Int)).flight = (W.paths.getD p default).flight := rfl
  rw [hV, hP]
  unfold doTimeout
  simp only [Int.toNat_natCast]
  rw [hfe]
  by_cases h : (W.paths.getD p default).flight.length > 0
  ·rw [if_pos h, if_neg (by rw [List.isEmpty_iff_length_eq_zero]; omega)]; rfl
  ·rw [if_neg h, if_pos (by rw [List.isEmpty_iff_length_eq_zero]; omega)]; rfl
 unfold hW
 refine fH Tryz.func100 Tryz.ntmps100 Tryz.results100 ?_
 repeat' (first
  | (apply K.g0; apply K.store; refine R.stE rfl rfl rfl rfl rfl rfl (by omega) (row := [dL 3 ePk []]) (.cons .emp .nil) rfl rfl rfl ?_)
  | refine stp ?_
  | fail)
 refine WC.loop (fun k s => ∃ (i : Nat) (V : Wd), k + i = (W.paths.getD p default).flight.length ∧ V = loseAll { W with paths := P } p (((W.paths.getD p default).flight.map Pk.num).take i) ∧ s = ⟨⟨49, [910, 901, 902, 903, 904, 905, 907, 908, 909]⟩, [(0, .ptr 910 0), (1, aI p), (4, .d (dL 3 ePk (W.paths.getD p default).flight)), (22, .d (dL 3 ePk (W.paths.getD p default).flight)), (23, aI (W.paths.getD p default).flight.length), (24, aI (i : Nat))], [(910, .blk [aI V.now, .own 901 V.sends.length, .own 902 V.recvs.length, .own 903 V.got.length, .own 904 V.paths.length, .own 905 V.rtts.length, .d (dL 4 eWn V.windows), .own 907 V.seen.length, .own 908 V.carried.length, .own 909 V.net.length]), (901, hL 42 6 eSd V.sends), (904, hL 75 3 eLs P), (908, hL 82 6 eCd V.carried)]⟩) (W.paths.getD p default).flight.length ⟨0, { W with paths := P }, rfl, rfl, rfl⟩ ?_ ?_
 ·rw [hP]
  exact imp lP
 rintro k s ⟨i, V, hk, hV, rfl⟩
 by_cases hi : i < (W.paths.getD p default).flight.length
 ·obtain ⟨q, hq, hs⟩ := lose_at (P := P) hW0 (mid_start hW0 p P) hcar.1 hcar.2 (i := i) (n := ((W.paths.getD p default).flight.getD i default).num) (by
   show ((W.paths.getD p default).flight.map Pk.num)[i]? = _
   rw [List.getElem?_map, List.getD_eq_getElem?_getD (l := (W.paths.getD p default).flight), List.getElem?_eq_getElem hi]; rfl)
  change DropOK (loseAll { W with paths := P } p (((W.paths.getD p default).flight.map Pk.num).take i)) p _ q at hq
  change loseAll { W with paths := P } p (((W.paths.getD p default).flight.map Pk.num).take (i + 1)) = loseOne (loseAll { W with paths := P } p (((W.paths.getD p default).flight.map Pk.num).take i)) p _ at hs
  rw [← hV] at hq hs
  have hD := vmLose V p _ q hq
  rw [← hs] at hD
  unfold hW at hD
  repeat' (first
   | refine stp ?_
   | (apply K.g0; apply K.callF; refine chq (F := hD) (G := ?_))
   | fail)
  exact loopQ.n (k - 1) _ (by omega) ⟨i + 1, _, by omega, rfl, rfl⟩ (imp lP)
 ·obtain rfl : i = (W.paths.getD p default).flight.length := (by omega)
  have hV' : V = loseAll { W with paths := P } p ((W.paths.getD p default).flight.map Pk.num) := by rw [hV]; congr 1; exact List.take_of_length_le (by simp)
  have m := mid_loseAll hW0 ((W.ls p).flight.map Pk.num) [] (mid_start hW0 p P) hcar.1 hcar.2
  have hm : Mid W V p ([] ++ (W.ls p).flight.map Pk.num) P := by rw [hV']; exact m
  rw [hE V hV']
  have w1 := hm.wins.1
  repeat' (first
   | refine stp ?_
   | (apply K.g0; apply K.callF; refine cq (F := vmWindowLoss V.windows p hm.wins.2 (by omega)) (G := ?_))
   | (refine WC.cond rfl ?_ ?_ <;> intro hb <;> (try have hb' := nrm hb) <;> try (exfalso; omega)))
  ·rw [if_pos (by omega)]
   dsimp only
   rw [hm.paths]
   exact rehw0 lP
  ·rw [if_neg (by omega), hm.paths]
   exact rehw0 lP
theorem vmRecvRead (r : Rv) (n : Int) (hr : RvOK r) (hn : 0 ≤ n ∧ n ≤ 30) : FnP Tryz.prog 108 [.ag (av (eRv r)), aI n] (rdR (rvRead r n)) := by
 have hf := hr.few
 have b1 := hr.read
 have b2 := hr.lim
 have b3 := ready_bd hr
 have hv := vmRecvValid r (by omega) hr.pcb
 rw [rv_ok hr] at hv
 have hw := vmWithin n 0 30
 rw [inB_iff.2 hn] at hw
 have hrd := vmReady r (by omega)
 have hcp := vmCopyRecvH r (by omega)
 have b4 : rvReady r ≠ 0 → 0 < r.pieces.length ∧ rvReady r ≤ ((r.pieces.getD 0 default).data.length : Int) := fun h => by
  obtain ⟨h1, h2⟩ := ready_head hr h
  exact ⟨h1, (h2 (r.pieces.getD 0 default) (by rw [List.getD_eq_getElem?_getD, List.getElem?_eq_getElem h1]; rfl)).2⟩
 have b5 : ∀ p ∈ r.pieces, 0 ≤ p.off ∧ p.off ≤ 30 := fun p hp => by
  have h1 := pc_low hr.pcs p hp
  unfold Pc.fin bl at h1
  omega
 unfold rvRead
 generalize rvReady r = rdy at b3 b4 hrd ⊢
 obtain ⟨rd, pcs, fl, lm⟩ := r
 dsimp only at b1 b2 b3 b4 b5 hf hcp hrd hv ⊢
 cases pcs with
 | nil =>
   have h0 : rdy = 0 := Classical.byContradiction fun h => absurd (b4 h).1 (Nat.lt_irrefl 0)
   subst h0
   refine fP Tryz.func108 Tryz.ntmps108 Tryz.results108 ?_
   repeat' (first
    | refine stp ?_
    | (apply K.g0; apply K.callF; first | refine chq (F := hcp) (G := ?_) | refine cq (F := hv) (G := ?_) | refine cq (F := hrd) (G := ?_))
    | (apply K.g1; apply K.callF; refine cqt (F := hw) (G := ?_))
    | fail)
   (exact ret2)
 | cons p t =>
   have hpl : (p :: t).length = t.length + 1 := rfl
   have b4' : rdy ≠ 0 → rdy ≤ (p.data.length : Int) := fun h => (b4 h).2
   have b5' : 0 ≤ ((p :: t).getD 0 default).off ∧ ((p :: t).getD 0 default).off ≤ 30 := b5 p List.mem_cons_self
   rw [List.length_cons] at hcp
   by_cases hk : min n rdy = 0
   ·dsimp only
    rw [if_pos hk]
    refine fP Tryz.func108 Tryz.ntmps108 Tryz.results108 ?_
    repeat' (first
     | refine stp ?_
     | (apply K.g0; apply K.callF; first | refine chq (F := hcp) (G := ?_) | refine cq (F := hv) (G := ?_) | refine cq (F := hrd) (G := ?_))
     | (apply K.g1; apply K.callF; refine cqt (F := hw) (G := ?_))
     | fail)
    (exact ret2)
   have hkp : min n rdy ≤ (((p :: t).getD 0 default).data.length : Int) := by have := b4' (by omega); change _ ≤ (p.data.length : Int); omega
   dsimp only
   rw [if_neg hk]
   refine fP Tryz.func108 Tryz.ntmps108 Tryz.results108 ?_
   repeat' (first
    | (apply K.g0; apply K.store; refine R.stEdS rfl rfl rfl rfl rfl rfl (by omega) rfl rfl rfl rfl ?_)
    | (apply K.g0; apply K.load; refine R.op rfl (OT.load1ES rfl rfl rfl rfl (by omega) rfl) rfl ?_)
    | refine stp ?_
    | (apply K.g0; apply K.callF; first | refine chq (F := hcp) (G := ?_) | refine cq (F := hv) (G := ?_) | refine cq (F := hrd) (G := ?_))
    | (apply K.g1; apply K.callF; refine cqt (F := hw) (G := ?_))
    | (refine WC.cond rfl ?_ ?_ <;> intro hb <;> (try have hb' := nrm hb) <;> try (exfalso; omega)))
   ·have he : p.data.drop (min n rdy).toNat = [] := by assumption
    rw [if_pos he]
    refine WL.imp (s1 := ⟨⟨69, []⟩, [(59, .own 900 (t.length + 1)), (6, .ptr 6 0), (8, aS (p.data.take (min n rdy).toNat)), (1, aI (min n rdy)), (4, .ptr 4 0)], [(6, .blk [aI rd, .own 900 (t.length + 1), aI fl, aI lm]), (4, .blk [.un, .un, .un, .un]), (900, hL 50 2 ePc ((p :: t).set 0 ⟨p.off + min n rdy, p.data.drop (min n rdy).toNat⟩))]⟩) (imp (look [(6, 6), (4, 4), (900, 900)])) ?_
    repeat' (first
     | refine stp ?_
     | (apply K.g0; apply K.callF; refine chq (F := vmDelPiece 900 ((p :: t).set 0 ⟨p.off + min n rdy, p.data.drop (min n rdy).toNat⟩) 0 (by simp)) (G := ?_))
     | fail)
    change RetG _ _ (.tu [.ag [aI (rd + min n rdy), .d (dL 2 ePc (((p :: t).set 0 ⟨p.off + min n rdy, p.data.drop (min n rdy).toNat⟩).eraseIdx 0)), aI fl, aI lm], aS _]) _
    (exact ret2)
   ·have he : ¬ p.data.drop (min n rdy).toNat = [] := by assumption
    rw [if_neg he]
    change RetG _ _ (.tu [.ag [aI (rd + min n rdy), .d (dL 2 ePc ((p :: t).set 0 ⟨p.off + min n rdy, p.data.drop (min n rdy).toNat⟩)), aI fl, aI lm], aS _]) _
    (exact ret2)
end Go.Proofs.YtjbhiglaginpeaaGreat
