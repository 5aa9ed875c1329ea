/- Parts of the proof, joined from several texts. No condition. -/
import Derived.Test.YtjbhiglaginpeaaGreatQ12
import Derived.Test.YtjbhiglaginpeaaGreatQ8
import Derived.Test.YtjbhiglaginpeaaGreatQ9
import Derived.Test.YtjbhiglaginpeaaGreatQ13
import Derived.Test.YtjbhiglaginpeaaGreatQ6
set_option maxRecDepth 100000
set_option maxHeartbeats 16000000
set_option linter.unusedVariables false
set_option linter.unusedSimpArgs false
namespace Go.Proofs.YtjbhiglaginpeaaGreat
open Go.RowKit
theorem carI_at {W : Wd} {p n : Int} {k : Nat} (h : carAt W p n = some k) : carI W p n = (k : Int) := by unfold carI; rw [h]
def dropV (W : Wd) (l : List Cd) (n : Nat) (ws : List Wn) : AV := .ag [aI W.now, .own 901 n, .d (dL 4 eRv W.recvs), .d (dL 1 eBs W.got), .own 904 W.paths.length, .own 905 W.rtts.length, .d (dL 4 eWn ws), .d (dL 1 eSn W.seen), .d (dL 6 eCd l), .d (dL 9 eWi W.net)]
theorem vl51Drop (W : Wd) (S : List Sd) (C : List Cd) (ws : List Wn) (p n : Int) (acked : Bool) (k : Nat) (hk : carAt { W with carried := C } p n = some k) (hl : k < C.length) (hc : C.length ≤ 1000) (hs : S.length ≤ 1000) (hst : 0 ≤ (C.getD k default).stream ∧ (C.getD k default).stream < S.length)
 (ho : SdOK (S.getD (C.getD k default).stream.toNat default)) (hp : Sent (S.getD (C.getD k default).stream.toNat default) (C.getD k default).part) :
 FnH Tryz.prog 117 [901, 904, 905] [dropV W C S.length ws, aI p, aI n, aB acked] [(901, hL 42 6 eSd S)] (dropV W (C.eraseIdx k) S.length ws) [(901, hL 42 6 eSd (S.set (C.getD k default).stream.toNat (if acked = true then sdAck (S.getD (C.getD k default).stream.toNat default) (C.getD k default).part else sdLoss (S.getD (C.getD k default).stream.toNat default) (C.getD k default).part)))] := by
 have hF := vl51Find { W with carried := C } p n (by show C.length ≤ _; omega)
 rw [carI_at hk] at hF
 cases acked
 all_goals
  refine fH Tryz.func117 Tryz.ntmps117 Tryz.results117 ?_
  repeat' (first
   | refine stp ?_
   | (apply K.g0; apply K.callF; refine cq (F := hF) (G := ?_))
   | (apply KA.g0; apply KA.callF; first | refine cqa (F := vl32Ack _ _ ho hp) (G := ?_) | refine cqa (F := vl32Loss _ _ ho hp) (G := ?_))
   | (apply K.rg 4; refine wdr [0, 1, 0, 4, 0, 16, 0, 64, 240, 496, 0, 1024, 4080, 8191, 16383] 13 [21, 22, 23, 24, 25, 26, 27, 28, 29, 30, 31, 32, 33] [] ?_)
   | (apply K.rg 5; refine wdr [0, 1, 0, 4, 0, 16, 0, 64, 240, 496, 0, 1024, 4080, 8191, 16383] 13 [35, 36, 37, 38, 39, 40, 41, 42, 43, 44, 45, 46, 47] [] ?_)
   | (apply K.rg 6; refine wdr [0, 0, 2, 0, 14, 31, 0, 64, 0, 256, 960, 2047, 4095, 8191] 11 [49, 50, 51, 52, 53, 54, 55, 56, 57, 58, 59] [] ?_)
   | refine dcl ?_)
  refine RetHG.mk1 (look [(901, 901), (904, 904), (905, 905)]) (ResV.cells rfl rfl rfl) (LeV.ag ?_) ?_ rfl rfl
  ·repeat' (first | (apply KE.vs; refine LeVs.cons ?_ ?_) | apply LeVs.nil | (apply KE.vv; (first | exact LeV.dd | exact LeV.sc rfl | exact LeV.own rfl rfl | exact LeV.own rfl (by simp) | refine LeV.f3 rfl rfl ?_ (fun m hm => cat_erase ?_ ?_ ?_))))
   all_goals first | omega | (rw [List.length_eraseIdx_of_lt hl]; omega)
  ·refine LeH.arr rfl rfl (by simp) (fun m hm => set_get2 ?_ rfl) LeH.nil
   omega
theorem vl51CopyS (W : Wd) (h : WdSz W) : FnH Tryz.prog 29 [] [.ag (av (eWd W))] [] (dropV W W.carried W.sends.length W.windows) [(901, hL 42 6 eSd W.sends), (904, hL 75 3 eLs W.paths), (905, hL 77 4 eRt W.rtts)] :=
 (vl51CopyH W h).frz (look [(901, 901), (904, 904), (905, 905)]) (LeV.ag (.cons .dd (.cons (.own rfl rfl) (.cons (.f2 rfl rfl) (.cons (.f2 rfl rfl) (.cons (.own rfl rfl) (.cons (.own rfl rfl) (.cons (.f2 rfl rfl) (.cons (.f2 rfl rfl) (.cons (.f2 rfl rfl) (.cons (.f2 rfl rfl) .nil))))))))))) (LeH.arr rfl rfl rfl (fun _ _ => rfl) (LeH.arr rfl rfl rfl (fun _ _ => rfl) (LeH.arr rfl rfl rfl (fun _ _ => rfl) LeH.nil))) rfl
theorem vl51Timeout (W : Wd) (hW : WdOK W) (p : Nat) (hp : p < 4) : FnP Tryz.prog 61 [.ag (av (eWd W)), aI p] (.ag (av (eWd (doTimeout W p)))) := by
 have l1 := hW.sends; have l4 := hW.paths; have l6 := hW.windows
 have hfl : (W.paths.getD p default).flight.length ≤ 12 := (hW.path p hp).ls.few
 have hcar := fl_cars hW hp
 refine fP Tryz.func61 Tryz.ntmps61 Tryz.results61 ?_
 repeat' (first
  | refine stp ?_
  | (apply K.g0; apply K.callF; refine chq (F := vl51CopyS W hW.sz) (G := ?_))
  | (refine WC.cond rfl ?_ ?_ <;> intro hb <;> (try have hb' := nrm hb) <;> try (exfalso; omega)))
 ·rw [doTimeout_nil (List.length_eq_zero_iff.1 (by show (W.paths.getD p default).flight.length = 0; omega))]; (exact ret1)
 have hne : ¬ (W.paths.getD p default).flight.length = 0 := by omega
 clear hb hb'
 refine WC.loop (fun k s => ∃ (i : Nat) (V : Wd), k + i = (W.paths.getD p default).flight.length ∧ V = loseAll W p (((W.paths.getD p default).flight.map Pk.num).take i) ∧ s = ⟨⟨45, []⟩, [(1, aI p), (2, .ptr 2 0), (4, .ptr 4 0), (5, .d (dL 3 ePk (W.paths.getD p default).flight)), (6, aI (i : Nat))], [(2, .blk [aI W.now, .own 901 V.sends.length, .d (dL 4 eRv W.recvs), .d (dL 1 eBs W.got), .own 904 W.paths.length, .own 905 W.rtts.length, .d (dL 4 eWn W.windows), .d (dL 1 eSn W.seen), .d (dL 6 eCd V.carried), .d (dL 9 eWi W.net)]), (4, .blk [.un, .un, .un, .un, .un, .un, .un, .un, .un, .un]), (901, hL 42 6 eSd V.sends), (904, hL 75 3 eLs W.paths), (905, hL 77 4 eRt W.rtts)]⟩) (W.paths.getD p default).flight.length ⟨0, W, rfl, rfl, rfl⟩ (imp (look [(2, 2), (4, 4), (901, 901), (904, 904), (905, 905)])) ?_
 rintro k s ⟨i, V, hk, hV, rfl⟩
 by_cases hi : i < (W.paths.getD p default).flight.length
 ·obtain ⟨q, hq, hs⟩ := lose_at (P := W.paths) hW (mid_start hW p W.paths) hcar.1 hcar.2 (i := i) (n := ((W.paths.getD p default).flight.getD i default).num) (by
   show ((W.paths.getD p default).flight.map Pk.num)[i]? = _
   rw [List.getElem?_map, List.getD_eq_getElem?_getD (l := (W.paths.getD p default).flight), List.getElem?_eq_getElem hi]; rfl)
  have e0 : ({ W with paths := W.paths } : Wd) = W := rfl
  rw [e0] at hq hs
  have hs' := hs.trans hq.lose
  change DropOK (loseAll W p (((W.paths.getD p default).flight.map Pk.num).take i)) p _ q at hq
  change loseAll W p (((W.paths.getD p default).flight.map Pk.num).take (i + 1)) = _ at hs'
  have hs'' : loseAll W p (((W.paths.getD p default).flight.map Pk.num).take (i + 1)) = { V with carried := V.carried.eraseIdx q, sends := V.sends.set (V.carried.getD q default).stream.toNat (sdLoss (V.sends.getD (V.carried.getD q default).stream.toNat default) (V.carried.getD q default).part) } := by rw [hV]; exact hs'
  rw [← hV] at hq
  clear hs hs' hV
  have hq3 := hq.sends
  have hq4 := hq.few
  have hqs := hq.st
  have hD := vl51Drop W V.sends V.carried W.windows p _ false q hq.at_ hq.lt (by omega) (by omega) (by omega) hq.sd hq.sent
  have hlt := hq.lt
  clear hq
  repeat' (first
   | refine stp ?_
   | (apply K.g0; apply K.callF; refine chq (F := hD) (G := ?_))
   | (apply K.rg 8; refine wdr [0, 0, 0, 0, 12, 28, 60, 127, 255] 7 [25, 26, 27, 28, 29, 30, 31] [] ?_)
   | refine dcl ?_)
  exact loopQ.n (k - 1) _ (by omega) ⟨i + 1, _, by omega, hs''.symm, rfl⟩ (imp (look [(2, 2), (4, 4), (901, 901), (904, 904), (905, 905)]))
 ·obtain rfl : i = (W.paths.getD p default).flight.length := (by omega)
  have hE := doTimeout_eq hW hp (fun h => hne (by rw [show (W.paths.getD p default).flight = [] from h]; rfl)) (V := V) (by rw [hV]; congr 1; rw [List.take_of_length_le (by simp)]; rfl)
  repeat' (first
   | (apply K.g0; apply K.store; refine R.stE rfl rfl rfl rfl rfl rfl (by omega) (row := [dL 3 ePk []]) (.cons .emp .nil) rfl rfl rfl ?_)
   | refine stp ?_
   | (apply K.g0; apply K.callF; refine cq (F := vl23Loss W.windows p hW.wns (by omega)) (G := ?_))
   | fail)
  rw [hE]; (exact ret1)
theorem vmFrameValid (f : Fm) (hr : ∀ r ∈ f.ranges, I64 r.lo ∧ I64 r.hi) (hd : f.data.length ≤ 1000000000) : FnP Tryz.prog 101 [.ag (av (eFm f))] (aB (fmValid f)) := by
 refine ⟨⟨_, Tryz.func101, by kernel_rfl, by kernel_rfl⟩, fun z w ok us hok hus => ?_⟩
 obtain ⟨hl, hv⟩ := hus
 match us, hl with
 | [u], _ =>
   have h1 := hv 0 _ u rfl rfl
   cases h1 with
   | @ag _ vs hl2 h =>
     match vs, hl2 with
     | [v0, v1, v2, v3, v4, v5], _ =>
       have e0 := (h 0 _ v0 rfl rfl).dsc.1
       have e1 := (h 1 _ v1 rfl rfl).dsc.1
       have e2 := (h 2 _ v2 rfl rfl).dsc.1
       have e3 := (h 3 _ v3 rfl rfl).dsc.1
       have e4 := (h 4 _ v4 rfl rfl).dsc.1
       have h5 := h 5 _ v5 rfl rfl
       cases h5 with
       | d h5 =>
         obtain ⟨A, c, rfl, hS⟩ := rgS_of h5 hr
         subst e0 e1 e2 e3 e4
         refine (frameValid_any f A f.ranges.length c w ok hS (fun b hb' => hok b hb') (by omega)).mono ?_
         rintro e w' ⟨rfl, hbl⟩
         exact ⟨_, rfl, .d (.sc rfl), hbl⟩
end Go.Proofs.YtjbhiglaginpeaaGreat
