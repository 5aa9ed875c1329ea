/- Parts of the proof, joined from several texts. No condition. -/
import Derived.Deep.LoopGhost
import Derived.Test.YtjbhiglaginpeaaGreatQ22
import Derived.Test.YtjbhiglaginpeaaGreatQ21
import Derived.Test.YtjbhiglaginpeaaGreatQ24
import Derived.Test.YtjbhiglaginpeaaGreatQ14
import Derived.Test.YtjbhiglaginpeaaGreatQ15
import Derived.Test.YtjbhiglaginpeaaGreatQ18
import Derived.Test.YtjbhiglaginpeaaGreatQ16
import Derived.Test.YtjbhiglaginpeaaGreatQ7
import Derived.Test.YtjbhiglaginpeaaGreatQ6
import Derived.Test.YtjbhiglaginpeaaGreatQ8
import Derived.Test.YtjbhiglaginpeaaGreatQ0
set_option maxRecDepth 100000
set_option maxHeartbeats 16000000
set_option linter.unusedVariables false
set_option linter.unusedSimpArgs false
namespace Go.Proofs.YtjbhiglaginpeaaGreat
open Go.RowKit
theorem SdOK.rgbd {s : Sd} (h : SdOK s) : RgBd s.acked ∧ RgBd s.lost := ⟨rgOk_bd h.acked.1 (Int.le_refl _), rgOk_bd h.lost.1 (Int.le_refl _)⟩
theorem vmSendWrite (s : Sd) (d : Bs) (hs : SdOK s) (hd : d.length ≤ 10000000) : FnP Tryz.prog 106 [.ag (av (eSd s)), aS d] (wrR s d) := by
 obtain ⟨f1, f2⟩ := hs.few
 obtain ⟨⟨b0, b1⟩, b2⟩ := hs.bds
 have hv := vmSendValid s (by omega) (by omega) (by omega)
 rw [sd_ok hs] at hv
 refine fP Tryz.func106 Tryz.ntmps106 Tryz.results106 ?_
 repeat' (first
  | refine stp ?_
  | (apply K.g0; apply K.callF; first | refine cq (F := hv) (G := ?_) | refine cq (F := vmCopySend s (by omega) (by omega)) (G := ?_))
  | (refine R.gS rfl rfl rfl ?_ ?_ <;> intro hb <;> (try have hb' := nrm hb) <;> try (exfalso; omega))
  | (refine WC.cond rfl ?_ ?_ <;> intro hb <;> (try have hb' := nrm hb) <;> try (exfalso; omega)))
 all_goals first
  | (rw [wr_no (.inl (by assumption))]; (exact ret2))
  | (rw [wr_no (.inr (by assumption))]; (exact ret2))
  | (rw [wr_yes (by assumption) (by assumption)]; (exact ret2))
theorem vmSendFinish (s : Sd) (hs : SdOK s) : FnP Tryz.prog 107 [.ag (av (eSd s))] (.tu [.ag (av (eSd { s with fin := true })), aB (!s.fin)]) := by
 obtain ⟨f1, f2⟩ := hs.few
 obtain ⟨⟨b0, b1⟩, b2⟩ := hs.bds
 have hv := vmSendValid s (by omega) (by omega) (by omega)
 rw [sd_ok hs] at hv
 refine fP Tryz.func107 Tryz.ntmps107 Tryz.results107 ?_
 repeat' (first
  | refine stp ?_
  | (apply K.g0; apply K.callF; first | refine cq (F := hv) (G := ?_) | refine cq (F := vmCopySend s (by omega) (by omega)) (G := ?_))
  | (apply K.rg 5; refine WC.drawD (ms := [0, 0, 2, 6, 1, 31]) 5 [12, 13, 14, 15] [(4, [2])] (by kernel_rfl) (by kernel_rfl) ?_)
  | refine dcl ?_)
 (exact ret2)
theorem vmPartSent2 (s : Sd) (p : Pt) (hs : SdOK s) (hp : Sent s p) : FnP Tryz.prog 197 [.ag (av (eSd s)), .ag (av (ePt p))] (aB true) := by
 obtain ⟨f1, f2⟩ := hs.few
 obtain ⟨⟨b0, b1⟩, b2⟩ := hs.bds
 have hb := hp.bds hs
 have hv := vmSendValid s (by omega) (by omega) (by omega)
 rw [sd_ok hs] at hv
 have h2 := vmPartSent s p (by omega) (by omega)
 rw [(sent_iff s p).2 hp] at h2
 refine fP Tryz.func197 Tryz.ntmps197 Tryz.results197 ?_
 repeat' (first
  | refine stp ?_
  | (apply K.g0; apply K.callF; refine cq (F := hv) (G := ?_))
  | (apply K.g1; apply K.callF; refine cqt (F := h2) (G := ?_))
  | fail)
 (exact ret1)
theorem vmSendAck (s : Sd) (p : Pt) (hs : SdOK s) (hp : Sent s p) : FnP Tryz.prog 178 [.ag (av (eSd s)), .ag (av (ePt p))] (.tu [.ag (av (eSd (sdAck s p))), aB true]) := by
 obtain ⟨f1, f2⟩ := hs.few
 obtain ⟨⟨b0, b1⟩, b2⟩ := hs.bds
 have hb := hp.bds hs
 have hr := hs.rgbd
 refine fP Tryz.func178 Tryz.ntmps178 Tryz.results178 ?_
 repeat' (first
  | refine stp ?_
  | (apply K.g0; apply K.callF; first | refine cq (F := vmPartSent2 s p hs hp) (G := ?_) | refine cq (F := vmCopySend s (by omega) (by omega)) (G := ?_) | refine cq (F := vmAdded s.acked _ _ (by omega) hr.1 (by omega) (by omega)) (G := ?_) | refine cq (F := vmRemoved s.lost _ _ (by omega) (by omega) (by omega)) (G := ?_))
  | (apply KA.g0; apply KA.callF; refine cqa (F := vmLast p (by omega) (by omega)) (G := ?_))
  | (apply K.rg 4; refine wdr [0, 1, 0, 4, 0, 16, 63, 127, 255] 6 [14, 15, 16, 17, 18, 19] [] ?_)
  | (apply K.rg 5; refine wdr [0, 1, 0, 4, 0, 16, 63, 127, 255] 6 [22, 23, 24, 25, 26, 27] [] ?_)
  | refine dcl ?_)
 rw [show sdAck s p = { s with acked := addP s.acked p.off p.last, lost := remP s.lost p.off p.last } from rfl]; (exact ret2)
theorem vmSendLoss (s : Sd) (p : Pt) (hs : SdOK s) (hp : Sent s p) : FnP Tryz.prog 181 [.ag (av (eSd s)), .ag (av (ePt p))] (.tu [.ag (av (eSd (sdLoss s p))), aB true]) := by
 obtain ⟨f1, f2⟩ := hs.few
 obtain ⟨⟨b0, b1⟩, b2⟩ := hs.bds
 have hb := hp.bds hs
 have hr := hs.rgbd
 refine fP Tryz.func181 Tryz.ntmps181 Tryz.results181 ?_
 repeat' (first
  | refine stp ?_
  | (apply K.g0; apply K.callF; first | refine cq (F := vmPartSent2 s p hs hp) (G := ?_) | refine cq (F := vmCopySend s (by omega) (by omega)) (G := ?_))
  | fail)
 refine WC.loop (fun k s' => ∃ (i : Nat) (L : List Rg), k + i = (p.last + 1 - p.off).toNat ∧ L = loseTo s.acked s.lost p.off i ∧ s' = ⟨⟨35, []⟩, [(2, .ptr 2 0), (3, .ptr 3 0), (4, .ptr 4 0), (6, .ptr 6 0), (7, aI (p.off + i))], [(2, .blk (av (eSd s))), (3, .blk (av (ePt p))), (4, .blk [.un, .un, .un, .un, .un, .un]), (6, .blk (av [dS s.data, dB s.fin, dI s.limit, dI s.next, dL 2 eRg s.acked, dL 2 eRg L]))]⟩) (p.last + 1 - p.off).toNat ⟨0, s.lost, rfl, rfl, rfl⟩ (imp (look [(2, 2), (3, 3), (4, 4), (6, 6)])) ?_
 rintro k s' ⟨i, L, hk, hL, rfl⟩
 have hfit := loseTo_fit hs hp (i := i) (by omega)
 rw [← hL] at hfit
 have hLb := rgOk_bd hfit.1 (Int.le_refl _)
 have hln := hfit.2
 repeat' (first
  | refine stp ?_
  | (apply K.g0; apply K.callF; first | refine cq (F := vmLast p (by omega) (by omega)) (G := ?_) | refine cq (F := vmHas s.acked _ hr.1) (G := ?_) | refine cq (F := vmAdded L _ _ (by omega) hLb (by omega) (by omega)) (G := ?_))
  | (refine WC.cond rfl ?_ ?_ <;> intro hb <;> (try have hb' := nrm hb) <;> try (exfalso; omega)))
 all_goals first
  | (obtain rfl : i = (p.last + 1 - p.off).toNat := (by omega)
     rw [show sdLoss s p = { s with lost := L } from by rw [hL]; rfl]; (exact ret2))
  | (refine loopQ.n (k - 1) _ (by omega) ⟨i + 1, L, by omega, by rw [hL]; exact (if_pos (by assumption)).symm, rfl⟩ (imp (look [(2, 2), (3, 3), (4, 4), (6, 6)])); done)
  | (refine loopQ.n (k - 1) _ (by omega) ⟨i + 1, addP L (p.off + i) (p.off + i), by omega, by rw [hL]; exact (if_neg (by rw [show hasR s.acked (p.off + i) = false from by assumption]; exact Bool.false_ne_true)).symm, rfl⟩ (imp (look [(2, 2), (3, 3), (4, 4), (6, 6)])); done)
def hW (W : Wd) : Ob := .blk [aI W.now, .own 901 W.sends.length, .own 902 W.recvs.length, .own 903 W.got.length, .own 904 W.paths.length, .own 905 W.rtts.length, .d (dL 4 eWn W.windows), .own 907 W.seen.length, .own 908 W.carried.length, .own 909 W.net.length]
theorem vmTransmit (W : Wd) (x : Wi) (h : W.net.length ≤ 1000) : FnH Tryz.prog 96 [910, 901, 902, 903, 904, 905, 907, 908] [.ptr 910 0, .ag (av (eWi x))] [(910, hW W), (909, hL 106 9 eWi W.net)] (.tu []) [(910, hW (post W x)), (909, hL 106 9 eWi (post W x).net)] := by
 unfold hW
 refine fH Tryz.func96 Tryz.ntmps96 Tryz.results96 ?_
 repeat' (first
  | refine stp ?_
  | (refine WC.cond rfl ?_ ?_ <;> intro hb <;> (try have hb' := nrm hb) <;> try (exfalso; omega))
  | (apply K.rg 2; refine WC.drawD (ms := [0, 0, 2, 6, 14, 0, 32, 126, 255, 511, 1023]) 8 [10, 11, 12, 13, 14, 15, 16, 17] [(7,[909])] (by kernel_rfl) (by kernel_rfl) ?_)
  | refine dcl ?_)
 ·rw [show post W x = { W with net := W.net ++ [x] } from if_pos (by omega)]
  refine RetHG.mk0 (look [(910, 910), (901, 901), (902, 902), (903, 903), (904, 904), (905, 905), (907, 907), (908, 908), (909, 17)]) rfl (LeH.blk rfl rfl ?_ (LeH.arr rfl rfl (by simp) (fun m hm => cat_snoc2 hm rfl) LeH.nil)) rfl rfl
  repeat' (first | exact LeVs.nil | refine LeVs.cons ?_ ?_ | exact LeV.dd | exact LeV.sc rfl | exact LeV.own rfl rfl | exact LeV.own rfl (by simp))
 ·rw [show post W x = W from if_neg (by omega)]
  exact reth0 lP
def CdsAt (w : World) (A : Option Addr) (n : Nat) (l : List Cd) : Prop := l.length = n ∧ (0 < n → ∃ b o, A = some ⟨b, o, none⟩ ∧ b < w.heap.size ∧ ∀ (k : Nat) (x : Cd), l[k]? = some x → w.cell? ⟨b, o + k * 6, none⟩ = some (.int .i64 x.path) ∧ w.cell? ⟨b, o + k * 6 + 1, none⟩ = some (.int .i64 x.num) ∧ w.cell? ⟨b, o + k * 6 + 2, none⟩ = some (.int .i64 x.stream) ∧ w.cell? ⟨b, o + k * 6 + 3, none⟩ = some (.int .i64 x.part.off) ∧ w.cell? ⟨b, o + k * 6 + 4, none⟩ = some (.string (S x.part.data)) ∧ w.cell? ⟨b, o + k * 6 + 5, none⟩ = some (.bool x.part.fin))
theorem CdsAt.at_ {w : World} {A : Option Addr} {n : Nat} {l : List Cd} (h : CdsAt w A n l) {k : Nat} (hk : k < n) : ∃ b o x, A = some ⟨b, o, none⟩ ∧ b < w.heap.size ∧ l[k]? = some x ∧ w.cell? ⟨b, o + k * 6, none⟩ = some (.int .i64 x.path) ∧ w.cell? ⟨b, o + k * 6 + 1, none⟩ = some (.int .i64 x.num) ∧ w.cell? ⟨b, o + k * 6 + 2, none⟩ = some (.int .i64 x.stream) ∧ w.cell? ⟨b, o + k * 6 + 3, none⟩ = some (.int .i64 x.part.off) ∧ w.cell? ⟨b, o + k * 6 + 4, none⟩ = some (.string (S x.part.data)) ∧ w.cell? ⟨b, o + k * 6 + 5, none⟩ = some (.bool x.part.fin) := by
 obtain ⟨b, o, e, hb, hc⟩ := h.2 (by omega)
 have hl := h.1
 exact ⟨b, o, l[k]'(by omega), e, hb, List.getElem?_eq_getElem _, hc k _ (List.getElem?_eq_getElem _)⟩
theorem CdsAt.below {w w' : World} {A : Option Addr} {n : Nat} {l : List Cd} (h : CdsAt w A n l) (hb : Below w.heap.size w w') : CdsAt w' A n l := by
 refine ⟨h.1, fun hn => ?_⟩
 obtain ⟨b, o, e, hlt, hc⟩ := h.2 hn
 have hcell : ∀ j, w'.cell? ⟨b, j, none⟩ = w.cell? ⟨b, j, none⟩ := fun j => hb.cell (p := ⟨b, j, none⟩) hlt
 refine ⟨b, o, e, Nat.lt_of_lt_of_le hlt hb.size, fun k x hx => ?_⟩
 simp only [hcell]
 exact hc k x hx
def Cd.agg (x : Cd) : Value := .agg #[.int .i64 x.path, .int .i64 x.num, .int .i64 x.stream, .int .i64 x.part.off, .string (S x.part.data), .bool x.part.fin]
def cdIs (p n : Int) (c : Cd) : Bool := decide (c.path = p) && decide (c.num = n)
theorem cdCl_any (x : Cd) (p n : Int) (b1 b2 : Nat) (w : World) (h1 : w.cell? ⟨b1, 0, none⟩ = some (.int .i64 p)) (h2 : w.cell? ⟨b2, 0, none⟩ = some (.int .i64 n)) (hl1 : b1 < w.heap.size) (hl2 : b2 < w.heap.size) :
 Calls Tryz.prog 172 #[x.agg, .pointer (some ⟨b1, 0, none⟩), .pointer (some ⟨b2, 0, none⟩)] w fun e w' => e = .returned (.bool (cdIs p n x)) ∧ Below w.heap.size w w' := by
 have hb0 : Below w.heap.size w (w.alloc (.cells #[.int .i64 x.path, .int .i64 x.num, .int .i64 x.stream, .int .i64 x.part.off, .string (S x.part.data), .bool x.part.fin] 82)) := b_alloc _ _
 have h1' := (hb0.cell (p := ⟨b1, 0, none⟩) hl1).trans h1
 have h2' := (hb0.cell (p := ⟨b2, 0, none⟩) hl2).trans h2
 unfold Cd.agg
 by_cases e1 : x.path = p
 ·have t1 : (x.path == p) = true := beq_iff_eq.2 e1
  by_cases e2 : x.num = n
  ·have t2 : (x.num == n) = true := beq_iff_eq.2 e2
   have Hv := Lib.hid (show cdIs p n x = true by unfold cdIs; rw [decide_eq_true e1, decide_eq_true e2]; rfl)
   clear e1 e2
   go_enter Tryz.func172, Tryz.ntmps172
   go_wp2
   all_goals
    go_ret
    exact ⟨ret_bool (by rw [Hv.out]), hb0⟩
  ·have t2 : (x.num == n) = false := beq_eq_false_iff_ne.2 e2
   have Hv := Lib.hid (show cdIs p n x = false by unfold cdIs; rw [decide_eq_true e1, decide_eq_false e2]; rfl)
   clear e1 e2
   go_enter Tryz.func172, Tryz.ntmps172
   go_wp2
   all_goals
    go_ret
    exact ⟨ret_bool (by rw [Hv.out]), hb0⟩
 ·have t1 : (x.path == p) = false := beq_eq_false_iff_ne.2 e1
  have Hv := Lib.hid (show cdIs p n x = false by unfold cdIs; rw [decide_eq_false e1]; rfl)
  clear e1
  go_enter Tryz.func172, Tryz.ntmps172
  go_wp2
  all_goals
   go_ret
   exact ⟨ret_bool (by rw [Hv.out]), hb0⟩
theorem idxCd_any (A : Option Addr) (n c : Nat) (l : List Cd) (p m : Int) (b1 b2 : Nat) (w : World) (hc : n ≤ c ∧ c ≤ 9223372036854775807) (h : CdsAt w A n l) (h1 : w.cell? ⟨b1, 0, none⟩ = some (.int .i64 p)) (h2 : w.cell? ⟨b2, 0, none⟩ = some (.int .i64 m)) (hl1 : b1 < w.heap.size) (hl2 : b2 < w.heap.size) :
 Calls Tryz.prog 171 #[.slice A n c, .func (.func 172) #[] #[.pointer (some ⟨b1, 0, none⟩), .pointer (some ⟨b2, 0, none⟩)]] w
  fun e w' => e = .returned (.int .i64 (idxI (l.findIdx? (cdIs p m)))) ∧ Below w.heap.size w w' := by
 go_enter Tryz.func171, Tryz.ntmps171
 go_wp2
 have hcap := hc.1
 have hlen := Lib.hid h.1
 go_loopg [8] n (fun m' i wr => ∃ k : Nat, k + m' = n ∧ i = .int .i64 k ∧ Below w.heap.size w wr ∧ Hid (∀ r ∈ l.take k, cdIs p m r = false))
 case atStart => exact ⟨0, by omega, rfl, Below.refl _ _, by simp [Hid]⟩
 case round =>
  obtain ⟨k, hk, rfl, hbr, HN⟩ := hrel
  by_cases hlt : k < n
  ·obtain ⟨b, o, u, rfl, hb, hu, c0, c1, c2, c3, c4, c5⟩ := (h.below hbr).at_ hlt
   have g1 := (hbr.cell (p := ⟨b1, 0, none⟩) hl1).trans h1
   have g2 := (hbr.cell (p := ⟨b2, 0, none⟩) hl2).trans h2
   have hsz := hbr.size
   have Hu := Lib.hid hu
   clear hu
   have hq1 : (0 : Int) ≤ (k : Int) := by omega
   have hq2 : (k : Int) < (n : Int) := by omega
   go_wp2_with fail
   refine (cdCl_any u p m b1 b2 wr g1 g2 (by omega) (by omega)).mono ?_
   rintro e w1 ⟨rfl, hb1⟩
   have hbr1 := hbr.trans (hb1.mono hsz)
   cases hin : cdIs p m u with
   | true =>
     have Hres : Hid (idxI (l.findIdx? (cdIs p m)) = k) := by
      have : l.findIdx? (cdIs p m) = some k := by
       rw [List.findIdx?_eq_some_iff_getElem]
       have hkl := (List.getElem?_eq_some_iff.1 Hu.out).1
       refine ⟨hkl, by rw [(List.getElem?_eq_some_iff.1 Hu.out).2]; exact hin, fun j hj => ?_⟩
       have := HN.out (l[j]'(by omega)) (by rw [List.mem_take_iff_getElem]; exact ⟨j, by omega, rfl⟩)
       simp [this]
      unfold Hid
      rw [this]; rfl
     clear hin HN hb1
     go_wp2
     go_ret
     exact ⟨ret_int Hres.out.symm, hbr1⟩
   | false =>
     have HN' : Hid (∀ r ∈ l.take (k + 1), cdIs p m r = false) := by
      intro r hr
      rw [List.take_add_one, Hu.out, List.mem_append] at hr
      rcases hr with hr | hr
      ·exact HN.out r hr
      ·simp at hr; subst hr; exact hin
     clear hin HN hb1
     go_wp2
     go_roundg (n - (k + 1))
     case measure => omega
     case rel => exact ⟨k + 1, by omega, by go_num, hbr1, HN'⟩
  ·have hkn : k = n := by omega
   subst hkn
   have Hres : Hid (idxI (l.findIdx? (cdIs p m)) = -1) := by
    have : l.findIdx? (cdIs p m) = none := by
     rw [List.findIdx?_eq_none_iff]
     intro r hr
     exact HN.out r (by rw [List.take_of_length_le (by rw [hlen.out]; omega)]; exact hr)
    unfold Hid
    rw [this]; rfl
   clear HN
   go_wp2
   go_ret
   exact ⟨ret_int Hres.out.symm, hbr⟩
theorem carriedAt_raw (A : Option Addr) (n c bw : Nat) (W : Wd) (p m : Int) (w : World) (hbw : bw < w.heap.size) (h8 : w.cell? ⟨bw, 8, none⟩ = some (.slice A n c)) (hc : n ≤ c ∧ c ≤ 9223372036854775807) (h : CdsAt w A n W.carried) :
 Calls Tryz.prog 133 #[.pointer (some ⟨bw, 0, none⟩), .int .i64 p, .int .i64 m] w fun e w' => e = .returned (.int .i64 (idxI (carAt W p m))) ∧ Below w.heap.size w w' := by
 obtain ⟨W0, hW0⟩ : ∃ W0 : World, W0 = (w.alloc (.cells #[.int .i64 p] 3)).alloc (.cells #[.int .i64 m] 3) := ⟨_, rfl⟩
 have hb0 : Below w.heap.size w W0 := by rw [hW0]; exact b_grow (b_alloc _ _) _
 have h1 : W0.cell? ⟨w.heap.size, 0, none⟩ = some (.int .i64 p) := by rw [hW0]; simp
 have h2 : W0.cell? ⟨w.heap.size + 1, 0, none⟩ = some (.int .i64 m) := by rw [hW0]; simp
 have hs0 : w.heap.size + 1 < W0.heap.size := by rw [hW0]; simp
 have p8 := (hb0.cell (p := ⟨bw, 8, none⟩) hbw).trans h8
 have hI := Lib.hid (idxCd_any A n c W.carried p m w.heap.size (w.heap.size + 1) W0 hc (h.below hb0) h1 h2 (by omega) hs0)
 go_enter Tryz.func133, Tryz.ntmps133
 rw [hW0] at p8
 go_wp2_with fail
 rw [← hW0]
 refine hI.out.mono ?_
 rintro e w1 ⟨rfl, hb1⟩
 have Hb := Lib.hid (hb0.trans (hb1.mono hb0.size))
 go_wp2
 go_ret
 exact ⟨ret_int rfl, Hb.out⟩
theorem fn_read {P : Program} {f : FuncId} {kp : List Nat} {args : List AV} {hin : List (Nat × Ob)} {r : AV} (hB : FnB P f)
 (raw : ∀ (z : Cz) (w : World) (X : Nat → Prop) (vs : List Value), HpOk X z hin w → VRs z w (okB X z hin w) args vs → Calls P f vs.toArray w fun e w' => ∃ u, e = .returned u ∧ Below w.heap.size w w' ∧ ∀ ok, VR z w' ok r u) : FnH P f kp args hin r hin := by
 refine ⟨hB, fun z w X vs hX hin' hus => ?_⟩
 refine (raw z w X vs hin' hus).mono ?_
 rintro e w' ⟨u, rfl, hb, hv⟩
 have hk : Kin w (okB X z hin w) w' (okB X z hin w') := fun b hb' => ⟨⟨Nat.lt_of_lt_of_le hb'.1 hb.size, hb'.2.1, hb'.2.2⟩, hb.block b hb'.1⟩
 exact ⟨u, z, rfl, hv _, ⟨fun i ob hi => (hin'.1 i ob hi).mov hk (fun _ _ => ⟨rfl, rfl⟩) ⟨rfl, rfl⟩ (fun hp => hb.block _ (hin'.2.1 i ob hi hp).1), fun i ob hi hp => ⟨Nat.lt_of_lt_of_le (hin'.2.1 i ob hi hp).1 hb.size, (hin'.2.1 i ob hi hp).2⟩, hin'.2.2⟩, ⟨hb.os, hb.tape, hb.output, hb.size, fun b h _ => hb.block b h⟩, fun i ob hi hp => .inl ⟨i, ob, hi, hp, rfl⟩, fun _ _ => ⟨rfl, rfl⟩⟩
theorem cds_of {w : World} {ok : Nat → Prop} {u : Value} {l : List Cd} (hok : ∀ b, ok b → b < w.heap.size) (h : Rep w ok u (dL 6 eCd l)) : ∃ A c, u = .slice A l.length c ∧ (l.length ≤ c ∧ c ≤ 9223372036854775807) ∧ CdsAt w A l.length l := by
 unfold dL at h
 cases h with
 | @sl A n c k f us b o hn hc hA hb' hl hu hr =>
   refine ⟨A, c, rfl, ⟨hn, by unfold maxLen at hc; omega⟩, rfl, fun h0 => ?_⟩
   obtain ⟨rfl, hbk⟩ := hb' h0
   refine ⟨b, o, rfl, hok b hbk, fun k x hx => ?_⟩
   have hk : k < l.length := (List.getElem?_eq_some_iff.1 hx).1
   have hg : l.getD k default = x := by rw [List.getD_eq_getElem?_getD, hx]; rfl
   have key : ∀ j d, j < 6 → (eCd (l.getD k default))[j]? = some d → ∀ v, d = .sc v → w.cell? ⟨b, o + k * 6 + j, none⟩ = some v := fun j d hj hd v hv => by
    have h1 := hu k j hk hj
    have h2 := hr k j d hk hd
    rw [hv] at h2
    rw [h1, rep_sc h2]
   rw [hg] at key
   exact ⟨key 0 _ (by omega) rfl _ rfl, key 1 _ (by omega) rfl _ rfl, key 2 _ (by omega) rfl _ rfl, key 3 _ (by omega) rfl _ rfl, key 4 _ (by omega) rfl _ rfl, key 5 _ (by omega) rfl _ rfl⟩
theorem carI_idx (W : Wd) (p m : Int) : idxI (carAt W p m) = carI W p m := by
 unfold idxI carI
 cases carAt W p m <;> rfl
theorem vmCarriedAt (W : Wd) (p m : Int) : FnH Tryz.prog 133 [910] [.ptr 910 0, aI p, aI m] [(910, .blk (av (eWd W)))] (aI (carI W p m)) [(910, .blk (av (eWd W)))] := by
 refine fn_read ⟨_, Tryz.func133, by kernel_rfl, rfl⟩ fun z w X vs hin hus => ?_
 obtain ⟨e1, e2⟩ := hus
 simp only [List.length_cons, List.length_nil, Nat.zero_add, Nat.reduceAdd] at e1
 obtain ⟨v0, v1, v2, rfl⟩ : ∃ v0 v1 v2, vs = [v0, v1, v2] := by
  match vs, e1 with
  | [a, b, c], _ => exact ⟨a, b, c, rfl⟩
 have a0 := e2 0 _ _ rfl rfl
 have a1 := (e2 1 _ _ rfl rfl).dsc.1
 have a2 := (e2 2 _ _ rfl rfl).dsc.1
 subst a1 a2
 cases a0
 have ho := hin.1 910 _ rfl
 have hlt := (hin.2.1 910 _ rfl trivial).1
 generalize hO : okB X z [(910, .blk (av (eWd W)))] w = ok at ho
 have hok : ∀ b, ok b → b < w.heap.size := fun b hb => by rw [← hO] at hb; exact hb.1
 cases ho with
 | @blk _ us t hh hl h _ =>
   have hl10 : 10 ≤ us.length := hl
   have h8 : us[8]? = some us[8] := List.getElem?_eq_getElem (by omega)
   have hv := h 8 _ _ rfl h8
   generalize us[8] = u8 at h8 hv
   cases hv with
   | d hr =>
     obtain ⟨A, c, rfl, hc, hS⟩ := cds_of hok hr
     refine (carriedAt_raw A _ c (z.b 910) W p m w hlt ((cell_of_heap hh 8).trans h8) hc hS).mono ?_
     rintro e w' ⟨rfl, hb⟩
     exact ⟨_, rfl, hb, fun ok => by rw [carI_idx]; exact .d (.sc rfl)⟩
theorem cds_arr {w : World} {ok : Nat → Prop} {z : Cz} {i : Nat} {l : List Cd} (h : OR z w ok i (hL 82 6 eCd l)) (hlt : 0 < z.c i → z.b i < w.heap.size) {A : Option Addr} (hA : 0 < z.c i → A = some ⟨z.b i, 0, none⟩) : (l.length ≤ z.c i ∧ z.c i ≤ 9223372036854775807) ∧ CdsAt w A l.length l := by
 unfold hL at h
 cases h with
 | @arr _ _ _ _ us hh hl hn hc hf h =>
   refine ⟨⟨hn, by unfold maxLen at hc; omega⟩, rfl, fun h0 => ?_⟩
   have hc0 : 0 < z.c i := by omega
   refine ⟨z.b i, 0, hA hc0, hlt hc0, fun k x hx => ?_⟩
   have hk : k < l.length := (List.getElem?_eq_some_iff.1 hx).1
   have hg : l.getD k default = x := by rw [List.getD_eq_getElem?_getD, hx]; rfl
   have hkc : (k + 1) * 6 ≤ z.c i * 6 := Nat.mul_le_mul_right _ (by omega)
   have key : ∀ j d, j < 6 → (eCd (l.getD k default))[j]? = some d → ∀ v, d = .sc v → w.cell? ⟨z.b i, 0 + k * 6 + j, none⟩ = some v := fun j d hj hd v hv => by
    have hj' : us[k * 6 + j]? = some (us[k * 6 + j]'(by omega)) := List.getElem?_eq_getElem _
    have h2 := h k j d _ hk hd hj'
    rw [hv] at h2
    have := rep_sc h2
    rw [Nat.zero_add, cell_of_heap (hh hc0), hj', this]
   rw [hg] at key
   exact ⟨key 0 _ (by omega) rfl _ rfl, key 1 _ (by omega) rfl _ rfl, key 2 _ (by omega) rfl _ rfl, key 3 _ (by omega) rfl _ rfl, key 4 _ (by omega) rfl _ rfl, key 5 _ (by omega) rfl _ rfl⟩
theorem vmCarriedAtH (W : Wd) (p m : Int) : FnH Tryz.prog 133 [910, 901, 902, 903, 904, 905, 907, 908, 909] [.ptr 910 0, aI p, aI m] [(910, hW W), (908, hL 82 6 eCd W.carried)] (aI (carI W p m)) [(910, hW W), (908, hL 82 6 eCd W.carried)] := by
 refine fn_read ⟨_, Tryz.func133, by kernel_rfl, rfl⟩ fun z w X vs hin hus => ?_
 obtain ⟨e1, e2⟩ := hus
 simp only [List.length_cons, List.length_nil, Nat.zero_add, Nat.reduceAdd] at e1
 obtain ⟨v0, v1, v2, rfl⟩ : ∃ v0 v1 v2, vs = [v0, v1, v2] := by
  match vs, e1 with
  | [a, b, c], _ => exact ⟨a, b, c, rfl⟩
 have a0 := e2 0 _ _ rfl rfl
 have a1 := (e2 1 _ _ rfl rfl).dsc.1
 have a2 := (e2 2 _ _ rfl rfl).dsc.1
 subst a1 a2
 cases a0
 have ho := hin.1 910 _ rfl
 have hc8 := hin.1 908 _ rfl
 have hlt := (hin.2.1 910 _ rfl trivial).1
 have hlt8 := fun h0 => (hin.2.1 908 _ rfl h0).1
 unfold hW at ho
 cases ho with
 | @blk _ us t hh hl h _ =>
   have hl10 : 10 ≤ us.length := hl
   have h8 : us[8]? = some us[8] := List.getElem?_eq_getElem (by omega)
   have hv := h 8 _ _ rfl h8
   generalize us[8] = u8 at h8 hv
   cases hv with
   | @own _ _ A hn hc hA =>
     obtain ⟨hc', hS⟩ := cds_arr hc8 hlt8 hA
     refine (carriedAt_raw A _ _ (z.b 910) W p m w hlt ((cell_of_heap hh 8).trans h8) hc' hS).mono ?_
     rintro e w' ⟨rfl, hb⟩
     exact ⟨_, rfl, hb, fun ok => by rw [carI_idx]; exact .d (.sc rfl)⟩
instance : FldO Tryz.prog 180 0 0 := ⟨_, _, Tryz.underlying180, rfl, rfl, by kernel_rfl⟩
instance : FldO Tryz.prog 180 1 1 := ⟨_, _, Tryz.underlying180, rfl, rfl, by kernel_rfl⟩
instance : ZT Tryz.prog 180 (.agg #[.pointer none, .slice none 0 0]) := ⟨Tryz.t180, by kernel_rfl, rfl⟩
theorem rawCC_used (b : Nat) (w : World) (h0 : w.cell? ⟨b, 0, none⟩ = some (.pointer (some ⟨b, 0, none⟩))) :
 Calls Tryz.prog 183 #[.pointer (some ⟨b, 0, none⟩)] w fun e w' => e = .returned (.tuple #[]) ∧ w' = w := by
 have mixed : Tryz.prog.follows Departure.mixedOrders = true := by kernel_rfl
 go_enter Tryz.func183, Tryz.ntmps183
 go_wp2
 rw [Lib.run_neq_ptr_same w _ Tryz.underlying178 (j := Tryz.t180) (by kernel_rfl)]
 go_wp2
 go_end0
 exact ⟨rfl, rfl⟩
theorem rawCC_fresh (b : Nat) (w : World) (h0 : w.cell? ⟨b, 0, none⟩ = some (.pointer none)) (hsh : w.shape? b = some (180, 2)) (hfz : w.frozen? ⟨b, 0, none⟩ = false) :
 Calls Tryz.prog 183 #[.pointer (some ⟨b, 0, none⟩)] w fun e w' => e = .returned (.tuple #[]) ∧ w' = w.setCell ⟨b, 0, none⟩ (.pointer (some ⟨b, 0, none⟩)) := by
 have mixed : Tryz.prog.follows Departure.mixedOrders = true := by kernel_rfl
 go_enter Tryz.func183, Tryz.ntmps183
 go_wp2
 rw [Lib.run_to_unsafe w ⟨b, 0, none⟩ Tryz.underlying178 Tryz.underlying224 (j := Tryz.t180) (by kernel_rfl) (by decide) hsh (Nat.zero_lt_succ 1)]
 simp only [Result.andThen]
 rw [Oper.upon_value]
 go_wp2
 rw [run_callFunc_extern Tryz.func199 (by kernel_rfl) (by kernel_rfl) (by kernel_rfl) (e := Extern.AbiNoEscape.same) (by kernel_rfl)]
 rw [Lib.run_noEscape]
 simp only [Result.andThen]
 rw [Oper.upon_value]
 go_wp2
 rw [Lib.run_from_unsafe w ⟨b, 0, none⟩ Tryz.underlying224 Tryz.underlying178 (j := Tryz.t180) (by kernel_rfl) hsh (by kernel_rfl)]
 simp only [Result.andThen]
 rw [Oper.upon_value]
 go_wp2
 go_end0
 exact ⟨rfl, rfl⟩
theorem rawBString (b g cap : Nat) (l : List UInt8) (cur : Array Value) (w : World) (h0 : l ≠ []) (c1 : w.cell? ⟨b, 1, none⟩ = some (.slice (some ⟨g, 0, none⟩) l.length cap)) (hg : w.heap[g]? = some (.cells cur 5 (0, 0))) (hnc : l.length ≤ cap) (hcm : cap ≤ maxLen) (hcs : cur.size = cap) (hcells : ∀ j x, l[j]? = some x → w.cell? ⟨g, j, none⟩ = some (.int .u8 (x.toNat : Int))) :
 Calls Tryz.prog 150 #[.pointer (some ⟨b, 0, none⟩)] w fun e w' => e = .returned (.string (S l)) ∧ w.grownBy w' (some g) := by
 have mixed : Tryz.prog.follows Departure.mixedOrders = true := by kernel_rfl
 have hl0 : l.length ≠ 0 := by simpa using h0
 have c1' : w.drew.cell? ⟨b, 1, none⟩ = some (.slice (some ⟨g, 0, none⟩) l.length cap) := c1
 have hSD : (Builtin.unsafeSliceData_ #[22] 213 #[.slice (some ⟨g, 0, none⟩) l.length cap]).run Tryz.prog w.drew = .ok (.pointer (some ⟨g, 0, none⟩)) w.drew :=
  Lib.run_unsafeSliceData_row _ _ _ _ _ _ (by omega)
 have hUS : (Builtin.unsafeString_ #[213, 3] 9 #[.pointer (some ⟨g, 0, none⟩), .int .i64 l.length]).run Tryz.prog w.drew = .ok (.string ⟨l.toArray⟩) (w.drew.freeze ⟨g, 0, none⟩ l.length) := by
  refine Lib.run_unsafeString_row w.drew 213 3 9 5 Tryz.underlying213 (by kernel_rfl) g cur.size (by have hg' : w.drew.heap[g]? = some (.cells cur 5 (0, 0)) := hg; simp [World.shape?, hg']) l h0 (by omega) (by unfold maxLen at hcm; omega) ?_
  intro j x hx
  rw [add0, Nat.zero_add]
  exact hcells j x hx
 have hfr : w.grownBy (w.drew.freeze ⟨g, 0, none⟩ l.length) (some g) := by
  unfold World.freeze
  split
  ·exact ⟨rfl, rfl, rfl, Nat.le_refl _, fun _ _ _ => rfl⟩
  ·refine ⟨rfl, rfl, rfl, by show w.heap.size ≤ (Array.modify w.heap g _).size; rw [Array.size_modify]; exact Nat.le_refl _, fun k _ hne => ?_⟩
   have : k ≠ g := fun e => hne (by rw [e])
   show (Array.modify w.heap g _)[k]? = _
   rw [Array.getElem?_modify, if_neg (Ne.symm this)]
 have hS : (S l : ByteArray) = ⟨l.toArray⟩ := by unfold S; simp
 rw [hS]
 have hfr' := Hid.out (p := w.grownBy (w.drew.freeze ⟨g, 0, none⟩ l.length) (some g)) hfr
 clear hcells hg hcs
 go_enter Tryz.func150, Tryz.ntmps150
 go_wp2
 go_region_o
 all_goals (go_wp2; go_ret; exact ⟨rfl, hfr'⟩)
theorem kin_two {X : Nat → Prop} {z : Cz} {hin hout : List (Nat × Ob)} {w w' : World} {q : Nat} {obq : Ob} (hg : w.grownBy w' (some (z.b q))) (hq : look hin q = some obq) (hp : phys z q obq) (hs : ∀ i ob, look hout i = some ob → phys z i ob → ∃ ob', look hin i = some ob' ∧ phys z i ob') : Kin w (okB X z hin w) w' (okB X z hout w') := fun b hb => by
 have hne : z.b q ≠ b := hb.2.2 q _ hq hp
 refine ⟨⟨Nat.lt_of_lt_of_le hb.1 hg.size, hb.2.1, fun i ob hi hpi => ?_⟩, hg.block b hb.1 (fun e => hne (by injection e with e; exact e.symm))⟩
 obtain ⟨ob', h1, h2⟩ := hs i ob hi hpi
 exact hb.2.2 i ob' h1 h2
theorem look_1b {q i : Nat} {o ob : Ob} (h : look [(q, o)] i = some ob) : q = i ∧ ob = o := look_1 h
theorem vmCopyCheck (a y : AV) (ha : a = .d (.sc (.pointer none)) ∨ a = .ptr 100180 0) (i : Nat) (_hi : i = i) : FnH Tryz.prog 183 [100180, i] [.ptr 100180 0] [(100180, .blk [a, y])] (.tu []) [(100180, .blk [.ptr 100180 0, y])] := by
 refine ⟨⟨_, Tryz.func183, by kernel_rfl, rfl⟩, fun z w X vs hX hin hus => ?_⟩
 obtain ⟨e1, e2⟩ := hus
 simp only [List.length_cons, List.length_nil, Nat.zero_add] at e1
 obtain ⟨v0, rfl⟩ : ∃ v0, vs = [v0] := by
  match vs, e1 with
  | [a], _ => exact ⟨a, rfl⟩
 have a0 := e2 0 _ _ rfl rfl
 cases a0
 have hq : look [(100180, Ob.blk [a, y])] 100180 = some (.blk [a, y]) := rfl
 have ho := hin.1 100180 _ hq
 have hlt := (hin.2.1 100180 _ hq trivial).1
 cases ho with
 | @blk _ us t hh hl h ht =>
   obtain ⟨t1, t2⟩ := ht (by decide)
   obtain rfl : t = 180 := Nat.add_right_cancel (m := 100000) t1
   have t2 : us.length = 2 := t2
   obtain ⟨u0, u1, rfl⟩ : ∃ u0 u1, us = [u0, u1] := by
    match us, t2 with
    | [a, b], _ => exact ⟨a, b, rfl⟩
   have c0 : w.cell? ⟨z.b 100180, 0, none⟩ = some u0 := (cell_of_heap hh 0).trans rfl
   have hsh : w.shape? (z.b 100180) = some (180, 2) := by simp [World.shape?, hh]
   have key : Calls Tryz.prog 183 #[.pointer (some ⟨z.b 100180, 0, none⟩)] w fun e w' => e = .returned (.tuple #[]) ∧ w.grownBy w' (some (z.b 100180)) ∧ w'.heap[z.b 100180]? = some (.cells #[.pointer (some ⟨z.b 100180, 0, none⟩), u1] 180 (0, 0)) := by
    have h0 := h 0 _ _ rfl rfl
    rcases ha with rfl | rfl
    ·obtain rfl := h0.dsc.1
     refine (rawCC_fresh _ w c0 hsh (frozen_of_heap hh 0)).mono ?_
     rintro e w' ⟨rfl, rfl⟩
     refine ⟨rfl, ⟨rfl, rfl, rfl, by show w.heap.size ≤ (Array.modify w.heap _ _).size; rw [Array.size_modify]; exact Nat.le_refl _, fun k _ hne => ?_⟩, ?_⟩
     ·have : k ≠ z.b 100180 := fun e => hne (by rw [e])
      show (Array.modify w.heap _ _)[k]? = _
      rw [Array.getElem?_modify, if_neg (Ne.symm this)]
     ·show (Array.modify w.heap (z.b 100180) _)[z.b 100180]? = _
      rw [Array.getElem?_modify, if_pos rfl, hh]
      rfl
    ·cases h0
     refine (rawCC_used _ w c0).mono ?_
     rintro e w' ⟨rfl, rfl⟩
     exact ⟨rfl, World.grownBy.refl _ _, hh⟩
   refine key.mono ?_
   rintro e w' ⟨rfl, hg, hh'⟩
   have hk : Kin w (okB X z [(100180, .blk [a, y])] w) w' (okB X z [(100180, .blk [.ptr 100180 0, y])] w') := kin_two hg hq trivial (fun i ob hi hp => by obtain ⟨rfl, rfl⟩ := look_1b hi; exact ⟨_, hq, trivial⟩)
   refine ⟨_, z, rfl, .tu rfl (fun j x u hx => by simp at hx), ⟨fun i ob hi => ?_, fun i ob hi hp => ?_, fun i j ob ob' hi hj _ _ _ => (look_1b hi).1.symm.trans (look_1b hj).1⟩, ⟨hg.os, hg.tape, hg.output, hg.size, fun b hb hnf => hg.block b hb (fun e => hnf ⟨_, _, hq, trivial, by injection e with e; exact e.symm⟩)⟩, fun i ob hi hp => ?_, fun i _ => ⟨rfl, rfl⟩⟩
   ·obtain ⟨rfl, rfl⟩ := look_1b hi
    refine .blk (us := [_, u1]) hh' (Nat.le_refl _) (fun j x u hx hu => ?_) (fun _ => ⟨rfl, rfl⟩)
    match j with
    | 0 =>
      simp only [List.getElem?_cons_zero, Option.some.injEq] at hx hu
      subst hx hu
      exact .ptr
    | 1 =>
      simp only [List.getElem?_cons_succ, List.getElem?_cons_zero, Option.some.injEq] at hx hu
      subst hx hu
      exact (h 1 _ _ rfl rfl).mov hk (fun _ _ => ⟨rfl, rfl⟩)
    | j + 2 => simp at hx
   ·obtain ⟨rfl, rfl⟩ := look_1b hi
    exact ⟨Nat.lt_of_lt_of_le hlt hg.size, (hin.2.1 _ _ hq trivial).2⟩
   ·obtain ⟨rfl, rfl⟩ := look_1b hi
    exact .inl ⟨_, _, hq, trivial, rfl⟩
theorem vmBString (a : AV) (i : Nat) (hiq : i ≠ 100180) (l : List UInt8) (h0 : l ≠ []) : FnH Tryz.prog 150 [100180, i] [.ptr 100180 0] [(100180, .blk [a, .own i l.length]), (i, .arr 5 1 l.length (fun j => eBy (l.getD j default)))] (aS l) [] := by
 refine ⟨⟨_, Tryz.func150, by kernel_rfl, rfl⟩, fun z w X vs hX hin hus => ?_⟩
 obtain ⟨e1, e2⟩ := hus
 simp only [List.length_cons, List.length_nil, Nat.zero_add] at e1
 obtain ⟨v0, rfl⟩ : ∃ v0, vs = [v0] := by
  match vs, e1 with
  | [a], _ => exact ⟨a, rfl⟩
 have a0 := e2 0 _ _ rfl rfl
 cases a0
 have hq : look [(100180, Ob.blk [a, .own i l.length]), (i, .arr 5 1 l.length (fun j => eBy (l.getD j default)))] 100180 = some (.blk [a, .own i l.length]) := by rw [look_cons, if_pos rfl]
 have hi : look [(100180, Ob.blk [a, .own i l.length]), (i, .arr 5 1 l.length (fun j => eBy (l.getD j default)))] i = some (.arr 5 1 l.length (fun j => eBy (l.getD j default))) := by rw [look_cons, if_neg (Ne.symm hiq), look_cons, if_pos rfl]
 have ho := hin.1 100180 _ hq
 have hoi := hin.1 i _ hi
 cases ho with
 | @blk _ us t hh hl h ht =>
 cases hoi with
 | @arr _ _ _ _ vus hhi hli hni hci hfi hri =>
   obtain ⟨t1, t2⟩ := ht (by decide)
   have t2 : us.length = 2 := t2
   obtain ⟨u0, u1, rfl⟩ : ∃ u0 u1, us = [u0, u1] := by
    match us, t2 with
    | [a, b], _ => exact ⟨a, b, rfl⟩
   have h1 := h 1 _ _ rfl rfl
   cases h1 with
   | @own _ _ A hn hc hA =>
     have hl0 : 0 < l.length := List.length_pos_iff.2 h0
     have hc0 : 0 < z.c i := by omega
     obtain rfl := hA hc0
     have c1 : w.cell? ⟨z.b 100180, 1, none⟩ = some (.slice (some ⟨z.b i, 0, none⟩) l.length (z.c i)) := (cell_of_heap hh 1).trans rfl
     refine (rawBString (z.b 100180) (z.b i) (z.c i) l vus.toArray w h0 c1 (hhi hc0) hn hc (by simpa using hli) (fun j x hx => ?_)).mono ?_
     ·have hj : j < l.length := (List.getElem?_eq_some_iff.1 hx).1
      have hju : vus[j]? = some (vus[j]'(by omega)) := List.getElem?_eq_getElem _
      have := hri j 0 _ _ hj rfl (by rw [Nat.mul_one, Nat.add_zero]; exact hju)
      have hg : l.getD j default = x := by rw [List.getD_eq_getElem?_getD, hx]; rfl
      rw [hg] at this
      have := rep_sc this
      rw [cell_of_heap (hhi hc0), hju, this]
     ·rintro e w' ⟨rfl, hg⟩
      refine ⟨_, z, rfl, .d (.sc rfl), ⟨fun i ob hi => (by cases hi), fun i ob hi => (by cases hi), fun i j ob ob' hi => (by cases hi)⟩, ⟨hg.os, hg.tape, hg.output, hg.size, fun b hb hnf => hg.block b hb (fun e => hnf ⟨i, _, hi, hc0, by injection e with e; exact e.symm⟩)⟩, fun i ob hi => (by cases hi), fun i hi => ⟨rfl, rfl⟩⟩
theorem OT.callD {P : Program} {o : Oper} {s : St} {f : FuncId} {qs : Array Operand} {ts : Array TypeId} {avs args : List AV} {d q p : Nat} {obq obp : Ob} {r : AV} (hd : o.dst = some d) (ho : o.op = .call { callee := .value (.func f), args := qs, argTypes := ts }) (hq : evl s qs.toList = some avs) (hle : LeCs avs args)
 (hF : FnH P f [q, p] args [(q, obq), (p, obp)] r []) (hiq : look s.hp q = some obq) (hip : look s.hp p = some obp) (hqp : Nat.beq q p = false) (hr : idsIn [] r = true) : OT P o s d r [] [q, p] := by
 refine ⟨hd, fun x s' a w hs hn hf hsim K Q hK => ?_⟩
 have hqp' := Nat.ne_of_beq_eq_false hqp
 have hq' : evl ⟨s'.nt, s'.env, s'.hp⟩ qs.toList = some avs := by
  have key : ∀ (l : List Operand) (vs : List AV), evl s l = some vs → evl s' l = some vs := by
   intro l
   induction l with
   | nil => intro vs h; exact h
   | cons q r ih =>
     intro vs h
     rw [evl] at h ⊢
     split at h
     ·rename_i v vs' e1 e2
      rw [hs.ev e1, ih vs' e2]
      exact h
     ·cases h
  exact key _ _ hq
 have bd : ∀ i j : Nat, i ≠ j → Nat.beq i j = false := fun i j h => by
  cases hb : Nat.beq i j
  ·rfl
  ·exact absurd (Nat.eq_of_beq_eq_true hb) h
 have hnk : newK [q, p] (keys [(q, obq), (p, obp)] ++ keys ([] : List (Nat × Ob))) = [] := by
  simp [newK, keys, memB, bd q p hqp']
 refine wp_callH (P := P) (nt := s'.nt) (e := s'.env) (h := s'.hp) ho hq' hF hle (by
  show look s'.hp q = some obq ∧ look s'.hp p = some obp ∧ True
  exact ⟨hs.hp q obq hiq, hs.hp p obp hip, trivial⟩) (by
  rw [hnk, Bool.and_eq_true]
  exact ⟨List.all_eq_true.2 fun i hi => rfl, rfl⟩) (idsIn_mono (ks := []) (by simp) hr) hsim (fun z u w' g1 g2 => ?_)
 refine hK _ _ ⟨z, ?_⟩
 have hforgE : ∀ l : List (Nat × AV), forgE [] l = l := fun l => by
  induction l with
  | nil => rfl
  | cons p r ih => obtain ⟨t, y⟩ := p; rw [forgE, ih, forgV_nil]
 have hforgH : ∀ l : List (Nat × Ob), forgH [] l = l := fun l => by
  induction l with
  | nil => rfl
  | cons p r ih =>
    obtain ⟨t, y⟩ := p
    rw [forgH, ih]
    cases y with
    | blk xs =>
      have : xs.map (forgV []) = xs := by
       induction xs with
       | nil => rfl
       | cons x r ih2 => rw [List.map_cons, ih2, forgV_nil]
      simp only [forgO, this]
    | arr => rfl
 have hle2 : ((s'.rm [q, p]).add []).le ⟨s'.nt, afterE [q, p] [(q, obq), (p, obp)] [] s'.env, afterH [q, p] [(q, obq), (p, obp)] [] s'.hp⟩ := by
  refine ⟨rfl, fun i y e => ?_, fun i ok e => ?_⟩
  ·show look (afterE _ _ _ _) i = some y
   unfold afterE
   rw [hnk, hforgE]
   exact e
  ·have e : look ([] ++ rmL [q, p] s'.hp) i = some ok := e
   show look (afterH _ _ _ _) i = some ok
   unfold afterH
   rw [hnk, hforgH]
   exact e
 rw [hd]
 exact (g1.weak hle2).put hn (g2.mov (fun b hb => ⟨⟨hb.1, hb.2.1, fun k ok e hp => hb.2.2 k ok (hle2.hp k ok e) hp⟩, rfl⟩) (fun _ _ => ⟨rfl, rfl⟩))
def rdB (bs : List UInt8) (p : Nat) : List (Nat × Ob) := [(100089, .blk [.d (dL 1 eBy bs), aI p])]
theorem xor_nat (a b : Nat) (ha : a < 9223372036854775808) (hb : b < 9223372036854775808) : ∃ x : Nat, bits .xor .i64 (a : Int) (b : Int) = (x : Int) ∧ x < 9223372036854775808 := by
 have ofI : ∀ a : Nat, a < 9223372036854775808 → (BitVec.ofInt 64 (a : Int)).toNat = a := fun a ha => by
  rw [BitVec.ofInt_natCast, BitVec.toNat_ofNat]; exact Nat.mod_eq_of_lt (by omega)
 have hx : a ^^^ b < 2 ^ 63 := Nat.xor_lt_two_pow (by omega) (by omega)
 refine ⟨a ^^^ b, ?_, by omega⟩
 show IntKind.i64.wrap ((BitVec.ofInt 64 (a : Int) ^^^ BitVec.ofInt 64 (b : Int)).toNat : Int) = _
 rw [BitVec.toNat_xor, ofI a ha, ofI b hb, IntKind.wrap_i64]
 omega
def PickRaw (g p : Nat) (n : Int) (w : World) (e : Ending) (w' : World) : Prop :=
 ∃ v : Nat, e = .returned (.int .i64 v) ∧ (1 ≤ n → (v : Int) < n) ∧ (n < 1 → v = 0) ∧ Below w.heap.size (w.setCell ⟨g, 1, none⟩ (.int .i64 ((p : Int) + 1))) w'
theorem below_set {w : World} {g : Nat} (u : Value) : Below w.heap.size (w.setCell ⟨g, 1, none⟩ u) (w.setCell ⟨g, 1, none⟩ u) := Below.refl _ _
theorem pick_raw (g p m c : Nat) (A : Option Addr) (bs : List UInt8) (n : Int) (w : World) (hh : w.heap[g]? = some (.cells #[.slice A m c, .int .i64 (p : Int)] 89 (0, 0))) (hm : m ≤ 2000) (hmc : m ≤ c) (hcm : c ≤ maxLen)
 (hat : ∀ k, k < m → ∃ b o u, A = some ⟨b, o, none⟩ ∧ b ≠ g ∧ bs[k]? = some u ∧ w.cell? ⟨b, o + k, none⟩ = some (.int .u8 ((UInt8.toNat u : Nat) : Int))) (hp : p ≤ 1000000) (h1 : -1000000 ≤ n) (h2 : n ≤ 1000000) :
 Calls Tryz.prog 22 #[.pointer (some ⟨g, 0, none⟩), .int .i64 n] w (PickRaw g p n w) := by
 have hc0 : w.cell? ⟨g, 0, none⟩ = some (.slice A m c) := by simp [World.cell?, hh]
 have hc1 : w.cell? ⟨g, 1, none⟩ = some (.int .i64 (p : Int)) := by simp [World.cell?, hh]
 have hf1 : w.frozen? ⟨g, 1, none⟩ = false := by simp [World.frozen?, hh]
 have HH := Lib.hid hh
 clear hh
 have hst := Lib.hid (below_set (w := w) (g := g) (.int .i64 ((p : Int) + 1)))
 by_cases hn : n < 1
 ·go_enter Tryz.func22, Tryz.ntmps22
  go_wp2
  go_ret
  exact ⟨0, rfl, fun h => by omega, fun _ => rfl, hst.out⟩
 ·have hn1 : 1 ≤ n := by omega
  rcases Nat.eq_zero_or_pos m with hm0 | hm0
  ·subst hm0
   go_enter Tryz.func22, Tryz.ntmps22
   go_wp2
   go_ret
   exact ⟨0, rfl, fun _ => by omega, fun _ => rfl, hst.out⟩
  ·have hmne : ((m : Int) == 0) = false := by simp; omega
   by_cases hpm : p < m
   ·obtain ⟨b, o, u, rfl, hne, hu, hc⟩ := hat _ hpm
    have hul := UInt8.toNat_lt u
    clear hu
    go_enter Tryz.func22, Tryz.ntmps22
    go_wp2
    go_ret
    have hv : ((u.toNat % n.toNat : Nat) : Int) = (u.toNat : Int) % n := by rw [Int.natCast_emod, Int.toNat_of_nonneg (by omega)]
    refine ⟨u.toNat % n.toNat, ret_int hv.symm, fun _ => ?_, fun h => by omega, hst.out⟩
    rw [hv]
    exact Int.emod_lt_of_pos _ (by omega)
   ·obtain ⟨b, o, u, rfl, hne, hu, hc⟩ := hat _ (Nat.mod_lt p hm0)
    obtain ⟨b2, o2, u2, e2, hne2, hu2, hc2⟩ := hat _ (Nat.mod_lt (p * 7 + 3) hm0)
    obtain ⟨rfl, rfl⟩ : b = b2 ∧ o = o2 := by simpa using e2
    have hul := UInt8.toNat_lt u
    have hul2 := UInt8.toNat_lt u2
    clear hu hu2 e2
    obtain ⟨i1, hi1⟩ : ∃ i, i = p % m := ⟨_, rfl⟩
    obtain ⟨i2, hi2⟩ : ∃ i, i = (p * 7 + 3) % m := ⟨_, rfl⟩
    obtain ⟨d, hd⟩ : ∃ d, d = p / m := ⟨_, rfl⟩
    have hdp : d ≤ p := by rw [hd]; exact Nat.div_le_self _ _
    have hi1m : i1 < m := by rw [hi1]; exact Nat.mod_lt _ hm0
    have hi2m : i2 < m := by rw [hi2]; exact Nat.mod_lt _ hm0
    rw [← hi1] at hc
    rw [← hi2] at hc2
    have q1 : (p : Int).tmod (m : Int) = (i1 : Int) := by rw [Int.tmod_eq_emod_of_nonneg (by omega), hi1]; simp
    have q2 : ((p : Int) * 7 + 3).tmod (m : Int) = (i2 : Int) := by rw [Int.tmod_eq_emod_of_nonneg (by omega), hi2]; simp
    have q3 : (p : Int).tdiv (m : Int) = (d : Int) := by rw [Int.tdiv_eq_ediv_of_nonneg (by omega), hd]; simp
    have r1 : IntKind.i64.wrap ((p : Int) * 7) = (p : Int) * 7 := IntWalk.i64_in _ (by omega)
    have r2 : IntKind.i64.wrap ((p : Int) * 7 + 3) = (p : Int) * 7 + 3 := IntWalk.i64_in _ (by omega)
    have r3 : IntKind.i64.wrap ((u.toNat : Int) * 131) = (u.toNat : Int) * 131 := IntWalk.i64_in _ (by omega)
    have r4 : IntKind.i64.wrap ((u2.toNat : Int) * 1117) = (u2.toNat : Int) * 1117 := IntWalk.i64_in _ (by omega)
    have r5 : IntKind.i64.wrap ((p : Int) * 29) = (p : Int) * 29 := IntWalk.i64_in _ (by omega)
    have r6 : IntKind.i64.wrap ((d : Int) * 53) = (d : Int) * 53 := IntWalk.i64_in _ (by omega)
    have r7 : IntKind.i64.wrap ((u.toNat : Int) * 131 + (u2.toNat : Int) * 1117) = (u.toNat : Int) * 131 + (u2.toNat : Int) * 1117 := IntWalk.i64_in _ (by omega)
    have r8 : IntKind.i64.wrap ((u.toNat : Int) * 131 + (u2.toNat : Int) * 1117 + (p : Int) * 29) = (u.toNat : Int) * 131 + (u2.toNat : Int) * 1117 + (p : Int) * 29 := IntWalk.i64_in _ (by omega)
    have r9 : IntKind.i64.wrap ((u.toNat : Int) * 131 + (u2.toNat : Int) * 1117 + (p : Int) * 29 + (d : Int) * 53) = (u.toNat : Int) * 131 + (u2.toNat : Int) * 1117 + (p : Int) * 29 + (d : Int) * 53 := IntWalk.i64_in _ (by omega)
    clear hi1 hi2 hd
    go_enter Tryz.func22, Tryz.ntmps22
    go_wp2
    go_quiet (fail)
    clear q1 q2 q3 r1 r2 r3 r4 r5 r6 r7 r8 r9
    obtain ⟨x, hx⟩ : ∃ x : Nat, (x : Int) = (u.toNat : Int) * 131 + (u2.toNat : Int) * 1117 + (p : Int) * 29 + (d : Int) * 53 := ⟨u.toNat * 131 + u2.toNat * 1117 + p * 29 + d * 53, by simp⟩
    have hx1 : x < 9223372036854775808 := by omega
    rw [← hx]
    obtain ⟨y, hy, hy1⟩ := xor_nat x (x / 64) hx1 (by omega)
    have hy' : bits .xor .i64 (x : Int) ((x : Int) / 64) = (y : Int) := by rw [← hy, Int.natCast_ediv]; rfl
    clear hy
    clear hx
    go_wp2
    go_ret
    have hv : ((y % n.toNat : Nat) : Int) = (y : Int) % n := by rw [Int.natCast_emod, Int.toNat_of_nonneg (by omega)]
    refine ⟨y % n.toNat, ret_int (by rw [hv]), fun _ => ?_, fun h => by omega, below_drewN (hst.out) _⟩
    rw [hv]
    exact Int.emod_lt_of_pos _ (by omega)
theorem vlPick (bs : List UInt8) (p : Nat) (n : Int) (hp : p ≤ 1000000) (hb : bs.length ≤ 2000) (h1 : -1000000 ≤ n) (h2 : n ≤ 1000000) :
 FnE Tryz.prog 22 [100089] [.ptr 100089 0, aI n] (rdB bs p) (fun (v : Int) q => (0 ≤ v ∧ (1 ≤ n → v < n) ∧ (n < 1 → v = 0)) ∧ q = p + 1) (fun v _ => aI v) (fun _ q => rdB bs q) := by
 refine ⟨⟨_, Tryz.func22, by kernel_rfl, rfl⟩, fun z w X vs hX hin hus => ?_⟩
 obtain ⟨e1, e2⟩ := hus
 simp only [List.length_cons, List.length_nil, Nat.zero_add] at e1
 obtain ⟨v0, v1, rfl⟩ : ∃ v0 v1, vs = [v0, v1] := by
  match vs, e1 with
  | [a, b], _ => exact ⟨a, b, rfl⟩
 have a0 := e2 0 _ _ rfl rfl
 have a1 := e2 1 _ _ rfl rfl
 cases a0
 obtain rfl := a1.dsc.1
 clear e1 e2 a1
 unfold rdB at hin
 have hq : look [(100089, Ob.blk [.d (dL 1 eBy bs), aI p])] 100089 = some (.blk [.d (dL 1 eBy bs), aI p]) := rfl
 have ho := hin.1 100089 _ hq
 have hlt := (hin.2.1 100089 _ hq trivial).1
 cases ho with
 | @blk _ us t hh hl h ht =>
   obtain ⟨t1, t2⟩ := ht (by decide)
   obtain rfl : t = 89 := Nat.add_right_cancel (m := 100000) t1
   have t2 : us.length = 2 := t2
   obtain ⟨u0, u1, rfl⟩ : ∃ u0 u1, us = [u0, u1] := by
    match us, t2 with
    | [a, b], _ => exact ⟨a, b, rfl⟩
   have c0 := h 0 _ _ rfl rfl
   obtain rfl := (h 1 _ _ rfl rfl).dsc.1
   have c0' := c0
   cases c0 with
   | d c0 =>
     unfold dL at c0
     cases c0 with
     | @sl A m c k f xs b o hn hc hA hb' hl' hu hr =>
       refine (pick_raw (z.b 100089) p bs.length c A bs n w hh hb hn hc (fun k hk => ?_) hp h1 h2).mono ?_
       ·obtain ⟨rfl, hok⟩ := hb' (by omega)
        refine ⟨b, o, bs.getD k default, rfl, fun e => hok.2.2 _ _ hq trivial e.symm, by rw [List.getD_eq_getElem?_getD, List.getElem?_eq_getElem hk]; rfl, ?_⟩
        have g1 := hu k 0 hk (by decide)
        rw [Nat.mul_one, Nat.add_zero] at g1
        rw [g1]
        have g2 := hr k 0 _ hk rfl
        rw [rep_sc g2]
       ·rintro e w' ⟨v, rfl, hv1, hv2, hB⟩
        have hsz : (w.setCell ⟨z.b 100089, 1, none⟩ (.int .i64 ((p : Int) + 1))).heap.size = w.heap.size := by show (Array.modify w.heap _ _).size = _; rw [Array.size_modify]
        have hg : w.grownBy w' (some (z.b 100089)) := ⟨hB.os, hB.tape, hB.output, by have := hB.size; omega, fun k hk hne => (hB.block k hk).trans (by
         have : k ≠ z.b 100089 := fun e => hne (by rw [e])
         show (Array.modify w.heap _ _)[k]? = _
         rw [Array.getElem?_modify, if_neg (Ne.symm this)])⟩
        have hh' : w'.heap[z.b 100089]? = some (.cells #[.slice A bs.length c, .int .i64 ((p : Int) + 1)] 89 (0, 0)) := (hB.block _ hlt).trans (by
         show (Array.modify w.heap (z.b 100089) _)[z.b 100089]? = _
         rw [Array.getElem?_modify, if_pos rfl, hh]
         rfl)
        have hk : Kin w (okB X z [(100089, .blk [.d (dL 1 eBy bs), aI p])] w) w' (okB X z (rdB bs (p + 1)) w') := kin_two hg hq trivial (fun i ob hi hp => by obtain ⟨rfl, rfl⟩ := look_1b hi; exact ⟨_, hq, trivial⟩)
        refine ⟨(v : Int), p + 1, ⟨⟨by omega, hv1, fun h => by rw [hv2 h]; rfl⟩, rfl⟩, _, z, rfl, .mk_sc rfl, ⟨fun i ob hi => ?_, fun i ob hi hp => ?_, fun i j ob ob' hi hj _ _ _ => (look_1b hi).1.symm.trans (look_1b hj).1⟩, ⟨hg.os, hg.tape, hg.output, hg.size, fun b hb hnf => hg.block b hb (fun e => hnf ⟨_, _, hq, trivial, by injection e with e; exact e.symm⟩)⟩, fun i ob hi hp => ?_, fun i _ => ⟨rfl, rfl⟩⟩
        ·obtain ⟨rfl, rfl⟩ := look_1b hi
         refine .blk (us := [_, .int .i64 ((p : Int) + 1)]) hh' (Nat.le_refl _) (fun j x u hx hu => ?_) (fun _ => ⟨rfl, rfl⟩)
         match j with
         | 0 =>
           simp only [List.getElem?_cons_zero, Option.some.injEq] at hx hu
           subst hx hu
           exact c0'.mov hk (fun _ _ => ⟨rfl, rfl⟩)
         | 1 =>
           simp only [List.getElem?_cons_succ, List.getElem?_cons_zero, Option.some.injEq] at hx hu
           subst hx hu
           exact .mk_sc rfl
         | j + 2 => simp at hx
        ·obtain ⟨rfl, rfl⟩ := look_1b hi
         exact ⟨Nat.lt_of_lt_of_le hlt hg.size, (hin.2.1 _ _ hq trivial).2⟩
        ·obtain ⟨rfl, rfl⟩ := look_1b hi
         exact .inl ⟨_, _, hq, trivial, rfl⟩
theorem openFin {z : Cz} {w : World} {X : Nat → Prop} (hX : ∀ b, X b → b < w.heap.size) {v : Value} {bs : List UInt8} (hv : Rep w (okB X z [] w) v (dL 1 eBy bs)) {w' : World} (hw : w' = w.alloc (.cells #[v, .int .i64 0] 89)) :
 ∃ u z', Ending.returned (.pointer (some ⟨w.heap.size, 0, none⟩)) = .returned u ∧ VR z' w' (okB X z' (rdB bs 0) w') (.ptr 100089 0) u ∧ HpOk X z' (rdB bs 0) w' ∧ Frm ⟨w, z, X, foot z []⟩ w' ∧
   (∀ i ob, look (rdB bs 0) i = some ob → phys z' i ob → foot z [] (z'.b i) ∨ w.heap.size ≤ z'.b i) ∧ ∀ i, i ∈ ([] : List Nat) → z'.b i = z.b i ∧ z'.c i = z.c i := by
 obtain ⟨z', hz⟩ : ∃ z' : Cz, z'.b 100089 = w.heap.size := ⟨⟨fun _ => w.heap.size, z.c⟩, rfl⟩
 have hB : Below w.heap.size w w' := by rw [hw]; exact (Below.refl _ _).alloc (Nat.le_refl _) _
 have hh : w'.heap[w.heap.size]? = some (.cells #[v, .int .i64 0] 89 (0, 0)) := by rw [hw]; exact heap_alloc_new w _
 have hlt : w.heap.size < w'.heap.size := (Array.getElem?_eq_some_iff.1 hh).1
 have hk : Kin w (okB X z [] w) w' (okB X z' (rdB bs 0) w') := fun b hb => ⟨⟨Nat.lt_trans hb.1 hlt, hb.2.1, fun i ob hi hp => by
  obtain ⟨rfl, rfl⟩ := look_1b hi
  rw [hz]
  exact Nat.ne_of_gt hb.1⟩, hB.block b hb.1⟩
 refine ⟨_, z', rfl, ?_, ⟨fun i ob hi => ?_, fun i ob hi hp => ?_, fun i j ob ob' hi hj _ _ _ => (look_1b hi).1.symm.trans (look_1b hj).1⟩, ⟨hB.os, hB.tape, hB.output, hB.size, fun b hb _ => hB.block b hb⟩, fun i ob hi hp => ?_, fun i hi => by cases hi⟩
 ·rw [← hz]
  exact .ptr
 ·obtain ⟨rfl, rfl⟩ := look_1b hi
  refine .blk (us := [v, .int .i64 0]) (by rw [hz]; exact hh) (Nat.le_refl _) (fun j x u hx hu => ?_) (fun _ => ⟨rfl, rfl⟩)
  match j with
  | 0 =>
    simp only [List.getElem?_cons_zero, Option.some.injEq] at hx hu
    subst hx hu
    exact .d (hv.mov hk)
  | 1 =>
    simp only [List.getElem?_cons_succ, List.getElem?_cons_zero, Option.some.injEq] at hx hu
    subst hx hu
    exact .mk_sc rfl
  | j + 2 => simp at hx
 ·obtain ⟨rfl, rfl⟩ := look_1b hi
  rw [hz]
  exact ⟨hlt, fun h => Nat.lt_irrefl _ (hX _ h)⟩
 ·obtain ⟨rfl, rfl⟩ := look_1b hi
  exact .inr (by rw [hz]; exact Nat.le_refl _)
theorem vlOpen (bs : List UInt8) : FnH Tryz.prog 20 [] [.d (dL 1 eBy bs)] [] (.ptr 100089 0) (rdB (bs.take 2000) 0) := by
 refine ⟨⟨_, Tryz.func20, by kernel_rfl, rfl⟩, fun z w X vs hX hin hus => ?_⟩
 obtain ⟨e1, e2⟩ := hus
 simp only [List.length_cons, List.length_nil, Nat.zero_add] at e1
 obtain ⟨v0, rfl⟩ : ∃ v0, vs = [v0] := by
  match vs, e1 with
  | [a], _ => exact ⟨a, rfl⟩
 have a0 := e2 0 _ _ rfl rfl
 clear e1 e2
 cases a0 with
 | d h0 =>
   have h0' := h0
   unfold dL at h0
   cases h0 with
   | @sl A m c k f xs b o hn hc hA hb' hl' hu hr =>
     have hm := hc
     unfold maxLen at hm
     by_cases hs : bs.length ≤ 2000
     ·rw [List.take_of_length_le hs]
      have Hfin := Lib.hid (openFin (z := z) (w := w) (X := X) hX h0' rfl)
      clear h0' hu hr hb' hl' hin hX
      generalize bs.length = m at *
      go_enter Tryz.func20, Tryz.ntmps20
      go_wp2
      go_ret
      exact Hfin.out
     ·obtain ⟨rfl, hok⟩ := hb' (by omega)
      have hr2 : Rep w (okB X z [] w) (.slice (some ⟨b, o, none⟩) 2000 c) (dL 1 eBy (bs.take 2000)) := by
       have hlen : (bs.take 2000).length = 2000 := by rw [List.length_take]; omega
       unfold dL
       rw [hlen]
       refine .sl xs b o (by omega) hc (fun h => by cases h) (fun _ => ⟨rfl, hok⟩) (fun i hi => rfl) (fun i j hi hj => hu i j (by omega) hj) (fun i j d hi hd => hr i j d (by omega) ?_)
       rw [← hd]
       congr 1
       simp only [List.getD_eq_getElem?_getD, List.getElem?_take, if_pos hi]
      have Hfin := Lib.hid (openFin (z := z) (w := w) (X := X) hX hr2 rfl)
      clear h0' hu hr hb' hl' hin hX hr2
      generalize bs.length = m at *
      have hc0 : ¬ c = 0 := by omega
      go_enter Tryz.func20, Tryz.ntmps20
      go_wp2
      go_ret
      exact Hfin.out
theorem getD_memN {l : List Bs} {v : Int} (h0 : 0 ≤ v) (h : v < l.length) : l.getD v.toNat default ∈ l := getD_mem' (by omega)
theorem vlOf (bs : List UInt8) (q : Nat) (l : List Bs) (hq : q ≤ 1000000) (hb : bs.length ≤ 2000) (hl : 1 ≤ l.length ∧ l.length ≤ 1000000) : FnE Tryz.prog 124 [100089] [.ptr 100089 0, .d (dL 1 eBs l)] (rdB bs q) (fun (s : Bs) q' => s ∈ l ∧ q' = q + 1) (fun s _ => aS s) (fun _ q' => rdB bs q') := by
 have hP := fun n => vlPick bs q n hq hb
 unfold rdB at hP ⊢
 refine fE Tryz.func124 Tryz.ntmps124 Tryz.results124 ?_
 repeat' (first
  | refine stp ?_
  | (apply K.g0; apply K.callF; refine ceq (F := hP _ (by omega) (by omega)) (G := fun v q' hv => ?_))
  | fail)
 exact retE.r ⟨l.getD v.toNat default, q', ⟨getD_memN hv.1.1 (hv.1.2.1 (by omega)), hv.2⟩, rehw1 (look [(100089, 100089)])⟩
def dataW : List Bs := [[], [97], [97, 98], [97, 98, 99], [104, 101, 108, 108, 111], [100, 97, 116, 97, 32, 100, 97, 116, 97], [48, 49, 50, 51, 52, 53, 54, 55, 56, 57, 97, 98], [120]]
theorem dataW_le : ∀ s ∈ dataW, s.length ≤ 12 := by decide
theorem vlData (bs : List UInt8) (q : Nat) (hq : q ≤ 1000000) (hb : bs.length ≤ 2000) : FnE Tryz.prog 76 [100089] [.ptr 100089 0] (rdB bs q) (fun (s : Bs) q' => s.length ≤ 12 ∧ q' = q + 1) (fun s _ => aS s) (fun _ q' => rdB bs q') := by
 have hP := vlOf bs q dataW hq hb (by decide)
 unfold rdB at hP ⊢
 refine fE Tryz.func76 Tryz.ntmps76 Tryz.results76 ?_
 repeat' (first
  | refine stp ?_
  | fail)
 refine WL.imp (s1 := ⟨⟨6, [100089]⟩, [(3, .ptr 100089 0), (4, .d (dL 1 eBs dataW))], [(100089, .blk [.d (dL 1 eBy bs), aI q])]⟩) (imp (look [(100089, 100089)]) (he := LeE.cons rfl (LeV.ptr rfl) (LeE.cons rfl (LeV.f3 rfl rfl rfl (fun m hm => by
  match m, hm with
  | 0, _ => rfl
  | 1, _ => rfl
  | 2, _ => rfl
  | 3, _ => rfl
  | 4, _ => rfl
  | 5, _ => rfl
  | 6, _ => rfl
  | 7, _ => rfl
  | n + 8, h => omega)) LeE.nil))) ?_
 repeat' (first
  | refine stp ?_
  | (apply K.g0; apply K.callF; refine ceq (F := hP) (G := fun s q' hv => ?_))
  | fail)
 exact retE.r ⟨s, q', ⟨dataW_le _ hv.1, hv.2⟩, rehw1 (look [(100089, 100089)])⟩
theorem vlStart (bs : List UInt8) (q : Nat) (hq : q ≤ 1000000) (hb : bs.length ≤ 2000) : FnE Tryz.prog 21 [100089] [.ptr 100089 0] (rdB bs q) (fun (v : Int) q' => (-1 ≤ v ∧ v ≤ 31) ∧ q' ≤ q + 1) (fun v _ => aI v) (fun _ q' => rdB bs q') := by
 have hP := fun n => vlPick bs q n hq hb
 unfold rdB at hP ⊢
 refine fE Tryz.func21 Tryz.ntmps21 Tryz.results21 ?_
 repeat' (first
  | refine stp ?_
  | (apply K.g0; apply K.callF; refine ceq (F := hP _ (by omega) (by omega)) (G := fun v q' hv => ?_))
  | fail)
 have hv6 : v = 0 ∨ v = 1 ∨ v = 2 ∨ v = 3 ∨ v = 4 ∨ v = 5 := by omega
 rcases hv6 with rfl | rfl | rfl | rfl | rfl | rfl
 ·skip
  repeat' (first
   | refine stp ?_
   | fail)
  exact retE.r ⟨0, q', ⟨by omega, by omega⟩, rehw1 (look [(100089, 100089)])⟩
 ·skip
  repeat' (first
   | refine stp ?_
   | fail)
  exact retE.r ⟨5, q', ⟨by omega, by omega⟩, rehw1 (look [(100089, 100089)])⟩
 ·skip
  repeat' (first
   | refine stp ?_
   | fail)
  exact retE.r ⟨10, q', ⟨by omega, by omega⟩, rehw1 (look [(100089, 100089)])⟩
 ·skip
  repeat' (first
   | refine stp ?_
   | fail)
  exact retE.r ⟨15, q', ⟨by omega, by omega⟩, rehw1 (look [(100089, 100089)])⟩
 ·skip
  repeat' (first
   | refine stp ?_
   | fail)
  exact retE.r ⟨30, q', ⟨by omega, by omega⟩, rehw1 (look [(100089, 100089)])⟩
 ·skip
  repeat' (first
   | refine stp ?_
   | fail)
  exact retE.r ⟨30, q', ⟨by omega, by omega⟩, rehw1 (look [(100089, 100089)])⟩
theorem vlLimit (bs : List UInt8) (q : Nat) (hq : q ≤ 900000) (hb : bs.length ≤ 2000) : FnE Tryz.prog 23 [100089] [.ptr 100089 0] (rdB bs q) (fun (v : Int) q' => (-1 ≤ v ∧ v ≤ 31) ∧ q' ≤ q + 2) (fun v _ => aI v) (fun _ q' => rdB bs q') := by
 have hP := fun q n hq => vlPick bs q n hq hb
 unfold rdB at hP ⊢
 refine fE Tryz.func23 Tryz.ntmps23 Tryz.results23 ?_
 repeat' (first
  | refine stp ?_
  | (apply K.g0; apply K.callF; refine ceq (F := hP q _ (by omega) (by omega) (by omega)) (G := fun v q hv => ?_))
  | (refine WC.cond rfl ?_ ?_ <;> intro hb <;> (try have hb' := nrm hb) <;> try (exfalso; omega)))
 ·have hv4 : v = 0 ∨ v = 1 ∨ v = 2 ∨ v = 3 := by omega
  rcases hv4 with rfl | rfl | rfl | rfl
  ·skip
   repeat' (first
    | refine stp ?_
    | fail)
   exact retE.r ⟨-1, q, ⟨by omega, by omega⟩, rehw1 (look [(100089, 100089)])⟩
  ·skip
   repeat' (first
    | refine stp ?_
    | fail)
   exact retE.r ⟨0, q, ⟨by omega, by omega⟩, rehw1 (look [(100089, 100089)])⟩
  ·skip
   repeat' (first
    | refine stp ?_
    | fail)
   exact retE.r ⟨30, q, ⟨by omega, by omega⟩, rehw1 (look [(100089, 100089)])⟩
  ·skip
   repeat' (first
    | refine stp ?_
    | fail)
   exact retE.r ⟨31, q, ⟨by omega, by omega⟩, rehw1 (look [(100089, 100089)])⟩
 ·exact retE.r ⟨v, q, ⟨by omega, by omega⟩, rehw1 (look [(100089, 100089)])⟩
theorem vlSet (bs : List UInt8) (q : Nat) (hq : q ≤ 900000) (hb : bs.length ≤ 2000) : FnE Tryz.prog 74 [100089] [.ptr 100089 0, aI 40] (rdB bs q) (fun (l : List Rg) q' => (l.length ≤ 6 ∧ rgOk (-2) l) ∧ q' ≤ q + 20) (fun l _ => .d (dL 2 eRg l)) (fun _ q' => rdB bs q') := by
 have hP := fun q n hq => vlPick bs q n hq hb
 obtain ⟨q0, hq0⟩ : ∃ q0, q0 = q := ⟨q, rfl⟩
 unfold rdB at hP ⊢
 refine fE Tryz.func74 Tryz.ntmps74 Tryz.results74 ?_
 repeat' (first
  | refine stp ?_
  | fail)
 refine WC.loop (fun k s => ∃ (i : Nat) (L : List Rg) (q : Nat), k + i = 6 ∧ L.length ≤ i ∧ rgOk (-2) L ∧ q ≤ q0 + 3 * i ∧ s = ⟨⟨29, [100089]⟩, [(0, .ptr 100089 0), (1, aI 40), (5, .d (dL 2 eRg L)), (6, aI (i : Nat))], [(100089, .blk [.d (dL 1 eBy bs), aI q])]⟩) 6 ⟨0, [], q, rfl, Nat.le_refl _, trivial, by omega, rfl⟩ (imp (look [(100089, 100089)])) ?_
 rintro k s ⟨i, L, q, hk, hL, hO, hq2, rfl⟩
 have hA := fun lo hi hlo hbd => vl2AddP L lo hi (by omega) hO hlo hbd
 repeat' (first
  | refine stp ?_
  | (apply K.g0; apply K.callF; first | refine ceq (F := hP q _ (by omega) (by omega) (by omega)) (G := fun v q hv => ?_) | refine cq (F := hA _ _ (by omega) (by omega)) (G := ?_))
  | (refine WC.cond rfl ?_ ?_ <;> intro hb <;> (try have hb' := nrm hb) <;> try (exfalso; omega)))
 ·rename_i v1 q1 hv1 v2 q2 hv2
  have hl := addP_len L v2 (min (v2 + v) (40 - 1))
  have ho := addP_ok L (-2) v2 (min (v2 + v) (40 - 1)) hO (by omega) (by omega) (by omega)
  exact loopQ.n (k - 1) _ (by omega) ⟨i + 1, addP L v2 (min (v2 + v) (40 - 1)), q, by omega, by omega, ho, by omega, rfl⟩ (imp (look [(100089, 100089)]))
 ·exact retE.r ⟨L, q, ⟨⟨by omega, hO⟩, by omega⟩, rehw1 (look [(100089, 100089)])⟩
theorem vl2AddO (l : List Rg) (lo hi : Int) (h : l.length ≤ 1000) (hb : RgBd l) (hlo : (-1000000 ≤ lo ∧ lo ≤ 1000000) ∧ (-1000000 ≤ hi ∧ hi ≤ 1000000)) : FnH Tryz.prog 122 [] [.d (dL 2 eRg l), aI lo, aI hi] [] (.own 900 (addEnd (addTo l lo hi l.length)).length) [(900, hL 116 2 eRg (addEnd (addTo l lo hi l.length)))] := by
 refine fH Tryz.func122 Tryz.ntmps122 Tryz.results122 ?_
 repeat' (first
  | refine stp ?_
  | fail)
 refine WC.loop (fun k s => ∃ i a, k + i = l.length ∧ a = addTo l lo hi i ∧ s = ⟨⟨80, []⟩, [(0, .d (dL 2 eRg l)), (1, aI a.lo), (2, aI a.hi), (7, .own 700 a.out.length), (8, aB a.put), (9, aI i)], [(700, hL 116 2 eRg a.out)]⟩) l.length ⟨0, ⟨[], false, lo, hi⟩, rfl, rfl, rfl⟩ (imp (look [])) ?_
 rintro k s ⟨i, a, hk, ha, rfl⟩
 have hS : i < l.length → addTo l lo hi (i + 1) = addStep a (l.getD i default) := fun h => by rw [ha, addTo_succ (r := l.getD i default)]; rw [List.getD_eq_getElem?_getD, List.getElem?_eq_getElem h]; rfl
 have hbd : (-1000000 ≤ a.lo ∧ a.lo ≤ 1000000) ∧ (-1000000 ≤ a.hi ∧ a.hi ≤ 1000000) := by rw [ha]; exact addTo_bd hb hlo i
 have hln : a.out.length ≤ i + 1 := by have := addTo_len l lo hi i; rw [← ha] at this; omega
 repeat' (first
  | refine stp ?_
  | (refine WC.cond rfl ?_ ?_ <;> intro hb <;> (try have hb' := nrm hb) <;> try (exfalso; omega)))
 all_goals first
  | (obtain rfl : i = l.length := (by omega)
     rw [← ha, addEnd, if_pos (by assumption)]; exact reth1 (look [(900, 700)]))
  | (obtain rfl : i = l.length := (by omega)
     rw [← ha, addEnd, if_neg (by rw [show a.put = false from by assumption]; exact Bool.false_ne_true)]; exact RetHG.mk1 (look [(900, 78)]) (ResV.tmp rfl) (LeV.own rfl (by simp)) (LeH.arr rfl rfl (by simp) (fun m hm => cat_snoc2 hm rfl) LeH.nil) rfl rfl)
  | (refine loopQ.n (k - 1) _ (by omega) ⟨i + 1, ⟨a.out ++ [l.getD i default], a.put, a.lo, a.hi⟩, by omega, ((hS (by omega)).trans (addStep_1 (by omega))).symm, rfl⟩ (imp (look [(700, 46)])); done)
  | (refine loopQ.n (k - 1) _ (by omega) ⟨i + 1, ⟨a.out ++ [l.getD i default], a.put, a.lo, a.hi⟩, by omega, ((hS (by omega)).trans (addStep_2 (by omega) (by omega) (by assumption))).symm, rfl⟩ (imp (look [(700, 70)])); done)
  | (refine loopQ.n (k - 1) _ (by omega) ⟨i + 1, ⟨a.out ++ [⟨a.lo, a.hi⟩] ++ [l.getD i default], true, a.lo, a.hi⟩, by omega, ((hS (by omega)).trans ((addStep_3 (by omega) (by omega) (by assumption)).trans (by simp))).symm, rfl⟩ (imp (look [(700, 70)])); done)
  | (refine loopQ.n (k - 1) _ (by omega) ⟨i + 1, ⟨a.out, a.put, min a.lo (l.getD i default).lo, max a.hi (l.getD i default).hi⟩, by omega, ((hS (by omega)).trans (addStep_4 (by omega) (by omega))).symm, rfl⟩ (imp (look [(700, 700)])); done)
theorem vl2AddPO (l : List Rg) (lo hi : Int) (h : l.length ≤ 1000) (hl : rgOk (-2) l) (hlo : lo ≤ hi) (hb : -1000000 ≤ lo ∧ hi ≤ 1000000) : FnH Tryz.prog 122 [] [.d (dL 2 eRg l), aI lo, aI hi] [] (.own 900 (addP l lo hi).length) [(900, hL 116 2 eRg (addP l lo hi))] := by
 rw [← l2Add_eq hl hlo]
 exact vl2AddO l lo hi h (rgOk_bd hl (by omega)) (by omega)
theorem vlSetO (bs : List UInt8) (q : Nat) (hq : q ≤ 900000) (hb : bs.length ≤ 2000) : FnE Tryz.prog 74 [100089] [.ptr 100089 0, aI 40] (rdB bs q) (fun (l : List Rg) q' => (l.length ≤ 6 ∧ rgOk (-2) l) ∧ q' ≤ q + 20) (fun l _ => .own 900 l.length) (fun l q' => [(900, hL 116 2 eRg l), (100089, .blk [.d (dL 1 eBy bs), aI q'])]) := by
 have hP := fun q n hq => vlPick bs q n hq hb
 obtain ⟨q0, hq0⟩ : ∃ q0, q0 = q := ⟨q, rfl⟩
 unfold rdB at hP ⊢
 refine fE Tryz.func74 Tryz.ntmps74 Tryz.results74 ?_
 repeat' (first
  | refine stp ?_
  | fail)
 refine WC.loop (fun k s => ∃ (i : Nat) (L : List Rg) (q : Nat), k + i = 6 ∧ L.length ≤ i ∧ rgOk (-2) L ∧ q ≤ q0 + 3 * i ∧ s = ⟨⟨29, [100089]⟩, [(0, .ptr 100089 0), (1, aI 40), (5, .own 700 L.length), (6, aI (i : Nat))], [(100089, .blk [.d (dL 1 eBy bs), aI q]), (700, hL 116 2 eRg L)]⟩) 6 ⟨0, [], q, rfl, Nat.le_refl _, trivial, by omega, rfl⟩ (imp (look [(100089, 100089)])) ?_
 rintro k s ⟨i, L, q, hk, hL, hO, hq2, rfl⟩
 have hA := fun lo hi hlo hbd => vl2AddPO L lo hi (by omega) hO hlo hbd
 repeat' (first
  | refine stp ?_
  | (apply K.g0; apply K.callF; refine ceq (F := hP q _ (by omega) (by omega) (by omega)) (G := fun v q hv => ?_))
  | (refine WC.cond rfl ?_ ?_ <;> intro hb <;> (try have hb' := nrm hb) <;> try (exfalso; omega)))
 ·rename_i v1 q1 hv1 v2 q2 hv2
  have hl := addP_len L v2 (min (v2 + v) (40 - 1))
  have ho := addP_ok L (-2) v2 (min (v2 + v) (40 - 1)) hO (by omega) (by omega) (by omega)
  refine WL.imp (s1 := ⟨⟨29, [100089]⟩, [(0, .ptr 100089 0), (1, aI 40), (6, aI (i : Nat)), (18, .d (dL 2 eRg L)), (19, aI v2), (26, aI (min (v2 + v) (40 - 1)))], [(100089, .blk [.d (dL 1 eBy bs), aI q])]⟩) (imp (look [(100089, 100089)]) (he := LeE.cons rfl (LeV.ptr rfl) (LeE.cons rfl LeV.dd (LeE.cons rfl LeV.dd (LeE.cons rfl (LeV.f2 rfl rfl) (LeE.cons rfl LeV.dd (LeE.cons rfl LeV.dd LeE.nil))))))) ?_
  repeat' (first
   | refine stp ?_
   | (apply K.g0; apply K.callF; refine chq (F := hA _ _ (by omega) (by omega)) (G := ?_))
   | fail)
  exact loopQ.n (k - 1) _ (by omega) ⟨i + 1, addP L v2 (min (v2 + v) (40 - 1)), q, by omega, by omega, ho, by omega, rfl⟩ (imp (look [(100089, 100089), (700, 900)]))
 ·exact retE.r ⟨L, q, ⟨⟨by omega, hO⟩, by omega⟩, rehw1 (look [(900, 700), (100089, 100089)])⟩
theorem rgBd_snoc {l : List Rg} {a b : Int} (h : RgBd l) (ha : -1000000 ≤ a ∧ a ≤ 1000000) (hb : -1000000 ≤ b ∧ b ≤ 1000000) : RgBd (l ++ [⟨a, b⟩]) := fun r hr => by
 rcases List.mem_append.1 hr with hr | hr
 ·exact h r hr
 ·rw [List.mem_singleton.1 hr]; exact ⟨ha, hb⟩
theorem vlRanges (bs : List UInt8) (q : Nat) (hq : q ≤ 800000) (hb : bs.length ≤ 2000) : FnE Tryz.prog 123 [100089] [.ptr 100089 0] (rdB bs q) (fun (l : List Rg) q' => (l.length ≤ 30 ∧ RgBd l) ∧ q' ≤ q + 100) (fun l _ => .d (dL 2 eRg l)) (fun _ q' => rdB bs q') := by
 have hP := fun q n hq => vlPick bs q n hq hb
 have hS := fun q hq => vlSetO bs q hq hb
 obtain ⟨q0, hq0⟩ : ∃ q0, q0 = q := ⟨q, rfl⟩
 unfold rdB at hP hS ⊢
 refine fE Tryz.func123 Tryz.ntmps123 Tryz.results123 ?_
 repeat' (first
  | refine stp ?_
  | (apply K.g0; apply K.callF; first | refine ceq (F := hS q (by omega)) (G := fun L q hs => ?_) | refine ceq (F := hP q _ (by omega) (by omega) (by omega)) (G := fun v q hv => ?_))
  | (refine WC.cond rfl ?_ ?_ <;> intro hb <;> (try have hb' := nrm hb) <;> try (exfalso; omega)))
 ·rename_i v0 q1 hv0 hc hc' v1 q2 hv1
  have hL := rgOk_bd hs.1.2 (Int.le_refl _)
  exact retE.r ⟨L ++ [⟨v1 - 2, v⟩], q, ⟨⟨by simp; omega, rgBd_snoc hL (by omega) (by omega)⟩, by omega⟩, RetHG.mk1 (look [(100089, 100089)]) (ResV.tmp rfl) (LeV.f3 rfl rfl (by simp) (fun _ hm => cat_snoc2 hm rfl)) (LeH.blk rfl rfl (LeVs.cons LeV.dd (LeVs.cons LeV.dd LeVs.nil)) LeH.nil) rfl rfl⟩
 ·have hL := rgOk_bd hs.1.2 (Int.le_refl _)
  exact retE.r ⟨L ++ [⟨998, 998 + v⟩], q, ⟨⟨by simp; omega, rgBd_snoc hL (by omega) (by omega)⟩, by omega⟩, RetHG.mk1 (look [(100089, 100089)]) (ResV.tmp rfl) (LeV.f3 rfl rfl (by simp) (fun _ hm => cat_snoc2 hm rfl)) (LeH.blk rfl rfl (LeVs.cons LeV.dd (LeVs.cons LeV.dd LeVs.nil)) LeH.nil) rfl rfl⟩
 ·obtain ⟨q5, hq5⟩ : ∃ q5, q5 = q := ⟨q, rfl⟩
  refine WC.loop (fun k s => ∃ (i : Nat) (R : List Rg) (q : Nat), k + i = 17 ∧ R.length = i ∧ RgBd R ∧ q ≤ q5 + 2 * i ∧ s = ⟨⟨51, [100089]⟩, [(0, .ptr 100089 0), (3, .own 700 R.length), (4, aI (i : Nat))], [(100089, .blk [.d (dL 1 eBy bs), aI q]), (700, hL 116 2 eRg R)]⟩) 17 ⟨0, [], q, rfl, rfl, fun r h => (by cases h), by omega, rfl⟩ (imp (look [(100089, 100089)])) ?_
  rintro k s ⟨i, R, q, hk, hRl, hR, hq2, rfl⟩
  repeat' (first
   | refine stp ?_
   | (apply K.g0; apply K.callF; refine ceq (F := hP q _ (by omega) (by omega) (by omega)) (G := fun v q hv => ?_))
   | (refine WC.cond rfl ?_ ?_ <;> intro hb <;> (try have hb' := nrm hb) <;> try (exfalso; omega)))
  ·exact loopQ.n (k - 1) _ (by omega) ⟨i + 1, R ++ [⟨3 * i, 3 * i + v⟩], q, by omega, by simp; omega, rgBd_snoc hR (by omega) (by omega), by omega, rfl⟩ (imp (look [(100089, 100089), (700, 49)]))
  ·exact retE.r ⟨R, q, ⟨⟨by omega, hR⟩, by omega⟩, RetHG.mk1 (look [(100089, 100089)]) (ResV.tmp rfl) (LeV.f2 rfl rfl) (LeH.blk rfl rfl (LeVs.cons LeV.dd (LeVs.cons LeV.dd LeVs.nil)) LeH.nil) rfl rfl⟩
 ·exact retE.r ⟨L, q, ⟨⟨by omega, rgOk_bd hs.1.2 (Int.le_refl _)⟩, by omega⟩, RetHG.mk1 (look [(100089, 100089)]) (ResV.tmp rfl) (LeV.f2 rfl rfl) (LeH.blk rfl rfl (LeVs.cons LeV.dd (LeVs.cons LeV.dd LeVs.nil)) LeH.nil) rfl rfl⟩
end Go.Proofs.YtjbhiglaginpeaaGreat
