/- Parts of the proof, joined from several texts. No condition. -/
import Derived.Test.YtjbhiglaginpeaaGreatQ6
import Derived.Test.YtjbhiglaginpeaaGreatQ25
import Derived.Test.YtjbhiglaginpeaaGreatQ39
import Derived.Test.YtjbhiglaginpeaaGreatQ19
set_option maxRecDepth 100000
set_option maxHeartbeats 16000000
set_option linter.unusedVariables false
set_option linter.unusedSimpArgs false
namespace Go.Proofs.YtjbhiglaginpeaaGreat
open Go.RowKit
theorem post_net2 (W : Wd) (x : Wi) : ∃ N, post W x = { W with net := N } := by
 unfold post
 split
 ·exact ⟨_, rfl⟩
 ·exact ⟨W.net, rfl⟩
theorem vmRecvGrantNoA (r : Rv) (b : Int) (h : RvOK r) (hb : inB b 0 30 = false) : FnP Tryz.prog 109 [.ag (av (eRv r)), aI b] (.tu [.ag (av (eRv ⟨0, [], 0, 0⟩)), aB false]) := by
 have hf := h.few
 have h2 := h.lim
 have hv := vmRecvValid r (by omega) h.pcb
 rw [rv_ok h] at hv
 have hw := vmWithin b 0 30
 rw [hb] at hw
 refine fP Tryz.func109 Tryz.ntmps109 Tryz.results109 ?_
 repeat' (first
  | refine stp ?_
  | (apply K.g0; apply K.callF; refine cq (F := hv) (G := ?_))
  | (apply K.g1; apply K.callF; refine cqt (F := hw) (G := ?_))
  | fail)
 (exact ret2)
theorem vmRecvGrantNoB (r : Rv) (b : Int) (h : RvOK r) (hb : inB b 0 30 = true) (hl : b < r.limit) : FnP Tryz.prog 109 [.ag (av (eRv r)), aI b] (.tu [.ag (av (eRv r)), aB false]) := by
 have hf := h.few
 have h2 := h.lim
 have hv := vmRecvValid r (by omega) h.pcb
 rw [rv_ok h] at hv
 have hw := vmWithin b 0 30
 rw [hb] at hw
 refine fP Tryz.func109 Tryz.ntmps109 Tryz.results109 ?_
 repeat' (first
  | refine stp ?_
  | (apply K.g0; apply K.callF; first | refine cq (F := hv) (G := ?_) | refine cq (F := vmCopyRecv r (by omega)) (G := ?_))
  | (apply K.g1; apply K.callF; refine cqt (F := hw) (G := ?_))
  | fail)
 (exact ret2)
theorem wr_flag {s : Sd} {d : Bs} (h : (!(s.fin || decide (30 < bl s.data + bl d))) = false) : sdWrite s d = s := by
 unfold sdWrite
 rw [if_pos]
 cases hf : s.fin
 ·rw [hf] at h; simpa using h
 ·rfl
theorem vmStrWrite (W : Wd) (hW0 : WdOK W) (a b c : Int) (d : Bs) (f : Fm) (ha' : 0 ≤ a ∧ a ≤ 2) (hd : d.length ≤ 10000000) : FnH Tryz.prog 51 [910] [.ptr 910 0, .ag (av [dI 1, dI a, dI b, dI c, dS d, dI f.kind, dI f.a, dI f.b, dI f.c, dS f.data, dL 2 eRg f.ranges])] [(910, hW W), (901, hL 42 6 eSd W.sends), (902, hL 45 4 eRv W.recvs), (903, hL 9 1 eBs W.got), (904, hL 75 3 eLs W.paths), (905, hL 77 4 eRt W.rtts), (907, hS W.seen), (908, hL 82 6 eCd W.carried), (909, hL 106 9 eWi W.net)] (.tu []) [(910, hW ({ W with sends := W.sends.set a.toNat (sdWrite (W.sends.getD a.toNat default) d) })), (901, hL 42 6 eSd ({ W with sends := W.sends.set a.toNat (sdWrite (W.sends.getD a.toNat default) d) }).sends), (902, hL 45 4 eRv ({ W with sends := W.sends.set a.toNat (sdWrite (W.sends.getD a.toNat default) d) }).recvs), (903, hL 9 1 eBs ({ W with sends := W.sends.set a.toNat (sdWrite (W.sends.getD a.toNat default) d) }).got), (904, hL 75 3 eLs ({ W with sends := W.sends.set a.toNat (sdWrite (W.sends.getD a.toNat default) d) }).paths), (905, hL 77 4 eRt ({ W with sends := W.sends.set a.toNat (sdWrite (W.sends.getD a.toNat default) d) }).rtts), (907, hS ({ W with sends := W.sends.set a.toNat (sdWrite (W.sends.getD a.toNat default) d) }).seen), (908, hL 82 6 eCd ({ W with sends := W.sends.set a.toNat (sdWrite (W.sends.getD a.toNat default) d) }).carried), (909, hL 106 9 eWi ({ W with sends := W.sends.set a.toNat (sdWrite (W.sends.getD a.toNat default) d) }).net)] := by
 have l1 := hW0.sends; have l2 := hW0.recvs
 have hSd := vmSendWrite (W.sends.getD a.toNat default) d (hW0.st ha').sd hd
 unfold hW hS
 dsimp only
 refine fH Tryz.func51 Tryz.ntmps51 Tryz.results51 ?_
 repeat' (first
  | refine stp ?_
  | (apply KA.g0; apply KA.callF; refine cqa (F := hSd) (G := ?_))
  | (refine WC.cond rfl ?_ ?_ <;> intro hb <;> (try have hb' := nrm hb) <;> try (exfalso; omega))
  | (apply K.rg 1; refine wdr [0, 1, 3, 7, 0, 16, 63, 0, 128, 384, 896, 0, 2048, 8064, 127, 32767] 15 [14, 15, 16, 17, 18, 19, 20, 21, 22, 23, 24, 25, 26, 27, 4] [] ?_)
  | (apply K.rg 4; refine WC.drawD (ms := [0, 1, 3, 0, 8, 31, 63, 127, 127, 0, 767, 2047]) 11 [33, 34, 35, 36, 37, 38, 32, 39, 40, 6] [(10, [6])] (by kernel_rfl) (by kernel_rfl) ?_)
  | refine dcl ?_)
 ·exact rehw0 lP
 ·rw [wr_flag (by assumption), set_getD_self]
  exact rehw0 lP
theorem vmStrFinish (W : Wd) (hW0 : WdOK W) (a b c : Int) (d : Bs) (f : Fm) (ha' : 0 ≤ a ∧ a ≤ 2) : FnH Tryz.prog 51 [910] [.ptr 910 0, .ag (av [dI 2, dI a, dI b, dI c, dS d, dI f.kind, dI f.a, dI f.b, dI f.c, dS f.data, dL 2 eRg f.ranges])] [(910, hW W), (901, hL 42 6 eSd W.sends), (902, hL 45 4 eRv W.recvs), (903, hL 9 1 eBs W.got), (904, hL 75 3 eLs W.paths), (905, hL 77 4 eRt W.rtts), (907, hS W.seen), (908, hL 82 6 eCd W.carried), (909, hL 106 9 eWi W.net)] (.tu []) [(910, hW ({ W with sends := W.sends.set a.toNat { W.sends.getD a.toNat default with fin := true } })), (901, hL 42 6 eSd ({ W with sends := W.sends.set a.toNat { W.sends.getD a.toNat default with fin := true } }).sends), (902, hL 45 4 eRv ({ W with sends := W.sends.set a.toNat { W.sends.getD a.toNat default with fin := true } }).recvs), (903, hL 9 1 eBs ({ W with sends := W.sends.set a.toNat { W.sends.getD a.toNat default with fin := true } }).got), (904, hL 75 3 eLs ({ W with sends := W.sends.set a.toNat { W.sends.getD a.toNat default with fin := true } }).paths), (905, hL 77 4 eRt ({ W with sends := W.sends.set a.toNat { W.sends.getD a.toNat default with fin := true } }).rtts), (907, hS ({ W with sends := W.sends.set a.toNat { W.sends.getD a.toNat default with fin := true } }).seen), (908, hL 82 6 eCd ({ W with sends := W.sends.set a.toNat { W.sends.getD a.toNat default with fin := true } }).carried), (909, hL 106 9 eWi ({ W with sends := W.sends.set a.toNat { W.sends.getD a.toNat default with fin := true } }).net)] := by
 have l1 := hW0.sends; have l2 := hW0.recvs
 have hSd := vmSendFinish (W.sends.getD a.toNat default) (hW0.st ha').sd
 cases hfin : (W.sends.getD a.toNat default).fin
 ·rw [hfin] at hSd
  unfold hW hS
  dsimp only
  refine fH Tryz.func51 Tryz.ntmps51 Tryz.results51 ?_
  repeat' (first
   | refine stp ?_
   | (apply K.g0; apply K.callF; refine cq (F := hSd) (G := ?_))
   | (apply K.rg 1; refine wdr [0, 1, 3, 7, 0, 16, 63, 0, 128, 384, 896, 0, 2048, 8064, 127, 32767] 15 [14, 15, 16, 17, 18, 19, 20, 21, 22, 23, 24, 25, 26, 27, 4] [] ?_)
   | refine dcl ?_)
  exact rehw0 lP
 ·rw [hfin] at hSd
  rw [show ({ W.sends.getD a.toNat default with fin := true } : Sd) = W.sends.getD a.toNat default by rw [← hfin], set_getD_self]
  unfold hW hS
  dsimp only
  refine fH Tryz.func51 Tryz.ntmps51 Tryz.results51 ?_
  repeat' (first
   | refine stp ?_
   | (apply K.g0; apply K.callF; refine cq (F := hSd) (G := ?_))
   | (apply K.rg 1; refine wdr [0, 1, 3, 7, 0, 16, 63, 0, 128, 384, 896, 0, 2048, 8064, 127, 32767] 15 [14, 15, 16, 17, 18, 19, 20, 21, 22, 23, 24, 25, 26, 27, 4] [] ?_)
   | refine dcl ?_)
  exact rehw0 lP
theorem vmStrReadNo (W : Wd) (hW0 : WdOK W) (a b c : Int) (d : Bs) (f : Fm) (ha' : 0 ≤ a ∧ a ≤ 2) (hb : inB b 0 30 = false) : FnH Tryz.prog 51 [910] [.ptr 910 0, .ag (av [dI 8, dI a, dI b, dI c, dS d, dI f.kind, dI f.a, dI f.b, dI f.c, dS f.data, dL 2 eRg f.ranges])] [(910, hW W), (901, hL 42 6 eSd W.sends), (902, hL 45 4 eRv W.recvs), (903, hL 9 1 eBs W.got), (904, hL 75 3 eLs W.paths), (905, hL 77 4 eRt W.rtts), (907, hS W.seen), (908, hL 82 6 eCd W.carried), (909, hL 106 9 eWi W.net)] (.tu []) [(910, hW W), (901, hL 42 6 eSd W.sends), (902, hL 45 4 eRv W.recvs), (903, hL 9 1 eBs W.got), (904, hL 75 3 eLs W.paths), (905, hL 77 4 eRt W.rtts), (907, hS W.seen), (908, hL 82 6 eCd W.carried), (909, hL 106 9 eWi W.net)] := by
 have l1 := hW0.sends; have l2 := hW0.recvs
 have hJ := vmWithin b 0 30
 rw [hb] at hJ
 unfold hW hS
 refine fH Tryz.func51 Tryz.ntmps51 Tryz.results51 ?_
 repeat' (first
  | refine stp ?_
  | (apply K.g0; apply K.callF; refine cq (F := hJ) (G := ?_))
  | (apply K.rg 1; refine wdr [0, 1, 3, 7, 0, 16, 63, 0, 128, 384, 896, 0, 2048, 8064, 127, 32767] 15 [14, 15, 16, 17, 18, 19, 20, 21, 22, 23, 24, 25, 26, 27, 4] [] ?_)
  | refine dcl ?_)
 exact rehw0 lP
theorem vmStrRead (W : Wd) (hW0 : WdOK W) (a b c : Int) (d : Bs) (f : Fm) (ha' : 0 ≤ a ∧ a ≤ 2) (hb : inB b 0 30 = true) : FnH Tryz.prog 51 [910] [.ptr 910 0, .ag (av [dI 8, dI a, dI b, dI c, dS d, dI f.kind, dI f.a, dI f.b, dI f.c, dS f.data, dL 2 eRg f.ranges])] [(910, hW W), (901, hL 42 6 eSd W.sends), (902, hL 45 4 eRv W.recvs), (903, hL 9 1 eBs W.got), (904, hL 75 3 eLs W.paths), (905, hL 77 4 eRt W.rtts), (907, hS W.seen), (908, hL 82 6 eCd W.carried), (909, hL 106 9 eWi W.net)] (.tu []) [(910, hW ({ W with recvs := W.recvs.set a.toNat (rvRead (W.recvs.getD a.toNat default) b).1, got := W.got.set a.toNat (W.got.getD a.toNat default ++ (rvRead (W.recvs.getD a.toNat default) b).2) })), (901, hL 42 6 eSd ({ W with recvs := W.recvs.set a.toNat (rvRead (W.recvs.getD a.toNat default) b).1, got := W.got.set a.toNat (W.got.getD a.toNat default ++ (rvRead (W.recvs.getD a.toNat default) b).2) }).sends), (902, hL 45 4 eRv ({ W with recvs := W.recvs.set a.toNat (rvRead (W.recvs.getD a.toNat default) b).1, got := W.got.set a.toNat (W.got.getD a.toNat default ++ (rvRead (W.recvs.getD a.toNat default) b).2) }).recvs), (903, hL 9 1 eBs ({ W with recvs := W.recvs.set a.toNat (rvRead (W.recvs.getD a.toNat default) b).1, got := W.got.set a.toNat (W.got.getD a.toNat default ++ (rvRead (W.recvs.getD a.toNat default) b).2) }).got), (904, hL 75 3 eLs ({ W with recvs := W.recvs.set a.toNat (rvRead (W.recvs.getD a.toNat default) b).1, got := W.got.set a.toNat (W.got.getD a.toNat default ++ (rvRead (W.recvs.getD a.toNat default) b).2) }).paths), (905, hL 77 4 eRt ({ W with recvs := W.recvs.set a.toNat (rvRead (W.recvs.getD a.toNat default) b).1, got := W.got.set a.toNat (W.got.getD a.toNat default ++ (rvRead (W.recvs.getD a.toNat default) b).2) }).rtts), (907, hS ({ W with recvs := W.recvs.set a.toNat (rvRead (W.recvs.getD a.toNat default) b).1, got := W.got.set a.toNat (W.got.getD a.toNat default ++ (rvRead (W.recvs.getD a.toNat default) b).2) }).seen), (908, hL 82 6 eCd ({ W with recvs := W.recvs.set a.toNat (rvRead (W.recvs.getD a.toNat default) b).1, got := W.got.set a.toNat (W.got.getD a.toNat default ++ (rvRead (W.recvs.getD a.toNat default) b).2) }).carried), (909, hL 106 9 eWi ({ W with recvs := W.recvs.set a.toNat (rvRead (W.recvs.getD a.toNat default) b).1, got := W.got.set a.toNat (W.got.getD a.toNat default ++ (rvRead (W.recvs.getD a.toNat default) b).2) }).net)] := by
 have l1 := hW0.sends; have l2 := hW0.recvs; have l3 := hW0.got
 have hJ := vmWithin b 0 30
 rw [hb] at hJ
 have hb' := inB_iff.1 hb
 have hst := hW0.st ha'
 have hrv : RvOK (W.recvs.getD a.toNat default) := hst.rv
 have hg1 := hst.glen
 have hg2 := hrv.read
 have hg3 := hrv.lim
 have hst2 := (st_read hst hb'.1).1.glen
 have hst3 := (st_read hst hb'.1).1.rv.read
 have hst4 := (st_read hst hb'.1).1.rv.lim
 unfold bl at hg1 hst2
 have hg4 : (W.got.getD a.toNat default).length + (rvRead (W.recvs.getD a.toNat default) b).2.length ≤ 1000 := by
  rw [List.length_append] at hst2
  have : ((W.got.getD a.toNat default).length + (rvRead (W.rv a) b).2.length : Nat) ≤ 1000 := by omega
  exact this
 have hR := vmRecvRead (W.recvs.getD a.toNat default) b hrv (by omega)
 generalize rvRead (W.recvs.getD a.toNat default) b = X8 at hR hg4 ⊢
 clear hst2 hst3 hst4
 unfold hW hS
 dsimp only
 refine fH Tryz.func51 Tryz.ntmps51 Tryz.results51 ?_
 repeat' (first
  | refine stp ?_
  | (apply K.g0; apply K.callF; refine cq (F := hJ) (G := ?_))
  | (apply KA.g0; apply KA.callF; refine cqa (F := hR) (G := ?_))
  | (apply K.rg 1; refine wdr [0, 1, 3, 7, 0, 16, 63, 0, 128, 384, 896, 0, 2048, 8064, 127, 32767] 15 [14, 15, 16, 17, 18, 19, 20, 21, 22, 23, 24, 25, 26, 27, 4] [] ?_)
  | (apply K.rg 13; refine WC.drawD (ms := [0, 1, 3, 0, 8, 31, 63, 127, 127, 0, 767, 2047]) 11 [64, 65, 66, 67, 68, 69, 63, 70, 71, 10] [(10, [10])] (by kernel_rfl) (by kernel_rfl) ?_)
  | (apply K.rg 15; refine wdr [0, 1, 3, 7, 0, 16, 63, 127, 0, 511, 1023, 2047] 9 [75, 76, 77, 78, 79, 80, 81, 82, 83] [] ?_)
  | refine dcl ?_)
 exact rehw0 lP
theorem vmStrGrantNo (W : Wd) (hW0 : WdOK W) (a b c : Int) (d : Bs) (f : Fm) (ha' : 0 ≤ a ∧ a ≤ 2) (hb : ¬ ((W.recvs.getD a.toNat default).limit ≤ b ∧ b ≤ 30)) : FnH Tryz.prog 51 [910] [.ptr 910 0, .ag (av [dI 9, dI a, dI b, dI c, dS d, dI f.kind, dI f.a, dI f.b, dI f.c, dS f.data, dL 2 eRg f.ranges])] [(910, hW W), (901, hL 42 6 eSd W.sends), (902, hL 45 4 eRv W.recvs), (903, hL 9 1 eBs W.got), (904, hL 75 3 eLs W.paths), (905, hL 77 4 eRt W.rtts), (907, hS W.seen), (908, hL 82 6 eCd W.carried), (909, hL 106 9 eWi W.net)] (.tu []) [(910, hW W), (901, hL 42 6 eSd W.sends), (902, hL 45 4 eRv W.recvs), (903, hL 9 1 eBs W.got), (904, hL 75 3 eLs W.paths), (905, hL 77 4 eRt W.rtts), (907, hS W.seen), (908, hL 82 6 eCd W.carried), (909, hL 106 9 eWi W.net)] := by
 have l1 := hW0.sends; have l2 := hW0.recvs
 have hrv := (hW0.st ha').rv
 cases hw : inB b 0 30
 ·have hG := vmRecvGrantNoA (W.recvs.getD a.toNat default) b hrv hw
  unfold hW hS
  refine fH Tryz.func51 Tryz.ntmps51 Tryz.results51 ?_
  repeat' (first
   | refine stp ?_
   | (apply KA.g0; apply KA.callF; refine cqa (F := hG) (G := ?_))
   | (apply K.rg 1; refine wdr [0, 1, 3, 7, 0, 16, 63, 0, 128, 384, 896, 0, 2048, 8064, 127, 32767] 15 [14, 15, 16, 17, 18, 19, 20, 21, 22, 23, 24, 25, 26, 27, 4] [] ?_)
   | (apply K.rg 17; refine WC.drawD (ms := [0, 1, 3, 0, 8, 31, 63, 127, 127, 0, 767, 2047]) 11 [89, 90, 91, 92, 93, 94, 88, 95, 96, 12] [(10, [12])] (by kernel_rfl) (by kernel_rfl) ?_)
   | refine dcl ?_)
  exact rehw0 lP
 ·have hG := vmRecvGrantNoB (W.recvs.getD a.toNat default) b hrv hw (by have := inB_iff.1 hw; omega)
  unfold hW hS
  refine fH Tryz.func51 Tryz.ntmps51 Tryz.results51 ?_
  repeat' (first
   | refine stp ?_
   | (apply KA.g0; apply KA.callF; refine cqa (F := hG) (G := ?_))
   | (apply K.rg 1; refine wdr [0, 1, 3, 7, 0, 16, 63, 0, 128, 384, 896, 0, 2048, 8064, 127, 32767] 15 [14, 15, 16, 17, 18, 19, 20, 21, 22, 23, 24, 25, 26, 27, 4] [] ?_)
   | (apply K.rg 17; refine WC.drawD (ms := [0, 1, 3, 0, 8, 31, 63, 127, 127, 0, 767, 2047]) 11 [89, 90, 91, 92, 93, 94, 88, 95, 96, 12] [(10, [12])] (by kernel_rfl) (by kernel_rfl) ?_)
   | refine dcl ?_)
  exact rehw0 lP
theorem vmStrGrant (W : Wd) (hW0 : WdOK W) (a b c : Int) (d : Bs) (f : Fm) (ha' : 0 ≤ a ∧ a ≤ 2) (hb : (W.recvs.getD a.toNat default).limit ≤ b ∧ b ≤ 30) : FnH Tryz.prog 51 [910] [.ptr 910 0, .ag (av [dI 9, dI a, dI b, dI c, dS d, dI f.kind, dI f.a, dI f.b, dI f.c, dS f.data, dL 2 eRg f.ranges])] [(910, hW W), (901, hL 42 6 eSd W.sends), (902, hL 45 4 eRv W.recvs), (903, hL 9 1 eBs W.got), (904, hL 75 3 eLs W.paths), (905, hL 77 4 eRt W.rtts), (907, hS W.seen), (908, hL 82 6 eCd W.carried), (909, hL 106 9 eWi W.net)] (.tu []) [(910, hW (post { W with recvs := W.recvs.set a.toNat { W.recvs.getD a.toNat default with limit := b } } ⟨0, -1, ⟨4, a, b, 0, [], []⟩, true⟩)), (901, hL 42 6 eSd (post { W with recvs := W.recvs.set a.toNat { W.recvs.getD a.toNat default with limit := b } } ⟨0, -1, ⟨4, a, b, 0, [], []⟩, true⟩).sends), (902, hL 45 4 eRv (post { W with recvs := W.recvs.set a.toNat { W.recvs.getD a.toNat default with limit := b } } ⟨0, -1, ⟨4, a, b, 0, [], []⟩, true⟩).recvs), (903, hL 9 1 eBs (post { W with recvs := W.recvs.set a.toNat { W.recvs.getD a.toNat default with limit := b } } ⟨0, -1, ⟨4, a, b, 0, [], []⟩, true⟩).got), (904, hL 75 3 eLs (post { W with recvs := W.recvs.set a.toNat { W.recvs.getD a.toNat default with limit := b } } ⟨0, -1, ⟨4, a, b, 0, [], []⟩, true⟩).paths), (905, hL 77 4 eRt (post { W with recvs := W.recvs.set a.toNat { W.recvs.getD a.toNat default with limit := b } } ⟨0, -1, ⟨4, a, b, 0, [], []⟩, true⟩).rtts), (907, hS (post { W with recvs := W.recvs.set a.toNat { W.recvs.getD a.toNat default with limit := b } } ⟨0, -1, ⟨4, a, b, 0, [], []⟩, true⟩).seen), (908, hL 82 6 eCd (post { W with recvs := W.recvs.set a.toNat { W.recvs.getD a.toNat default with limit := b } } ⟨0, -1, ⟨4, a, b, 0, [], []⟩, true⟩).carried), (909, hL 106 9 eWi (post { W with recvs := W.recvs.set a.toNat { W.recvs.getD a.toNat default with limit := b } } ⟨0, -1, ⟨4, a, b, 0, [], []⟩, true⟩).net)] := by
 have l1 := hW0.sends; have l2 := hW0.recvs; have l9 := hW0.net
 have hG := vmRecvGrantYes (W.recvs.getD a.toNat default) b (hW0.st ha').rv hb
 have hT := vmTransmit { W with recvs := W.recvs.set a.toNat { W.recvs.getD a.toNat default with limit := b } } ⟨0, -1, ⟨4, a, b, 0, [], []⟩, true⟩ (by show W.net.length ≤ 1000; omega)
 obtain ⟨N, hN⟩ := post_net2 { W with recvs := W.recvs.set a.toNat { W.recvs.getD a.toNat default with limit := b } } ⟨0, -1, ⟨4, a, b, 0, [], []⟩, true⟩
 rw [hN] at hT ⊢
 unfold hW at hT ⊢
 unfold hS
 dsimp only at hT ⊢
 rw [List.length_set] at hT ⊢
 refine fH Tryz.func51 Tryz.ntmps51 Tryz.results51 ?_
 repeat' (first
  | refine stp ?_
  | (apply K.g0; apply K.callF; refine ch (F := hT) (G := ?_))
  | (apply KA.g0; apply KA.callF; refine cqa (F := hG) (G := ?_))
  | (apply K.rg 1; refine wdr [0, 1, 3, 7, 0, 16, 63, 0, 128, 384, 896, 0, 2048, 8064, 127, 32767] 15 [14, 15, 16, 17, 18, 19, 20, 21, 22, 23, 24, 25, 26, 27, 4] [] ?_)
  | (apply K.rg 17; refine WC.drawD (ms := [0, 1, 3, 0, 8, 31, 63, 127, 127, 0, 767, 2047]) 11 [89, 90, 91, 92, 93, 94, 88, 95, 96, 12] [(10, [12])] (by kernel_rfl) (by kernel_rfl) ?_)
  | refine dcl ?_)
 exact rehw0 lP
theorem vmDoStream (W : Wd) (hW0 : WdOK W) (e : Ev) (hk : e.kind = 1 ∨ e.kind = 2 ∨ e.kind = 8 ∨ e.kind = 9) (ha : inB e.a 0 2 = true) (hd : e.data.length ≤ 10000000) : FnH Tryz.prog 51 [910] [.ptr 910 0, .ag (av (eEv e))] [(910, hW W), (901, hL 42 6 eSd W.sends), (902, hL 45 4 eRv W.recvs), (903, hL 9 1 eBs W.got), (904, hL 75 3 eLs W.paths), (905, hL 77 4 eRt W.rtts), (907, hS W.seen), (908, hL 82 6 eCd W.carried), (909, hL 106 9 eWi W.net)] (.tu []) [(910, hW (doW W e)), (901, hL 42 6 eSd (doW W e).sends), (902, hL 45 4 eRv (doW W e).recvs), (903, hL 9 1 eBs (doW W e).got), (904, hL 75 3 eLs (doW W e).paths), (905, hL 77 4 eRt (doW W e).rtts), (907, hS (doW W e).seen), (908, hL 82 6 eCd (doW W e).carried), (909, hL 106 9 eWi (doW W e).net)] := by
 obtain ⟨k, a, b, c, d, f⟩ := e
 dsimp only at hk ha hd
 have ha' := inB_iff.1 ha
 rcases hk with rfl | rfl | rfl | rfl
 ·have hE : doW W ⟨1, a, b, c, d, f⟩ = { W with sends := W.sends.set a.toNat (sdWrite (W.sends.getD a.toNat default) d) } := by unfold doW; simp [ha, Wd.sd]
  rw [hE]
  exact vmStrWrite W hW0 a b c d f ha' hd
 ·have hE : doW W ⟨2, a, b, c, d, f⟩ = { W with sends := W.sends.set a.toNat { W.sends.getD a.toNat default with fin := true } } := by unfold doW; simp [ha, Wd.sd]
  rw [hE]
  exact vmStrFinish W hW0 a b c d f ha'
 ·cases hb : inB b 0 30
  ·have hE : doW W ⟨8, a, b, c, d, f⟩ = W := by unfold doW; simp [ha, hb]
   rw [hE]
   exact vmStrReadNo W hW0 a b c d f ha' hb
  ·have hE : doW W ⟨8, a, b, c, d, f⟩ = { W with recvs := W.recvs.set a.toNat (rvRead (W.recvs.getD a.toNat default) b).1, got := W.got.set a.toNat (W.got.getD a.toNat default ++ (rvRead (W.recvs.getD a.toNat default) b).2) } := by unfold doW; simp [ha, hb, Wd.rv]; rfl
   rw [hE]
   exact vmStrRead W hW0 a b c d f ha' hb
 ·cases hb : inB b (W.recvs.getD a.toNat default).limit 30
  ·have hE : doW W ⟨9, a, b, c, d, f⟩ = W := by
    have hb2 : inB b (W.rv a).limit 30 = false := hb
    unfold doW; simp [ha, hb2]
   rw [hE]
   exact vmStrGrantNo W hW0 a b c d f ha' (fun h => by rw [inB_iff.2 h] at hb; cases hb)
  ·have hE : doW W ⟨9, a, b, c, d, f⟩ = post { W with recvs := W.recvs.set a.toNat { W.recvs.getD a.toNat default with limit := b } } ⟨0, -1, ⟨4, a, b, 0, [], []⟩, true⟩ := by
    have hb2 : inB b (W.rv a).limit 30 = true := hb
    unfold doW; simp only [ha, hb2]; rfl
   rw [hE]
   exact vmStrGrant W hW0 a b c d f ha' (inB_iff.1 hb)
end Go.Proofs.YtjbhiglaginpeaaGreat
