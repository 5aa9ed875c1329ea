/- Parts of the proof, joined from several texts. No condition. -/
import Derived.Test.YtjbhiglaginpeaaGreatQ44
import Derived.Test.YtjbhiglaginpeaaGreatQ26
set_option maxRecDepth 100000
set_option maxHeartbeats 16000000
set_option linter.unusedVariables false
set_option linter.unusedSimpArgs false
namespace Go.Proofs.YtjbhiglaginpeaaGreat
open Go.RowKit
theorem post_net (W : Wd) (x : Wi) : ∃ N, post W x = { W with net := N } := by
 unfold post
 split
 ·exact ⟨_, rfl⟩
 ·exact ⟨W.net, rfl⟩
theorem vmPktNo (W : Wd) (hW0 : WdOK W) (k a b c : Int) (d : Bs) (f : Fm) (ha : inB a 0 ((W.net.length : Int) - 1) = false) : FnH Tryz.prog 47 [910] [.ptr 910 0, .ag (av [dI k, dI a, dI b, dI c, dS d, dI f.kind, dI f.a, dI f.b, dI f.c, dS f.data, dL 2 eRg f.ranges])] [(910, hW W), (901, hL 42 6 eSd W.sends), (902, hL 45 4 eRv W.recvs), (903, hL 9 1 eBs W.got), (904, hL 75 3 eLs W.paths), (905, hL 77 4 eRt W.rtts), (907, hS W.seen), (908, hL 82 6 eCd W.carried), (909, hL 106 9 eWi W.net)] (.tu []) [(910, hW W), (901, hL 42 6 eSd W.sends), (902, hL 45 4 eRv W.recvs), (903, hL 9 1 eBs W.got), (904, hL 75 3 eLs W.paths), (905, hL 77 4 eRt W.rtts), (907, hS W.seen), (908, hL 82 6 eCd W.carried), (909, hL 106 9 eWi W.net)] := by
 have l9 := hW0.net
 have hI := vmWithin a 0 ((W.net.length : Int) - 1)
 rw [ha] at hI
 unfold hW hS
 refine fH Tryz.func47 Tryz.ntmps47 Tryz.results47 ?_
 repeat' (first
  | refine stp ?_
  | (apply K.g0; apply K.callF; refine cq (F := hI) (G := ?_))
  | (apply K.rg 1; refine wdr [0, 1, 0, 4, 12, 28, 60, 124, 255, 511] 8 [5, 6, 7, 8, 9, 10, 11, 12] [] ?_)
  | refine dcl ?_)
 exact rehw0 lP
theorem vmPktTwice (W : Wd) (hW0 : WdOK W) (a b c : Int) (d : Bs) (f : Fm) (ha : inB a 0 ((W.net.length : Int) - 1) = true) : FnH Tryz.prog 47 [910] [.ptr 910 0, .ag (av [dI 6, dI a, dI b, dI c, dS d, dI f.kind, dI f.a, dI f.b, dI f.c, dS f.data, dL 2 eRg f.ranges])] [(910, hW W), (901, hL 42 6 eSd W.sends), (902, hL 45 4 eRv W.recvs), (903, hL 9 1 eBs W.got), (904, hL 75 3 eLs W.paths), (905, hL 77 4 eRt W.rtts), (907, hS W.seen), (908, hL 82 6 eCd W.carried), (909, hL 106 9 eWi W.net)] (.tu []) [(910, hW (post W (W.net.getD a.toNat default))), (901, hL 42 6 eSd (post W (W.net.getD a.toNat default)).sends), (902, hL 45 4 eRv (post W (W.net.getD a.toNat default)).recvs), (903, hL 9 1 eBs (post W (W.net.getD a.toNat default)).got), (904, hL 75 3 eLs (post W (W.net.getD a.toNat default)).paths), (905, hL 77 4 eRt (post W (W.net.getD a.toNat default)).rtts), (907, hS (post W (W.net.getD a.toNat default)).seen), (908, hL 82 6 eCd (post W (W.net.getD a.toNat default)).carried), (909, hL 106 9 eWi (post W (W.net.getD a.toNat default)).net)] := by
 have l9 := hW0.net
 have hI := vmWithin a 0 ((W.net.length : Int) - 1)
 have ha' := inB_iff.1 ha
 rw [ha] at hI
 have hx := fm_sz (hW0.wires _ (getD_mem' (l := W.net) (i := a.toNat) (by omega))).frame
 have hT := vmTransmit W (W.net.getD a.toNat default) (by omega)
 have hC := vmCopyWire (W.net.getD a.toNat default) (by omega)
 obtain ⟨N, hN⟩ := post_net W (W.net.getD a.toNat default)
 rw [hN] at hT ⊢
 unfold hW at hT ⊢
 unfold hS
 dsimp only at hT ⊢
 refine fH Tryz.func47 Tryz.ntmps47 Tryz.results47 ?_
 repeat' (first
  | refine stp ?_
  | (apply K.g0; apply K.callF; first | refine ch (F := hT) (G := ?_) | refine cq (F := hI) (G := ?_) | refine cq (F := hC) (G := ?_))
  | (apply K.rg 1; refine wdr [0, 1, 0, 4, 12, 28, 60, 124, 255, 511] 8 [5, 6, 7, 8, 9, 10, 11, 12] [] ?_)
  | (apply K.rg 2; refine wdr [0, 1, 3, 7, 0, 16, 63, 127, 0, 511] 9 [15, 16, 17, 18, 19, 20, 21, 22, 4] [] ?_)
  | refine dcl ?_)
 exact rehw0 lP
theorem vmPktLose (W : Wd) (hW0 : WdOK W) (a b c : Int) (d : Bs) (f : Fm) (ha : inB a 0 ((W.net.length : Int) - 1) = true) : FnH Tryz.prog 47 [910] [.ptr 910 0, .ag (av [dI 5, dI a, dI b, dI c, dS d, dI f.kind, dI f.a, dI f.b, dI f.c, dS f.data, dL 2 eRg f.ranges])] [(910, hW W), (901, hL 42 6 eSd W.sends), (902, hL 45 4 eRv W.recvs), (903, hL 9 1 eBs W.got), (904, hL 75 3 eLs W.paths), (905, hL 77 4 eRt W.rtts), (907, hS W.seen), (908, hL 82 6 eCd W.carried), (909, hL 106 9 eWi W.net)] (.tu []) [(910, hW ({ W with net := W.net.eraseIdx a.toNat })), (901, hL 42 6 eSd ({ W with net := W.net.eraseIdx a.toNat }).sends), (902, hL 45 4 eRv ({ W with net := W.net.eraseIdx a.toNat }).recvs), (903, hL 9 1 eBs ({ W with net := W.net.eraseIdx a.toNat }).got), (904, hL 75 3 eLs ({ W with net := W.net.eraseIdx a.toNat }).paths), (905, hL 77 4 eRt ({ W with net := W.net.eraseIdx a.toNat }).rtts), (907, hS ({ W with net := W.net.eraseIdx a.toNat }).seen), (908, hL 82 6 eCd ({ W with net := W.net.eraseIdx a.toNat }).carried), (909, hL 106 9 eWi ({ W with net := W.net.eraseIdx a.toNat }).net)] := by
 have l9 := hW0.net
 have hI := vmWithin a 0 ((W.net.length : Int) - 1)
 have ha' := inB_iff.1 ha
 rw [ha] at hI
 have hD := vmDelWire 909 W.net a.toNat (by omega)
 unfold hW hS
 dsimp only
 refine fH Tryz.func47 Tryz.ntmps47 Tryz.results47 ?_
 repeat' (first
  | refine stp ?_
  | (apply K.g0; apply K.callF; refine cq (F := hI) (G := ?_))
  | (apply KA.g0; apply KA.callF; refine cua (h2_ := hD) (kk_ := ?_))
  | (apply K.rg 1; refine wdr [0, 1, 0, 4, 12, 28, 60, 124, 255, 511] 8 [5, 6, 7, 8, 9, 10, 11, 12] [] ?_)
  | (apply K.rg 2; refine wdr [0, 1, 3, 7, 0, 16, 63, 127, 0, 511] 9 [15, 16, 17, 18, 19, 20, 21, 22, 4] [] ?_)
  | (apply K.rg 5; refine WC.drawD (ms := [0, 0, 2, 6, 14, 0, 32, 0, 128, 384, 1022, 2047, 4095, 8191]) 11 [30, 31, 32, 33, 34, 35, 36, 37, 38, 39, 40] [(10,[909])] (by kernel_rfl) (by kernel_rfl) ?_)
  | refine dcl ?_)
 exact rehw0 lP
theorem vmPktDeliver (W V : Wd) (l9 : W.net.length ≤ 10) (a b c : Int) (d : Bs) (f : Fm) (ha : inB a 0 ((W.net.length : Int) - 1) = true) (hV : FnH Tryz.prog 98 [910, 901, 902, 903, 904, 905, 907, 908, 909] [.ptr 910 0, .ag (av (eWi (W.net.getD a.toNat default)))] [(910, hW ({ W with net := W.net.eraseIdx a.toNat })), (901, hL 42 6 eSd ({ W with net := W.net.eraseIdx a.toNat }).sends), (902, hL 45 4 eRv ({ W with net := W.net.eraseIdx a.toNat }).recvs), (903, hL 9 1 eBs ({ W with net := W.net.eraseIdx a.toNat }).got), (904, hL 75 3 eLs ({ W with net := W.net.eraseIdx a.toNat }).paths), (905, hL 77 4 eRt ({ W with net := W.net.eraseIdx a.toNat }).rtts), (907, hS ({ W with net := W.net.eraseIdx a.toNat }).seen), (908, hL 82 6 eCd ({ W with net := W.net.eraseIdx a.toNat }).carried), (909, hL 106 9 eWi ({ W with net := W.net.eraseIdx a.toNat }).net)] (.tu []) [(910, hW V), (901, hL 42 6 eSd V.sends), (902, hL 45 4 eRv V.recvs), (903, hL 9 1 eBs V.got), (904, hL 75 3 eLs V.paths), (905, hL 77 4 eRt V.rtts), (907, hS V.seen), (908, hL 82 6 eCd V.carried), (909, hL 106 9 eWi V.net)]) : FnH Tryz.prog 47 [910] [.ptr 910 0, .ag (av [dI 4, dI a, dI b, dI c, dS d, dI f.kind, dI f.a, dI f.b, dI f.c, dS f.data, dL 2 eRg f.ranges])] [(910, hW W), (901, hL 42 6 eSd W.sends), (902, hL 45 4 eRv W.recvs), (903, hL 9 1 eBs W.got), (904, hL 75 3 eLs W.paths), (905, hL 77 4 eRt W.rtts), (907, hS W.seen), (908, hL 82 6 eCd W.carried), (909, hL 106 9 eWi W.net)] (.tu []) [(910, hW V), (901, hL 42 6 eSd V.sends), (902, hL 45 4 eRv V.recvs), (903, hL 9 1 eBs V.got), (904, hL 75 3 eLs V.paths), (905, hL 77 4 eRt V.rtts), (907, hS V.seen), (908, hL 82 6 eCd V.carried), (909, hL 106 9 eWi V.net)] := by
 have hI := vmWithin a 0 ((W.net.length : Int) - 1)
 have ha' := inB_iff.1 ha
 rw [ha] at hI
 have hD := vmDelWire 909 W.net a.toNat (by omega)
 unfold hW hS at hV ⊢
 dsimp only at hV ⊢
 refine fH Tryz.func47 Tryz.ntmps47 Tryz.results47 ?_
 repeat' (first
  | refine stp ?_
  | (apply K.g0; apply K.callF; first | refine chq (F := hV) (G := ?_) | refine cq (F := hI) (G := ?_))
  | (apply KA.g0; apply KA.callF; refine cua (h2_ := hD) (kk_ := ?_))
  | (apply K.rg 1; refine wdr [0, 1, 0, 4, 12, 28, 60, 124, 255, 511] 8 [5, 6, 7, 8, 9, 10, 11, 12] [] ?_)
  | (apply K.rg 2; refine wdr [0, 1, 3, 7, 0, 16, 63, 127, 0, 511] 9 [15, 16, 17, 18, 19, 20, 21, 22, 4] [] ?_)
  | (apply K.rg 5; refine WC.drawD (ms := [0, 0, 2, 6, 14, 0, 32, 0, 128, 384, 1022, 2047, 4095, 8191]) 11 [30, 31, 32, 33, 34, 35, 36, 37, 38, 39, 40] [(10,[909])] (by kernel_rfl) (by kernel_rfl) ?_)
  | refine dcl ?_)
 exact rehw0 lP
theorem vmDoPacket (W : Wd) (hW0 : WdOK W) (e : Ev) (hk : e.kind = 4 ∨ e.kind = 5 ∨ e.kind = 6) : FnH Tryz.prog 47 [910] [.ptr 910 0, .ag (av (eEv e))] [(910, hW W), (901, hL 42 6 eSd W.sends), (902, hL 45 4 eRv W.recvs), (903, hL 9 1 eBs W.got), (904, hL 75 3 eLs W.paths), (905, hL 77 4 eRt W.rtts), (907, hS W.seen), (908, hL 82 6 eCd W.carried), (909, hL 106 9 eWi W.net)] (.tu []) [(910, hW (doW W e)), (901, hL 42 6 eSd (doW W e).sends), (902, hL 45 4 eRv (doW W e).recvs), (903, hL 9 1 eBs (doW W e).got), (904, hL 75 3 eLs (doW W e).paths), (905, hL 77 4 eRt (doW W e).rtts), (907, hS (doW W e).seen), (908, hL 82 6 eCd (doW W e).carried), (909, hL 106 9 eWi (doW W e).net)] := by
 have l9 := hW0.net
 obtain ⟨k, a, b, c, d, f⟩ := e
 dsimp only at hk
 have h19 : ¬ (k = 1 ∨ k = 2 ∨ k = 8 ∨ k = 9) := by omega
 have h3 : ¬ k = 3 := by omega
 cases ha : inB a 0 ((W.net.length : Int) - 1)
 ·have hE : doW W ⟨k, a, b, c, d, f⟩ = W := by unfold doW; simp only [ha]; rw [if_neg h19, if_neg h3, if_pos hk]; rfl
  rw [hE]
  exact vmPktNo W hW0 k a b c d f ha
 have ha' := inB_iff.1 ha
 have hlt : a.toNat < W.net.length := by omega
 have hx := hW0.wires _ (getD_mem' (l := W.net) (i := a.toNat) hlt)
 have hW2 := wd_erase hW0 a.toNat
 have hx2 := wire_net (n := W.net.eraseIdx a.toNat) hx
 rcases hk with rfl | rfl | rfl
 ·have hE : doW W ⟨4, a, b, c, d, f⟩ = deliver { W with net := W.net.eraseIdx a.toNat } (W.net.getD a.toNat default) := by unfold doW; simp only [ha]; rw [if_neg h19, if_neg h3]; rfl
  rw [hE]
  exact vmPktDeliver W _ l9 a b c d f ha (vmDeliver _ hW2 _ hx2)
 ·have hE : doW W ⟨5, a, b, c, d, f⟩ = { W with net := W.net.eraseIdx a.toNat } := by unfold doW; simp only [ha]; rw [if_neg h19, if_neg h3]; rfl
  rw [hE]
  exact vmPktLose W hW0 a b c d f ha
 ·have hE : doW W ⟨6, a, b, c, d, f⟩ = post W (W.net.getD a.toNat default) := by unfold doW; simp only [ha]; rw [if_neg h19, if_neg h3]; rfl
  rw [hE]
  exact vmPktTwice W hW0 a b c d f ha
end Go.Proofs.YtjbhiglaginpeaaGreat
