/- Parts of the proof, joined from several texts. No condition. -/
import Derived.Test.YtjbhiglaginpeaaGreatQ6
import Derived.Test.YtjbhiglaginpeaaGreatQ16
import Derived.Test.YtjbhiglaginpeaaGreatQ39
import Derived.Test.YtjbhiglaginpeaaGreatQ41
import Derived.Test.YtjbhiglaginpeaaGreatQ29
set_option maxRecDepth 100000
set_option maxHeartbeats 16000000
set_option linter.unusedVariables false
set_option linter.unusedSimpArgs false
namespace Go.Proofs.YtjbhiglaginpeaaGreat
open Go.RowKit
structure EvI (e : Ev) : Prop where
 sz : EvSz e
 fb : ∀ r ∈ e.frame.ranges, I64 r.lo ∧ I64 r.hi
theorem vmCloneRangesP (l : List Rg) (h : l.length ≤ 10000000) : FnP Tryz.prog 92 [.d (dL 2 eRg l)] (.d (dL 2 eRg l)) := (vmCloneRanges l h).toP (LeV.f0 rfl) rfl
theorem vmPathNo (W : Wd) (k a b c : Int) (d : Bs) (f : Fm) (ha : inB a 0 3 = false) : FnH Tryz.prog 48 [910] [.ptr 910 0, .ag (av [dI k, dI a, dI b, dI c, dS d, dI f.kind, dI f.a, dI f.b, dI f.c, dS f.data, dL 2 eRg f.ranges])] [(910, hW W), (901, hL 42 6 eSd W.sends), (902, hL 45 4 eRv W.recvs), (903, hL 9 1 eBs W.got), (904, hL 75 3 eLs W.paths), (905, hL 77 4 eRt W.rtts), (907, hS W.seen), (908, hL 82 6 eCd W.carried), (909, hL 106 9 eWi W.net)] (.tu []) [(910, hW W), (901, hL 42 6 eSd W.sends), (902, hL 45 4 eRv W.recvs), (903, hL 9 1 eBs W.got), (904, hL 75 3 eLs W.paths), (905, hL 77 4 eRt W.rtts), (907, hS W.seen), (908, hL 82 6 eCd W.carried), (909, hL 106 9 eWi W.net)] := by
 have hI := vmIsPath a
 rw [ha] at hI
 unfold hW hS
 refine fH Tryz.func48 Tryz.ntmps48 Tryz.results48 ?_
 repeat' (first
  | refine stp ?_
  | (apply K.g0; apply K.callF; refine cq (F := hI) (G := ?_))
  | fail)
 exact rehw0 lP
theorem vmPathAck0 (W : Wd) (hW0 : WdOK W) (b c : Int) (d : Bs) (f : Fm) : FnH Tryz.prog 48 [910] [.ptr 910 0, .ag (av [dI 7, dI 0, dI b, dI c, dS d, dI f.kind, dI f.a, dI f.b, dI f.c, dS f.data, dL 2 eRg f.ranges])] [(910, hW W), (901, hL 42 6 eSd W.sends), (902, hL 45 4 eRv W.recvs), (903, hL 9 1 eBs W.got), (904, hL 75 3 eLs W.paths), (905, hL 77 4 eRt W.rtts), (907, hS W.seen), (908, hL 82 6 eCd W.carried), (909, hL 106 9 eWi W.net)] (.tu []) [(910, hW (if (W.seen.getD 0 default).length > 0 then post W ⟨0, -1, ⟨2, 0, 0, 0, [], W.seen.getD 0 default⟩, true⟩ else W)), (901, hL 42 6 eSd (if (W.seen.getD 0 default).length > 0 then post W ⟨0, -1, ⟨2, 0, 0, 0, [], W.seen.getD 0 default⟩, true⟩ else W).sends), (902, hL 45 4 eRv (if (W.seen.getD 0 default).length > 0 then post W ⟨0, -1, ⟨2, 0, 0, 0, [], W.seen.getD 0 default⟩, true⟩ else W).recvs), (903, hL 9 1 eBs (if (W.seen.getD 0 default).length > 0 then post W ⟨0, -1, ⟨2, 0, 0, 0, [], W.seen.getD 0 default⟩, true⟩ else W).got), (904, hL 75 3 eLs (if (W.seen.getD 0 default).length > 0 then post W ⟨0, -1, ⟨2, 0, 0, 0, [], W.seen.getD 0 default⟩, true⟩ else W).paths), (905, hL 77 4 eRt (if (W.seen.getD 0 default).length > 0 then post W ⟨0, -1, ⟨2, 0, 0, 0, [], W.seen.getD 0 default⟩, true⟩ else W).rtts), (907, hS (if (W.seen.getD 0 default).length > 0 then post W ⟨0, -1, ⟨2, 0, 0, 0, [], W.seen.getD 0 default⟩, true⟩ else W).seen), (908, hL 82 6 eCd (if (W.seen.getD 0 default).length > 0 then post W ⟨0, -1, ⟨2, 0, 0, 0, [], W.seen.getD 0 default⟩, true⟩ else W).carried), (909, hL 106 9 eWi (if (W.seen.getD 0 default).length > 0 then post W ⟨0, -1, ⟨2, 0, 0, 0, [], W.seen.getD 0 default⟩, true⟩ else W).net)] := by
 have l7 := hW0.seen; have l9 := hW0.net
 have hI := vmIsPath 0
 rw [show inB 0 0 3 = true from rfl] at hI
 have hsn : (W.seen.getD 0 default).length ≤ 16 := (hW0.pt (p := 0) (by omega)).sn.1
 have hC := vmCloneRangesP (W.seen.getD 0 default) (by omega)
 by_cases hl : (W.seen.getD 0 default).length > 0
 ·rw [if_pos hl]
  have hT := vmTransmit W ⟨0, -1, ⟨2, 0, 0, 0, [], W.seen.getD 0 default⟩, true⟩ (by omega)
  obtain ⟨N, hN⟩ := post_net2 W ⟨0, -1, ⟨2, 0, 0, 0, [], W.seen.getD 0 default⟩, true⟩
  rw [hN] at hT ⊢
  unfold hW at hT ⊢
  unfold hS
  dsimp only at hT ⊢
  refine fH Tryz.func48 Tryz.ntmps48 Tryz.results48 ?_
  repeat' (first
   | (apply K.g0; apply K.indexAddr; refine R.op rfl (OT.indexOB 0 rfl rfl rfl rfl rfl (by omega)) rfl ?_)
   | (apply KA.g0; apply KA.indexAddr; refine DR.cons (OTg.plain rfl (OT.indexOB 0 rfl rfl rfl rfl rfl (by omega))) rfl ?_)
   | refine stp ?_
   | (apply K.g0; apply K.callF; first | refine ch (F := hT) (G := ?_) | refine cq (F := hI) (G := ?_))
   | (apply KA.g0; apply KA.callF; refine cqa (F := hC) (G := ?_))
   | (apply K.rg 4; refine wdr [0, 1, 3, 7, 0, 16, 63, 127, 255, 511] 6 [13, 14, 15, 16, 17, 18] [] ?_)
   | (apply K.rg 5; refine wdr [0, 1, 0, 4, 12, 28, 0, 64, 252, 508, 1020, 2047, 0, 8191] 13 [23, 24, 25, 26, 27, 28, 29, 30, 31, 32, 33, 34, 4] [] ?_)
   | refine dcl ?_)
  exact rehw0 lP
 ·rw [if_neg hl]
  unfold hW hS
  refine fH Tryz.func48 Tryz.ntmps48 Tryz.results48 ?_
  repeat' (first
   | (apply K.g0; apply K.indexAddr; refine R.op rfl (OT.indexOB 0 rfl rfl rfl rfl rfl (by omega)) rfl ?_)
   | refine stp ?_
   | (apply K.g0; apply K.callF; refine cq (F := hI) (G := ?_))
   | (apply K.rg 4; refine wdr [0, 1, 3, 7, 0, 16, 63, 127, 255, 511] 6 [13, 14, 15, 16, 17, 18] [] ?_)
   | refine dcl ?_)
  exact rehw0 lP
theorem vmPathAck1 (W : Wd) (hW0 : WdOK W) (b c : Int) (d : Bs) (f : Fm) : FnH Tryz.prog 48 [910] [.ptr 910 0, .ag (av [dI 7, dI 1, dI b, dI c, dS d, dI f.kind, dI f.a, dI f.b, dI f.c, dS f.data, dL 2 eRg f.ranges])] [(910, hW W), (901, hL 42 6 eSd W.sends), (902, hL 45 4 eRv W.recvs), (903, hL 9 1 eBs W.got), (904, hL 75 3 eLs W.paths), (905, hL 77 4 eRt W.rtts), (907, hS W.seen), (908, hL 82 6 eCd W.carried), (909, hL 106 9 eWi W.net)] (.tu []) [(910, hW (if (W.seen.getD 1 default).length > 0 then post W ⟨1, -1, ⟨2, 1, 0, 0, [], W.seen.getD 1 default⟩, true⟩ else W)), (901, hL 42 6 eSd (if (W.seen.getD 1 default).length > 0 then post W ⟨1, -1, ⟨2, 1, 0, 0, [], W.seen.getD 1 default⟩, true⟩ else W).sends), (902, hL 45 4 eRv (if (W.seen.getD 1 default).length > 0 then post W ⟨1, -1, ⟨2, 1, 0, 0, [], W.seen.getD 1 default⟩, true⟩ else W).recvs), (903, hL 9 1 eBs (if (W.seen.getD 1 default).length > 0 then post W ⟨1, -1, ⟨2, 1, 0, 0, [], W.seen.getD 1 default⟩, true⟩ else W).got), (904, hL 75 3 eLs (if (W.seen.getD 1 default).length > 0 then post W ⟨1, -1, ⟨2, 1, 0, 0, [], W.seen.getD 1 default⟩, true⟩ else W).paths), (905, hL 77 4 eRt (if (W.seen.getD 1 default).length > 0 then post W ⟨1, -1, ⟨2, 1, 0, 0, [], W.seen.getD 1 default⟩, true⟩ else W).rtts), (907, hS (if (W.seen.getD 1 default).length > 0 then post W ⟨1, -1, ⟨2, 1, 0, 0, [], W.seen.getD 1 default⟩, true⟩ else W).seen), (908, hL 82 6 eCd (if (W.seen.getD 1 default).length > 0 then post W ⟨1, -1, ⟨2, 1, 0, 0, [], W.seen.getD 1 default⟩, true⟩ else W).carried), (909, hL 106 9 eWi (if (W.seen.getD 1 default).length > 0 then post W ⟨1, -1, ⟨2, 1, 0, 0, [], W.seen.getD 1 default⟩, true⟩ else W).net)] := by
 have l7 := hW0.seen; have l9 := hW0.net
 have hI := vmIsPath 1
 rw [show inB 1 0 3 = true from rfl] at hI
 have hsn : (W.seen.getD 1 default).length ≤ 16 := (hW0.pt (p := 1) (by omega)).sn.1
 have hC := vmCloneRangesP (W.seen.getD 1 default) (by omega)
 by_cases hl : (W.seen.getD 1 default).length > 0
 ·rw [if_pos hl]
  have hT := vmTransmit W ⟨1, -1, ⟨2, 1, 0, 0, [], W.seen.getD 1 default⟩, true⟩ (by omega)
  obtain ⟨N, hN⟩ := post_net2 W ⟨1, -1, ⟨2, 1, 0, 0, [], W.seen.getD 1 default⟩, true⟩
  rw [hN] at hT ⊢
  unfold hW at hT ⊢
  unfold hS
  dsimp only at hT ⊢
  refine fH Tryz.func48 Tryz.ntmps48 Tryz.results48 ?_
  repeat' (first
   | (apply K.g0; apply K.indexAddr; refine R.op rfl (OT.indexOB 1 rfl rfl rfl rfl rfl (by omega)) rfl ?_)
   | (apply KA.g0; apply KA.indexAddr; refine DR.cons (OTg.plain rfl (OT.indexOB 1 rfl rfl rfl rfl rfl (by omega))) rfl ?_)
   | refine stp ?_
   | (apply K.g0; apply K.callF; first | refine ch (F := hT) (G := ?_) | refine cq (F := hI) (G := ?_))
   | (apply KA.g0; apply KA.callF; refine cqa (F := hC) (G := ?_))
   | (apply K.rg 4; refine wdr [0, 1, 3, 7, 0, 16, 63, 127, 255, 511] 6 [13, 14, 15, 16, 17, 18] [] ?_)
   | (apply K.rg 5; refine wdr [0, 1, 0, 4, 12, 28, 0, 64, 252, 508, 1020, 2047, 0, 8191] 13 [23, 24, 25, 26, 27, 28, 29, 30, 31, 32, 33, 34, 4] [] ?_)
   | refine dcl ?_)
  exact rehw0 lP
 ·rw [if_neg hl]
  unfold hW hS
  refine fH Tryz.func48 Tryz.ntmps48 Tryz.results48 ?_
  repeat' (first
   | (apply K.g0; apply K.indexAddr; refine R.op rfl (OT.indexOB 1 rfl rfl rfl rfl rfl (by omega)) rfl ?_)
   | refine stp ?_
   | (apply K.g0; apply K.callF; refine cq (F := hI) (G := ?_))
   | (apply K.rg 4; refine wdr [0, 1, 3, 7, 0, 16, 63, 127, 255, 511] 6 [13, 14, 15, 16, 17, 18] [] ?_)
   | refine dcl ?_)
  exact rehw0 lP
theorem vmPathAck2 (W : Wd) (hW0 : WdOK W) (b c : Int) (d : Bs) (f : Fm) : FnH Tryz.prog 48 [910] [.ptr 910 0, .ag (av [dI 7, dI 2, dI b, dI c, dS d, dI f.kind, dI f.a, dI f.b, dI f.c, dS f.data, dL 2 eRg f.ranges])] [(910, hW W), (901, hL 42 6 eSd W.sends), (902, hL 45 4 eRv W.recvs), (903, hL 9 1 eBs W.got), (904, hL 75 3 eLs W.paths), (905, hL 77 4 eRt W.rtts), (907, hS W.seen), (908, hL 82 6 eCd W.carried), (909, hL 106 9 eWi W.net)] (.tu []) [(910, hW (if (W.seen.getD 2 default).length > 0 then post W ⟨2, -1, ⟨2, 2, 0, 0, [], W.seen.getD 2 default⟩, true⟩ else W)), (901, hL 42 6 eSd (if (W.seen.getD 2 default).length > 0 then post W ⟨2, -1, ⟨2, 2, 0, 0, [], W.seen.getD 2 default⟩, true⟩ else W).sends), (902, hL 45 4 eRv (if (W.seen.getD 2 default).length > 0 then post W ⟨2, -1, ⟨2, 2, 0, 0, [], W.seen.getD 2 default⟩, true⟩ else W).recvs), (903, hL 9 1 eBs (if (W.seen.getD 2 default).length > 0 then post W ⟨2, -1, ⟨2, 2, 0, 0, [], W.seen.getD 2 default⟩, true⟩ else W).got), (904, hL 75 3 eLs (if (W.seen.getD 2 default).length > 0 then post W ⟨2, -1, ⟨2, 2, 0, 0, [], W.seen.getD 2 default⟩, true⟩ else W).paths), (905, hL 77 4 eRt (if (W.seen.getD 2 default).length > 0 then post W ⟨2, -1, ⟨2, 2, 0, 0, [], W.seen.getD 2 default⟩, true⟩ else W).rtts), (907, hS (if (W.seen.getD 2 default).length > 0 then post W ⟨2, -1, ⟨2, 2, 0, 0, [], W.seen.getD 2 default⟩, true⟩ else W).seen), (908, hL 82 6 eCd (if (W.seen.getD 2 default).length > 0 then post W ⟨2, -1, ⟨2, 2, 0, 0, [], W.seen.getD 2 default⟩, true⟩ else W).carried), (909, hL 106 9 eWi (if (W.seen.getD 2 default).length > 0 then post W ⟨2, -1, ⟨2, 2, 0, 0, [], W.seen.getD 2 default⟩, true⟩ else W).net)] := by
 have l7 := hW0.seen; have l9 := hW0.net
 have hI := vmIsPath 2
 rw [show inB 2 0 3 = true from rfl] at hI
 have hsn : (W.seen.getD 2 default).length ≤ 16 := (hW0.pt (p := 2) (by omega)).sn.1
 have hC := vmCloneRangesP (W.seen.getD 2 default) (by omega)
 by_cases hl : (W.seen.getD 2 default).length > 0
 ·rw [if_pos hl]
  have hT := vmTransmit W ⟨2, -1, ⟨2, 2, 0, 0, [], W.seen.getD 2 default⟩, true⟩ (by omega)
  obtain ⟨N, hN⟩ := post_net2 W ⟨2, -1, ⟨2, 2, 0, 0, [], W.seen.getD 2 default⟩, true⟩
  rw [hN] at hT ⊢
  unfold hW at hT ⊢
  unfold hS
  dsimp only at hT ⊢
  refine fH Tryz.func48 Tryz.ntmps48 Tryz.results48 ?_
  repeat' (first
   | (apply K.g0; apply K.indexAddr; refine R.op rfl (OT.indexOB 2 rfl rfl rfl rfl rfl (by omega)) rfl ?_)
   | (apply KA.g0; apply KA.indexAddr; refine DR.cons (OTg.plain rfl (OT.indexOB 2 rfl rfl rfl rfl rfl (by omega))) rfl ?_)
   | refine stp ?_
   | (apply K.g0; apply K.callF; first | refine ch (F := hT) (G := ?_) | refine cq (F := hI) (G := ?_))
   | (apply KA.g0; apply KA.callF; refine cqa (F := hC) (G := ?_))
   | (apply K.rg 4; refine wdr [0, 1, 3, 7, 0, 16, 63, 127, 255, 511] 6 [13, 14, 15, 16, 17, 18] [] ?_)
   | (apply K.rg 5; refine wdr [0, 1, 0, 4, 12, 28, 0, 64, 252, 508, 1020, 2047, 0, 8191] 13 [23, 24, 25, 26, 27, 28, 29, 30, 31, 32, 33, 34, 4] [] ?_)
   | refine dcl ?_)
  exact rehw0 lP
 ·rw [if_neg hl]
  unfold hW hS
  refine fH Tryz.func48 Tryz.ntmps48 Tryz.results48 ?_
  repeat' (first
   | (apply K.g0; apply K.indexAddr; refine R.op rfl (OT.indexOB 2 rfl rfl rfl rfl rfl (by omega)) rfl ?_)
   | refine stp ?_
   | (apply K.g0; apply K.callF; refine cq (F := hI) (G := ?_))
   | (apply K.rg 4; refine wdr [0, 1, 3, 7, 0, 16, 63, 127, 255, 511] 6 [13, 14, 15, 16, 17, 18] [] ?_)
   | refine dcl ?_)
  exact rehw0 lP
theorem vmPathAck3 (W : Wd) (hW0 : WdOK W) (b c : Int) (d : Bs) (f : Fm) : FnH Tryz.prog 48 [910] [.ptr 910 0, .ag (av [dI 7, dI 3, dI b, dI c, dS d, dI f.kind, dI f.a, dI f.b, dI f.c, dS f.data, dL 2 eRg f.ranges])] [(910, hW W), (901, hL 42 6 eSd W.sends), (902, hL 45 4 eRv W.recvs), (903, hL 9 1 eBs W.got), (904, hL 75 3 eLs W.paths), (905, hL 77 4 eRt W.rtts), (907, hS W.seen), (908, hL 82 6 eCd W.carried), (909, hL 106 9 eWi W.net)] (.tu []) [(910, hW (if (W.seen.getD 3 default).length > 0 then post W ⟨3, -1, ⟨2, 3, 0, 0, [], W.seen.getD 3 default⟩, true⟩ else W)), (901, hL 42 6 eSd (if (W.seen.getD 3 default).length > 0 then post W ⟨3, -1, ⟨2, 3, 0, 0, [], W.seen.getD 3 default⟩, true⟩ else W).sends), (902, hL 45 4 eRv (if (W.seen.getD 3 default).length > 0 then post W ⟨3, -1, ⟨2, 3, 0, 0, [], W.seen.getD 3 default⟩, true⟩ else W).recvs), (903, hL 9 1 eBs (if (W.seen.getD 3 default).length > 0 then post W ⟨3, -1, ⟨2, 3, 0, 0, [], W.seen.getD 3 default⟩, true⟩ else W).got), (904, hL 75 3 eLs (if (W.seen.getD 3 default).length > 0 then post W ⟨3, -1, ⟨2, 3, 0, 0, [], W.seen.getD 3 default⟩, true⟩ else W).paths), (905, hL 77 4 eRt (if (W.seen.getD 3 default).length > 0 then post W ⟨3, -1, ⟨2, 3, 0, 0, [], W.seen.getD 3 default⟩, true⟩ else W).rtts), (907, hS (if (W.seen.getD 3 default).length > 0 then post W ⟨3, -1, ⟨2, 3, 0, 0, [], W.seen.getD 3 default⟩, true⟩ else W).seen), (908, hL 82 6 eCd (if (W.seen.getD 3 default).length > 0 then post W ⟨3, -1, ⟨2, 3, 0, 0, [], W.seen.getD 3 default⟩, true⟩ else W).carried), (909, hL 106 9 eWi (if (W.seen.getD 3 default).length > 0 then post W ⟨3, -1, ⟨2, 3, 0, 0, [], W.seen.getD 3 default⟩, true⟩ else W).net)] := by
 have l7 := hW0.seen; have l9 := hW0.net
 have hI := vmIsPath 3
 rw [show inB 3 0 3 = true from rfl] at hI
 have hsn : (W.seen.getD 3 default).length ≤ 16 := (hW0.pt (p := 3) (by omega)).sn.1
 have hC := vmCloneRangesP (W.seen.getD 3 default) (by omega)
 by_cases hl : (W.seen.getD 3 default).length > 0
 ·rw [if_pos hl]
  have hT := vmTransmit W ⟨3, -1, ⟨2, 3, 0, 0, [], W.seen.getD 3 default⟩, true⟩ (by omega)
  obtain ⟨N, hN⟩ := post_net2 W ⟨3, -1, ⟨2, 3, 0, 0, [], W.seen.getD 3 default⟩, true⟩
  rw [hN] at hT ⊢
  unfold hW at hT ⊢
  unfold hS
  dsimp only at hT ⊢
  refine fH Tryz.func48 Tryz.ntmps48 Tryz.results48 ?_
  repeat' (first
   | (apply K.g0; apply K.indexAddr; refine R.op rfl (OT.indexOB 3 rfl rfl rfl rfl rfl (by omega)) rfl ?_)
   | (apply KA.g0; apply KA.indexAddr; refine DR.cons (OTg.plain rfl (OT.indexOB 3 rfl rfl rfl rfl rfl (by omega))) rfl ?_)
   | refine stp ?_
   | (apply K.g0; apply K.callF; first | refine ch (F := hT) (G := ?_) | refine cq (F := hI) (G := ?_))
   | (apply KA.g0; apply KA.callF; refine cqa (F := hC) (G := ?_))
   | (apply K.rg 4; refine wdr [0, 1, 3, 7, 0, 16, 63, 127, 255, 511] 6 [13, 14, 15, 16, 17, 18] [] ?_)
   | (apply K.rg 5; refine wdr [0, 1, 0, 4, 12, 28, 0, 64, 252, 508, 1020, 2047, 0, 8191] 13 [23, 24, 25, 26, 27, 28, 29, 30, 31, 32, 33, 34, 4] [] ?_)
   | refine dcl ?_)
  exact rehw0 lP
 ·rw [if_neg hl]
  unfold hW hS
  refine fH Tryz.func48 Tryz.ntmps48 Tryz.results48 ?_
  repeat' (first
   | (apply K.g0; apply K.indexAddr; refine R.op rfl (OT.indexOB 3 rfl rfl rfl rfl rfl (by omega)) rfl ?_)
   | refine stp ?_
   | (apply K.g0; apply K.callF; refine cq (F := hI) (G := ?_))
   | (apply K.rg 4; refine wdr [0, 1, 3, 7, 0, 16, 63, 127, 255, 511] 6 [13, 14, 15, 16, 17, 18] [] ?_)
   | refine dcl ?_)
  exact rehw0 lP
theorem vmPathTimeout (W V : Wd) (b c : Int) (d : Bs) (f : Fm) (q : Nat) (hq : q < 4) (k1 : V.recvs = W.recvs) (k2 : V.got = W.got) (k3 : V.seen = W.seen) (k4 : V.net = W.net) (k5 : V.rtts = W.rtts)
 (hV : FnH Tryz.prog 100 [910, 901, 902, 903, 904, 905, 907, 908, 909] [.ptr 910 0, aI q] [(910, hW W), (901, hL 42 6 eSd W.sends), (904, hL 75 3 eLs W.paths), (908, hL 82 6 eCd W.carried)] (.tu []) [(910, hW V), (901, hL 42 6 eSd V.sends), (904, hL 75 3 eLs V.paths), (908, hL 82 6 eCd V.carried)]) : FnH Tryz.prog 48 [910] [.ptr 910 0, .ag (av [dI 10, dI q, dI b, dI c, dS d, dI f.kind, dI f.a, dI f.b, dI f.c, dS f.data, dL 2 eRg f.ranges])] [(910, hW W), (901, hL 42 6 eSd W.sends), (902, hL 45 4 eRv W.recvs), (903, hL 9 1 eBs W.got), (904, hL 75 3 eLs W.paths), (905, hL 77 4 eRt W.rtts), (907, hS W.seen), (908, hL 82 6 eCd W.carried), (909, hL 106 9 eWi W.net)] (.tu []) [(910, hW V), (901, hL 42 6 eSd V.sends), (902, hL 45 4 eRv V.recvs), (903, hL 9 1 eBs V.got), (904, hL 75 3 eLs V.paths), (905, hL 77 4 eRt V.rtts), (907, hS V.seen), (908, hL 82 6 eCd V.carried), (909, hL 106 9 eWi V.net)] := by
 obtain ⟨v1, v2, v3, v4, v5, v6, v7, v8, v9, v10⟩ := V
 dsimp only at k1 k2 k3 k4 k5 hV ⊢
 subst k1 k2 k3 k4 k5
 have hI := vmIsPath q
 rw [inB_iff.2 (by omega)] at hI
 unfold hW at hV ⊢
 unfold hS
 dsimp only at hV ⊢
 refine fH Tryz.func48 Tryz.ntmps48 Tryz.results48 ?_
 repeat' (first
  | refine stp ?_
  | (apply K.g0; apply K.callF; first | refine chq (F := hV) (G := ?_) | refine cq (F := hI) (G := ?_))
  | fail)
 exact rehw0 lP
theorem vmPathForge (W : Wd) (l9 : W.net.length ≤ 10) (a b c : Int) (d : Bs) (f : Fm) (ha : inB a 0 3 = true) (hfb : ∀ r ∈ f.ranges, I64 r.lo ∧ I64 r.hi) (hfd : f.data.length ≤ 1000000000) : FnH Tryz.prog 48 [910] [.ptr 910 0, .ag (av [dI 12, dI a, dI b, dI c, dS d, dI f.kind, dI f.a, dI f.b, dI f.c, dS f.data, dL 2 eRg f.ranges])] [(910, hW W), (901, hL 42 6 eSd W.sends), (902, hL 45 4 eRv W.recvs), (903, hL 9 1 eBs W.got), (904, hL 75 3 eLs W.paths), (905, hL 77 4 eRt W.rtts), (907, hS W.seen), (908, hL 82 6 eCd W.carried), (909, hL 106 9 eWi W.net)] (.tu []) [(910, hW (if (inB b 0 999 && fmValid f) = true then post W ⟨a, b, f, false⟩ else W)), (901, hL 42 6 eSd (if (inB b 0 999 && fmValid f) = true then post W ⟨a, b, f, false⟩ else W).sends), (902, hL 45 4 eRv (if (inB b 0 999 && fmValid f) = true then post W ⟨a, b, f, false⟩ else W).recvs), (903, hL 9 1 eBs (if (inB b 0 999 && fmValid f) = true then post W ⟨a, b, f, false⟩ else W).got), (904, hL 75 3 eLs (if (inB b 0 999 && fmValid f) = true then post W ⟨a, b, f, false⟩ else W).paths), (905, hL 77 4 eRt (if (inB b 0 999 && fmValid f) = true then post W ⟨a, b, f, false⟩ else W).rtts), (907, hS (if (inB b 0 999 && fmValid f) = true then post W ⟨a, b, f, false⟩ else W).seen), (908, hL 82 6 eCd (if (inB b 0 999 && fmValid f) = true then post W ⟨a, b, f, false⟩ else W).carried), (909, hL 106 9 eWi (if (inB b 0 999 && fmValid f) = true then post W ⟨a, b, f, false⟩ else W).net)] := by
 have hI := vmIsPath a
 rw [ha] at hI
 have hJ := vmWithin b 0 999
 have hF := vmFrameValid f hfb hfd
 cases hb : inB b 0 999
 ·rw [hb] at hJ
  rw [if_neg (by simp)]
  unfold hW hS
  refine fH Tryz.func48 Tryz.ntmps48 Tryz.results48 ?_
  repeat' (first
   | refine stp ?_
   | (apply K.g0; apply K.callF; first | refine cq (F := hI) (G := ?_) | refine cq (F := hJ) (G := ?_))
   | fail)
  exact rehw0 lP
 rw [hb] at hJ
 cases hf : fmValid f
 ·rw [hf] at hF
  rw [if_neg (by simp)]
  unfold hW hS
  refine fH Tryz.func48 Tryz.ntmps48 Tryz.results48 ?_
  repeat' (first
   | refine stp ?_
   | (apply K.g0; apply K.callF; first | refine cq (F := hI) (G := ?_) | refine cq (F := hJ) (G := ?_))
   | (apply K.g1; apply K.callF; refine cqt (F := hF) (G := ?_))
   | fail)
  exact rehw0 lP
 ·rw [hf] at hF
  rw [if_pos (by simp)]
  have hfs := fm_sz hf
  have hC := vmCopyWire ⟨a, b, f, false⟩ (by show f.ranges.length ≤ _; omega)
  have hT := vmTransmit W ⟨a, b, f, false⟩ (by omega)
  obtain ⟨N, hN⟩ := post_net2 W ⟨a, b, f, false⟩
  rw [hN] at hT ⊢
  unfold hW at hT ⊢
  unfold hS
  dsimp only at hT ⊢
  refine fH Tryz.func48 Tryz.ntmps48 Tryz.results48 ?_
  repeat' (first
   | refine stp ?_
   | (apply K.g0; apply K.callF; first | refine ch (F := hT) (G := ?_) | refine cq (F := hI) (G := ?_) | refine cq (F := hJ) (G := ?_) | refine cq (F := hC) (G := ?_))
   | (apply K.g1; apply K.callF; refine cqt (F := hF) (G := ?_))
   | fail)
  exact rehw0 lP
theorem tm_keep {W : Wd} (h : WdOK W) {p : Nat} (hp : p < 4) : (doTimeout W p).recvs = W.recvs ∧ (doTimeout W p).got = W.got ∧ (doTimeout W p).seen = W.seen ∧ (doTimeout W p).net = W.net ∧ (doTimeout W p).rtts = W.rtts := by
 by_cases hf : (W.ls p).flight = []
 ·rw [doTimeout_nil hf]; exact ⟨rfl, rfl, rfl, rfl, rfl⟩
 ·rw [doTimeout_eq h hp hf rfl]; exact ⟨rfl, rfl, rfl, rfl, rfl⟩
theorem vmDoPath (W : Wd) (hW0 : WdOK W) (e : Ev) (he : EvI e) (hk : e.kind = 7 ∨ e.kind = 10 ∨ e.kind = 12) : FnH Tryz.prog 48 [910] [.ptr 910 0, .ag (av (eEv e))] [(910, hW W), (901, hL 42 6 eSd W.sends), (902, hL 45 4 eRv W.recvs), (903, hL 9 1 eBs W.got), (904, hL 75 3 eLs W.paths), (905, hL 77 4 eRt W.rtts), (907, hS W.seen), (908, hL 82 6 eCd W.carried), (909, hL 106 9 eWi W.net)] (.tu []) [(910, hW (doW W e)), (901, hL 42 6 eSd (doW W e).sends), (902, hL 45 4 eRv (doW W e).recvs), (903, hL 9 1 eBs (doW W e).got), (904, hL 75 3 eLs (doW W e).paths), (905, hL 77 4 eRt (doW W e).rtts), (907, hS (doW W e).seen), (908, hL 82 6 eCd (doW W e).carried), (909, hL 106 9 eWi (doW W e).net)] := by
 have hfb := he.fb
 have hfd := he.sz.fd
 obtain ⟨k, a, b, c, d, f⟩ := e
 dsimp only at hk hfb hfd
 cases ha : inB a 0 3
 ·have hE : doW W ⟨k, a, b, c, d, f⟩ = W := by
   unfold doW
   rcases hk with rfl | rfl | rfl <;> simp [ha]
  rw [hE]
  exact vmPathNo W k a b c d f ha
 have ha' := inB_iff.1 ha
 rcases hk with rfl | rfl | rfl
 ·have hE : doW W ⟨7, a, b, c, d, f⟩ = if (W.seen.getD a.toNat default).length > 0 then post W ⟨a, -1, ⟨2, a, 0, 0, [], W.seen.getD a.toNat default⟩, true⟩ else W := by
   have hem : (!(W.sn a).isEmpty) = decide (((W.seen.getD a.toNat default).length : Int) > 0) := ne_emp _
   unfold doW
   simp only [ha, hem]
   by_cases h : (W.seen.getD a.toNat default).length > 0
   ·rw [if_pos h, decide_eq_true (by omega)]; rfl
   ·rw [if_neg h, decide_eq_false (by omega)]; rfl
  rw [hE]
  have hp4 : a = 0 ∨ a = 1 ∨ a = 2 ∨ a = 3 := by omega
  rcases hp4 with rfl | rfl | rfl | rfl
  ·exact vmPathAck0 W hW0 b c d f
  ·exact vmPathAck1 W hW0 b c d f
  ·exact vmPathAck2 W hW0 b c d f
  ·exact vmPathAck3 W hW0 b c d f
 ·have hE : doW W ⟨10, a, b, c, d, f⟩ = doTimeout W a := by unfold doW; simp [ha]
  rw [hE]
  obtain ⟨q, rfl⟩ : ∃ q : Nat, a = (q : Int) := ⟨a.toNat, by omega⟩
  obtain ⟨k1, k2, k3, k4, k5⟩ := tm_keep hW0 (p := q) (by omega)
  exact vmPathTimeout W _ b c d f q (by omega) k1 k2 k3 k4 k5 (vmTimeout W hW0 q (by omega))
 ·have hE : doW W ⟨12, a, b, c, d, f⟩ = if (inB b 0 999 && fmValid f) = true then post W ⟨a, b, f, false⟩ else W := by unfold doW; simp [ha]
  rw [hE]
  exact vmPathForge W hW0.net a b c d f ha hfb hfd
end Go.Proofs.YtjbhiglaginpeaaGreat
