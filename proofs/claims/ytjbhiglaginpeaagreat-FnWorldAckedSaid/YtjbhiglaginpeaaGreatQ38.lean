/- Parts of the proof, joined from several texts. No condition. -/
import Derived.Test.YtjbhiglaginpeaaGreatQ35
import Derived.Test.YtjbhiglaginpeaaGreatQ8
set_option maxRecDepth 100000
set_option maxHeartbeats 16000000
set_option linter.unusedVariables false
set_option linter.unusedSimpArgs false
namespace Go.Proofs.YtjbhiglaginpeaaGreat
open Go.RowKit
theorem wdZero_sz : WdSz wdZero := ⟨rfl, rfl, by simp [wdZero], by simp [wdZero], by simp [wdZero], by simp [wdZero], by simp [wdZero], by simp [wdZero]⟩
theorem vlSameWorld (W : Wd) (h : WdSz W) : FnP Tryz.prog 13 [.ag (av (eWd W)), .ag (av (eWd W))] (aB true) := by
 obtain ⟨a1, a2, a3, a4, a5, a6, a7⟩ := h.len
 have a8 := h.rv; have a9 := h.sn
 have hw := vlSameWindows W.windows (by omega)
 have hN := vlSameNet W.net (by omega) (fun x hx => by have := h.net x hx; omega)
 have hS : ∀ i, i < W.sends.length → FnP Tryz.prog 31 _ _ := fun i hi => vlSameSend (W.sends.getD i default) (by have := (h.sends _ (getD_mem' hi)).1; omega) (by have := (h.sends _ (getD_mem' hi)).2; omega)
 have hR : ∀ i, i < W.recvs.length → FnP Tryz.prog 32 _ _ := fun i hi => vlSameRecv (W.recvs.getD i default) (by have := h.recvs _ (getD_mem' hi); omega)
 have hL : ∀ i, i < W.paths.length → FnP Tryz.prog 33 _ _ := fun i hi => vlSameLoss (W.paths.getD i default) (by have := h.paths _ (getD_mem' hi); omega)
 have hG : ∀ i, i < W.seen.length → FnP Tryz.prog 34 _ _ := fun i hi => vlSameRanges (W.seen.getD i default) (by have := h.seen _ (getD_mem' hi); omega)
 refine fP Tryz.func13 Tryz.ntmps13 Tryz.results13 ?_
 dsimp only [List.append]
 repeat' (first
  | refine stp ?_
  | (apply K.g1; apply K.callF; refine cqt (F := hw) (G := ?_))
  | (refine R.gS rfl rfl rfl ?_ ?_ <;> intro hb <;> (try have hb' := nrm hb) <;> try (exfalso; omega))
  | (refine WC.cond rfl ?_ ?_ <;> intro hb <;> (try have hb' := nrm hb) <;> try (exfalso; omega)))
 all_goals try (exfalso; exact hb' trivial)
 refine WC.loop (fun k s => ∃ i : Nat, k + i = W.sends.length ∧ s = ⟨⟨223, []⟩, [(2, .ptr 2 0), (3, .ptr 3 0), (5, aI (i : Nat))], [(2, .blk (av (eWd W))), (3, .blk (av (eWd W)))]⟩) W.sends.length ⟨0, rfl, rfl⟩ (imp (look [(2, 2), (3, 3)])) ?_
 rintro k s ⟨i, hk, rfl⟩
 repeat' (first
  | refine stp ?_
  | (apply K.g0; apply K.callF; refine cq (F := hS i (by omega)) (G := ?_))
  | (refine WC.cond rfl ?_ ?_ <;> intro hb <;> (try have hb' := nrm hb) <;> try (exfalso; omega))
  | (apply K.rg 6; refine wdr [0, 1, 0, 7, 15, 0, 32, 0, 224, 480, 1023, 2047] 10 [95, 96, 97, 98, 99, 100, 101, 102, 103, 104] [] ?_)
  | refine dcl ?_)
 all_goals try (exfalso; exact hb' trivial)
 ·exact loopQ.n (k - 1) _ (by omega) ⟨i + 1, by omega, rfl⟩ (imp (look [(2, 2), (3, 3)]))
 clear hb hb'
 all_goals try (exfalso; exact hb' trivial)
 refine WC.loop (fun k s => ∃ i : Nat, k + i = W.recvs.length ∧ s = ⟨⟨223, []⟩, [(2, .ptr 2 0), (3, .ptr 3 0), (6, aI (i : Nat))], [(2, .blk (av (eWd W))), (3, .blk (av (eWd W)))]⟩) W.recvs.length ⟨0, rfl, rfl⟩ (imp (look [(2, 2), (3, 3)])) ?_
 rintro k s ⟨i, hk, rfl⟩
 repeat' (first
  | refine stp ?_
  | (apply K.g0; apply K.callF; refine cq (F := hR i (by omega)) (G := ?_))
  | (refine WC.cond rfl ?_ ?_ <;> intro hb <;> (try have hb' := nrm hb) <;> try (exfalso; omega))
  | (apply K.rg 11; refine wdr [0, 1, 0, 7, 15, 0, 32, 0, 224, 480, 1023, 2047] 10 [114, 115, 116, 117, 118, 119, 120, 121, 122, 123] [] ?_)
  | refine dcl ?_)
 all_goals try (exfalso; exact hb' trivial)
 ·exact loopQ.n (k - 1) _ (by omega) ⟨i + 1, by omega, rfl⟩ (imp (look [(2, 2), (3, 3)]))
 clear hb hb'
 all_goals try (exfalso; exact hb' trivial)
 refine WC.loop (fun k s => ∃ i : Nat, k + i = W.got.length ∧ s = ⟨⟨223, []⟩, [(2, .ptr 2 0), (3, .ptr 3 0), (7, aI (i : Nat))], [(2, .blk (av (eWd W))), (3, .blk (av (eWd W)))]⟩) W.got.length ⟨0, rfl, rfl⟩ (imp (look [(2, 2), (3, 3)])) ?_
 rintro k s ⟨i, hk, rfl⟩
 repeat' (first
  | refine stp ?_
  | (refine WC.cond rfl ?_ ?_ <;> intro hb <;> (try have hb' := nrm hb) <;> try (exfalso; omega))
  | (apply K.rg 16; refine wdr [0, 1, 0, 7, 15, 0, 32, 0, 224, 480, 1023] 10 [133, 134, 135, 136, 137, 138, 139, 140, 141, 142] [] ?_)
  | refine dcl ?_)
 all_goals try (exfalso; exact hb' trivial)
 ·exact loopQ.n (k - 1) _ (by omega) ⟨i + 1, by omega, rfl⟩ (imp (look [(2, 2), (3, 3)]))
 clear hb hb'
 all_goals try (exfalso; exact hb' trivial)
 refine WC.loop (fun k s => ∃ i : Nat, k + i = W.paths.length ∧ s = ⟨⟨223, []⟩, [(2, .ptr 2 0), (3, .ptr 3 0), (8, aI (i : Nat))], [(2, .blk (av (eWd W))), (3, .blk (av (eWd W)))]⟩) W.paths.length ⟨0, rfl, rfl⟩ (imp (look [(2, 2), (3, 3)])) ?_
 rintro k s ⟨i, hk, rfl⟩
 repeat' (first
  | refine stp ?_
  | (apply K.g0; apply K.callF; refine cq (F := hL i (by omega)) (G := ?_))
  | (refine WC.cond rfl ?_ ?_ <;> intro hb <;> (try have hb' := nrm hb) <;> try (exfalso; omega))
  | (apply K.rg 21; refine wdr [0, 1, 0, 7, 15, 0, 32, 0, 224, 480, 1023, 2047] 10 [151, 152, 153, 154, 155, 156, 157, 158, 159, 160] [] ?_)
  | refine dcl ?_)
 all_goals try (exfalso; exact hb' trivial)
 ·exact loopQ.n (k - 1) _ (by omega) ⟨i + 1, by omega, rfl⟩ (imp (look [(2, 2), (3, 3)]))
 clear hb hb'
 all_goals try (exfalso; exact hb' trivial)
 refine WC.loop (fun k s => ∃ i : Nat, k + i = W.rtts.length ∧ s = ⟨⟨223, []⟩, [(2, .ptr 2 0), (3, .ptr 3 0), (9, aI (i : Nat))], [(2, .blk (av (eWd W))), (3, .blk (av (eWd W)))]⟩) W.rtts.length ⟨0, rfl, rfl⟩ (imp (look [(2, 2), (3, 3)])) ?_
 rintro k s ⟨i, hk, rfl⟩
 repeat' (first
  | (apply K.g0; apply K.binOp; refine R.op rfl (OT.cmpGn rfl rfl rfl rfl rfl (congrArg (fun b => !b) (eqB_self _))) rfl ?_)
  | refine stp ?_
  | (refine WC.cond rfl ?_ ?_ <;> intro hb <;> (try have hb' := nrm hb) <;> try (exfalso; omega))
  | (apply K.rg 26; refine wdr [0, 1, 0, 7, 15, 0, 32, 0, 224, 480, 1023] 10 [170, 171, 172, 173, 174, 175, 176, 177, 178, 179] [] ?_)
  | refine dcl ?_)
 all_goals try (exfalso; exact hb' trivial)
 ·exact loopQ.n (k - 1) _ (by omega) ⟨i + 1, by omega, rfl⟩ (imp (look [(2, 2), (3, 3)]))
 clear hb hb'
 all_goals try (exfalso; exact hb' trivial)
 refine WC.loop (fun k s => ∃ i : Nat, k + i = W.seen.length ∧ s = ⟨⟨223, []⟩, [(2, .ptr 2 0), (3, .ptr 3 0), (10, aI (i : Nat))], [(2, .blk (av (eWd W))), (3, .blk (av (eWd W)))]⟩) W.seen.length ⟨0, rfl, rfl⟩ (imp (look [(2, 2), (3, 3)])) ?_
 rintro k s ⟨i, hk, rfl⟩
 repeat' (first
  | refine stp ?_
  | (apply K.g0; apply K.callF; refine cq (F := hG i (by omega)) (G := ?_))
  | (refine WC.cond rfl ?_ ?_ <;> intro hb <;> (try have hb' := nrm hb) <;> try (exfalso; omega))
  | (apply K.rg 31; refine wdr [0, 1, 0, 7, 15, 0, 32, 0, 224, 480, 1023, 2047] 10 [188, 189, 190, 191, 192, 193, 194, 195, 196, 197] [] ?_)
  | refine dcl ?_)
 all_goals try (exfalso; exact hb' trivial)
 ·exact loopQ.n (k - 1) _ (by omega) ⟨i + 1, by omega, rfl⟩ (imp (look [(2, 2), (3, 3)]))
 clear hb hb'
 all_goals try (exfalso; exact hb' trivial)
 refine WC.loop (fun k s => ∃ i : Nat, k + i = W.carried.length ∧ s = ⟨⟨223, []⟩, [(2, .ptr 2 0), (3, .ptr 3 0), (11, aI (i : Nat))], [(2, .blk (av (eWd W))), (3, .blk (av (eWd W)))]⟩) W.carried.length ⟨0, rfl, rfl⟩ (imp (look [(2, 2), (3, 3)])) ?_
 rintro k s ⟨i, hk, rfl⟩
 repeat' (first
  | (apply K.g0; apply K.binOp; refine R.op rfl (OT.cmpGn rfl rfl rfl rfl rfl (congrArg (fun b => !b) (eqB_self _))) rfl ?_)
  | refine stp ?_
  | (apply K.g0; apply K.callF; refine cq (F := hN) (G := ?_))
  | (refine WC.cond rfl ?_ ?_ <;> intro hb <;> (try have hb' := nrm hb) <;> try (exfalso; omega))
  | (apply K.rg 36; refine wdr [0, 1, 0, 7, 15, 0, 32, 0, 224, 480, 1023] 10 [207, 208, 209, 210, 211, 212, 213, 214, 215, 216] [] ?_)
  | refine dcl ?_)
 all_goals try (exfalso; exact hb' trivial)
 ·exact loopQ.n (k - 1) _ (by omega) ⟨i + 1, by omega, rfl⟩ (imp (look [(2, 2), (3, 3)]))
 (exact ret1)
end Go.Proofs.YtjbhiglaginpeaaGreat
