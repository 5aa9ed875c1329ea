/- Parts of the proof, joined from several texts. No condition. -/
import Derived.Test.YtjbhiglaginpeaaGreatQ32
import Derived.Test.YtjbhiglaginpeaaGreatQ10
set_option maxRecDepth 100000
set_option maxHeartbeats 16000000
set_option linter.unusedVariables false
set_option linter.unusedSimpArgs false
namespace Go.Proofs.YtjbhiglaginpeaaGreat
open Go.RowKit
theorem vlSameRanges (l : List Rg) (h : l.length ≤ 10000000) : FnP Tryz.prog 34 [.d (dL 2 eRg l), .d (dL 2 eRg l)] (aB true) := by
 refine fP Tryz.func34 Tryz.ntmps34 Tryz.results34 ?_
 repeat' (first
  | refine stp ?_
  | (refine WC.cond rfl ?_ ?_ <;> intro hb <;> (try have hb' := nrm hb) <;> try (exfalso; omega)))
 all_goals try (exfalso; exact hb' trivial)
 refine WC.loop (fun k s => ∃ i : Nat, k + i = l.length ∧ s = ⟨⟨26, []⟩, [(0, .d (dL 2 eRg l)), (1, .d (dL 2 eRg l)), (5, aI (i : Nat))], []⟩) l.length ⟨0, rfl, rfl⟩ (imp (look [])) ?_
 rintro k s ⟨i, hk, rfl⟩
 repeat' (first
  | (apply K.g0; apply K.binOp; refine R.op rfl (OT.cmpGn rfl rfl rfl rfl rfl (congrArg (fun b => !b) (eqB_self _))) rfl ?_)
  | refine stp ?_
  | (refine WC.cond rfl ?_ ?_ <;> intro hb <;> (try have hb' := nrm hb) <;> try (exfalso; omega))
  | (apply K.rg 6; refine wdr [0, 0, 3, 7, 0, 0, 48, 112, 255] 8 [17, 18, 19, 20, 21, 22, 23, 24] [] ?_)
  | refine dcl ?_)
 all_goals try (exfalso; exact hb' trivial)
 ·exact loopQ.n (k - 1) _ (by omega) ⟨i + 1, by omega, rfl⟩ (imp (look []))
 ·(exact ret1)
theorem vlSameWindows (l : List Wn) (h : l.length ≤ 10000000) : FnP Tryz.prog 30 [.d (dL 4 eWn l), .d (dL 4 eWn l)] (aB true) := by
 refine fP Tryz.func30 Tryz.ntmps30 Tryz.results30 ?_
 repeat' (first
  | refine stp ?_
  | (refine WC.cond rfl ?_ ?_ <;> intro hb <;> (try have hb' := nrm hb) <;> try (exfalso; omega)))
 all_goals try (exfalso; exact hb' trivial)
 refine WC.loop (fun k s => ∃ i : Nat, k + i = l.length ∧ s = ⟨⟨26, []⟩, [(0, .d (dL 4 eWn l)), (1, .d (dL 4 eWn l)), (5, aI (i : Nat))], []⟩) l.length ⟨0, rfl, rfl⟩ (imp (look [])) ?_
 rintro k s ⟨i, hk, rfl⟩
 repeat' (first
  | (apply K.g0; apply K.binOp; refine R.op rfl (OT.cmpGn rfl rfl rfl rfl rfl (congrArg (fun b => !b) (eqB_self _))) rfl ?_)
  | refine stp ?_
  | (refine WC.cond rfl ?_ ?_ <;> intro hb <;> (try have hb' := nrm hb) <;> try (exfalso; omega))
  | (apply K.rg 6; refine wdr [0, 0, 3, 7, 0, 0, 48, 112, 255] 8 [17, 18, 19, 20, 21, 22, 23, 24] [] ?_)
  | refine dcl ?_)
 all_goals try (exfalso; exact hb' trivial)
 ·exact loopQ.n (k - 1) _ (by omega) ⟨i + 1, by omega, rfl⟩ (imp (look []))
 ·(exact ret1)
theorem vlSameLoss (x : Ls) (h : x.flight.length ≤ 10000000) : FnP Tryz.prog 33 [.ag (av (eLs x)), .ag (av (eLs x))] (aB true) := by
 refine fP Tryz.func33 Tryz.ntmps33 Tryz.results33 ?_
 repeat' (first
  | refine stp ?_
  | (refine R.gS rfl rfl rfl ?_ ?_ <;> intro hb <;> (try have hb' := nrm hb) <;> try (exfalso; omega))
  | (refine WC.cond rfl ?_ ?_ <;> intro hb <;> (try have hb' := nrm hb) <;> try (exfalso; omega)))
 all_goals try (exfalso; exact hb' trivial)
 refine WC.loop (fun k s => ∃ i : Nat, k + i = x.flight.length ∧ s = ⟨⟨45, []⟩, [(2, .ptr 2 0), (3, .ptr 3 0), (5, aI (i : Nat))], [(2, .blk (av (eLs x))), (3, .blk (av (eLs x)))]⟩) x.flight.length ⟨0, rfl, rfl⟩ (imp (look [(2, 2), (3, 3)])) ?_
 rintro k s ⟨i, hk, rfl⟩
 repeat' (first
  | (apply K.g0; apply K.binOp; refine R.op rfl (OT.cmpGn rfl rfl rfl rfl rfl (congrArg (fun b => !b) (eqB_self _))) rfl ?_)
  | refine stp ?_
  | (refine WC.cond rfl ?_ ?_ <;> intro hb <;> (try have hb' := nrm hb) <;> try (exfalso; omega))
  | (apply K.rg 6; refine wdr [0, 1, 0, 7, 15, 0, 32, 0, 224, 480, 1023] 10 [34, 35, 36, 37, 38, 39, 40, 41, 42, 43] [] ?_)
  | refine dcl ?_)
 all_goals try (exfalso; exact hb' trivial)
 ·exact loopQ.n (k - 1) _ (by omega) ⟨i + 1, by omega, rfl⟩ (imp (look [(2, 2), (3, 3)]))
 ·(exact ret1)
theorem vlSameRecv (x : Rv) (h : x.pieces.length ≤ 10000000) : FnP Tryz.prog 32 [.ag (av (eRv x)), .ag (av (eRv x))] (aB true) := by
 refine fP Tryz.func32 Tryz.ntmps32 Tryz.results32 ?_
 repeat' (first
  | refine stp ?_
  | (refine R.gS rfl rfl rfl ?_ ?_ <;> intro hb <;> (try have hb' := nrm hb) <;> try (exfalso; omega))
  | (refine WC.cond rfl ?_ ?_ <;> intro hb <;> (try have hb' := nrm hb) <;> try (exfalso; omega)))
 all_goals try (exfalso; exact hb' trivial)
 refine WC.loop (fun k s => ∃ i : Nat, k + i = x.pieces.length ∧ s = ⟨⟨52, []⟩, [(2, .ptr 2 0), (3, .ptr 3 0), (5, aI (i : Nat))], [(2, .blk (av (eRv x))), (3, .blk (av (eRv x)))]⟩) x.pieces.length ⟨0, rfl, rfl⟩ (imp (look [(2, 2), (3, 3)])) ?_
 rintro k s ⟨i, hk, rfl⟩
 repeat' (first
  | (apply K.g0; apply K.binOp; refine R.op rfl (OT.cmpGn rfl rfl rfl rfl rfl (congrArg (fun b => !b) (eqB_self _))) rfl ?_)
  | refine stp ?_
  | (refine WC.cond rfl ?_ ?_ <;> intro hb <;> (try have hb' := nrm hb) <;> try (exfalso; omega))
  | (apply K.rg 6; refine wdr [0, 1, 0, 7, 15, 0, 32, 0, 224, 480, 1023] 10 [41, 42, 43, 44, 45, 46, 47, 48, 49, 50] [] ?_)
  | refine dcl ?_)
 all_goals try (exfalso; exact hb' trivial)
 ·exact loopQ.n (k - 1) _ (by omega) ⟨i + 1, by omega, rfl⟩ (imp (look [(2, 2), (3, 3)]))
 ·(exact ret1)
theorem vlSameSend (x : Sd) (h1 : x.acked.length ≤ 10000000) (h2 : x.lost.length ≤ 10000000) : FnP Tryz.prog 31 [.ag (av (eSd x)), .ag (av (eSd x))] (aB true) := by
 refine fP Tryz.func31 Tryz.ntmps31 Tryz.results31 ?_
 repeat' (first
  | refine stp ?_
  | (apply K.g1; apply K.callF; first | refine cqt (F := vlSameRanges x.acked h1) (G := ?_) | refine cqt (F := vlSameRanges x.lost h2) (G := ?_))
  | (refine R.gS rfl rfl rfl ?_ ?_ <;> intro hb <;> (try have hb' := nrm hb) <;> try (exfalso; omega))
  | fail)
 all_goals try (exfalso; exact hb' trivial)
 (exact ret1)
theorem vlSameFrame (f : Fm) (h1 : f.ranges.length ≤ 10000000) : FnP Tryz.prog 67 [.ag (av (eFm f)), .ag (av (eFm f))] (aB true) := by
 refine fP Tryz.func67 Tryz.ntmps67 Tryz.results67 ?_
 repeat' (first
  | refine stp ?_
  | (apply K.g1; apply K.callF; refine cqt (F := vlSameRanges f.ranges h1) (G := ?_))
  | (refine R.gS rfl rfl rfl ?_ ?_ <;> intro hb <;> (try have hb' := nrm hb) <;> try (exfalso; omega))
  | fail)
 all_goals try (exfalso; exact hb' trivial)
 (exact ret1)
theorem vlSameNet (l : List Wi) (h : l.length ≤ 10000000) (hf : ∀ x ∈ l, x.frame.ranges.length ≤ 10000000) : FnP Tryz.prog 35 [.d (dL 9 eWi l), .d (dL 9 eWi l)] (aB true) := by
 refine fP Tryz.func35 Tryz.ntmps35 Tryz.results35 ?_
 repeat' (first
  | refine stp ?_
  | (refine WC.cond rfl ?_ ?_ <;> intro hb <;> (try have hb' := nrm hb) <;> try (exfalso; omega)))
 all_goals try (exfalso; exact hb' trivial)
 refine WC.loop (fun k s => ∃ i : Nat, k + i = l.length ∧ s = ⟨⟨68, []⟩, [(0, .d (dL 9 eWi l)), (1, .d (dL 9 eWi l)), (5, aI (i : Nat))], []⟩) l.length ⟨0, rfl, rfl⟩ (imp (look [])) ?_
 rintro k s ⟨i, hk, rfl⟩
 have hF := fun hi : i < l.length => vlSameFrame (l.getD i default).frame (hf _ (getD_mem' hi))
 repeat' (first
  | refine stp ?_
  | (apply K.g1; apply K.callF; refine cqt (F := hF (by omega)) (G := ?_))
  | (refine DR.gS rfl rfl rfl ?_ ?_ <;> intro hb <;> (try have hb' := nrm hb) <;> try (exfalso; omega))
  | (refine WC.cond rfl ?_ ?_ <;> intro hb <;> (try have hb' := nrm hb) <;> try (exfalso; omega))
  | (apply K.rg 6; refine wdr [0, 0, 3, 7, 15, 0, 0, 96, 224, 480, 1023, 2047, 4095, 4095, 16383, 32767, 65535, 4095, 4095, 397311, 921599, 1970175, 4194303, 8388607, 16777215, 33554431, 33554431, 134217727, 268435455, 536870911, 33554431, 33554431, 3254779903, 7549747199, 16139681791, 34359738367, 68719476735, 137438953471, 274877906943, 274877906943, 1099511627775, 2199023255551, 4398046511103, 274877906943, 274877906943, 26663156973567, 61847529062399, 132216273240063, 281474976710655, 562949953421311, 1125899906842623] 48 [17, 18, 19, 20, 21, 22, 23, 24, 25, 26, 27, 28, 29, 30, 31, 32, 33, 34, 35, 36, 37, 38, 39, 40, 41, 42, 43, 44, 45, 46, 47, 48, 49, 50, 51, 52, 53, 54, 55, 56, 57, 58, 59, 60, 61, 62, 63, 64] [] ?_)
  | refine dcl ?_)
 all_goals try (exfalso; exact hb' trivial)
 ·exact loopQ.n (k - 1) _ (by omega) ⟨i + 1, by omega, rfl⟩ (imp (look []))
 ·(exact ret1)
end Go.Proofs.YtjbhiglaginpeaaGreat
