/- Parts of the proof, joined from several texts. No condition. -/
import Derived.Test.YtjbhiglaginpeaaGreatQ25
import Derived.Test.YtjbhiglaginpeaaGreatQ23
import Derived.Test.YtjbhiglaginpeaaGreatQ21
import Derived.Test.YtjbhiglaginpeaaGreatQ6
set_option maxRecDepth 100000
set_option maxHeartbeats 16000000
set_option linter.unusedVariables false
set_option linter.unusedSimpArgs false
namespace Go.Proofs.YtjbhiglaginpeaaGreat
open Go.RowKit
theorem fm_cut {bs : List UInt8} {nt : Nat} {e : List (Nat × AV)} {h : List (Nat × Ob)} {q : Nat} {k a b c : Int} {x4 x5 y0 y1 y2 y3 y4 y5 : AV} {d : Bs} {rs : List Rg} (h3 : look h 3 = some (.blk [.d (dI k), .d (dI a), .d (dI b), .d (dI c), x4, x5])) (hq : look h 100089 = some (.blk [.d (dL 1 eBy bs), aI q])) (h2 : look h 2 = some (.blk [y0, y1, y2, y3, y4, y5])) (e0 : look e 0 = some (.ptr 100089 0)) (e2 : look e 2 = some (.ptr 2 0)) (e3 : look e 3 = some (.ptr 3 0)) (h4 : x4 = .d (dS d)) (h5 : (x5 = .emp ∧ rs = []) ∨ x5 = .d (dL 2 eRg rs)) :
 Imp ⟨⟨nt, [100089]⟩, e, h⟩ ⟨⟨nt, [100089]⟩, [(0, .ptr 100089 0), (2, .ptr 2 0), (3, .ptr 3 0)], [(100089, .blk [.d (dL 1 eBy bs), aI q]), (2, .blk [.un, .un, .un, .un, .un, .un]), (3, .blk (av (eFm ⟨k, a, b, c, d, rs⟩)))]⟩ := by
 have key : ∀ {H1 : List (Nat × Ob)} {σ : Nat → Option Nat}, LeV h H1 σ x5 (.d (dL 2 eRg rs)) := by
  intro H1 σ
  rcases h5 with ⟨rfl, rfl⟩ | rfl
  ·exact LeV.empd
  ·exact LeV.dd
 subst h4
 exact Imp.mk2 (look [(100089, 100089), (2, 2), (3, 3)]) (LeE.cons e0 (LeV.ptr rfl) (LeE.cons e2 (LeV.ptr rfl) (LeE.cons e3 (LeV.ptr rfl) LeE.nil))) (LeH.blk rfl hq (LeVs.cons LeV.dd (LeVs.cons LeV.dd LeVs.nil)) (LeH.blk rfl h2 (LeVs.cons LeV.un (LeVs.cons LeV.un (LeVs.cons LeV.un (LeVs.cons LeV.un (LeVs.cons LeV.un (LeVs.cons LeV.un LeVs.nil)))))) (LeH.blk rfl h3 (LeVs.cons LeV.dd (LeVs.cons LeV.dd (LeVs.cons LeV.dd (LeVs.cons LeV.dd (LeVs.cons LeV.dd (LeVs.cons key LeVs.nil)))))) LeH.nil))) rfl
theorem vlFrame (bs : List UInt8) (q : Nat) (hq : q ≤ 700000) (hb : bs.length ≤ 2000) : FnE Tryz.prog 75 [100089] [.ptr 100089 0] (rdB bs q) (fun (f : Fm) q' => ((f.data.length ≤ 24 ∧ f.ranges.length ≤ 30) ∧ RgBd f.ranges) ∧ q' ≤ q + 150) (fun f _ => .ag (av (eFm f))) (fun _ q' => rdB bs q') := by
 have hP := fun q n hq => vlPick bs q n hq hb
 have hS := fun q hq => vlSet bs q hq hb
 have hD := fun q hq => vlData bs q hq hb
 have hR := fun q hq => vlRanges bs q hq hb
 obtain ⟨q0, hq0⟩ : ∃ q0, q0 = q := ⟨q, rfl⟩
 unfold rdB at hP hS hD hR ⊢
 refine fE Tryz.func75 Tryz.ntmps75 Tryz.results75 ?_
 repeat' (first
  | (refine WC.cut (c1 := .seq (.region 2 _ _) _) (fun s => ∃ (f : Fm) (q : Nat), ((f.data.length ≤ 24 ∧ f.ranges.length ≤ 30) ∧ RgBd f.ranges) ∧ q ≤ q0 + 40 ∧ Imp s ⟨⟨116, [100089]⟩, [(0, .ptr 100089 0), (2, .ptr 2 0), (3, .ptr 3 0)], [(100089, .blk [.d (dL 1 eBy bs), aI q]), (2, .blk [.un, .un, .un, .un, .un, .un]), (3, .blk (av (eFm f)))]⟩) ?_ ?_)
  | refine stp ?_
  | (apply K.g0; apply K.callF; first | refine ceq (F := hS q (by omega)) (G := fun L q hs => ?_) | refine ceq (F := hD q (by omega)) (G := fun D q hd => ?_) | refine ceq (F := hP q _ (by omega) (by omega) (by omega)) (G := fun v q hv => ?_))
  | (refine WC.cond rfl ?_ ?_ <;> intro hb <;> (try have hb' := nrm hb) <;> try (exfalso; omega)))
 all_goals first
  | (exact cutQ.n ⟨⟨_, _, _, _, [], []⟩, q, ⟨⟨by simp, by simp⟩, fun r h => (by cases h)⟩, by omega, fm_cut rfl rfl rfl rfl rfl rfl rfl (.inl ⟨rfl, rfl⟩)⟩; done)
  | (exact cutQ.n ⟨⟨_, _, _, _, D, []⟩, q, ⟨⟨by have := hd.1; (dsimp only; omega), by simp⟩, fun r h => (by cases h)⟩, by omega, fm_cut rfl rfl rfl rfl rfl rfl rfl (.inl ⟨rfl, rfl⟩)⟩; done)
  | (exact cutQ.n ⟨⟨_, _, _, _, [], L⟩, q, ⟨⟨by simp, by have := hs.1.1; (dsimp only; omega)⟩, rgOk_bd hs.1.2 (Int.le_refl _)⟩, by omega, fm_cut rfl rfl rfl rfl rfl rfl rfl (.inr rfl)⟩; done)
  | skip
 rintro s' ⟨f, q, ⟨⟨f1, f2⟩, f3⟩, hq2, hI⟩
 refine WC.imp hI ?_
 obtain ⟨fk, fa, fb, fc, fd, fr⟩ := f
 dsimp only at f1 f2 f3
 clear hI
 repeat' (first
  | refine stp ?_
  | (apply K.g0; apply K.callF; first | refine ceq (F := hD q (by omega)) (G := fun D q hd => ?_) | refine ceq (F := hR q (by omega)) (G := fun L q hs => ?_) | refine ceq (F := hP q _ (by omega) (by omega) (by omega)) (G := fun v q hv => ?_))
  | (refine WC.cond rfl ?_ ?_ <;> intro hb <;> (try have hb' := nrm hb) <;> try (exfalso; omega)))
 ·exact retE.r ⟨⟨fk, v - 3, fb, fc, fd, fr⟩, q, ⟨⟨⟨f1, f2⟩, f3⟩, by omega⟩, rehw1 (look [(100089, 100089)])⟩
 ·exact retE.r ⟨⟨fk, fa, v - 3, fc, fd, fr⟩, q, ⟨⟨⟨f1, f2⟩, f3⟩, by omega⟩, rehw1 (look [(100089, 100089)])⟩
 ·exact retE.r ⟨⟨fk, fa, fb, v - 1, fd, fr⟩, q, ⟨⟨⟨f1, f2⟩, f3⟩, by omega⟩, rehw1 (look [(100089, 100089)])⟩
 ·rename_i D1 q1 hd1
  have e1 := hd1.1
  have e2 := hd.1
  exact retE.r ⟨⟨fk, fa, fb, fc, D1 ++ D, fr⟩, q, ⟨⟨⟨by simp only [List.length_append]; omega, f2⟩, f3⟩, by omega⟩, rehw1 (look [(100089, 100089)])⟩
 ·exact retE.r ⟨⟨fk, fa, fb, fc, fd, L⟩, q, ⟨⟨⟨f1, hs.1.1⟩, hs.1.2⟩, by omega⟩, rehw1 (look [(100089, 100089)])⟩
 ·exact retE.r ⟨⟨v, fa, fb, fc, fd, fr⟩, q, ⟨⟨⟨f1, f2⟩, f3⟩, by omega⟩, rehw1 (look [(100089, 100089)])⟩
 ·exact retE.r ⟨⟨fk, fa, fb, fc, fd, fr⟩, q, ⟨⟨⟨f1, f2⟩, f3⟩, by omega⟩, rehw1 (look [(100089, 100089)])⟩
theorem vmHasWindow (l : List Wn) (i : Nat) (hv : wnsValid l = true) (hi : i < l.length) : FnP Tryz.prog 182 [.d (dL 4 eWn l), aI i] (aB true) := by
 obtain ⟨b1, b2⟩ := wns_bd hv
 have h1 := vmWindowsValid l (by omega)
 rw [hv] at h1
 have h2 := vmWithin (i : Int) 0 ((l.length : Int) - 1)
 rw [inB_iff.2 (by omega)] at h2
 refine fP Tryz.func182 Tryz.ntmps182 Tryz.results182 ?_
 repeat' (first
  | refine stp ?_
  | (apply K.g0; apply K.callF; refine cq (F := h1) (G := ?_))
  | (apply K.g1; apply K.callF; refine cqt (F := h2) (G := ?_))
  | fail)
 (exact ret1)
theorem vmWindowIncrease (l : List Wn) (i : Nat) (hv : wnsValid l = true) (hi : i < l.length) : FnP Tryz.prog 198 [.d (dL 4 eWn l), aI i] (aI (wnInc l i)) := by
 obtain ⟨b1, b2⟩ := wns_bd hv
 have b3 := b2 _ (getD_mem' hi)
 refine fP Tryz.func198 Tryz.ntmps198 Tryz.results198 ?_
 repeat' (first
  | refine stp ?_
  | (apply K.g0; apply K.callF; refine cq (F := vmHasWindow l i hv hi) (G := ?_))
  | fail)
 refine WC.loop (fun k s => ∃ j, k + j = l.length ∧ s = ⟨⟨52, []⟩, [(0, .d (dL 4 eWn l)), (1, aI i), (5, aI (wnBest (l.take j))), (6, aI (wnSum (l.take j))), (13, .d (dL 4 eWn l)), (14, aI l.length), (15, aI j)], []⟩) l.length ⟨0, rfl, rfl⟩ (imp (look [])) ?_
 rintro k s ⟨j, hk, rfl⟩
 have hS : j < l.length → wnBest (l.take (j + 1)) = max (wnBest (l.take j)) ((l.getD j default).size * 100000000 / ((l.getD j default).rtt * (l.getD j default).rtt)) ∧ wnSum (l.take (j + 1)) = wnSum (l.take j) + (l.getD j default).size * 10000 / (l.getD j default).rtt := fun h => by
  rw [take_snoc h]; simp [wnBest, wnSum]
 have hb := wnBest_bd b2 j
 have hq : j < l.length → _ := fun h => wn_q (b2 _ (getD_mem' h)).1 (b2 _ (getD_mem' h)).2.2.2
 have hj : j < l.length → (1 ≤ (l.getD j default).size ∧ (l.getD j default).size ≤ 64) ∧ (1 ≤ (l.getD j default).rtt ∧ (l.getD j default).rtt ≤ 99) := fun h => ⟨(b2 _ (getD_mem' h)).1, (b2 _ (getD_mem' h)).2.2.2⟩
 have hln : (l.take j).length ≤ 4 := by rw [List.length_take]; omega
 have hl1 : ¬ j < l.length → 1 ≤ (l.take j).length := fun h => by rw [List.length_take]; omega
 have hss : 0 ≤ wnSum (l.take j) * wnSum (l.take j) ∧ wnSum (l.take j) * wnSum (l.take j) ≤ 6553600000000 := by
  constructor
  ·exact Int.mul_nonneg (by omega) (by omega)
  ·exact Int.le_trans (Int.mul_le_mul (show wnSum (l.take j) ≤ 2560000 by omega) (show wnSum (l.take j) ≤ 2560000 by omega) (by omega) (by omega)) (by omega)
 have hs1 : ¬ j < l.length → 1 ≤ wnSum (l.take j) * wnSum (l.take j) := fun h => by
  have h1 := hl1 h
  exact Int.le_trans (by omega) (Int.mul_le_mul (show 1 ≤ wnSum (l.take j) by omega) (show 1 ≤ wnSum (l.take j) by omega) (by omega) (by omega))
 have hqq : ¬ j < l.length → 0 ≤ 1000 * wnBest (l.take j) / (wnSum (l.take j) * wnSum (l.take j)) ∧ 1000 * wnBest (l.take j) / (wnSum (l.take j) * wnSum (l.take j)) ≤ 1000 * wnBest (l.take j) := fun h => ⟨Int.ediv_nonneg (by omega) (by omega), Int.ediv_le_self _ (by omega)⟩
 have hq2 : 0 ≤ 1000 / (l.getD i default).size ∧ 1000 / (l.getD i default).size ≤ 1000 := ⟨Int.ediv_nonneg (by omega) (by omega), Int.ediv_le_self _ (by omega)⟩
 repeat' (first
  | refine stp ?_
  | (refine WC.cond rfl ?_ ?_ <;> intro hb <;> (try have hb' := nrm hb) <;> try (exfalso; omega))
  | (apply K.rg 10; refine wdr [0, 1, 0, 0, 12, 31, 0, 0, 192, 448, 960, 1984, 4095, 8191] 12 [39, 40, 41, 42, 43, 44, 45, 46, 47, 48, 49, 50] [] ?_)
  | refine dcl ?_)
 all_goals first
  | (refine loopQ.n (k - 1) _ (by omega) ⟨j + 1, by omega, rfl⟩ ?_
     rw [(hS (by omega)).1, (hS (by omega)).2]
     exact imp (look []))
  | (obtain rfl : j = l.length := (by omega)
     rw [List.take_of_length_le (Nat.le_refl _)]
     rw [show wnInc l i = min (1000 * wnBest l / (wnSum l * wnSum l)) (1000 / (l.getD i default).size) from rfl]
     (exact ret1))
theorem vmWindowAck (l : List Wn) (i : Nat) (hv : wnsValid l = true) (hi : i < l.length) : FnP Tryz.prog 179 [.d (dL 4 eWn l), aI i] (.tu [.d (dL 4 eWn (wnAck l i)), aB true]) := by
 obtain ⟨b1, b2⟩ := wns_bd hv
 have b3 := b2 _ (getD_mem' hi)
 have b4 := wnInc_bd2 hi b2
 refine fP Tryz.func179 Tryz.ntmps179 Tryz.results179 ?_
 repeat' (first
  | (apply K.g0; apply K.store; refine R.stEdS rfl rfl rfl rfl rfl rfl (by omega) rfl rfl rfl rfl ?_)
  | (apply K.g0; apply K.load; refine R.op rfl (OT.load1ES rfl rfl rfl rfl (by omega) rfl) rfl ?_)
  | refine stp ?_
  | (apply K.g0; apply K.callF; first | refine cq (F := vmHasWindow l i hv hi) (G := ?_) | refine cn (F := vmCloneWindows l (by omega)) (G := ?_))
  | (apply KA.g0; apply KA.callF; refine cqa (F := vmWindowIncrease l i hv hi) (G := ?_))
  | (refine WC.cond rfl ?_ ?_ <;> intro hb <;> (try have hb' := nrm hb) <;> try (exfalso; omega))
  | (apply K.rg 5; refine wdr [0, 1, 3, 7, 0, 16, 48, 112, 255] 8 [17, 18, 19, 20, 21, 22, 23, 24] [] ?_)
  | (apply K.rg 8; refine wdr [0, 1, 3, 7, 0, 0, 48, 127, 255, 511, 1023] 7 [34, 35, 36, 37, 38, 39, 40] [] ?_)
  | refine dcl ?_)
 all_goals first
  | (rw [show wnAck l i = l.set i { l.getD i default with size := (l.getD i default).size + 1 } from if_pos (by omega)]; (exact ret2))
  | (rw [show wnAck l i = l.set i { l.getD i default with credit := (l.getD i default).credit + wnInc l i - 1000, size := min ((l.getD i default).size + 1) 64 } from (if_neg (by omega)).trans (if_pos (by omega))]; (exact ret2))
  | (rw [show wnAck l i = l.set i { l.getD i default with credit := (l.getD i default).credit + wnInc l i } from (if_neg (by omega)).trans (if_neg (by omega))]; (exact ret2))
theorem vmWindowLoss (l : List Wn) (i : Nat) (hv : wnsValid l = true) (hi : i < l.length) : FnP Tryz.prog 142 [.d (dL 4 eWn l), aI i] (.tu [.d (dL 4 eWn (wnLoss l i)), aB true]) := by
 obtain ⟨b1, b2⟩ := wns_bd hv
 have b3 := b2 _ (getD_mem' hi)
 refine fP Tryz.func142 Tryz.ntmps142 Tryz.results142 ?_
 repeat' (first
  | (apply K.g0; apply K.store; refine R.stEdS rfl rfl rfl rfl rfl rfl (by omega) rfl rfl rfl rfl ?_)
  | refine stp ?_
  | (apply K.g0; apply K.callF; first | refine cq (F := vmHasWindow l i hv hi) (G := ?_) | refine cn (F := vmCloneWindows l (by omega)) (G := ?_))
  | fail)
 rw [show wnLoss l i = l.set i ⟨max 1 ((l.getD i default).size / 2), max 1 ((l.getD i default).size / 2), 0, (l.getD i default).rtt⟩ from rfl]
 (exact ret2)
theorem vmRttUpdate (r : Rt) (x : Int) (h : rtValid r = true) (hx : 1 ≤ x ∧ x ≤ 999) : FnP Tryz.prog 180 [.ag (av (eRt r)), aI x, aI 0] (.tu [.ag (av (eRt (rtUpd r x))), aB true]) := by
 have hb := rt_bd h
 have hV := vmRttValid r
 rw [h] at hV
 have hX := vmWithin x 1 999
 rw [inB_iff.2 hx] at hX
 have hZ := vmWithin 0 0 999
 rw [show inB 0 0 999 = true from rfl] at hZ
 refine fP Tryz.func180 Tryz.ntmps180 Tryz.results180 ?_
 repeat' (first
  | (apply K.g0; apply K.binOp; refine R.op rfl (OT.cmpG rfl rfl rfl rfl rfl (eq_rt r rtZero)) rfl ?_)
  | refine stp ?_
  | (apply K.g0; apply K.callF; refine cq (F := hV) (G := ?_))
  | (apply K.g1; apply K.callF; first | refine cqt (F := hX) (G := ?_) | refine cqt (F := hZ) (G := ?_))
  | (refine WC.cond rfl ?_ ?_ <;> intro hb <;> (try have hb' := nrm hb) <;> try (exfalso; omega)))
 ·obtain rfl : r = rtZero := by assumption
  rw [show rtUpd rtZero x = ⟨x, x, 8 * x, 2 * x⟩ from if_pos rfl]; (exact ret2)
 all_goals
  rw [show rtUpd r x = ⟨x, min r.least x, r.smooth + (x - r.smooth / 8), r.vary + (max (r.smooth / 8 - x) (-(r.smooth / 8 - x)) - r.vary / 4)⟩ from if_neg (by assumption)]
  (exact ret2)
theorem vmRttLossDelay (r : Rt) (h : rtValid r = true) : FnP Tryz.prog 176 [.ag (av (eRt r))] (aI (rtDelay r)) := by
 have hb := rt_bd h
 have hV := vmRttValid r
 rw [h] at hV
 refine fP Tryz.func176 Tryz.ntmps176 Tryz.results176 ?_
 repeat' (first
  | (apply K.g0; apply K.binOp; refine R.op rfl (OT.cmpGn rfl rfl rfl rfl rfl (congrArg (fun b => !b) (eq_rt r rtZero))) rfl ?_)
  | refine stp ?_
  | (apply K.g0; apply K.callF; refine cq (F := hV) (G := ?_))
  | (refine WC.cond rfl ?_ ?_ <;> intro hb <;> (try have hb' := nrm hb) <;> try (exfalso; omega)))
 all_goals first
  | (have hn : ¬ r = rtZero := by simpa using ‹(!decide (r = rtZero)) = true›
     rw [show rtDelay r = max (r.smooth / 8) r.latest + max (r.smooth / 8) r.latest / 8 from by unfold rtDelay; rw [if_neg hn]]; (exact ret1))
  | (have hn : r = rtZero := by simpa using ‹(!decide (r = rtZero)) = false›
     rw [show rtDelay r = 112 from by unfold rtDelay; rw [if_pos hn]; rfl]; (exact ret1))
end Go.Proofs.YtjbhiglaginpeaaGreat
