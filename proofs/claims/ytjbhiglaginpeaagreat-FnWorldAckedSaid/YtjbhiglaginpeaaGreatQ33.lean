/- Parts of the proof, joined from several texts. No condition. -/
import Derived.Test.YtjbhiglaginpeaaGreatQ30
import Derived.Test.YtjbhiglaginpeaaGreatQ18
import Derived.Test.YtjbhiglaginpeaaGreatQ19
set_option maxRecDepth 100000
set_option maxHeartbeats 16000000
set_option linter.unusedVariables false
set_option linter.unusedSimpArgs false
namespace Go.Proofs.YtjbhiglaginpeaaGreat
open Go.RowKit
theorem vlGood (bs : List UInt8) (q : Nat) (hq : q ≤ 700000) (hb : bs.length ≤ 2000) : FnE Tryz.prog 77 [100089] [.ptr 100089 0] (rdB bs q) (fun (f : Fm) q' => ((f.data.length ≤ 24 ∧ f.ranges.length ≤ 30) ∧ RgBd f.ranges) ∧ q' ≤ q + 150) (fun f _ => .ag (av (eFm f))) (fun _ q' => rdB bs q') := by
 have hF := fun q hq => vlFrame bs q hq hb
 unfold rdB at hF ⊢
 have hV := fun f h1 h2 => vlFrameValid f h1 h2
 refine fE Tryz.func77 Tryz.ntmps77 Tryz.results77 ?_
 repeat' (first
  | refine stp ?_
  | (apply K.g0; apply K.callF; first | refine ceq (F := hF q (by omega)) (G := fun f q hs => ?_) | refine cq (F := hV f (by omega) (by omega)) (G := ?_))
  | (refine WC.cond rfl ?_ ?_ <;> intro hb <;> (try have hb' := nrm hb) <;> try (exfalso; omega)))
 ·exact retE.r ⟨⟨1, 0, 0, 0, [], []⟩, q, ⟨⟨⟨by simp, by simp⟩, fun r h => (by cases h)⟩, hs.2⟩, rehw1 (look [(100089, 100089)])⟩
 ·exact retE.r ⟨f, q, hs, rehw1 (look [(100089, 100089)])⟩
theorem ev_cut {bs : List UInt8} {nt : Nat} {e : List (Nat × AV)} {h : List (Nat × Ob)} {q : Nat} {k a b c fk fa fb fc : Int} {x4 x9 x10 : AV} {ys : List AV} {d fd : Bs} {rs : List Rg} (h3 : look h 3 = some (.blk [.d (dI k), .d (dI a), .d (dI b), .d (dI c), x4, .d (dI fk), .d (dI fa), .d (dI fb), .d (dI fc), x9, x10])) (hq : look h 100089 = some (.blk [.d (dL 1 eBy bs), aI q])) (h2 : look h 2 = some (.blk ys)) (hy : ∀ {H1 : List (Nat × Ob)} {σ : Nat → Option Nat}, LeVs h H1 σ ys [.un, .un, .un, .un, .un, .un, .un, .un, .un, .un, .un]) (e0 : look e 0 = some (.ptr 100089 0)) (e2 : look e 2 = some (.ptr 2 0)) (e3 : look e 3 = some (.ptr 3 0)) (h4 : x4 = .d (dS d)) (h9 : x9 = .d (dS fd)) (h10 : (x10 = .emp ∧ rs = []) ∨ x10 = .d (dL 2 eRg rs)) :
 Imp ⟨⟨nt, [100089]⟩, e, h⟩ ⟨⟨nt, [100089]⟩, [(0, .ptr 100089 0), (2, .ptr 2 0), (3, .ptr 3 0)], [(100089, .blk [.d (dL 1 eBy bs), aI q]), (2, .blk [.un, .un, .un, .un, .un, .un, .un, .un, .un, .un, .un]), (3, .blk (av (eEv ⟨k, a, b, c, d, ⟨fk, fa, fb, fc, fd, rs⟩⟩)))]⟩ := by
 have key : ∀ {H1 : List (Nat × Ob)} {σ : Nat → Option Nat}, LeV h H1 σ x10 (.d (dL 2 eRg rs)) := by
  intro H1 σ
  rcases h10 with ⟨rfl, rfl⟩ | rfl
  ·exact LeV.empd
  ·exact LeV.dd
 subst h4 h9
 exact Imp.mk2 (look [(100089, 100089), (2, 2), (3, 3)]) (LeE.cons e0 (LeV.ptr rfl) (LeE.cons e2 (LeV.ptr rfl) (LeE.cons e3 (LeV.ptr rfl) LeE.nil))) (LeH.blk rfl hq (LeVs.cons LeV.dd (LeVs.cons LeV.dd LeVs.nil)) (LeH.blk rfl h2 hy (LeH.blk rfl h3 (LeVs.cons LeV.dd (LeVs.cons LeV.dd (LeVs.cons LeV.dd (LeVs.cons LeV.dd (LeVs.cons LeV.dd (LeVs.cons LeV.dd (LeVs.cons LeV.dd (LeVs.cons LeV.dd (LeVs.cons LeV.dd (LeVs.cons LeV.dd (LeVs.cons key LeVs.nil))))))))))) LeH.nil))) rfl
structure EvS (e : Ev) : Prop where
 d : e.data.length ≤ 24
 fd : e.frame.data.length ≤ 24
 fr : e.frame.ranges.length ≤ 30
 fb : RgBd e.frame.ranges
theorem vlEvent (bs : List UInt8) (q : Nat) (hq : q ≤ 600000) (hb : bs.length ≤ 2000) : FnE Tryz.prog 41 [100089] [.ptr 100089 0] (rdB bs q) (fun (e : Ev) q' => EvS e ∧ q' ≤ q + 400) (fun e _ => .ag (av (eEv e))) (fun _ q' => rdB bs q') := by
 have hP := fun q n hq => vlPick bs q n hq hb
 have hD := fun q hq => vlData bs q hq hb
 have hF := fun q hq => vlFrame bs q hq hb
 have hG := fun q hq => vlGood bs q hq hb
 obtain ⟨q0, hq0⟩ : ∃ q0, q0 = q := ⟨q, rfl⟩
 unfold rdB at hP hD hF hG ⊢
 refine fE Tryz.func41 Tryz.ntmps41 Tryz.results41 ?_
 repeat' (first
  | (refine WC.cut (c1 := .seq (.region 2 _ _) _) (fun s => ∃ (e : Ev) (q : Nat), EvS e ∧ q ≤ q0 + 200 ∧ Imp s ⟨⟨128, [100089]⟩, [(0, .ptr 100089 0), (2, .ptr 2 0), (3, .ptr 3 0)], [(100089, .blk [.d (dL 1 eBy bs), aI q]), (2, .blk [.un, .un, .un, .un, .un, .un, .un, .un, .un, .un, .un]), (3, .blk (av (eEv e)))]⟩) ?_ ?_)
  | refine stp ?_
  | (apply K.g0; apply K.callF; first | refine ceq (F := hD q (by omega)) (G := fun D q hd => ?_) | refine ceq (F := hG q (by omega)) (G := fun f q hs => ?_) | refine ceq (F := hP q _ (by omega) (by omega) (by omega)) (G := fun v q hv => ?_))
  | (refine WC.cond rfl ?_ ?_ <;> intro hb <;> (try have hb' := nrm hb) <;> try (exfalso; omega)))
 all_goals first
  | (exact cutQ.n ⟨⟨_, _, _, _, [], ⟨_, _, _, _, [], []⟩⟩, q, ⟨by simp, by simp, by simp, fun r h => (by cases h)⟩, by omega, ev_cut rfl rfl rfl (LeVs.cons LeV.un (LeVs.cons LeV.un (LeVs.cons LeV.un (LeVs.cons LeV.un (LeVs.cons LeV.un (LeVs.cons LeV.un (LeVs.cons LeV.un (LeVs.cons LeV.un (LeVs.cons LeV.un (LeVs.cons LeV.un (LeVs.cons LeV.un (LeVs.nil)))))))))))) rfl rfl rfl rfl rfl (.inl ⟨rfl, rfl⟩)⟩; done)
  | (exact cutQ.n ⟨⟨_, _, _, _, D, ⟨_, _, _, _, [], []⟩⟩, q, ⟨by have := hd.1; (dsimp only; omega), by simp, by simp, fun r h => (by cases h)⟩, by omega, ev_cut rfl rfl rfl (LeVs.cons LeV.un (LeVs.cons LeV.un (LeVs.cons LeV.un (LeVs.cons LeV.un (LeVs.cons LeV.un (LeVs.cons LeV.un (LeVs.cons LeV.un (LeVs.cons LeV.un (LeVs.cons LeV.un (LeVs.cons LeV.un (LeVs.cons LeV.un (LeVs.nil)))))))))))) rfl rfl rfl rfl rfl (.inl ⟨rfl, rfl⟩)⟩; done)
  | (exact cutQ.n ⟨⟨_, _, _, _, [], ⟨_, _, _, _, f.data, f.ranges⟩⟩, q, ⟨by simp, hs.1.1.1, hs.1.1.2, hs.1.2⟩, by omega, ev_cut rfl rfl rfl (LeVs.cons LeV.un (LeVs.cons LeV.un (LeVs.cons LeV.un (LeVs.cons LeV.un (LeVs.cons LeV.un (LeVs.cons LeV.un (LeVs.cons LeV.un (LeVs.cons LeV.un (LeVs.cons LeV.un (LeVs.cons LeV.un (LeVs.cons LeV.un (LeVs.nil)))))))))))) rfl rfl rfl rfl rfl (.inr rfl)⟩; done)
  | skip
 rintro s' ⟨e, q, ⟨h1, h2, h3, h4⟩, hq2, hI⟩
 refine WC.imp hI ?_
 obtain ⟨ek, ea, eb, ec, ed, ⟨fk, fa, fb, fc, fd, fr⟩⟩ := e
 dsimp only at h1 h2 h3 h4
 clear hI
 repeat' (first
  | refine stp ?_
  | (apply K.g0; apply K.callF; first | refine ceq (F := hF q (by omega)) (G := fun f q hs => ?_) | refine ceq (F := hP q _ (by omega) (by omega) (by omega)) (G := fun v q hv => ?_))
  | (refine WC.cond rfl ?_ ?_ <;> intro hb <;> (try have hb' := nrm hb) <;> try (exfalso; omega)))
 ·exact retE.r ⟨⟨v - 1, ea, eb, ec, ed, ⟨fk, fa, fb, fc, fd, fr⟩⟩, q, ⟨⟨h1, h2, h3, h4⟩, by omega⟩, rehw1 (look [(100089, 100089)])⟩
 ·exact retE.r ⟨⟨ek, v - 2, eb, ec, ed, ⟨fk, fa, fb, fc, fd, fr⟩⟩, q, ⟨⟨h1, h2, h3, h4⟩, by omega⟩, rehw1 (look [(100089, 100089)])⟩
 ·exact retE.r ⟨⟨ek, ea, v - 4, ec, ed, ⟨fk, fa, fb, fc, fd, fr⟩⟩, q, ⟨⟨h1, h2, h3, h4⟩, by omega⟩, rehw1 (look [(100089, 100089)])⟩
 ·exact retE.r ⟨⟨ek, ea, eb, v - 2, ed, ⟨fk, fa, fb, fc, fd, fr⟩⟩, q, ⟨⟨h1, h2, h3, h4⟩, by omega⟩, rehw1 (look [(100089, 100089)])⟩
 ·exact retE.r ⟨⟨ek, ea, eb, ec, ed, f⟩, q, ⟨⟨h1, hs.1.1.1, hs.1.1.2, hs.1.2⟩, by omega⟩, rehw1 (look [(100089, 100089)])⟩
 ·exact retE.r ⟨⟨ek, ea, eb, ec, ed, ⟨fk, fa, fb, fc, fd, fr⟩⟩, q, ⟨⟨h1, h2, h3, h4⟩, by omega⟩, rehw1 (look [(100089, 100089)])⟩
end Go.Proofs.YtjbhiglaginpeaaGreat
