/- Parts of the proof, joined from several texts. No condition. -/
import Derived.Test.YtjbhiglaginpeaaGreatQ26
import Derived.Test.YtjbhiglaginpeaaGreatQ17
import Derived.Test.YtjbhiglaginpeaaGreatQ16
import Derived.Test.YtjbhiglaginpeaaGreatQ18
import Derived.Test.YtjbhiglaginpeaaGreatQ7
set_option maxRecDepth 100000
set_option maxHeartbeats 16000000
set_option linter.unusedVariables false
set_option linter.unusedSimpArgs false
namespace Go.Proofs.YtjbhiglaginpeaaGreat
open Go.RowKit
structure EvSz (e : Ev) : Prop where
 data : e.data.length ≤ 10000000
 fd : e.frame.data.length ≤ 1000000000
 fr : e.frame.ranges.length ≤ 10000000
theorem vl51SendA (W : Wd) (hW : WdOK W) (i p size : Int) : FnP Tryz.prog 58 [.ag (av (eWd W)), aI i, aI p, aI size] (.ag (av (eWd (doSend W i p size)))) := by
 cases h1 : inB i 0 2
 ·exact vl51SendNo W i p size (.inl h1)
 cases h2 : inB p 0 3
 ·exact vl51SendNo W i p size (.inr (.inl h2))
 cases h3 : inB size 1 12
 ·exact vl51SendNo W i p size (.inr (.inr h3))
 have := inB_iff.1 h2
 obtain ⟨q, rfl⟩ : ∃ q : Nat, p = (q : Int) := ⟨p.toNat, by omega⟩
 exact vl51Send W hW i size q (by omega) h1 h3
theorem vl51Do (W : Wd) (hW : WdOK W) (e : Ev) (he : EvSz e) : FnP Tryz.prog 28 [.ag (av (eWd W)), .ag (av (eEv e))] (.ag (av (eWd (doW W e)))) := by
 have l7 := hW.seen; have l9 := hW.net
 have hd := he.data; have hfd := he.fd; have hfr := he.fr
 by_cases hA : e.kind = 1 ∨ e.kind = 2 ∨ e.kind = 8 ∨ e.kind = 9
 ·have hL := vl51Local W hW e hA hd
  generalize doW W e = R' at hL ⊢
  obtain ⟨k, a, b, c, d, f⟩ := e
  dsimp only at hA
  change FnP _ _ [.ag (av (eWd W)), .ag (av [dI k, dI a, dI b, dI c, dS d, dI f.kind, dI f.a, dI f.b, dI f.c, dS f.data, dL 2 eRg f.ranges])] _ at hL
  change FnP _ _ [.ag (av (eWd W)), .ag (av [dI k, dI a, dI b, dI c, dS d, dI f.kind, dI f.a, dI f.b, dI f.c, dS f.data, dL 2 eRg f.ranges])] _
  rcases hA with rfl | rfl | rfl | rfl
  all_goals
   refine fP Tryz.func28 Tryz.ntmps28 Tryz.results28 ?_
   repeat' (first
    | refine stp ?_
    | (apply K.g0; apply K.callF; refine cq (F := hL) (G := ?_))
    | fail)
   (exact ret1)
 by_cases hB : e.kind = 4 ∨ e.kind = 5 ∨ e.kind = 6
 ·have hL := vl51Net W hW e hB
  generalize doW W e = R' at hL ⊢
  obtain ⟨k, a, b, c, d, f⟩ := e
  dsimp only at hB
  change FnP _ _ [.ag (av (eWd W)), .ag (av [dI k, dI a, dI b, dI c, dS d, dI f.kind, dI f.a, dI f.b, dI f.c, dS f.data, dL 2 eRg f.ranges])] _ at hL
  change FnP _ _ [.ag (av (eWd W)), .ag (av [dI k, dI a, dI b, dI c, dS d, dI f.kind, dI f.a, dI f.b, dI f.c, dS f.data, dL 2 eRg f.ranges])] _
  rcases hB with rfl | rfl | rfl
  all_goals
   refine fP Tryz.func28 Tryz.ntmps28 Tryz.results28 ?_
   repeat' (first
    | refine stp ?_
    | (apply K.g0; apply K.callF; refine cq (F := hL) (G := ?_))
    | fail)
   (exact ret1)
 have hE : doW W e = if e.kind = 3 then doSend W e.a e.b e.c else if e.kind = 7 then (if inB e.a 0 3 && !(W.sn e.a).isEmpty then post W ⟨e.a, -1, ⟨2, e.a, 0, 0, [], W.sn e.a⟩, true⟩ else W) else if e.kind = 10 then (if inB e.a 0 3 then doTimeout W e.a else W) else if e.kind = 11 then { W with now := min (W.now + 1) 999 } else if e.kind = 12 then (if inB e.a 0 3 && (inB e.b 0 999 && fmValid e.frame) then post W ⟨e.a, e.b, e.frame, false⟩ else W) else W := by
  unfold doW
  rw [if_neg hA]
  by_cases h3 : e.kind = 3
  ·rw [if_pos h3, if_pos h3]
  ·rw [if_neg h3, if_neg h3, if_neg hB]
 rw [hE]
 clear hE
 obtain ⟨k, a, b, c, d, f⟩ := e
 dsimp only at hA hB hd hfd hfr ⊢
 change FnP _ _ [.ag (av (eWd W)), .ag (av [dI k, dI a, dI b, dI c, dS d, dI f.kind, dI f.a, dI f.b, dI f.c, dS f.data, dL 2 eRg f.ranges])] _
 by_cases h3 : k = 3
 ·subst h3
  rw [if_pos rfl]
  have hL := vl51SendA W hW a b c
  refine fP Tryz.func28 Tryz.ntmps28 Tryz.results28 ?_
  repeat' (first
   | refine stp ?_
   | (apply K.g0; apply K.callF; refine cq (F := hL) (G := ?_))
   | fail)
  (exact ret1)
 rw [if_neg h3]
 have hI := vl6In a 0 3
 by_cases h7 : k = 7
 ·subst h7
  rw [if_pos rfl]
  cases ha : inB a 0 3
  ·rw [ha] at hI
   rw [show (false && !(W.sn a).isEmpty) = false from rfl, if_neg Bool.false_ne_true]
   refine fP Tryz.func28 Tryz.ntmps28 Tryz.results28 ?_
   repeat' (first
    | refine stp ?_
    | (apply K.g0; apply K.callF; refine cq (F := hI) (G := ?_))
    | fail)
   (exact ret1)
  ·rw [ha] at hI
   have ha' := inB_iff.1 ha
   have hsn : (W.seen.getD a.toNat default).length ≤ 16 := (hW.pt ha').sn.1
   have hP := vl51Post W ⟨a, -1, ⟨2, a, 0, 0, [], W.seen.getD a.toNat default⟩, true⟩ (by omega)
   have hem : (true && !(W.sn a).isEmpty) = decide (((W.seen.getD a.toNat default).length : Int) > 0) := by rw [Bool.true_and]; exact ne_emp _
   rw [hem]
   refine fP Tryz.func28 Tryz.ntmps28 Tryz.results28 ?_
   repeat' (first
    | refine stp ?_
    | (apply K.g0; apply K.callF; first | refine cq (F := hI) (G := ?_) | refine cf (F := hP) (G := ?_))
    | (refine WC.cond rfl ?_ ?_ <;> intro hb <;> (try have hb' := nrm hb) <;> try (exfalso; omega))
    | (apply K.rg 15; refine wdr [0, 0, 2, 0, 8, 0, 0, 64, 0, 256, 960, 1984, 4064, 8184, 16382, 32767, 65535] 15 [47, 48, 49, 50, 51, 52, 53, 54, 55, 56, 57, 58, 59, 60, 61] [] ?_)
    | refine dcl ?_)
   ·rw [if_pos (by assumption)]; (exact ret1)
   ·rw [if_neg (by rw [decide_eq_true_eq]; assumption)]; (exact ret1)
 rw [if_neg h7]
 by_cases h10 : k = 10
 ·subst h10
  rw [if_pos rfl]
  cases ha : inB a 0 3
  ·rw [ha] at hI
   rw [if_neg Bool.false_ne_true]
   refine fP Tryz.func28 Tryz.ntmps28 Tryz.results28 ?_
   repeat' (first
    | refine stp ?_
    | (apply K.g0; apply K.callF; refine cq (F := hI) (G := ?_))
    | fail)
   (exact ret1)
  ·rw [ha] at hI
   rw [if_pos rfl]
   have ha' := inB_iff.1 ha
   obtain ⟨q, rfl⟩ : ∃ q : Nat, a = (q : Int) := ⟨a.toNat, by omega⟩
   have hL := vl51Timeout W hW q (by omega)
   refine fP Tryz.func28 Tryz.ntmps28 Tryz.results28 ?_
   repeat' (first
    | refine stp ?_
    | (apply K.g0; apply K.callF; first | refine cq (F := hI) (G := ?_) | refine cq (F := hL) (G := ?_))
    | fail)
   (exact ret1)
 rw [if_neg h10]
 by_cases h11 : k = 11
 ·subst h11
  rw [if_pos rfl]
  have hn := hW.now
  refine fP Tryz.func28 Tryz.ntmps28 Tryz.results28 ?_
  repeat' (first
   | refine stp ?_
   | fail)
  (exact ret1)
 rw [if_neg h11]
 by_cases h12 : k = 12
 ·subst h12
  rw [if_pos rfl]
  have hJ := vl6In b 0 999
  have hV := vlFrameValid f hfd hfr
  cases ha : inB a 0 3
  ·rw [ha] at hI
   rw [show (false && (inB b 0 999 && fmValid f)) = false from rfl, if_neg Bool.false_ne_true]
   refine fP Tryz.func28 Tryz.ntmps28 Tryz.results28 ?_
   repeat' (first
    | refine stp ?_
    | (apply K.g0; apply K.callF; refine cq (F := hI) (G := ?_))
    | fail)
   (exact ret1)
  rw [ha] at hI
  cases hb : inB b 0 999
  ·rw [hb] at hJ
   rw [show (true && (false && fmValid f)) = false from rfl, if_neg Bool.false_ne_true]
   refine fP Tryz.func28 Tryz.ntmps28 Tryz.results28 ?_
   repeat' (first
    | refine stp ?_
    | (apply K.g0; apply K.callF; refine cq (F := hI) (G := ?_))
    | (apply K.g1; apply K.callF; refine cqt (F := hJ) (G := ?_))
    | fail)
   (exact ret1)
  rw [hb] at hJ
  cases hf : fmValid f
  ·rw [hf] at hV
   rw [show (true && (true && false)) = false from rfl, if_neg Bool.false_ne_true]
   refine fP Tryz.func28 Tryz.ntmps28 Tryz.results28 ?_
   repeat' (first
    | refine stp ?_
    | (apply K.g0; apply K.callF; refine cq (F := hI) (G := ?_))
    | (apply K.g1; apply K.callF; first | refine cqt (F := hJ) (G := ?_) | refine cqt (F := hV) (G := ?_))
    | fail)
   (exact ret1)
  ·rw [hf] at hV
   rw [show (true && (true && true)) = true from rfl, if_pos rfl]
   have hfs := fm_sz hf
   have hF := vl51Frame f (by omega)
   have hP := vl51Post W ⟨a, b, f, false⟩ (by omega)
   refine fP Tryz.func28 Tryz.ntmps28 Tryz.results28 ?_
   repeat' (first
    | refine stp ?_
    | (apply K.g0; apply K.callF; first | refine cq (F := hI) (G := ?_) | refine cq (F := hP) (G := ?_))
    | (apply K.g1; apply K.callF; first | refine cqt (F := hJ) (G := ?_) | refine cqt (F := hV) (G := ?_))
    | (apply KA.g0; apply KA.callF; refine cqa (F := hF) (G := ?_))
    | (apply K.rg 23; refine wdr [0, 0, 2, 0, 8, 0, 32, 96, 254, 511, 1023] 9 [94, 95, 96, 97, 98, 99, 100, 101, 102] [] ?_)
    | refine dcl ?_)
   (exact ret1)
 rw [if_neg h12]
 refine fP Tryz.func28 Tryz.ntmps28 Tryz.results28 ?_
 repeat' (first
  | refine stp ?_
  | fail)
 (exact ret1)
end Go.Proofs.YtjbhiglaginpeaaGreat
