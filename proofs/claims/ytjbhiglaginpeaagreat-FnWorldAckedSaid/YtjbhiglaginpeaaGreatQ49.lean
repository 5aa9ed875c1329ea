/- Parts of the proof, joined from several texts. No condition. -/
import Derived.Test.YtjbhiglaginpeaaGreatQ48
import Derived.Test.YtjbhiglaginpeaaGreatQ43
import Derived.Test.YtjbhiglaginpeaaGreatQ46
import Derived.Test.YtjbhiglaginpeaaGreatQ41
set_option maxRecDepth 100000
set_option maxHeartbeats 16000000
set_option linter.unusedVariables false
set_option linter.unusedSimpArgs false
namespace Go.Proofs.YtjbhiglaginpeaaGreat
open Go.RowKit
theorem vmDoA (W : Wd) (hW0 : WdOK W) (e : Ev) (he : EvI e) (hA : e.kind = 1 ∨ e.kind = 2 ∨ e.kind = 8 ∨ e.kind = 9) : FnH Tryz.prog 26 [910] [.ptr 910 0, .ag (av (eEv e))] [(910, hW W), (901, hL 42 6 eSd W.sends), (902, hL 45 4 eRv W.recvs), (903, hL 9 1 eBs W.got), (904, hL 75 3 eLs W.paths), (905, hL 77 4 eRt W.rtts), (907, hS W.seen), (908, hL 82 6 eCd W.carried), (909, hL 106 9 eWi W.net)] (.tu []) [(910, hW ((doW W e))), (901, hL 42 6 eSd ((doW W e)).sends), (902, hL 45 4 eRv ((doW W e)).recvs), (903, hL 9 1 eBs ((doW W e)).got), (904, hL 75 3 eLs ((doW W e)).paths), (905, hL 77 4 eRt ((doW W e)).rtts), (907, hS ((doW W e)).seen), (908, hL 82 6 eCd ((doW W e)).carried), (909, hL 106 9 eWi ((doW W e)).net)] := by
 have hd := he.sz.data; have hfd := he.sz.fd; have hfr := he.sz.fr
 have hI := vmIsStream e.a
 cases ha : inB e.a 0 2
 ·rw [ha] at hI
  rw [show doW W e = W by unfold doW; rw [if_pos hA, ha]; rfl]
  obtain ⟨k, a, b, c, d, f⟩ := e
  dsimp only at hA hI ha
  change FnH _ _ _ [.ptr 910 0, .ag (av [dI k, dI a, dI b, dI c, dS d, dI f.kind, dI f.a, dI f.b, dI f.c, dS f.data, dL 2 eRg f.ranges])] _ _ _
  unfold hW hS
  rcases hA with rfl | rfl | rfl | rfl
  all_goals
   refine fH Tryz.func26 Tryz.ntmps26 Tryz.results26 ?_
   repeat' (first
    | refine stp ?_
    | (apply K.g0; apply K.callF; refine cq (F := hI) (G := ?_))
    | fail)
   exact rehw0 lP
 ·rw [ha] at hI
  have hL := vmDoStream W hW0 e hA ha hd
  generalize doW W e = V at hL ⊢
  obtain ⟨k, a, b, c, d, f⟩ := e
  dsimp only at hA hI ha
  change FnH _ _ _ [.ptr 910 0, .ag (av [dI k, dI a, dI b, dI c, dS d, dI f.kind, dI f.a, dI f.b, dI f.c, dS f.data, dL 2 eRg f.ranges])] _ _ _ at hL
  change FnH _ _ _ [.ptr 910 0, .ag (av [dI k, dI a, dI b, dI c, dS d, dI f.kind, dI f.a, dI f.b, dI f.c, dS f.data, dL 2 eRg f.ranges])] _ _ _
  unfold hW hS at hL ⊢
  rcases hA with rfl | rfl | rfl | rfl
  all_goals
   refine fH Tryz.func26 Tryz.ntmps26 Tryz.results26 ?_
   repeat' (first
    | refine stp ?_
    | (apply K.g0; apply K.callF; first | refine ch (F := hL) (G := ?_) | refine cq (F := hI) (G := ?_))
    | fail)
   exact rehw0 lP
theorem vmDoB (W : Wd) (hW0 : WdOK W) (e : Ev) (hB : e.kind = 4 ∨ e.kind = 5 ∨ e.kind = 6) : FnH Tryz.prog 26 [910] [.ptr 910 0, .ag (av (eEv e))] [(910, hW W), (901, hL 42 6 eSd W.sends), (902, hL 45 4 eRv W.recvs), (903, hL 9 1 eBs W.got), (904, hL 75 3 eLs W.paths), (905, hL 77 4 eRt W.rtts), (907, hS W.seen), (908, hL 82 6 eCd W.carried), (909, hL 106 9 eWi W.net)] (.tu []) [(910, hW ((doW W e))), (901, hL 42 6 eSd ((doW W e)).sends), (902, hL 45 4 eRv ((doW W e)).recvs), (903, hL 9 1 eBs ((doW W e)).got), (904, hL 75 3 eLs ((doW W e)).paths), (905, hL 77 4 eRt ((doW W e)).rtts), (907, hS ((doW W e)).seen), (908, hL 82 6 eCd ((doW W e)).carried), (909, hL 106 9 eWi ((doW W e)).net)] := by
 have hL := vmDoPacket W hW0 e hB
 generalize doW W e = V at hL ⊢
 obtain ⟨k, a, b, c, d, f⟩ := e
 dsimp only at hB
 change FnH _ _ _ [.ptr 910 0, .ag (av [dI k, dI a, dI b, dI c, dS d, dI f.kind, dI f.a, dI f.b, dI f.c, dS f.data, dL 2 eRg f.ranges])] _ _ _ at hL
 change FnH _ _ _ [.ptr 910 0, .ag (av [dI k, dI a, dI b, dI c, dS d, dI f.kind, dI f.a, dI f.b, dI f.c, dS f.data, dL 2 eRg f.ranges])] _ _ _
 unfold hW hS at hL ⊢
 rcases hB with rfl | rfl | rfl
 all_goals
  refine fH Tryz.func26 Tryz.ntmps26 Tryz.results26 ?_
  repeat' (first
   | refine stp ?_
   | (apply K.g0; apply K.callF; refine ch (F := hL) (G := ?_))
   | fail)
  exact rehw0 lP
theorem vmDoC (W : Wd) (hW0 : WdOK W) (e : Ev) (he : EvI e) (hC : e.kind = 7 ∨ e.kind = 10 ∨ e.kind = 12) : FnH Tryz.prog 26 [910] [.ptr 910 0, .ag (av (eEv e))] [(910, hW W), (901, hL 42 6 eSd W.sends), (902, hL 45 4 eRv W.recvs), (903, hL 9 1 eBs W.got), (904, hL 75 3 eLs W.paths), (905, hL 77 4 eRt W.rtts), (907, hS W.seen), (908, hL 82 6 eCd W.carried), (909, hL 106 9 eWi W.net)] (.tu []) [(910, hW ((doW W e))), (901, hL 42 6 eSd ((doW W e)).sends), (902, hL 45 4 eRv ((doW W e)).recvs), (903, hL 9 1 eBs ((doW W e)).got), (904, hL 75 3 eLs ((doW W e)).paths), (905, hL 77 4 eRt ((doW W e)).rtts), (907, hS ((doW W e)).seen), (908, hL 82 6 eCd ((doW W e)).carried), (909, hL 106 9 eWi ((doW W e)).net)] := by
 have hL := vmDoPath W hW0 e he hC
 generalize doW W e = V at hL ⊢
 obtain ⟨k, a, b, c, d, f⟩ := e
 dsimp only at hC
 change FnH _ _ _ [.ptr 910 0, .ag (av [dI k, dI a, dI b, dI c, dS d, dI f.kind, dI f.a, dI f.b, dI f.c, dS f.data, dL 2 eRg f.ranges])] _ _ _ at hL
 change FnH _ _ _ [.ptr 910 0, .ag (av [dI k, dI a, dI b, dI c, dS d, dI f.kind, dI f.a, dI f.b, dI f.c, dS f.data, dL 2 eRg f.ranges])] _ _ _
 unfold hW hS at hL ⊢
 rcases hC with rfl | rfl | rfl
 all_goals
  refine fH Tryz.func26 Tryz.ntmps26 Tryz.results26 ?_
  repeat' (first
   | refine stp ?_
   | (apply K.g0; apply K.callF; refine ch (F := hL) (G := ?_))
   | fail)
  exact rehw0 lP
theorem vmDo (W : Wd) (hW0 : WdOK W) (e : Ev) (he : EvI e) : FnH Tryz.prog 26 [910] [.ptr 910 0, .ag (av (eEv e))] [(910, hW W), (901, hL 42 6 eSd W.sends), (902, hL 45 4 eRv W.recvs), (903, hL 9 1 eBs W.got), (904, hL 75 3 eLs W.paths), (905, hL 77 4 eRt W.rtts), (907, hS W.seen), (908, hL 82 6 eCd W.carried), (909, hL 106 9 eWi W.net)] (.tu []) [(910, hW ((doW W e))), (901, hL 42 6 eSd ((doW W e)).sends), (902, hL 45 4 eRv ((doW W e)).recvs), (903, hL 9 1 eBs ((doW W e)).got), (904, hL 75 3 eLs ((doW W e)).paths), (905, hL 77 4 eRt ((doW W e)).rtts), (907, hS ((doW W e)).seen), (908, hL 82 6 eCd ((doW W e)).carried), (909, hL 106 9 eWi ((doW W e)).net)] := by
 by_cases hA : e.kind = 1 ∨ e.kind = 2 ∨ e.kind = 8 ∨ e.kind = 9
 ·exact vmDoA W hW0 e he hA
 by_cases hB : e.kind = 4 ∨ e.kind = 5 ∨ e.kind = 6
 ·exact vmDoB W hW0 e hB
 by_cases hC : e.kind = 7 ∨ e.kind = 10 ∨ e.kind = 12
 ·exact vmDoC W hW0 e he hC
 have hE : doW W e = if e.kind = 3 then doSend W e.a e.b e.c else if e.kind = 11 then { W with now := min (W.now + 1) 999 } else W := by
  unfold doW
  rw [if_neg hA]
  by_cases h3 : e.kind = 3
  ·rw [if_pos h3, if_pos h3]
  ·rw [if_neg h3, if_neg h3, if_neg hB, if_neg (fun h => hC (.inl h)), if_neg (fun h => hC (.inr (.inl h)))]
   by_cases h11 : e.kind = 11
   ·rw [if_pos h11, if_pos h11]
   ·rw [if_neg h11, if_neg h11, if_neg (fun h => hC (.inr (.inr h)))]
 have hn := hW0.now
 rw [hE]
 clear hE
 obtain ⟨k, a, b, c, d, f⟩ := e
 dsimp only at hA hB hC ⊢
 change FnH _ _ _ [.ptr 910 0, .ag (av [dI k, dI a, dI b, dI c, dS d, dI f.kind, dI f.a, dI f.b, dI f.c, dS f.data, dL 2 eRg f.ranges])] _ _ _
 by_cases h3 : k = 3
 ·subst h3
  rw [if_pos rfl]
  have hL := vmSend W hW0 a b c
  generalize doSend W a b c = V at hL ⊢
  unfold hW hS at hL ⊢
  refine fH Tryz.func26 Tryz.ntmps26 Tryz.results26 ?_
  repeat' (first
   | refine stp ?_
   | (apply K.g0; apply K.callF; refine ch (F := hL) (G := ?_))
   | fail)
  exact rehw0 lP
 rw [if_neg h3]
 by_cases h11 : k = 11
 ·subst h11
  rw [if_pos rfl]
  unfold hW hS
  dsimp only
  refine fH Tryz.func26 Tryz.ntmps26 Tryz.results26 ?_
  repeat' (first
   | refine stp ?_
   | fail)
  exact rehw0 lP
 rw [if_neg h11]
 unfold hW hS
 refine fH Tryz.func26 Tryz.ntmps26 Tryz.results26 ?_
 repeat' (first
  | refine stp ?_
  | fail)
 exact rehw0 lP
end Go.Proofs.YtjbhiglaginpeaaGreat
