/- Parts of the proof, joined from several texts. No condition. -/
import Derived.Test.YtjbhiglaginpeaaGreatQ50
import Derived.Test.YtjbhiglaginpeaaGreatQ32
set_option maxRecDepth 100000
set_option maxHeartbeats 16000000
set_option linter.unusedVariables false
set_option linter.unusedSimpArgs false
namespace Go.Proofs.YtjbhiglaginpeaaGreat
open Go.RowKit
theorem vmWorldPlay (limit : Int) (l : List Ev) (hs : ∀ e ∈ l, EvI e) (hl : l.length ≤ 10000000) : FnP Tryz.prog 11 [aI limit, .d (dL 11 eEv l)] (newR (playR limit l)) := by
 unfold playR
 cases h : inB limit 0 30
 ·have hN := vmWorldNewNo limit h
  rw [show (false && decide (l.length ≤ 80)) = false from rfl, if_neg Bool.false_ne_true]
  refine fP Tryz.func11 Tryz.ntmps11 Tryz.results11 ?_
  repeat' (first
   | refine stp ?_
   | (apply K.g0; apply K.callF; refine cq (F := hN) (G := ?_))
   | fail)
  (exact ret2)
 have hn := wd_new (inB_iff.1 h)
 by_cases h80 : l.length ≤ 80
 ·rw [decide_eq_true h80, show (true && true) = true from rfl, if_pos rfl]
  have hN := vmWorldNewH limit (inB_iff.1 h)
  unfold newH at hN
  have hsn : (wdNew limit).seen.length = 4 := rfl
  have hV0 : playW (wdNew limit) (l.take 0) = wdNew limit := rfl
  generalize hWe : wdNew limit = W at hN hn hsn hV0 ⊢
  refine fP Tryz.func11 Tryz.ntmps11 Tryz.results11 ?_
  repeat' (first
   | refine stp ?_
   | (apply K.g0; apply K.callF; refine chq (F := hN) (G := ?_))
   | fail)
  refine WC.imp (Imp.seen (q := 907) (l := W.seen) hsn rfl (by decide)) ?_
  refine WC.loop (fun k s => ∃ (i : Nat) (V : Wd), k + i = l.length ∧ V = playW W (l.take i) ∧ s = ⟨⟨33, []⟩, [(4, .ptr 4 0), (6, .ptr 910 0), (23, .d (dL 11 eEv l)), (24, aI l.length), (25, aI (i : Nat))], [(4, .blk [.un, .un, .un, .un, .un, .un, .un, .un, .un, .un]), (910, .blk [aI V.now, .own 901 V.sends.length, .own 902 V.recvs.length, .own 903 V.got.length, .own 904 V.paths.length, .own 905 V.rtts.length, .d (dL 4 eWn V.windows), .own 907 V.seen.length, .own 908 V.carried.length, .own 909 V.net.length]), (901, hL 42 6 eSd V.sends), (902, hL 45 4 eRv V.recvs), (903, hL 9 1 eBs V.got), (904, hL 75 3 eLs V.paths), (905, hL 77 4 eRt V.rtts), (907, .blk [.d (dL 2 eRg (V.seen.getD 0 default)), .d (dL 2 eRg (V.seen.getD 1 default)), .d (dL 2 eRg (V.seen.getD 2 default)), .d (dL 2 eRg (V.seen.getD 3 default))]), (908, hL 82 6 eCd V.carried), (909, hL 106 9 eWi V.net)]⟩) l.length ⟨0, W, rfl, rfl, rfl⟩ (by unfold hS; exact imp (look [(4, 4), (910, 6), (901, 901), (902, 902), (903, 903), (904, 904), (905, 905), (907, 907), (908, 908), (909, 909)])) ?_
  rintro k s ⟨i, V, hk, hV, rfl⟩
  have hok : WdOK V := by rw [hV]; exact wd_play _ hn
  by_cases hi : i < l.length
  ·have hD := vmDo V hok (l.getD i default) (hs _ (getD_mem' hi))
   rw [← show playW W (l.take (i + 1)) = doW V (l.getD i default) by rw [play_snoc hi, hV]] at hD
   generalize hVn : playW W (l.take (i + 1)) = V' at hD
   unfold hW hS at hD
   clear hV hok hn hsn hV0
   repeat' (first
    | refine stp ?_
    | (apply K.g0; apply K.callF; refine ch (F := hD) (G := ?_))
    | fail)
   exact loopQ.n (k - 1) _ (by omega) ⟨i + 1, V', by omega, hVn.symm, rfl⟩ (imp (look [(4, 4), (910, 910), (901, 901), (902, 902), (903, 903), (904, 904), (905, 905), (907, 907), (908, 908), (909, 909)]))
  ·obtain rfl : i = l.length := (by omega)
   rw [List.take_of_length_le (Nat.le_refl _)] at hV
   have hvs := hok.seen
   repeat' (first
    | refine stp ?_
    | fail)
   all_goals
    rw [← hV]
    refine ret2 (ResV.cells rfl rfl rfl) (ResV.tmp rfl) ?_
    repeat' (first | exact LeV.fzS (l := V.seen) (n' := 0) rfl rfl rfl hvs | exact LeVs.nil | exact LeV.dd | exact LeV.sc rfl | exact LeV.f0 rfl | refine LeVs.cons ?_ ?_ | refine LeV.ag ?_ | refine LeV.tu ?_)
 ·rw [decide_eq_false h80, show (true && false) = false from rfl, if_neg Bool.false_ne_true]
  have hN := vmWorldNew limit (inB_iff.1 h)
  generalize wdNew limit = W at hN
  refine fP Tryz.func11 Tryz.ntmps11 Tryz.results11 ?_
  repeat' (first
   | refine stp ?_
   | (apply K.g0; apply K.callF; refine cq (F := hN) (G := ?_))
   | fail)
  (exact ret2)
end Go.Proofs.YtjbhiglaginpeaaGreat
