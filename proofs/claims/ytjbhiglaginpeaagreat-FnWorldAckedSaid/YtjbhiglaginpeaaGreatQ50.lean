/- Parts of the proof, joined from several texts. No condition. -/
import Derived.Test.YtjbhiglaginpeaaGreatQ26
import Derived.Test.YtjbhiglaginpeaaGreatQ49
set_option maxRecDepth 100000
set_option maxHeartbeats 16000000
set_option linter.unusedVariables false
set_option linter.unusedSimpArgs false
namespace Go.Proofs.YtjbhiglaginpeaaGreat
open Go.RowKit
def newH (W : Wd) : AV := .tu [.ag [aI W.now, .own 901 W.sends.length, .own 902 W.recvs.length, .own 903 W.got.length, .own 904 W.paths.length, .own 905 W.rtts.length, .d (dL 4 eWn W.windows), .own 907 W.seen.length, .own 908 W.carried.length, .own 909 W.net.length], aB true]
theorem vmWorldNewH (limit : Int) (h : 0 ≤ limit ∧ limit ≤ 30) : FnH Tryz.prog 25 [] [aI limit] [] (newH (wdNew limit)) [(901, hL 42 6 eSd (wdNew limit).sends), (902, hL 45 4 eRv (wdNew limit).recvs), (903, hL 9 1 eBs (wdNew limit).got), (904, hL 75 3 eLs (wdNew limit).paths), (905, hL 77 4 eRt (wdNew limit).rtts), (907, hL 40 1 eSn (wdNew limit).seen), (908, hL 82 6 eCd (wdNew limit).carried), (909, hL 106 9 eWi (wdNew limit).net)] := by
 refine fH Tryz.func25 Tryz.ntmps25 Tryz.results25 ?_
 repeat' (first
  | refine stp ?_
  | (apply K.g0; apply K.callF; first | refine cq (F := vmSendNew limit h) (G := ?_) | refine cq (F := vmRecvNew limit h) (G := ?_))
  | fail)
 refine WC.loop (fun k s => ∃ (i : Nat) (A : List Sd) (B : List Rv) (C : List Bs), k + i = 3 ∧ A = List.replicate i (sd0 limit) ∧ B = List.replicate i (rv0 limit) ∧ C = List.replicate i [] ∧ s = ⟨⟨74, []⟩, [(2, .ptr 2 0), (4, .ptr 4 0), (6, .ptr 6 0), (8, .ptr 8 0), (23, aI (i : Nat))], [(2, .blk [.un, .un, .un, .un, .un, .un, .un, .un, .un, .un]), (4, .blk (av (eSd (sd0 limit)))), (6, .blk (av (eRv (rv0 limit)))), (8, .blk [aI 0, .own 701 A.length, .own 702 B.length, .own 703 C.length, .emp, .emp, .emp, .emp, .emp, .emp]), (701, hL 42 6 eSd A), (702, hL 45 4 eRv B), (703, hL 9 1 eBs C)]⟩) 3 ⟨0, [], [], [], rfl, rfl, rfl, rfl, rfl⟩ (imp (look [(2, 2), (4, 4), (6, 6), (8, 8)])) ?_
 rintro k s ⟨i, A, B, C, hk, hA, hB, hC, rfl⟩
 have lA : A.length = i := by rw [hA, List.length_replicate]
 have lB : B.length = i := by rw [hB, List.length_replicate]
 have lC : C.length = i := by rw [hC, List.length_replicate]
 repeat' (first
  | refine stp ?_
  | (refine WC.cond rfl ?_ ?_ <;> intro hb <;> (try have hb' := nrm hb) <;> try (exfalso; omega)))
 ·exact loopQ.n (k - 1) _ (by omega) ⟨i + 1, A ++ [sd0 limit], B ++ [rv0 limit], C ++ [[]], by omega, by rw [rep_snoc, hA], by rw [rep_snoc, hB], by rw [rep_snoc, hC], rfl⟩ (imp (look [(2, 2), (4, 4), (6, 6), (8, 8), (701, 29), (702, 35), (703, 40)]))
 obtain rfl : i = 3 := (by omega)
 clear hk hb hb'
 refine WC.loop (fun k s => ∃ (i : Nat) (D : List Ls) (E : List Rt) (F : List Wn) (G : List (List Rg)), k + i = 4 ∧ D = List.replicate i ⟨0, [], -1⟩ ∧ E = List.replicate i rtZero ∧ F = (List.range i).map wn0 ∧ G = List.replicate i [] ∧ s = ⟨⟨74, []⟩, [(2, .ptr 2 0), (8, .ptr 8 0), (43, aI (i : Nat))], [(2, .blk [.un, .un, .un, .un, .un, .un, .un, .un, .un, .un]), (8, .blk [aI 0, .own 701 A.length, .own 702 B.length, .own 703 C.length, .own 704 D.length, .own 705 E.length, .own 706 F.length, .own 707 G.length, .emp, .emp]), (701, hL 42 6 eSd A), (702, hL 45 4 eRv B), (703, hL 9 1 eBs C), (704, hL 75 3 eLs D), (705, hL 77 4 eRt E), (706, hL 97 4 eWn F), (707, hL 40 1 eSn G)]⟩) 4 ⟨0, [], [], [], [], rfl, rfl, rfl, rfl, rfl, rfl⟩ (imp (look [(2, 2), (8, 8), (701, 701), (702, 702), (703, 703)])) ?_
 rintro k s ⟨i, D, E, F, G, hk, hD, hE, hF, hG, rfl⟩
 have lD : D.length = i := by rw [hD, List.length_replicate]
 have lE : E.length = i := by rw [hE, List.length_replicate]
 have lF : F.length = i := by rw [hF, List.length_map, List.length_range]
 have lG : G.length = i := by rw [hG, List.length_replicate]
 repeat' (first
  | (apply K.g0; apply K.buildSlice; refine lk_slice1F (ys := [.d (dL 2 eRg [])]) rfl (LeFs.cons (LeF.c LeC.empd) LeFs.nil) rfl rfl rfl rfl ?_)
  | refine stp ?_
  | (apply KA.g0; apply KA.callF; refine cqa (F := vmLossNew) (G := ?_))
  | (refine WC.cond rfl ?_ ?_ <;> intro hb <;> (try have hb' := nrm hb) <;> try (exfalso; omega))
  | (apply K.rg 15; refine wdr [0, 1, 0, 4, 15, 31, 63] 4 [46, 47, 48, 49] [] ?_)
  | refine dcl ?_)
 ·exact loopQ.n (k - 1) _ (by omega) ⟨i + 1, D ++ [⟨0, [], -1⟩], E ++ [rtZero], F ++ [wn0 i], G ++ [[]], by omega, by rw [rep_snoc, hD], by rw [rep_snoc, hE], by rw [wn_snoc, hF], by rw [rep_snoc, hG], rfl⟩ (imp (look [(2, 2), (8, 8), (701, 701), (702, 702), (703, 703), (704, 50), (705, 56), (706, 65), (707, 70)]))
 obtain rfl : i = 4 := (by omega)
 have hW : wdNew limit = ⟨0, A, B, C, D, E, F, G, [], []⟩ := by rw [hA, hB, hC, hD, hE, hF, hG]; rfl
 rw [hW]
 unfold newH
 dsimp only
 first | exact reth0 (look [(901, 701), (902, 702), (903, 703), (904, 704), (905, 705), (907, 707)]) | exact reth2 (look [(901, 701), (902, 702), (903, 703), (904, 704), (905, 705), (907, 707)])
end Go.Proofs.YtjbhiglaginpeaaGreat
