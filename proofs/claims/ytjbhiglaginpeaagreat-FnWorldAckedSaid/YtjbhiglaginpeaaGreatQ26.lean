/- Parts of the proof, joined from several texts. No condition. -/
import Derived.Test.YtjbhiglaginpeaaGreatQ24
import Derived.Test.YtjbhiglaginpeaaGreatQ19
import Derived.Test.YtjbhiglaginpeaaGreatQ23
import Derived.Test.YtjbhiglaginpeaaGreatQ9
set_option maxRecDepth 100000
set_option maxHeartbeats 16000000
set_option linter.unusedVariables false
set_option linter.unusedSimpArgs false
namespace Go.Proofs.YtjbhiglaginpeaaGreat
open Go.RowKit
theorem vl51Net (W : Wd) (hW : WdOK W) (e : Ev) (hk : e.kind = 4 ∨ e.kind = 5 ∨ e.kind = 6) : FnP Tryz.prog 59 [.ag (av (eWd W)), .ag (av (eEv e))] (.ag (av (eWd (doW W e)))) := by
 have l9 := hW.net
 obtain ⟨k, a, b, c, d, f⟩ := e
 dsimp only at hk
 change FnP _ _ [.ag (av (eWd W)), .ag (av [dI k, dI a, dI b, dI c, dS d, dI f.kind, dI f.a, dI f.b, dI f.c, dS f.data, dL 2 eRg f.ranges])] _
 have hI := vl6In a 0 ((W.net.length : Int) - 1)
 have h19 : ¬ (k = 1 ∨ k = 2 ∨ k = 8 ∨ k = 9) := by omega
 have h3 : ¬ k = 3 := by omega
 cases ha : inB a 0 ((W.net.length : Int) - 1)
 ·have hE : doW W ⟨k, a, b, c, d, f⟩ = W := by unfold doW; simp only [ha]; rw [if_neg h19, if_neg h3, if_pos hk]; rfl
  rw [ha] at hI
  rw [hE]
  refine fP Tryz.func59 Tryz.ntmps59 Tryz.results59 ?_
  repeat' (first
   | refine stp ?_
   | (apply K.g0; apply K.callF; refine cq (F := hI) (G := ?_))
   | fail)
  (exact ret1)
 rw [ha] at hI
 have ha' := inB_iff.1 ha
 have hlt : a.toNat < W.net.length := by omega
 have hx := hW.wires _ (getD_mem' (l := W.net) (i := a.toNat) hlt)
 have hW2 := wd_erase hW a.toNat
 have hx2 := wire_net (n := W.net.eraseIdx a.toNat) hx
 rcases hk with rfl | rfl | rfl
 ·have hE : doW W ⟨4, a, b, c, d, f⟩ = deliver { W with net := W.net.eraseIdx a.toNat } (W.net.getD a.toNat default) := by unfold doW; simp only [ha]; rw [if_neg h19, if_neg h3]; rfl
  rw [hE]
  have hD := vl51Deliver _ hW2 _ hx2
  change FnP _ _ [.ag (av [dI W.now, dL 6 eSd W.sends, dL 4 eRv W.recvs, dL 1 eBs W.got, dL 3 eLs W.paths, dL 4 eRt W.rtts, dL 4 eWn W.windows, dL 1 eSn W.seen, dL 6 eCd W.carried, dL 9 eWi (W.net.eraseIdx a.toNat)]), _] _ at hD
  refine fP Tryz.func59 Tryz.ntmps59 Tryz.results59 ?_
  repeat' (first
   | refine stp ?_
   | (apply K.g0; apply K.callF; first | refine cq (F := hI) (G := ?_) | refine cf (F := hD) (G := ?_))
   | (apply K.rg 6; refine wdr [0, 0, 2, 0, 8, 30, 63, 0, 128, 0, 512, 1536, 3968, 8191, 16383, 32767] 13 [27, 28, 29, 30, 31, 32, 33, 34, 35, 36, 37, 38, 39] [] ?_)
   | refine dcl ?_)
  (exact ret1)
 ·have hE : doW W ⟨5, a, b, c, d, f⟩ = { W with net := W.net.eraseIdx a.toNat } := by unfold doW; simp only [ha]; rw [if_neg h19, if_neg h3]; rfl
  rw [hE]
  refine fP Tryz.func59 Tryz.ntmps59 Tryz.results59 ?_
  repeat' (first
   | refine stp ?_
   | (apply K.g0; apply K.callF; refine cq (F := hI) (G := ?_))
   | (apply K.rg 6; refine wdr [0, 0, 2, 0, 8, 30, 63, 0, 128, 0, 512, 1536, 3968, 8191, 16383, 32767] 13 [27, 28, 29, 30, 31, 32, 33, 34, 35, 36, 37, 38, 39] [] ?_)
   | refine dcl ?_)
  change RetG _ _ (.ag (av [dI W.now, dL 6 eSd W.sends, dL 4 eRv W.recvs, dL 1 eBs W.got, dL 3 eLs W.paths, dL 4 eRt W.rtts, dL 4 eWn W.windows, dL 1 eSn W.seen, dL 6 eCd W.carried, dL 9 eWi (W.net.eraseIdx a.toNat)])) _
  (exact ret1)
 ·have hE : doW W ⟨6, a, b, c, d, f⟩ = post W (W.net.getD a.toNat default) := by unfold doW; simp only [ha]; rw [if_neg h19, if_neg h3]; rfl
  rw [hE]
  have hP := vl51Post W (W.net.getD a.toNat default) (by omega)
  refine fP Tryz.func59 Tryz.ntmps59 Tryz.results59 ?_
  repeat' (first
   | refine stp ?_
   | (apply K.g0; apply K.callF; first | refine cq (F := hI) (G := ?_) | refine cq (F := hP) (G := ?_))
   | fail)
  (exact ret1)
theorem vmSendNew (limit : Int) (h : 0 ≤ limit ∧ limit ≤ 30) : FnP Tryz.prog 44 [aI limit] (.tu [.ag (av (eSd (sd0 limit))), aB true]) := by
 have hI := vmWithin limit 0 30
 rw [inB_iff.2 h] at hI
 refine fP Tryz.func44 Tryz.ntmps44 Tryz.results44 ?_
 repeat' (first
  | refine stp ?_
  | (apply K.g0; apply K.callF; refine cq (F := hI) (G := ?_))
  | fail)
 (exact ret2)
theorem vmSendNewNo (limit : Int) (h : inB limit 0 30 = false) : FnP Tryz.prog 44 [aI limit] (.tu [.ag (av (eSd ⟨[], false, 0, 0, [], []⟩)), aB false]) := by
 have hI := vmWithin limit 0 30
 rw [h] at hI
 refine fP Tryz.func44 Tryz.ntmps44 Tryz.results44 ?_
 repeat' (first
  | refine stp ?_
  | (apply K.g0; apply K.callF; refine cq (F := hI) (G := ?_))
  | fail)
 (exact ret2)
theorem vmRecvNew (limit : Int) (h : 0 ≤ limit ∧ limit ≤ 30) : FnP Tryz.prog 45 [aI limit] (.tu [.ag (av (eRv (rv0 limit))), aB true]) := by
 have hI := vmWithin limit 0 30
 rw [inB_iff.2 h] at hI
 refine fP Tryz.func45 Tryz.ntmps45 Tryz.results45 ?_
 repeat' (first
  | refine stp ?_
  | (apply K.g0; apply K.callF; refine cq (F := hI) (G := ?_))
  | fail)
 (exact ret2)
theorem vmLossNew : FnP Tryz.prog 46 [] (.ag (av (eLs ⟨0, [], -1⟩))) := by
 refine fP Tryz.func46 Tryz.ntmps46 Tryz.results46 ?_
 repeat' (first
  | refine stp ?_
  | fail)
 (exact ret1)
theorem vmWorldNewNo (limit : Int) (h : inB limit 0 30 = false) : FnP Tryz.prog 25 [aI limit] (newR none) := by
 refine fP Tryz.func25 Tryz.ntmps25 Tryz.results25 ?_
 repeat' (first
  | refine stp ?_
  | (apply K.g0; apply K.callF; refine cq (F := vmSendNewNo limit h) (G := ?_))
  | fail)
 (exact ret2)
theorem vmWorldNew (limit : Int) (h : 0 ≤ limit ∧ limit ≤ 30) : FnP Tryz.prog 25 [aI limit] (newR (some (wdNew limit))) := by
 refine fP Tryz.func25 Tryz.ntmps25 Tryz.results25 ?_
 repeat' (first
  | refine stp ?_
  | (apply K.g0; apply K.callF; first | refine cq (F := vmSendNew limit h) (G := ?_) | refine cq (F := vmRecvNew limit h) (G := ?_))
  | fail)
 refine WC.loop (fun k s => ∃ (i : Nat) (A : List Sd) (B : List Rv) (C : List Bs), k + i = 3 ∧ A = List.replicate i (sd0 limit) ∧ B = List.replicate i (rv0 limit) ∧ C = List.replicate i [] ∧ s = ⟨⟨74, []⟩, [(2, .ptr 2 0), (4, .ptr 4 0), (6, .ptr 6 0), (8, .ptr 8 0), (23, aI (i : Nat))], [(2, .blk [.un, .un, .un, .un, .un, .un, .un, .un, .un, .un]), (4, .blk (av (eSd (sd0 limit)))), (6, .blk (av (eRv (rv0 limit)))), (8, .blk [aI 0, .own 701 A.length, .own 702 B.length, .own 703 C.length, .emp, .emp, .emp, .emp, .emp, .emp]), (701, hL 42 6 eSd A), (702, hL 45 4 eRv B), (703, hL 9 1 eBs C)]⟩) 3 ⟨0, [], [], [], rfl, rfl, rfl, rfl, rfl⟩ (imp (look [(2, 2), (4, 4), (6, 6), (8, 8)])) ?_
 rintro k s ⟨i, A, B, C, hk, hA, hB, hC, rfl⟩
 have lA : A.length = i := by rw [hA, List.length_replicate]
 have lB : B.length = i := by rw [hB, List.length_replicate]
 have lC : C.length = i := by rw [hC, List.length_replicate]
 repeat' (first
  | refine stp ?_
  | (refine WC.cond rfl ?_ ?_ <;> intro hb <;> (try have hb' := nrm hb) <;> try (exfalso; omega)))
 ·exact loopQ.n (k - 1) _ (by omega) ⟨i + 1, A ++ [sd0 limit], B ++ [rv0 limit], C ++ [[]], by omega, by rw [rep_snoc, hA], by rw [rep_snoc, hB], by rw [rep_snoc, hC], rfl⟩ (imp (look [(2, 2), (4, 4), (6, 6), (8, 8), (701, 29), (702, 35), (703, 40)]))
 obtain rfl : i = 3 := (by omega)
 clear hk hb hb'
 refine WC.loop (fun k s => ∃ (i : Nat) (D : List Ls) (E : List Rt) (F : List Wn) (G : List (List Rg)), k + i = 4 ∧ D = List.replicate i ⟨0, [], -1⟩ ∧ E = List.replicate i rtZero ∧ F = (List.range i).map wn0 ∧ G = List.replicate i [] ∧ s = ⟨⟨74, []⟩, [(2, .ptr 2 0), (8, .ptr 8 0), (43, aI (i : Nat))], [(2, .blk [.un, .un, .un, .un, .un, .un, .un, .un, .un, .un]), (8, .blk [aI 0, .own 701 A.length, .own 702 B.length, .own 703 C.length, .own 704 D.length, .own 705 E.length, .own 706 F.length, .own 707 G.length, .emp, .emp]), (701, hL 42 6 eSd A), (702, hL 45 4 eRv B), (703, hL 9 1 eBs C), (704, hL 75 3 eLs D), (705, hL 77 4 eRt E), (706, hL 97 4 eWn F), (707, hL 40 1 eSn G)]⟩) 4 ⟨0, [], [], [], [], rfl, rfl, rfl, rfl, rfl, rfl⟩ (imp (look [(2, 2), (8, 8), (701, 701), (702, 702), (703, 703)])) ?_
 rintro k s ⟨i, D, E, F, G, hk, hD, hE, hF, hG, rfl⟩
 have lD : D.length = i := by rw [hD, List.length_replicate]
 have lE : E.length = i := by rw [hE, List.length_replicate]
 have lF : F.length = i := by rw [hF, List.length_map, List.length_range]
 have lG : G.length = i := by rw [hG, List.length_replicate]
 repeat' (first
  | (apply K.g0; apply K.buildSlice; refine lk_slice1F (ys := [.d (dL 2 eRg [])]) rfl (LeFs.cons (LeF.c LeC.empd) LeFs.nil) rfl rfl rfl rfl ?_)
  | refine stp ?_
  | (apply KA.g0; apply KA.callF; refine cqa (F := vmLossNew) (G := ?_))
  | (refine WC.cond rfl ?_ ?_ <;> intro hb <;> (try have hb' := nrm hb) <;> try (exfalso; omega))
  | (apply K.rg 15; refine wdr [0, 1, 0, 4, 15, 31, 63] 4 [46, 47, 48, 49] [] ?_)
  | refine dcl ?_)
 ·exact loopQ.n (k - 1) _ (by omega) ⟨i + 1, D ++ [⟨0, [], -1⟩], E ++ [rtZero], F ++ [wn0 i], G ++ [[]], by omega, by rw [rep_snoc, hD], by rw [rep_snoc, hE], by rw [wn_snoc, hF], by rw [rep_snoc, hG], rfl⟩ (imp (look [(2, 2), (8, 8), (701, 701), (702, 702), (703, 703), (704, 50), (705, 56), (706, 65), (707, 70)]))
 obtain rfl : i = 4 := (by omega)
 have hW : wdNew limit = ⟨0, A, B, C, D, E, F, G, [], []⟩ := by rw [hA, hB, hC, hD, hE, hF, hG]; rfl
 rw [hW]
 (exact ret2)
end Go.Proofs.YtjbhiglaginpeaaGreat
