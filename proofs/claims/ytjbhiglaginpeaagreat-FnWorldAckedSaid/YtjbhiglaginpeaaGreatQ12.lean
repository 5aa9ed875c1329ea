/- Parts of the proof, joined from several texts. No condition. -/
import Derived.Test.YtjbhiglaginpeaaGreatQ8
set_option maxRecDepth 100000
set_option maxHeartbeats 16000000
set_option linter.unusedVariables false
set_option linter.unusedSimpArgs false
namespace Go.Proofs.YtjbhiglaginpeaaGreat
open Go.RowKit
def wdV (W : Wd) : AV := .ag [aI W.now, .own 901 W.sends.length, .own 902 W.recvs.length, .own 903 W.got.length, .own 904 W.paths.length, .own 905 W.rtts.length, .own 906 W.windows.length, .own 907 W.seen.length, .own 908 W.carried.length, .own 909 W.net.length]
def wdHp (W : Wd) : List (Nat × Ob) := [(901, hL 42 6 eSd W.sends), (902, hL 45 4 eRv W.recvs), (903, hL 9 1 eBs W.got), (904, hL 75 3 eLs W.paths), (905, hL 77 4 eRt W.rtts), (906, hL 97 4 eWn W.windows), (907, hL 40 1 eSn W.seen), (908, hL 82 6 eCd W.carried), (909, hL 106 9 eWi W.net)]
theorem vl51CopyH (W : Wd) (h : WdSz W) : FnH Tryz.prog 29 [] [.ag (av (eWd W))] [] (wdV W) (wdHp W) := by
 obtain ⟨l1, l2, l3, l4, l5, l6, l7⟩ := h.len
 have e1 := h.rv
 have e2 := h.sn
 refine fH Tryz.func29 Tryz.ntmps29 Tryz.results29 ?_
 repeat' (first
  | refine stp ?_
  | (apply K.rg 1; refine wdr [0, 1, 0, 0, 8, 28, 0, 0, 128, 508, 0, 0, 2048, 8188, 0, 0, 32768, 131068, 0, 524287, 0, 2097151] 21 [8, 9, 10, 11, 12, 13, 14, 15, 16, 17, 18, 19, 20, 21, 22, 23, 24, 25, 26, 27, 3] [] ?_)
  | refine dcl ?_)
 refine WC.loop (fun k s => ∃ i A B, k + i = W.sends.length ∧ A = W.sends.take i ∧ B = W.recvs.take i ∧ s = ⟨⟨110, []⟩, [(1, .ptr 1 0), (2, .ptr 2 0), (3, .ptr 3 0), (4, aI (i : Nat))], [(1, .blk (av (eWd W))), (2, .blk [.un, .un, .un, .un, .un, .un, .un, .un, .un, .un]), (3, .blk [aI W.now, .own 701 A.length, .own 702 B.length, .own 703 W.got.length, .emp, .own 705 W.rtts.length, .own 706 W.windows.length, .emp, .own 708 W.carried.length, .emp]), (701, hL 42 6 eSd A), (702, hL 45 4 eRv B), (703, hL 9 1 eBs W.got), (705, hL 77 4 eRt W.rtts), (706, hL 97 4 eWn W.windows), (708, hL 82 6 eCd W.carried)]⟩) W.sends.length ⟨0, [], [], rfl, rfl, rfl, rfl⟩ (imp (look [(1, 1), (2, 2), (3, 3), (703, 13), (705, 17), (706, 21), (708, 25)])) ?_
 rintro k s ⟨i, A, B, hk, hA, hB, rfl⟩
 have hs : i < W.sends.length → (W.sends.getD i default).acked.length ≤ 1000 ∧ (W.sends.getD i default).lost.length ≤ 1000 := fun h' => h.sends _ (getD_mem' h')
 have hr : i < W.sends.length → (W.recvs.getD i default).pieces.length ≤ 1000 := fun h' => h.recvs _ (getD_mem' (by omega))
 have a1 : A.length ≤ 1000 := by rw [hA, List.length_take]; omega
 have a2 : B.length ≤ 1000 := by rw [hB, List.length_take]; omega
 repeat' (first
  | refine stp ?_
  | (apply KA.g0; apply KA.callF; first | refine cqa (F := vl32Copy _ (by omega) (by omega)) (G := ?_) | refine cqa (F := vl31Copy _ (by omega)) (G := ?_))
  | (refine WC.cond rfl ?_ ?_ <;> intro hb <;> (try have hb' := nrm hb) <;> try (exfalso; omega))
  | (apply K.rg 5; refine wdr [0, 1, 0, 4, 0, 28, 60, 124, 252, 511, 1023, 2047] 9 [35, 36, 37, 38, 39, 40, 41, 42, 43] [] ?_)
  | (apply K.rg 6; refine wdr [0, 1, 0, 4, 0, 28, 60, 124, 252, 511, 1023, 2047] 9 [46, 47, 48, 49, 50, 51, 52, 53, 54] [] ?_)
  | refine dcl ?_)
 ·exact loopQ.n (k - 1) _ (by omega) ⟨i + 1, A ++ [W.sends.getD i default], B ++ [W.recvs.getD i default], by omega, by rw [take_snoc (by omega), hA], by rw [take_snoc (by omega), hB], rfl⟩ (imp (look [(1, 1), (2, 2), (3, 3), (701, 44), (702, 55), (703, 703), (705, 705), (706, 706), (708, 708)]))
 obtain rfl : i = W.sends.length := (by omega)
 obtain rfl : A = W.sends := (by rw [hA, List.take_of_length_le (Nat.le_refl _)])
 obtain rfl : B = W.recvs := (by rw [hB, List.take_of_length_le (by omega)])
 clear hA hB hk k hs hr
 refine WC.loop (fun k s => ∃ i A B, k + i = W.paths.length ∧ A = W.paths.take i ∧ B = W.seen.take i ∧ s = ⟨⟨110, []⟩, [(1, .ptr 1 0), (2, .ptr 2 0), (3, .ptr 3 0), (5, aI (i : Nat))], [(1, .blk (av (eWd W))), (2, .blk [.un, .un, .un, .un, .un, .un, .un, .un, .un, .un]), (3, .blk [aI W.now, .own 701 W.sends.length, .own 702 W.recvs.length, .own 703 W.got.length, .own 704 A.length, .own 705 W.rtts.length, .own 706 W.windows.length, .own 707 B.length, .own 708 W.carried.length, .emp]), (701, hL 42 6 eSd W.sends), (702, hL 45 4 eRv W.recvs), (704, hL 75 3 eLs A), (707, hL 40 1 eSn B), (703, hL 9 1 eBs W.got), (705, hL 77 4 eRt W.rtts), (706, hL 97 4 eWn W.windows), (708, hL 82 6 eCd W.carried)]⟩) W.paths.length ⟨0, [], [], rfl, rfl, rfl, rfl⟩ (imp (look [(1, 1), (2, 2), (3, 3), (701, 701), (702, 702), (703, 703), (705, 705), (706, 706), (708, 708)])) ?_
 rintro k s ⟨i, A, B, hk, hA, hB, rfl⟩
 have hp : i < W.paths.length → (W.paths.getD i default).flight.length ≤ 1000 := fun h' => h.paths _ (getD_mem' h')
 have hs : i < W.paths.length → (W.seen.getD i default).length ≤ 1000 := fun h' => h.seen _ (getD_mem' (by omega))
 have a1 : A.length ≤ 1000 := by rw [hA, List.length_take]; omega
 have a2 : B.length ≤ 1000 := by rw [hB, List.length_take]; omega
 repeat' (first
  | refine stp ?_
  | (apply KA.g0; apply KA.callF; refine cqa (F := vl22Copy _ (by omega)) (G := ?_))
  | (refine WC.cond rfl ?_ ?_ <;> intro hb <;> (try have hb' := nrm hb) <;> try (exfalso; omega))
  | (apply K.rg 10; refine wdr [0, 1, 0, 4, 0, 28, 60, 124, 252, 511, 1023, 2047] 9 [64, 65, 66, 67, 68, 69, 70, 71, 72] [] ?_)
  | (apply K.rg 11; refine WC.drawD (ms := [0, 1, 0, 0, 8, 0, 56, 120, 252, 508, 1023, 2047, 4095]) 10 [75, 76, 77, 78, 79, 80, 81, 82, 83, 84] [(9, [83])] (by kernel_rfl) (by kernel_rfl) ?_)
  | refine dcl ?_)
 ·exact loopQ.n (k - 1) _ (by omega) ⟨i + 1, A ++ [W.paths.getD i default], B ++ [W.seen.getD i default], by omega, by rw [take_snoc (by omega), hA], by rw [take_snoc (by omega), hB], rfl⟩ (imp (look [(1, 1), (2, 2), (3, 3), (701, 701), (702, 702), (704, 73), (707, 85), (703, 703), (705, 705), (706, 706), (708, 708)]))
 obtain rfl : i = W.paths.length := (by omega)
 obtain rfl : A = W.paths := (by rw [hA, List.take_of_length_le (Nat.le_refl _)])
 obtain rfl : B = W.seen := (by rw [hB, List.take_of_length_le (by omega)])
 clear hA hB hk k hs hp
 refine WC.loop (fun k s => ∃ i A, k + i = W.net.length ∧ A = W.net.take i ∧ s = ⟨⟨110, []⟩, [(1, .ptr 1 0), (2, .ptr 2 0), (3, .ptr 3 0), (6, aI (i : Nat))], [(1, .blk (av (eWd W))), (2, .blk [.un, .un, .un, .un, .un, .un, .un, .un, .un, .un]), (3, .blk [aI W.now, .own 701 W.sends.length, .own 702 W.recvs.length, .own 703 W.got.length, .own 704 W.paths.length, .own 705 W.rtts.length, .own 706 W.windows.length, .own 707 W.seen.length, .own 708 W.carried.length, .own 709 A.length]), (701, hL 42 6 eSd W.sends), (702, hL 45 4 eRv W.recvs), (704, hL 75 3 eLs W.paths), (707, hL 40 1 eSn W.seen), (709, hL 106 9 eWi A), (703, hL 9 1 eBs W.got), (705, hL 77 4 eRt W.rtts), (706, hL 97 4 eWn W.windows), (708, hL 82 6 eCd W.carried)]⟩) W.net.length ⟨0, [], rfl, rfl, rfl⟩ (imp (look [(1, 1), (2, 2), (3, 3), (701, 701), (702, 702), (703, 703), (704, 704), (705, 705), (706, 706), (707, 707), (708, 708)])) ?_
 rintro k s ⟨i, A, hk, hA, rfl⟩
 have hf : i < W.net.length → (W.net.getD i default).frame.ranges.length ≤ 1000 := fun h' => h.net _ (getD_mem' h')
 have a1 : A.length ≤ 1000 := by rw [hA, List.length_take]; omega
 have hF := fun hx => vl51Frame (W.net.getD i default).frame hx
 repeat' (first
  | refine stp ?_
  | (apply K.g0; apply K.callF; refine cq (F := hF (by omega)) (G := ?_))
  | (refine WC.cond rfl ?_ ?_ <;> intro hb <;> (try have hb' := nrm hb) <;> try (exfalso; omega)))
 ·exact loopQ.n (k - 1) _ (by omega) ⟨i + 1, A ++ [W.net.getD i default], by omega, by rw [take_snoc (by omega), hA], rfl⟩ (imp (look [(1, 1), (2, 2), (3, 3), (701, 701), (702, 702), (703, 703), (704, 704), (705, 705), (706, 706), (707, 707), (708, 708), (709, 107)]))
 obtain rfl : i = W.net.length := (by omega)
 obtain rfl : A = W.net := (by rw [hA, List.take_of_length_le (Nat.le_refl _)])
 first | exact reth0 (look [(901, 701), (902, 702), (903, 703), (904, 704), (905, 705), (906, 706), (907, 707), (908, 708), (909, 709)]) | exact reth1 (look [(901, 701), (902, 702), (903, 703), (904, 704), (905, 705), (906, 706), (907, 707), (908, 708), (909, 709)])
theorem vl51Copy (W : Wd) (h : WdSz W) : FnP Tryz.prog 29 [.ag (av (eWd W))] (.ag (av (eWd W))) :=
 (vl51CopyH W h).toP (by repeat' (first | exact LeVs.nil | exact LeV.dd | exact LeV.sc rfl | exact LeV.sc (congrArg (Value.int .i64) (by first | omega | (dsimp only; omega))) | exact LeV.emp | exact LeV.empd | exact LeV.dp | exact LeV.own rfl rfl | exact LeV.ptr rfl | exact LeV.f0 rfl | exact LeV.f1 rfl (by simp) (fun _ hm => cat_snoc2 hm rfl) | exact LeV.f1 rfl (by simp) (fun _ _ => set_get2 (by omega) rfl) | exact LeV.f1 rfl (by simp) (fun _ _ => cat_app'.symm) | exact LeV.f1 rfl (by rw [List.length_eraseIdx_of_lt (by omega)]; omega) (fun _ _ => cat_erase (by omega) (by omega) (by omega)) | exact LeV.un | refine LeVs.cons ?_ ?_ | refine LeV.ag ?_ | refine LeV.tu ?_)) rfl
end Go.Proofs.YtjbhiglaginpeaaGreat
