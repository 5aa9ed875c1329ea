/- Parts of the proof, joined from several texts. No condition. -/
import Derived.Test.YtjbhiglaginpeaaGreatQ9
import Derived.Test.YtjbhiglaginpeaaGreatQ15
import Derived.Test.YtjbhiglaginpeaaGreatQ8
import Derived.Test.YtjbhiglaginpeaaGreatQ16
import Derived.Test.YtjbhiglaginpeaaGreatQ7
set_option maxRecDepth 100000
set_option maxHeartbeats 16000000
set_option linter.unusedVariables false
set_option linter.unusedSimpArgs false
namespace Go.Proofs.YtjbhiglaginpeaaGreat
open Go.RowKit
theorem encP_len (f : Fm) : (encP f).length = 5 + f.data.length := by simp [encP]; omega
theorem cat_ins {A L : List Cd} {x : Cd} {m k : Nat} {row : List D} (hr : eCd x = row) (hk : k = A.length) : catF (A.length + 1) (catF A.length (fun i => eCd (A.getD i default)) (fun _ => row)) (fun i => eCd (L.getD (k + i) default)) m = eCd ((A ++ x :: L.drop k).getD m default) := by
 subst hr
 have e : A ++ x :: L.drop k = (A ++ [x]) ++ L.drop k := by simp
 rw [e, ← cat_app (e := eCd)]
 unfold catF
 rw [show (A ++ [x]).length = A.length + 1 by simp]
 by_cases h : m < A.length + 1
 ·rw [if_pos h, if_pos h]
  have := cat_snoc (e := eCd) (l := A) (p := x) h
  unfold catF at this
  exact this
 ·rw [if_neg h, if_neg h]
  simp only [List.getD_eq_getElem?_getD, List.getElem?_drop]
theorem vl51SendNo (W : Wd) (i p size : Int) (h : inB i 0 2 = false ∨ inB p 0 3 = false ∨ inB size 1 12 = false) : FnP Tryz.prog 58 [.ag (av (eWd W)), aI i, aI p, aI size] (.ag (av (eWd (doSend W i p size)))) := by
 rw [doSend_out (.inl h)]
 have hI := vl6In i 0 2
 have hJ := vl6In p 0 3
 have hK := vl6In size 1 12
 cases h1 : inB i 0 2
 ·rw [h1] at hI
  refine fP Tryz.func58 Tryz.ntmps58 Tryz.results58 ?_
  repeat' (first
   | refine stp ?_
   | (apply KA.g0; apply KA.callF; refine cqa (F := hI) (G := ?_))
   | (apply K.rg 1; refine wdr [0, 1, 3, 7, 15, 31, 63, 127, 255, 511, 1023, 2047, 4095, 8191, 16383, 32767, 16383, 131071, 262143, 524287, 1048575, 16383, 2113535, 16383, 14696447, 31473663, 65028095, 134217727, 268435455] 27 [19, 20, 21, 22, 23, 24, 25, 26, 27, 28, 29, 30, 31, 32, 33, 34, 35, 36, 37, 38, 39, 40, 41, 42, 43, 44, 45] [] ?_)
   | refine dcl ?_)
  (exact ret1)
 rw [h1] at h hI
 cases h2 : inB p 0 3
 ·rw [h2] at hJ
  refine fP Tryz.func58 Tryz.ntmps58 Tryz.results58 ?_
  repeat' (first
   | refine stp ?_
   | (apply KA.g0; apply KA.callF; refine cqa (F := hI) (G := ?_))
   | (apply KA.g1; apply KA.callF; refine cqat (F := hJ) (G := ?_))
   | (apply K.rg 1; refine wdr [0, 1, 3, 7, 15, 31, 63, 127, 255, 511, 1023, 2047, 4095, 8191, 16383, 32767, 16383, 131071, 262143, 524287, 1048575, 16383, 2113535, 16383, 14696447, 31473663, 65028095, 134217727, 268435455] 27 [19, 20, 21, 22, 23, 24, 25, 26, 27, 28, 29, 30, 31, 32, 33, 34, 35, 36, 37, 38, 39, 40, 41, 42, 43, 44, 45] [] ?_)
   | refine dcl ?_)
  (exact ret1)
 rw [h2] at h hJ
 cases h3 : inB size 1 12
 ·rw [h3] at hK
  refine fP Tryz.func58 Tryz.ntmps58 Tryz.results58 ?_
  repeat' (first
   | refine stp ?_
   | (apply KA.g0; apply KA.callF; refine cqa (F := hI) (G := ?_))
   | (apply KA.g1; apply KA.callF; first | refine cqat (F := hJ) (G := ?_) | refine cqat (F := hK) (G := ?_))
   | (apply K.rg 1; refine wdr [0, 1, 3, 7, 15, 31, 63, 127, 255, 511, 1023, 2047, 4095, 8191, 16383, 32767, 16383, 131071, 262143, 524287, 1048575, 16383, 2113535, 16383, 14696447, 31473663, 65028095, 134217727, 268435455] 27 [19, 20, 21, 22, 23, 24, 25, 26, 27, 28, 29, 30, 31, 32, 33, 34, 35, 36, 37, 38, 39, 40, 41, 42, 43, 44, 45] [] ?_)
   | refine dcl ?_)
  (exact ret1)
 rw [h3] at h
 simp at h
theorem vl51SendY (W : Wd) (hW : WdOK W) (i size : Int) (p : Nat) (hp : p < 4) (g1 : 0 ≤ i ∧ i ≤ 2) (hI : FnP Tryz.prog 52 [aI i, aI 0, aI 2] (aB true)) (hJ : FnP Tryz.prog 52 [aI (p : Nat), aI 0, aI 3] (aB true)) (hK : FnP Tryz.prog 52 [aI size, aI 1, aI 12] (aB true))
 (hw : ¬ (W.windows.getD p default).size ≤ ((W.paths.getD p default).flight.length : Int)) {s : Sd} {off : Int} {dat : Bs} {fin : Bool} (hN : FnP Tryz.prog 113 [.ag (av (eSd (W.sends.getD i.toNat default))), aI size] (.tu [.ag (av (eSd s)), .ag (av [dI off, dS dat, dB fin]), aB true]))
 (hq : (0 ≤ off ∧ off ≤ 30) ∧ dat.length ≤ 12) (hE : ∀ c : Int, 0 ≤ c → c < 64 → FnP Tryz.prog 115 [.ag (av [dI 3, dI i, dI off, dI c, dS dat, dL 2 eRg []])] (.d (dS (encP ⟨3, i, off, c, dat, []⟩)))) (hlen : ∀ c, (encP ⟨3, i, off, c, dat, []⟩).length = 5 + dat.length) {l : Ls} {n : Int}
 (hS3 : ∀ c, FnP Tryz.prog 114 [.ag (av (eLs (W.paths.getD p default))), aI W.now, aI ((encP ⟨3, i, off, c, dat, []⟩).length : Nat)] (sndR (W.paths.getD p default) (some (l, n)))) {R' : Wd}
 (hF : ∀ A, A = W.carried.filter (fun c => decide (c.path ≤ (p : Int))) → R' = post { W with sends := W.sends.set i.toNat s, paths := W.paths.set p l, carried := A ++ (⟨p, n, i, ⟨off, dat, fin⟩⟩ : Cd) :: W.carried.drop A.length } ⟨p, n, ⟨3, i, off, finI fin, dat, []⟩, true⟩) :
 FnP Tryz.prog 58 [.ag (av (eWd W)), aI i, aI (p : Nat), aI size] (.ag (av (eWd R'))) := by
 have l1 := hW.sends; have l4 := hW.paths; have l6 := hW.windows; have l8 := hW.few; have l9 := hW.net
 obtain ⟨c, hc, hc1, hc2⟩ : ∃ c : Int, c = finI fin ∧ 0 ≤ c ∧ c < 64 := ⟨_, rfl, by unfold finI; split <;> omega, by unfold finI; split <;> omega⟩
 have hE' := hE c hc1 hc2
 have hS' := hS3 c
 have hlen' := hlen c
 clear hE hS3 hlen
 have hfc : (fin = false ∧ c = 0) ∨ (fin = true ∧ c = 1) := by rw [hc]; cases fin <;> simp [finI]
 simp only [← hc] at hF
 clear hc
 rcases hfc with ⟨hfin, hc⟩ | ⟨hfin, hc⟩
 all_goals
  refine fP Tryz.func58 Tryz.ntmps58 Tryz.results58 ?_
  repeat' (first
   | refine stp ?_
   | (apply K.g0; apply K.callF; first | refine chq (F := vl51CopyS W hW.sz) (G := ?_) | refine cq (F := hN) (G := ?_))
   | (apply KA.g0; apply KA.callF; first | refine cqa (F := hI) (G := ?_) | refine cqa (F := hE') (G := ?_) | refine cqa (F := hS') (G := ?_))
   | (apply KA.g1; apply KA.callF; first | refine cqat (F := hJ) (G := ?_) | refine cqat (F := hK) (G := ?_))
   | (apply K.rg 1; refine wdr [0, 1, 3, 7, 15, 31, 63, 127, 255, 511, 1023, 2047, 4095, 8191, 16383, 32767, 16383, 131071, 262143, 524287, 1048575, 16383, 2113535, 16383, 14696447, 31473663, 65028095, 134217727, 268435455] 27 [19, 20, 21, 22, 23, 24, 25, 26, 27, 28, 29, 30, 31, 32, 33, 34, 35, 36, 37, 38, 39, 40, 41, 42, 43, 44, 45] [] ?_)
   | (apply K.rg 9; refine WC.drawD (ms := [0, 1, 0, 7, 15, 0, 32, 0, 128, 384, 1023, 2047, 4095, 4095, 4095, 0, 40959, 114687, 262143]) 18 [74, 75, 76, 77, 78, 79, 80, 81, 82, 83, 84, 73, 85, 86, 87, 13, 14] [(16, [13])] (by kernel_rfl) (by kernel_rfl) ?_)
   | refine dcl ?_)
  refine WC.loop (fun k s' => ∃ (j : Nat) (A : List Cd), k + j = W.carried.length ∧ A = (W.carried.take j).filter (fun c => decide (c.path ≤ (p : Int))) ∧ s' = ⟨⟨150, []⟩, [(1, aI i), (2, aI p), (4, .ptr 4 0), (8, .ptr 8 0), (10, .ptr 10 0), (12, .ptr 12 0), (14, aI n), (16, .own 700 A.length), (17, aI (j : Nat))], [(4, .blk [aI W.now, .own 901 W.sends.length, .d (dL 4 eRv W.recvs), .d (dL 1 eBs W.got), .own 904 W.paths.length, .own 905 W.rtts.length, .d (dL 4 eWn W.windows), .d (dL 1 eSn W.seen), .d (dL 6 eCd W.carried), .d (dL 9 eWi W.net)]), (8, .blk [.un, .un, .un, .un, .un, .un, .un, .un, .un, .un]), (10, .blk (av [dI off, dS dat, dB fin])), (12, .blk (av [dI 3, dI i, dI off, dI c, dS dat, dL 2 eRg []])), (700, hL 82 6 eCd A), (901, .arr 42 6 W.sends.length (fun m => eSd ((W.sends.set i.toNat s).getD m default))), (904, .arr 75 3 W.paths.length (fun m => eLs ((W.paths.set p l).getD m default))), (905, hL 77 4 eRt W.rtts)]⟩) W.carried.length ⟨0, [], rfl, rfl, rfl⟩ (imp (look [(4, 4), (8, 8), (10, 10), (12, 12), (901, 901), (904, 904), (905, 905)])) ?_
  rintro k s' ⟨j, A, hk, hA, rfl⟩
  have hAl : A.length ≤ j := by rw [hA]; exact Nat.le_trans (List.length_filter_le _ _) (by rw [List.length_take]; omega)
  have hAs : j < W.carried.length → (W.carried.take (j + 1)).filter (fun c => decide (c.path ≤ (p : Int))) = A ++ (if (W.carried.getD j default).path ≤ (p : Int) then [W.carried.getD j default] else []) := fun h => by
   rw [take_snoc h, List.filter_append, ← hA]
   congr 1
   simp only [List.filter_cons, List.filter_nil, decide_eq_true_eq]
  have hP := vl51Post { W with sends := W.sends.set i.toNat s, paths := W.paths.set p l, carried := A ++ (⟨p, n, i, ⟨off, dat, fin⟩⟩ : Cd) :: W.carried.drop A.length } ⟨p, n, ⟨3, i, off, c, dat, []⟩, true⟩ (by show W.net.length ≤ _; omega)
  repeat' (first
   | (apply K.g0; apply K.callF; refine lk_callF rfl (by (repeat' (first | exact LeFs.nil | apply LeFs.cons | apply LeF.ag | exact LeF.c LeC.dd | exact LeF.c (LeC.sc rfl) | exact LeF.c LeC.empd | exact LeF.c (LeC.sc (congrArg (Value.int .i64) (by omega))) | exact LeF.f0 rfl | exact LeF.f1 rfl (by simp; done) (fun _ _ => rfl) | exact LeF.f1 rfl (by first | (simp only [List.length_append, List.length_cons, List.length_drop]; omega) | omega) (fun _ _ => cat_ins rfl rfl)))) hP rfl ?_)
   | refine stp ?_
   | (refine WC.cond rfl ?_ ?_ <;> intro hb <;> (try have hb' := nrm hb) <;> try (exfalso; omega)))
  all_goals first
   | (refine loopQ.n (k - 1) _ (by omega) ⟨j + 1, A ++ [W.carried.getD j default], by omega, by rw [hAs (by omega), if_pos (by assumption)], rfl⟩ (imp (look [(4, 4), (8, 8), (10, 10), (12, 12), (700, 126), (901, 901), (904, 904), (905, 905)])); done)
   | (refine loopQ.n (k - 1) _ (by omega) ⟨j + 1, A, by omega, by rw [hAs (by omega), if_neg (by assumption), List.append_nil], rfl⟩ (imp (look [(4, 4), (8, 8), (10, 10), (12, 12), (700, 700), (901, 901), (904, 904), (905, 905)])); done)
   | (obtain rfl : j = W.carried.length := (by omega)
      rw [hF A (by rw [hA, List.take_of_length_le (Nat.le_refl _)])]; (exact ret1))
theorem vl51Send (W : Wd) (hW : WdOK W) (i size : Int) (p : Nat) (hp : p < 4) (h1 : inB i 0 2 = true) (h3 : inB size 1 12 = true) : FnP Tryz.prog 58 [.ag (av (eWd W)), aI i, aI p, aI size] (.ag (av (eWd (doSend W i p size)))) := by
 have l1 := hW.sends; have l4 := hW.paths; have l6 := hW.windows; have l8 := hW.few; have l9 := hW.net
 have hI := vl6In i 0 2
 have hJ := vl6In p 0 3
 have hK := vl6In size 1 12
 have h2 : inB (p : Int) 0 3 = true := inB_iff.2 (by omega)
 rw [h1] at hI
 rw [h2] at hJ
 rw [h3] at hK
 have g1 := inB_iff.1 h1
 have g3 := inB_iff.1 h3
 have hsd : SdOK (W.sends.getD i.toNat default) := (hW.st g1).sd
 have hls := path_few hW hp
 have hN := vl32Next (W.sends.getD i.toNat default) size hsd g3
 rw [sNext_eq hsd g3.1] at hN
 by_cases hw : (W.windows.getD p default).size ≤ ((W.paths.getD p default).flight.length : Int)
 ·rw [doSend_out (.inr hw)]
  refine fP Tryz.func58 Tryz.ntmps58 Tryz.results58 ?_
  repeat' (first
   | refine stp ?_
   | (apply KA.g0; apply KA.callF; refine cqa (F := hI) (G := ?_))
   | (apply KA.g1; apply KA.callF; first | refine cqat (F := hJ) (G := ?_) | refine cqat (F := hK) (G := ?_))
   | (apply K.rg 1; refine wdr [0, 1, 3, 7, 15, 31, 63, 127, 255, 511, 1023, 2047, 4095, 8191, 16383, 32767, 16383, 131071, 262143, 524287, 1048575, 16383, 2113535, 16383, 14696447, 31473663, 65028095, 134217727, 268435455] 27 [19, 20, 21, 22, 23, 24, 25, 26, 27, 28, 29, 30, 31, 32, 33, 34, 35, 36, 37, 38, 39, 40, 41, 42, 43, 44, 45] [] ?_)
   | refine dcl ?_)
  (exact ret1)
 cases hn : sdNext (W.sends.getD i.toNat default) size with
 | none =>
   rw [hn] at hN
   rw [doSend_none hn]
   refine fP Tryz.func58 Tryz.ntmps58 Tryz.results58 ?_
   repeat' (first
    | refine stp ?_
    | (apply K.g0; apply K.callF; refine cq (F := hN) (G := ?_))
    | (apply KA.g0; apply KA.callF; refine cqa (F := hI) (G := ?_))
    | (apply KA.g1; apply KA.callF; first | refine cqat (F := hJ) (G := ?_) | refine cqat (F := hK) (G := ?_))
    | (apply K.rg 1; refine wdr [0, 1, 3, 7, 15, 31, 63, 127, 255, 511, 1023, 2047, 4095, 8191, 16383, 32767, 16383, 131071, 262143, 524287, 1048575, 16383, 2113535, 16383, 14696447, 31473663, 65028095, 134217727, 268435455] 27 [19, 20, 21, 22, 23, 24, 25, 26, 27, 28, 29, 30, 31, 32, 33, 34, 35, 36, 37, 38, 39, 40, 41, 42, 43, 44, 45] [] ?_)
    | refine dcl ?_)
   (exact ret1)
 | some sq =>
   obtain ⟨s, off, dat, fin⟩ := sq
   rw [hn] at hN
   have hq := next_bds hW g1 g3 hn
   dsimp only at hq
   change FnP _ _ _ (.tu [.ag (av (eSd s)), .ag (av [dI off, dS dat, dB fin]), aB true]) at hN
   have hE : ∀ c : Int, 0 ≤ c → c < 64 → FnP Tryz.prog 115 [.ag (av [dI 3, dI i, dI off, dI c, dS dat, dL 2 eRg []])] (.d (dS (encP ⟨3, i, off, c, dat, []⟩))) := fun c hc1 hc2 => vl4Encode ⟨3, i, off, c, dat, []⟩ rfl (by dsimp only; omega) (by dsimp only; omega) ⟨hc1, hc2⟩ (by dsimp only; omega) (Nat.zero_le _)
   have hlen : ∀ c, (encP ⟨3, i, off, c, dat, []⟩).length = 5 + dat.length := fun c => encP_len _
   have hS := vl22Send (W.paths.getD p default) W.now (5 + bl dat) hls.1 hls.2
   have hS2 : ∀ n : Nat, n = 5 + dat.length → FnP Tryz.prog 114 [.ag (av (eLs (W.paths.getD p default))), aI W.now, aI (n : Nat)] (sndR (W.paths.getD p default) (lsSend (W.paths.getD p default) W.now (5 + bl dat))) := fun n e => by
    rw [show ((n : Nat) : Int) = 5 + bl dat by unfold bl; omega]; exact hS
   have hS3 := fun c => hS2 _ (hlen c)
   clear hS hS2
   cases hl : lsSend (W.paths.getD p default) W.now (5 + bl dat) with
   | none =>
     rw [hl] at hS3
     rw [doSend_full (p := (p : Int)) hn hl]
     cases fin
     ·skip
      refine fP Tryz.func58 Tryz.ntmps58 Tryz.results58 ?_
      repeat' (first
       | refine stp ?_
       | (apply K.g0; apply K.callF; refine cq (F := hN) (G := ?_))
       | (apply KA.g0; apply KA.callF; first | refine cqa (F := hI) (G := ?_) | refine cqa (F := hE 0 (by omega) (by omega)) (G := ?_) | refine cqa (F := hS3 0) (G := ?_))
       | (apply KA.g1; apply KA.callF; first | refine cqat (F := hJ) (G := ?_) | refine cqat (F := hK) (G := ?_))
       | (apply K.rg 1; refine wdr [0, 1, 3, 7, 15, 31, 63, 127, 255, 511, 1023, 2047, 4095, 8191, 16383, 32767, 16383, 131071, 262143, 524287, 1048575, 16383, 2113535, 16383, 14696447, 31473663, 65028095, 134217727, 268435455] 27 [19, 20, 21, 22, 23, 24, 25, 26, 27, 28, 29, 30, 31, 32, 33, 34, 35, 36, 37, 38, 39, 40, 41, 42, 43, 44, 45] [] ?_)
       | (apply K.rg 9; refine WC.drawD (ms := [0, 1, 0, 7, 15, 0, 32, 0, 128, 384, 1023, 2047, 4095, 4095, 4095, 0, 40959, 114687, 262143]) 18 [74, 75, 76, 77, 78, 79, 80, 81, 82, 83, 84, 73, 85, 86, 87, 13, 14] [(16, [13])] (by kernel_rfl) (by kernel_rfl) ?_)
       | refine dcl ?_)
      (exact ret1)
     ·skip
      refine fP Tryz.func58 Tryz.ntmps58 Tryz.results58 ?_
      repeat' (first
       | refine stp ?_
       | (apply K.g0; apply K.callF; refine cq (F := hN) (G := ?_))
       | (apply KA.g0; apply KA.callF; first | refine cqa (F := hI) (G := ?_) | refine cqa (F := hE 1 (by omega) (by omega)) (G := ?_) | refine cqa (F := hS3 1) (G := ?_))
       | (apply KA.g1; apply KA.callF; first | refine cqat (F := hJ) (G := ?_) | refine cqat (F := hK) (G := ?_))
       | (apply K.rg 1; refine wdr [0, 1, 3, 7, 15, 31, 63, 127, 255, 511, 1023, 2047, 4095, 8191, 16383, 32767, 16383, 131071, 262143, 524287, 1048575, 16383, 2113535, 16383, 14696447, 31473663, 65028095, 134217727, 268435455] 27 [19, 20, 21, 22, 23, 24, 25, 26, 27, 28, 29, 30, 31, 32, 33, 34, 35, 36, 37, 38, 39, 40, 41, 42, 43, 44, 45] [] ?_)
       | (apply K.rg 9; refine WC.drawD (ms := [0, 1, 0, 7, 15, 0, 32, 0, 128, 384, 1023, 2047, 4095, 4095, 4095, 0, 40959, 114687, 262143]) 18 [74, 75, 76, 77, 78, 79, 80, 81, 82, 83, 84, 73, 85, 86, 87, 13, 14] [(16, [13])] (by kernel_rfl) (by kernel_rfl) ?_)
       | refine dcl ?_)
      (exact ret1)
   | some ln =>
     obtain ⟨l, n⟩ := ln
     rw [hl] at hS3
     exact vl51SendY W hW i size p hp g1 hI hJ hK hw hN hq hE hlen hS3 (fun A hA => doSend_yes h1 hp h3 hw hn hl (A := A) hA hW)
end Go.Proofs.YtjbhiglaginpeaaGreat
