/- Parts of the proof, joined from several texts. No condition. -/
import Derived.Test.YtjbhiglaginpeaaGreatQ6
import Derived.Test.YtjbhiglaginpeaaGreatQ31
import Derived.Test.YtjbhiglaginpeaaGreatQ37
import Derived.Test.YtjbhiglaginpeaaGreatQ40
import Derived.Test.YtjbhiglaginpeaaGreatQ24
set_option maxRecDepth 100000
set_option maxHeartbeats 16000000
set_option linter.unusedVariables false
set_option linter.unusedSimpArgs false
namespace Go.Proofs.YtjbhiglaginpeaaGreat
open Go.RowKit
theorem hS_set0 {l : List (List Rg)} (h : l.length = 4) {q : List Rg} : hS (l.set 0 q) = .blk [.d (dL 2 eRg q), .d (dL 2 eRg (l.getD 1 default)), .d (dL 2 eRg (l.getD 2 default)), .d (dL 2 eRg (l.getD 3 default))] := by
 match l, h with
 | [_, _, _, _], _ => rfl
theorem hS_set1 {l : List (List Rg)} (h : l.length = 4) {q : List Rg} : hS (l.set 1 q) = .blk [.d (dL 2 eRg (l.getD 0 default)), .d (dL 2 eRg q), .d (dL 2 eRg (l.getD 2 default)), .d (dL 2 eRg (l.getD 3 default))] := by
 match l, h with
 | [_, _, _, _], _ => rfl
theorem hS_set2 {l : List (List Rg)} (h : l.length = 4) {q : List Rg} : hS (l.set 2 q) = .blk [.d (dL 2 eRg (l.getD 0 default)), .d (dL 2 eRg (l.getD 1 default)), .d (dL 2 eRg q), .d (dL 2 eRg (l.getD 3 default))] := by
 match l, h with
 | [_, _, _, _], _ => rfl
theorem hS_set3 {l : List (List Rg)} (h : l.length = 4) {q : List Rg} : hS (l.set 3 q) = .blk [.d (dL 2 eRg (l.getD 0 default)), .d (dL 2 eRg (l.getD 1 default)), .d (dL 2 eRg (l.getD 2 default)), .d (dL 2 eRg q)] := by
 match l, h with
 | [_, _, _, _], _ => rfl
theorem seen_drop (m : List Rg) : m.drop 1 = m.eraseIdx 0 := by cases m <;> rfl
theorem put_not {r : Rv} {off : Int} {d : Bs} {fin : Bool} (h : (rvPut r off d fin).2 ≠ 0) : (rvPut r off d fin).1 = r := by
 unfold rvPut at h ⊢
 simp only at h ⊢
 split at h
 ·rename_i h1; rw [if_pos h1]
 ·rename_i h1; rw [if_neg h1]
  split at h
  ·rename_i h2; rw [if_pos h2]
  ·rename_i h2; rw [if_neg h2]
   split at h
   ·rename_i h3; rw [if_pos h3]
   ·split at h <;> exact absurd rfl h
theorem vmDeliverS0 (W : Wd) (hW0 : WdOK W) (n a b c : Int) (d : Bs) (rs : List Rg) (hx : WireOK W ⟨0, n, ⟨3, a, b, c, d, rs⟩, true⟩) : FnH Tryz.prog 98 [910, 901, 902, 903, 904, 905, 907, 908, 909] [.ptr 910 0, .ag (av [dI 0, dI n, dI 3, dI a, dI b, dI c, dS d, dL 2 eRg rs, dB true])] [(910, hW W), (901, hL 42 6 eSd W.sends), (902, hL 45 4 eRv W.recvs), (903, hL 9 1 eBs W.got), (904, hL 75 3 eLs W.paths), (905, hL 77 4 eRt W.rtts), (907, hS W.seen), (908, hL 82 6 eCd W.carried), (909, hL 106 9 eWi W.net)] (.tu []) [(910, hW (deliver W ⟨0, n, ⟨3, a, b, c, d, rs⟩, true⟩)), (901, hL 42 6 eSd (deliver W ⟨0, n, ⟨3, a, b, c, d, rs⟩, true⟩).sends), (902, hL 45 4 eRv (deliver W ⟨0, n, ⟨3, a, b, c, d, rs⟩, true⟩).recvs), (903, hL 9 1 eBs (deliver W ⟨0, n, ⟨3, a, b, c, d, rs⟩, true⟩).got), (904, hL 75 3 eLs (deliver W ⟨0, n, ⟨3, a, b, c, d, rs⟩, true⟩).paths), (905, hL 77 4 eRt (deliver W ⟨0, n, ⟨3, a, b, c, d, rs⟩, true⟩).rtts), (907, hS (deliver W ⟨0, n, ⟨3, a, b, c, d, rs⟩, true⟩).seen), (908, hL 82 6 eCd (deliver W ⟨0, n, ⟨3, a, b, c, d, rs⟩, true⟩).carried), (909, hL 106 9 eWi (deliver W ⟨0, n, ⟨3, a, b, c, d, rs⟩, true⟩).net)] := by
 have l1 := hW0.sends; have l2 := hW0.recvs; have l4 := hW0.paths; have l7 := hW0.seen
 have hpath := hx.path
 have hgen := hx.gen
 have hframe := hx.frame
 have hfs := fm_sz hx.frame
 dsimp only at hpath hgen hframe hfs
 obtain ⟨h1, h2⟩ : 0 ≤ n ∧ n ≤ (W.ls 0).next - 1 := by
  rcases hgen rfl with ⟨_, h1, h2, _⟩ | ⟨h, _⟩ | ⟨h, _⟩
  ·exact ⟨h1, h2⟩
  ·exact absurd h (by omega)
  ·exact absurd h (by omega)
 have hf := fm3 hframe rfl
 dsimp only at hf
 have hpt := hW0.pt hpath
 have hrv := (hW0.st hf.1).rv
 have hbl : bl d = (d.length : Int) := rfl
 have hsn : (W.seen.getD 0 default).length ≤ 16 := hpt.sn.1
 have hBd : RgBd (W.seen.getD 0 default) := rgOk_bd hpt.sn.2.1 (Int.le_refl _)
 have hn := hpt.ls.next
 have hH := vmHas (W.seen.getD 0 default) n hBd
 have hS0 : hS W.seen = .blk [.d (dL 2 eRg (W.seen.getD 0 default)), .d (dL 2 eRg (W.seen.getD 1 default)), .d (dL 2 eRg (W.seen.getD 2 default)), .d (dL 2 eRg (W.seen.getD 3 default))] := rfl
 cases hh : hasR (W.seen.getD 0 default) n
 ·rw [hh] at hH
  have hP := vmRecvPut (W.recvs.getD a.toNat default) b d (c == 1) hrv (by omega) (by omega)
  have hA := vmAddedN (W.seen.getD 0 default) n n (by omega) hBd (by omega) (by omega)
  have hE : deliver W ⟨0, n, ⟨3, a, b, c, d, rs⟩, true⟩ = { W with recvs := W.recvs.set a.toNat (rvPut (W.recvs.getD a.toNat default) b d (c == 1)).1, seen := W.seen.set 0 (seenAdd (W.seen.getD 0 default) n) } := by
   rw [show (c == 1) = decide (c = 1) by by_cases h : c = 1 <;> simp [h]]
   have hh' : hasR (W.sn 0) n = false := hh
   unfold deliver
   simp only [hh']
   rfl
  rw [hS0]
  unfold hW
  refine fH Tryz.func98 Tryz.ntmps98 Tryz.results98 ?_
  repeat' (first
   | (apply K.g0; apply K.indexAddr; refine R.op rfl (OT.indexOB 0 rfl rfl rfl rfl rfl (by omega)) rfl ?_)
   | refine stp ?_
   | (apply K.g0; apply K.callF; first | refine chq (F := vmDelRange 67 (addP (W.seen.getD 0 default) n n) 0 (by omega)) (G := ?_) | refine cq (F := hH) (G := ?_))
   | (apply KA.g0; apply KA.callF; first | refine cqa (F := hP) (G := ?_) | refine cna (F := hA) (G := ?_))
   | (refine WC.cond rfl ?_ ?_ <;> intro hb <;> (try have hb' := nrm hb) <;> try (exfalso; omega))
   | (apply K.rg 5; refine wdr [0, 1, 3, 7, 0, 16, 63, 127] 6 [17, 18, 19, 20, 21, 22] [] ?_)
   | (apply K.rg 6; refine wdr [0, 1, 3, 0, 8, 31] 5 [24, 25, 26, 27, 28] [] ?_)
   | (apply K.rg 7; refine WC.drawD (ms := [0, 1, 3, 7, 0, 16, 63, 127, 0, 256, 0, 1024, 0, 4096, 12288, 32767, 65535, 131071, 131071, 0, 786431, 2097151]) 21 [31, 32, 33, 34, 35, 36, 37, 38, 39, 40, 41, 42, 43, 44, 45, 46, 30, 47, 48, 6] [(20, [6])] (by kernel_rfl) (by kernel_rfl) ?_)
   | (apply K.rg 9; refine wdr [0, 1, 3, 7, 0, 16, 0, 127, 255] 7 [51, 52, 53, 54, 55, 56, 57] [] ?_)
   | (apply K.rg 10; refine wdr [0, 0, 2, 6, 0, 16, 0, 64, 254, 511, 1023] 9 [59, 60, 61, 62, 63, 64, 65, 66, 67] [] ?_)
   | refine dcl ?_)
  all_goals rw [hE]; dsimp only
  all_goals first
   | (rw [show seenAdd (W.seen.getD 0 default) n = (addP (W.seen.getD 0 default) n n).eraseIdx 0 from (if_pos (by omega)).trans (seen_drop _)]; skip)
   | (rw [show seenAdd (W.seen.getD 0 default) n = addP (W.seen.getD 0 default) n n from if_neg (by omega)]; skip)
  all_goals rw [hS_set0 l7]
  all_goals first
   | exact rehw0 lP
   | (rw [put_not (by assumption), set_getD_self]; exact rehw0 lP)
 ·rw [hh] at hH
  have hE : deliver W ⟨0, n, ⟨3, a, b, c, d, rs⟩, true⟩ = W := by
   have hh' : hasR (W.sn 0) n = true := hh
   unfold deliver
   simp [hh']
  rw [hE, hS0]
  unfold hW
  refine fH Tryz.func98 Tryz.ntmps98 Tryz.results98 ?_
  repeat' (first
   | (apply K.g0; apply K.indexAddr; refine R.op rfl (OT.indexOB 0 rfl rfl rfl rfl rfl (by omega)) rfl ?_)
   | refine stp ?_
   | (apply K.g0; apply K.callF; refine cq (F := hH) (G := ?_))
   | (apply K.rg 5; refine wdr [0, 1, 3, 7, 0, 16, 63, 127] 6 [17, 18, 19, 20, 21, 22] [] ?_)
   | (apply K.rg 6; refine wdr [0, 1, 3, 0, 8, 31] 5 [24, 25, 26, 27, 28] [] ?_)
   | refine dcl ?_)
  exact rehw0 lP
theorem vmDeliverS1 (W : Wd) (hW0 : WdOK W) (n a b c : Int) (d : Bs) (rs : List Rg) (hx : WireOK W ⟨1, n, ⟨3, a, b, c, d, rs⟩, true⟩) : FnH Tryz.prog 98 [910, 901, 902, 903, 904, 905, 907, 908, 909] [.ptr 910 0, .ag (av [dI 1, dI n, dI 3, dI a, dI b, dI c, dS d, dL 2 eRg rs, dB true])] [(910, hW W), (901, hL 42 6 eSd W.sends), (902, hL 45 4 eRv W.recvs), (903, hL 9 1 eBs W.got), (904, hL 75 3 eLs W.paths), (905, hL 77 4 eRt W.rtts), (907, hS W.seen), (908, hL 82 6 eCd W.carried), (909, hL 106 9 eWi W.net)] (.tu []) [(910, hW (deliver W ⟨1, n, ⟨3, a, b, c, d, rs⟩, true⟩)), (901, hL 42 6 eSd (deliver W ⟨1, n, ⟨3, a, b, c, d, rs⟩, true⟩).sends), (902, hL 45 4 eRv (deliver W ⟨1, n, ⟨3, a, b, c, d, rs⟩, true⟩).recvs), (903, hL 9 1 eBs (deliver W ⟨1, n, ⟨3, a, b, c, d, rs⟩, true⟩).got), (904, hL 75 3 eLs (deliver W ⟨1, n, ⟨3, a, b, c, d, rs⟩, true⟩).paths), (905, hL 77 4 eRt (deliver W ⟨1, n, ⟨3, a, b, c, d, rs⟩, true⟩).rtts), (907, hS (deliver W ⟨1, n, ⟨3, a, b, c, d, rs⟩, true⟩).seen), (908, hL 82 6 eCd (deliver W ⟨1, n, ⟨3, a, b, c, d, rs⟩, true⟩).carried), (909, hL 106 9 eWi (deliver W ⟨1, n, ⟨3, a, b, c, d, rs⟩, true⟩).net)] := by
 have l1 := hW0.sends; have l2 := hW0.recvs; have l4 := hW0.paths; have l7 := hW0.seen
 have hpath := hx.path
 have hgen := hx.gen
 have hframe := hx.frame
 have hfs := fm_sz hx.frame
 dsimp only at hpath hgen hframe hfs
 obtain ⟨h1, h2⟩ : 0 ≤ n ∧ n ≤ (W.ls 1).next - 1 := by
  rcases hgen rfl with ⟨_, h1, h2, _⟩ | ⟨h, _⟩ | ⟨h, _⟩
  ·exact ⟨h1, h2⟩
  ·exact absurd h (by omega)
  ·exact absurd h (by omega)
 have hf := fm3 hframe rfl
 dsimp only at hf
 have hpt := hW0.pt hpath
 have hrv := (hW0.st hf.1).rv
 have hbl : bl d = (d.length : Int) := rfl
 have hsn : (W.seen.getD 1 default).length ≤ 16 := hpt.sn.1
 have hBd : RgBd (W.seen.getD 1 default) := rgOk_bd hpt.sn.2.1 (Int.le_refl _)
 have hn := hpt.ls.next
 have hH := vmHas (W.seen.getD 1 default) n hBd
 have hS0 : hS W.seen = .blk [.d (dL 2 eRg (W.seen.getD 0 default)), .d (dL 2 eRg (W.seen.getD 1 default)), .d (dL 2 eRg (W.seen.getD 2 default)), .d (dL 2 eRg (W.seen.getD 3 default))] := rfl
 cases hh : hasR (W.seen.getD 1 default) n
 ·rw [hh] at hH
  have hP := vmRecvPut (W.recvs.getD a.toNat default) b d (c == 1) hrv (by omega) (by omega)
  have hA := vmAddedN (W.seen.getD 1 default) n n (by omega) hBd (by omega) (by omega)
  have hE : deliver W ⟨1, n, ⟨3, a, b, c, d, rs⟩, true⟩ = { W with recvs := W.recvs.set a.toNat (rvPut (W.recvs.getD a.toNat default) b d (c == 1)).1, seen := W.seen.set 1 (seenAdd (W.seen.getD 1 default) n) } := by
   rw [show (c == 1) = decide (c = 1) by by_cases h : c = 1 <;> simp [h]]
   have hh' : hasR (W.sn 1) n = false := hh
   unfold deliver
   simp only [hh']
   rfl
  rw [hS0]
  unfold hW
  refine fH Tryz.func98 Tryz.ntmps98 Tryz.results98 ?_
  repeat' (first
   | (apply K.g0; apply K.indexAddr; refine R.op rfl (OT.indexOB 1 rfl rfl rfl rfl rfl (by omega)) rfl ?_)
   | refine stp ?_
   | (apply K.g0; apply K.callF; first | refine chq (F := vmDelRange 67 (addP (W.seen.getD 1 default) n n) 0 (by omega)) (G := ?_) | refine cq (F := hH) (G := ?_))
   | (apply KA.g0; apply KA.callF; first | refine cqa (F := hP) (G := ?_) | refine cna (F := hA) (G := ?_))
   | (refine WC.cond rfl ?_ ?_ <;> intro hb <;> (try have hb' := nrm hb) <;> try (exfalso; omega))
   | (apply K.rg 5; refine wdr [0, 1, 3, 7, 0, 16, 63, 127] 6 [17, 18, 19, 20, 21, 22] [] ?_)
   | (apply K.rg 6; refine wdr [0, 1, 3, 0, 8, 31] 5 [24, 25, 26, 27, 28] [] ?_)
   | (apply K.rg 7; refine WC.drawD (ms := [0, 1, 3, 7, 0, 16, 63, 127, 0, 256, 0, 1024, 0, 4096, 12288, 32767, 65535, 131071, 131071, 0, 786431, 2097151]) 21 [31, 32, 33, 34, 35, 36, 37, 38, 39, 40, 41, 42, 43, 44, 45, 46, 30, 47, 48, 6] [(20, [6])] (by kernel_rfl) (by kernel_rfl) ?_)
   | (apply K.rg 9; refine wdr [0, 1, 3, 7, 0, 16, 0, 127, 255] 7 [51, 52, 53, 54, 55, 56, 57] [] ?_)
   | (apply K.rg 10; refine wdr [0, 0, 2, 6, 0, 16, 0, 64, 254, 511, 1023] 9 [59, 60, 61, 62, 63, 64, 65, 66, 67] [] ?_)
   | refine dcl ?_)
  all_goals rw [hE]; dsimp only
  all_goals first
   | (rw [show seenAdd (W.seen.getD 1 default) n = (addP (W.seen.getD 1 default) n n).eraseIdx 0 from (if_pos (by omega)).trans (seen_drop _)]; skip)
   | (rw [show seenAdd (W.seen.getD 1 default) n = addP (W.seen.getD 1 default) n n from if_neg (by omega)]; skip)
  all_goals rw [hS_set1 l7]
  all_goals first
   | exact rehw0 lP
   | (rw [put_not (by assumption), set_getD_self]; exact rehw0 lP)
 ·rw [hh] at hH
  have hE : deliver W ⟨1, n, ⟨3, a, b, c, d, rs⟩, true⟩ = W := by
   have hh' : hasR (W.sn 1) n = true := hh
   unfold deliver
   simp [hh']
  rw [hE, hS0]
  unfold hW
  refine fH Tryz.func98 Tryz.ntmps98 Tryz.results98 ?_
  repeat' (first
   | (apply K.g0; apply K.indexAddr; refine R.op rfl (OT.indexOB 1 rfl rfl rfl rfl rfl (by omega)) rfl ?_)
   | refine stp ?_
   | (apply K.g0; apply K.callF; refine cq (F := hH) (G := ?_))
   | (apply K.rg 5; refine wdr [0, 1, 3, 7, 0, 16, 63, 127] 6 [17, 18, 19, 20, 21, 22] [] ?_)
   | (apply K.rg 6; refine wdr [0, 1, 3, 0, 8, 31] 5 [24, 25, 26, 27, 28] [] ?_)
   | refine dcl ?_)
  exact rehw0 lP
theorem vmDeliverS2 (W : Wd) (hW0 : WdOK W) (n a b c : Int) (d : Bs) (rs : List Rg) (hx : WireOK W ⟨2, n, ⟨3, a, b, c, d, rs⟩, true⟩) : FnH Tryz.prog 98 [910, 901, 902, 903, 904, 905, 907, 908, 909] [.ptr 910 0, .ag (av [dI 2, dI n, dI 3, dI a, dI b, dI c, dS d, dL 2 eRg rs, dB true])] [(910, hW W), (901, hL 42 6 eSd W.sends), (902, hL 45 4 eRv W.recvs), (903, hL 9 1 eBs W.got), (904, hL 75 3 eLs W.paths), (905, hL 77 4 eRt W.rtts), (907, hS W.seen), (908, hL 82 6 eCd W.carried), (909, hL 106 9 eWi W.net)] (.tu []) [(910, hW (deliver W ⟨2, n, ⟨3, a, b, c, d, rs⟩, true⟩)), (901, hL 42 6 eSd (deliver W ⟨2, n, ⟨3, a, b, c, d, rs⟩, true⟩).sends), (902, hL 45 4 eRv (deliver W ⟨2, n, ⟨3, a, b, c, d, rs⟩, true⟩).recvs), (903, hL 9 1 eBs (deliver W ⟨2, n, ⟨3, a, b, c, d, rs⟩, true⟩).got), (904, hL 75 3 eLs (deliver W ⟨2, n, ⟨3, a, b, c, d, rs⟩, true⟩).paths), (905, hL 77 4 eRt (deliver W ⟨2, n, ⟨3, a, b, c, d, rs⟩, true⟩).rtts), (907, hS (deliver W ⟨2, n, ⟨3, a, b, c, d, rs⟩, true⟩).seen), (908, hL 82 6 eCd (deliver W ⟨2, n, ⟨3, a, b, c, d, rs⟩, true⟩).carried), (909, hL 106 9 eWi (deliver W ⟨2, n, ⟨3, a, b, c, d, rs⟩, true⟩).net)] := by
 have l1 := hW0.sends; have l2 := hW0.recvs; have l4 := hW0.paths; have l7 := hW0.seen
 have hpath := hx.path
 have hgen := hx.gen
 have hframe := hx.frame
 have hfs := fm_sz hx.frame
 dsimp only at hpath hgen hframe hfs
 obtain ⟨h1, h2⟩ : 0 ≤ n ∧ n ≤ (W.ls 2).next - 1 := by
  rcases hgen rfl with ⟨_, h1, h2, _⟩ | ⟨h, _⟩ | ⟨h, _⟩
  ·exact ⟨h1, h2⟩
  ·exact absurd h (by omega)
  ·exact absurd h (by omega)
 have hf := fm3 hframe rfl
 dsimp only at hf
 have hpt := hW0.pt hpath
 have hrv := (hW0.st hf.1).rv
 have hbl : bl d = (d.length : Int) := rfl
 have hsn : (W.seen.getD 2 default).length ≤ 16 := hpt.sn.1
 have hBd : RgBd (W.seen.getD 2 default) := rgOk_bd hpt.sn.2.1 (Int.le_refl _)
 have hn := hpt.ls.next
 have hH := vmHas (W.seen.getD 2 default) n hBd
 have hS0 : hS W.seen = .blk [.d (dL 2 eRg (W.seen.getD 0 default)), .d (dL 2 eRg (W.seen.getD 1 default)), .d (dL 2 eRg (W.seen.getD 2 default)), .d (dL 2 eRg (W.seen.getD 3 default))] := rfl
 cases hh : hasR (W.seen.getD 2 default) n
 ·rw [hh] at hH
  have hP := vmRecvPut (W.recvs.getD a.toNat default) b d (c == 1) hrv (by omega) (by omega)
  have hA := vmAddedN (W.seen.getD 2 default) n n (by omega) hBd (by omega) (by omega)
  have hE : deliver W ⟨2, n, ⟨3, a, b, c, d, rs⟩, true⟩ = { W with recvs := W.recvs.set a.toNat (rvPut (W.recvs.getD a.toNat default) b d (c == 1)).1, seen := W.seen.set 2 (seenAdd (W.seen.getD 2 default) n) } := by
   rw [show (c == 1) = decide (c = 1) by by_cases h : c = 1 <;> simp [h]]
   have hh' : hasR (W.sn 2) n = false := hh
   unfold deliver
   simp only [hh']
   rfl
  rw [hS0]
  unfold hW
  refine fH Tryz.func98 Tryz.ntmps98 Tryz.results98 ?_
  repeat' (first
   | (apply K.g0; apply K.indexAddr; refine R.op rfl (OT.indexOB 2 rfl rfl rfl rfl rfl (by omega)) rfl ?_)
   | refine stp ?_
   | (apply K.g0; apply K.callF; first | refine chq (F := vmDelRange 67 (addP (W.seen.getD 2 default) n n) 0 (by omega)) (G := ?_) | refine cq (F := hH) (G := ?_))
   | (apply KA.g0; apply KA.callF; first | refine cqa (F := hP) (G := ?_) | refine cna (F := hA) (G := ?_))
   | (refine WC.cond rfl ?_ ?_ <;> intro hb <;> (try have hb' := nrm hb) <;> try (exfalso; omega))
   | (apply K.rg 5; refine wdr [0, 1, 3, 7, 0, 16, 63, 127] 6 [17, 18, 19, 20, 21, 22] [] ?_)
   | (apply K.rg 6; refine wdr [0, 1, 3, 0, 8, 31] 5 [24, 25, 26, 27, 28] [] ?_)
   | (apply K.rg 7; refine WC.drawD (ms := [0, 1, 3, 7, 0, 16, 63, 127, 0, 256, 0, 1024, 0, 4096, 12288, 32767, 65535, 131071, 131071, 0, 786431, 2097151]) 21 [31, 32, 33, 34, 35, 36, 37, 38, 39, 40, 41, 42, 43, 44, 45, 46, 30, 47, 48, 6] [(20, [6])] (by kernel_rfl) (by kernel_rfl) ?_)
   | (apply K.rg 9; refine wdr [0, 1, 3, 7, 0, 16, 0, 127, 255] 7 [51, 52, 53, 54, 55, 56, 57] [] ?_)
   | (apply K.rg 10; refine wdr [0, 0, 2, 6, 0, 16, 0, 64, 254, 511, 1023] 9 [59, 60, 61, 62, 63, 64, 65, 66, 67] [] ?_)
   | refine dcl ?_)
  all_goals rw [hE]; dsimp only
  all_goals first
   | (rw [show seenAdd (W.seen.getD 2 default) n = (addP (W.seen.getD 2 default) n n).eraseIdx 0 from (if_pos (by omega)).trans (seen_drop _)]; skip)
   | (rw [show seenAdd (W.seen.getD 2 default) n = addP (W.seen.getD 2 default) n n from if_neg (by omega)]; skip)
  all_goals rw [hS_set2 l7]
  all_goals first
   | exact rehw0 lP
   | (rw [put_not (by assumption), set_getD_self]; exact rehw0 lP)
 ·rw [hh] at hH
  have hE : deliver W ⟨2, n, ⟨3, a, b, c, d, rs⟩, true⟩ = W := by
   have hh' : hasR (W.sn 2) n = true := hh
   unfold deliver
   simp [hh']
  rw [hE, hS0]
  unfold hW
  refine fH Tryz.func98 Tryz.ntmps98 Tryz.results98 ?_
  repeat' (first
   | (apply K.g0; apply K.indexAddr; refine R.op rfl (OT.indexOB 2 rfl rfl rfl rfl rfl (by omega)) rfl ?_)
   | refine stp ?_
   | (apply K.g0; apply K.callF; refine cq (F := hH) (G := ?_))
   | (apply K.rg 5; refine wdr [0, 1, 3, 7, 0, 16, 63, 127] 6 [17, 18, 19, 20, 21, 22] [] ?_)
   | (apply K.rg 6; refine wdr [0, 1, 3, 0, 8, 31] 5 [24, 25, 26, 27, 28] [] ?_)
   | refine dcl ?_)
  exact rehw0 lP
theorem vmDeliverS3 (W : Wd) (hW0 : WdOK W) (n a b c : Int) (d : Bs) (rs : List Rg) (hx : WireOK W ⟨3, n, ⟨3, a, b, c, d, rs⟩, true⟩) : FnH Tryz.prog 98 [910, 901, 902, 903, 904, 905, 907, 908, 909] [.ptr 910 0, .ag (av [dI 3, dI n, dI 3, dI a, dI b, dI c, dS d, dL 2 eRg rs, dB true])] [(910, hW W), (901, hL 42 6 eSd W.sends), (902, hL 45 4 eRv W.recvs), (903, hL 9 1 eBs W.got), (904, hL 75 3 eLs W.paths), (905, hL 77 4 eRt W.rtts), (907, hS W.seen), (908, hL 82 6 eCd W.carried), (909, hL 106 9 eWi W.net)] (.tu []) [(910, hW (deliver W ⟨3, n, ⟨3, a, b, c, d, rs⟩, true⟩)), (901, hL 42 6 eSd (deliver W ⟨3, n, ⟨3, a, b, c, d, rs⟩, true⟩).sends), (902, hL 45 4 eRv (deliver W ⟨3, n, ⟨3, a, b, c, d, rs⟩, true⟩).recvs), (903, hL 9 1 eBs (deliver W ⟨3, n, ⟨3, a, b, c, d, rs⟩, true⟩).got), (904, hL 75 3 eLs (deliver W ⟨3, n, ⟨3, a, b, c, d, rs⟩, true⟩).paths), (905, hL 77 4 eRt (deliver W ⟨3, n, ⟨3, a, b, c, d, rs⟩, true⟩).rtts), (907, hS (deliver W ⟨3, n, ⟨3, a, b, c, d, rs⟩, true⟩).seen), (908, hL 82 6 eCd (deliver W ⟨3, n, ⟨3, a, b, c, d, rs⟩, true⟩).carried), (909, hL 106 9 eWi (deliver W ⟨3, n, ⟨3, a, b, c, d, rs⟩, true⟩).net)] := by
 have l1 := hW0.sends; have l2 := hW0.recvs; have l4 := hW0.paths; have l7 := hW0.seen
 have hpath := hx.path
 have hgen := hx.gen
 have hframe := hx.frame
 have hfs := fm_sz hx.frame
 dsimp only at hpath hgen hframe hfs
 obtain ⟨h1, h2⟩ : 0 ≤ n ∧ n ≤ (W.ls 3).next - 1 := by
  rcases hgen rfl with ⟨_, h1, h2, _⟩ | ⟨h, _⟩ | ⟨h, _⟩
  ·exact ⟨h1, h2⟩
  ·exact absurd h (by omega)
  ·exact absurd h (by omega)
 have hf := fm3 hframe rfl
 dsimp only at hf
 have hpt := hW0.pt hpath
 have hrv := (hW0.st hf.1).rv
 have hbl : bl d = (d.length : Int) := rfl
 have hsn : (W.seen.getD 3 default).length ≤ 16 := hpt.sn.1
 have hBd : RgBd (W.seen.getD 3 default) := rgOk_bd hpt.sn.2.1 (Int.le_refl _)
 have hn := hpt.ls.next
 have hH := vmHas (W.seen.getD 3 default) n hBd
 have hS0 : hS W.seen = .blk [.d (dL 2 eRg (W.seen.getD 0 default)), .d (dL 2 eRg (W.seen.getD 1 default)), .d (dL 2 eRg (W.seen.getD 2 default)), .d (dL 2 eRg (W.seen.getD 3 default))] := rfl
 cases hh : hasR (W.seen.getD 3 default) n
 ·rw [hh] at hH
  have hP := vmRecvPut (W.recvs.getD a.toNat default) b d (c == 1) hrv (by omega) (by omega)
  have hA := vmAddedN (W.seen.getD 3 default) n n (by omega) hBd (by omega) (by omega)
  have hE : deliver W ⟨3, n, ⟨3, a, b, c, d, rs⟩, true⟩ = { W with recvs := W.recvs.set a.toNat (rvPut (W.recvs.getD a.toNat default) b d (c == 1)).1, seen := W.seen.set 3 (seenAdd (W.seen.getD 3 default) n) } := by
   rw [show (c == 1) = decide (c = 1) by by_cases h : c = 1 <;> simp [h]]
   have hh' : hasR (W.sn 3) n = false := hh
   unfold deliver
   simp only [hh']
   rfl
  rw [hS0]
  unfold hW
  refine fH Tryz.func98 Tryz.ntmps98 Tryz.results98 ?_
  repeat' (first
   | (apply K.g0; apply K.indexAddr; refine R.op rfl (OT.indexOB 3 rfl rfl rfl rfl rfl (by omega)) rfl ?_)
   | refine stp ?_
   | (apply K.g0; apply K.callF; first | refine chq (F := vmDelRange 67 (addP (W.seen.getD 3 default) n n) 0 (by omega)) (G := ?_) | refine cq (F := hH) (G := ?_))
   | (apply KA.g0; apply KA.callF; first | refine cqa (F := hP) (G := ?_) | refine cna (F := hA) (G := ?_))
   | (refine WC.cond rfl ?_ ?_ <;> intro hb <;> (try have hb' := nrm hb) <;> try (exfalso; omega))
   | (apply K.rg 5; refine wdr [0, 1, 3, 7, 0, 16, 63, 127] 6 [17, 18, 19, 20, 21, 22] [] ?_)
   | (apply K.rg 6; refine wdr [0, 1, 3, 0, 8, 31] 5 [24, 25, 26, 27, 28] [] ?_)
   | (apply K.rg 7; refine WC.drawD (ms := [0, 1, 3, 7, 0, 16, 63, 127, 0, 256, 0, 1024, 0, 4096, 12288, 32767, 65535, 131071, 131071, 0, 786431, 2097151]) 21 [31, 32, 33, 34, 35, 36, 37, 38, 39, 40, 41, 42, 43, 44, 45, 46, 30, 47, 48, 6] [(20, [6])] (by kernel_rfl) (by kernel_rfl) ?_)
   | (apply K.rg 9; refine wdr [0, 1, 3, 7, 0, 16, 0, 127, 255] 7 [51, 52, 53, 54, 55, 56, 57] [] ?_)
   | (apply K.rg 10; refine wdr [0, 0, 2, 6, 0, 16, 0, 64, 254, 511, 1023] 9 [59, 60, 61, 62, 63, 64, 65, 66, 67] [] ?_)
   | refine dcl ?_)
  all_goals rw [hE]; dsimp only
  all_goals first
   | (rw [show seenAdd (W.seen.getD 3 default) n = (addP (W.seen.getD 3 default) n n).eraseIdx 0 from (if_pos (by omega)).trans (seen_drop _)]; skip)
   | (rw [show seenAdd (W.seen.getD 3 default) n = addP (W.seen.getD 3 default) n n from if_neg (by omega)]; skip)
  all_goals rw [hS_set3 l7]
  all_goals first
   | exact rehw0 lP
   | (rw [put_not (by assumption), set_getD_self]; exact rehw0 lP)
 ·rw [hh] at hH
  have hE : deliver W ⟨3, n, ⟨3, a, b, c, d, rs⟩, true⟩ = W := by
   have hh' : hasR (W.sn 3) n = true := hh
   unfold deliver
   simp [hh']
  rw [hE, hS0]
  unfold hW
  refine fH Tryz.func98 Tryz.ntmps98 Tryz.results98 ?_
  repeat' (first
   | (apply K.g0; apply K.indexAddr; refine R.op rfl (OT.indexOB 3 rfl rfl rfl rfl rfl (by omega)) rfl ?_)
   | refine stp ?_
   | (apply K.g0; apply K.callF; refine cq (F := hH) (G := ?_))
   | (apply K.rg 5; refine wdr [0, 1, 3, 7, 0, 16, 63, 127] 6 [17, 18, 19, 20, 21, 22] [] ?_)
   | (apply K.rg 6; refine wdr [0, 1, 3, 0, 8, 31] 5 [24, 25, 26, 27, 28] [] ?_)
   | refine dcl ?_)
  exact rehw0 lP
end Go.Proofs.YtjbhiglaginpeaaGreat
