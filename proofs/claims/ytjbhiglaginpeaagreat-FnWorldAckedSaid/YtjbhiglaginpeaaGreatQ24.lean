/- Parts of the proof, joined from several texts. No condition. -/
import Derived.Test.YtjbhiglaginpeaaGreatQ20
import Derived.Test.YtjbhiglaginpeaaGreatQ11
import Derived.Test.YtjbhiglaginpeaaGreatQ8
import Derived.Test.YtjbhiglaginpeaaGreatQ21
set_option maxRecDepth 100000
set_option maxHeartbeats 16000000
set_option linter.unusedVariables false
set_option linter.unusedSimpArgs false
namespace Go.Proofs.YtjbhiglaginpeaaGreat
open Go.RowKit
theorem dL_drop1 {l : List Rg} : dL 2 eRg (l.drop 1) = D.sl 2 ((l.length : Int) - 1).toNat (fun i => eRg (l.getD (Int.toNat 1 + i) default)) := by
 unfold dL
 rw [show (l.drop 1).length = ((l.length : Int) - 1).toNat by rw [List.length_drop]; omega]
 congr 1
 funext i
 simp only [List.getD_eq_getElem?_getD, List.getElem?_drop]
 rfl
theorem vl51Deliver (W : Wd) (hW : WdOK W) (x : Wi) (hx : WireOK W x) : FnP Tryz.prog 116 [.ag (av (eWd W)), .ag (av (eWi x))] (.ag (av (eWd (deliver W x)))) := by
 have l1 := hW.sends; have l2 := hW.recvs; have l4 := hW.paths; have l7 := hW.seen
 have hpath := hx.path
 have hgen := hx.gen
 have hframe := hx.frame
 have hfs := fm_sz hx.frame
 obtain ⟨p, n, ⟨k, a, b, c, d, rs⟩, g⟩ := x
 dsimp only at hpath hgen hframe hfs
 change FnP _ _ [.ag (av (eWd W)), .ag (av [dI p, dI n, dI k, dI a, dI b, dI c, dS d, dL 2 eRg rs, dB g])] _
 cases g
 ·skip
  refine fP Tryz.func116 Tryz.ntmps116 Tryz.results116 ?_
  repeat' (first
   | refine stp ?_
   | (apply K.rg 2; refine wdr [0, 1, 3, 7, 15, 31, 63, 127, 255, 511, 255, 1279, 4095, 8191, 255, 16639, 65535, 131071, 262143, 524287] 16 [13, 14, 15, 16, 17, 18, 19, 20, 21, 22, 23, 24, 25, 26, 27, 28] [] ?_)
   | refine dcl ?_)
  rw [show deliver W ⟨p, n, ⟨k, a, b, c, d, rs⟩, false⟩ = W from rfl]; (exact ret1)
 rcases hgen rfl with ⟨rfl, h1, h2, h3, _⟩ | ⟨rfl, h1, h2⟩ | ⟨rfl, h1, h2, h3⟩
 ·have hf := fm3 hframe rfl
  dsimp only at hf
  have hpt := hW.pt hpath
  have hrv := (hW.st hf.1).rv
  have hbl : bl d = (d.length : Int) := rfl
  have hfew : (W.recvs.getD a.toNat default).pieces.length ≤ 1000 := by have := hrv.few; unfold Wd.rv at this; omega
  have hsn : (W.seen.getD p.toNat default).length ≤ 16 := hpt.sn.1
  have hn := hpt.ls.next
  cases hh : hasR (W.sn p) n
  ·have hE : deliver W ⟨p, n, ⟨3, a, b, c, d, rs⟩, true⟩ = { W with recvs := W.recvs.set a.toNat (rvPut (W.recvs.getD a.toNat default) b d (c == 1)).1, seen := W.seen.set p.toNat (seenAdd (W.seen.getD p.toNat default) n) } := by
    rw [show (c == 1) = decide (c = 1) by by_cases h : c = 1 <;> simp [h]]
    unfold deliver
    simp only [hh]
    rfl
   have hH := vl2Has (W.seen.getD p.toNat default) n (by omega)
   rw [show hasR (W.seen.getD p.toNat default) n = false from hh] at hH
   have hP := vl31Put (W.recvs.getD a.toNat default) b d (c == 1) hrv hfew (by omega) (by omega)
   have hA := vl2AddP (W.seen.getD p.toNat default) n n (by omega) hpt.sn.2.1 (Int.le_refl _) (by omega)
   refine fP Tryz.func116 Tryz.ntmps116 Tryz.results116 ?_
   repeat' (first
    | refine stp ?_
    | (apply K.g0; apply K.callF; first | refine chq (F := vl51CopyH W hW.sz) (G := ?_) | refine cq (F := hA) (G := ?_))
    | (apply K.g1; apply K.callF; refine cqt (F := hH) (G := ?_))
    | (apply KA.g0; apply KA.callF; refine cqa (F := hP) (G := ?_))
    | (refine WC.cond rfl ?_ ?_ <;> intro hb <;> (try have hb' := nrm hb) <;> try (exfalso; omega))
    | (apply K.rg 2; refine wdr [0, 1, 3, 7, 15, 31, 63, 127, 255, 511, 255, 1279, 4095, 8191, 255, 16639, 65535, 131071, 262143, 524287] 16 [13, 14, 15, 16, 17, 18, 19, 20, 21, 22, 23, 24, 25, 26, 27, 28] [] ?_)
    | (apply K.rg 12; refine WC.drawD (ms := [0, 1, 0, 4, 15, 31, 0, 64, 0, 256, 0, 1024, 3072, 8191, 16383, 32767, 32767, 0, 196607, 524287]) 19 [68, 69, 70, 71, 72, 73, 74, 75, 76, 77, 78, 79, 80, 81, 67, 82, 83, 7] [(18, [7])] (by kernel_rfl) (by kernel_rfl) ?_)
    | (apply K.rg 14; refine wdr [0, 1, 0, 4, 15, 31, 0, 64, 0, 256, 1023, 2047] 10 [90, 91, 92, 93, 94, 95, 96, 97, 98, 99] [] ?_)
    | refine dcl ?_)
   ·rw [hE, show seenAdd (W.seen.getD p.toNat default) n = (addP (W.seen.getD p.toNat default) n n).drop 1 from if_pos (by omega)]
    refine RetG.mk1 (ResV.cells rfl rfl rfl) ?_
    repeat' (first | exact LeVs.nil | exact LeV.dd | exact LeV.sc rfl | exact LeV.f0 rfl | exact LeV.f1 rfl (by simp) (fun _ _ => set_get2 (by omega) rfl) | exact LeV.f1 rfl (by simp) (fun _ _ => set_get2 (by omega) (congrArg (fun x => [x]) dL_drop1)) | refine LeVs.cons ?_ ?_ | refine LeV.ag ?_)
   ·rw [hE, show seenAdd (W.seen.getD p.toNat default) n = addP (W.seen.getD p.toNat default) n n from if_neg (by omega)]; (exact ret1)
  ·have hE : deliver W ⟨p, n, ⟨3, a, b, c, d, rs⟩, true⟩ = W := by
    unfold deliver
    simp [hh]
   have hH := vl2Has (W.seen.getD p.toNat default) n (by omega)
   rw [show hasR (W.seen.getD p.toNat default) n = true from hh] at hH
   rw [hE]
   refine fP Tryz.func116 Tryz.ntmps116 Tryz.results116 ?_
   repeat' (first
    | refine stp ?_
    | (apply K.g1; apply K.callF; refine cqt (F := hH) (G := ?_))
    | (apply K.rg 2; refine wdr [0, 1, 3, 7, 15, 31, 63, 127, 255, 511, 255, 1279, 4095, 8191, 255, 16639, 65535, 131071, 262143, 524287] 16 [13, 14, 15, 16, 17, 18, 19, 20, 21, 22, 23, 24, 25, 26, 27, 28] [] ?_)
    | refine dcl ?_)
   (exact ret1)
 ·have hf := fm4 hframe rfl
  dsimp only at hf
  have hE : deliver W ⟨p, n, ⟨4, a, b, c, d, rs⟩, true⟩ = { W with sends := W.sends.set a.toNat { W.sends.getD a.toNat default with limit := max (W.sends.getD a.toNat default).limit b } } := by
   unfold deliver
   simp [Wd.sd]
  rw [hE]
  refine fP Tryz.func116 Tryz.ntmps116 Tryz.results116 ?_
  repeat' (first
   | refine stp ?_
   | (apply K.g0; apply K.callF; refine chq (F := vl51CopyH W hW.sz) (G := ?_))
   | (apply K.rg 2; refine wdr [0, 1, 3, 7, 15, 31, 63, 127, 255, 511, 255, 1279, 4095, 8191, 255, 16639, 65535, 131071, 262143, 524287] 16 [13, 14, 15, 16, 17, 18, 19, 20, 21, 22, 23, 24, 25, 26, 27, 28] [] ?_)
   | refine dcl ?_)
  (exact ret1)
 ·have hf := fm2 hframe rfl
  dsimp only at hf
  have hE : deliver W ⟨p, n, ⟨2, a, b, c, d, rs⟩, true⟩ = doAck W a rs := by
   unfold deliver
   simp
  rw [hE]
  obtain ⟨q, rfl⟩ : ∃ q : Nat, a = (q : Int) := ⟨a.toNat, by omega⟩
  have hA := vl51Acked W hW q (by omega) rs ⟨hf.2.2.2, h2, h3⟩ (by omega)
  refine fP Tryz.func116 Tryz.ntmps116 Tryz.results116 ?_
  repeat' (first
   | refine stp ?_
   | (apply K.g0; apply K.callF; refine cq (F := hA) (G := ?_))
   | (apply K.rg 2; refine wdr [0, 1, 3, 7, 15, 31, 63, 127, 255, 511, 255, 1279, 4095, 8191, 255, 16639, 65535, 131071, 262143, 524287] 16 [13, 14, 15, 16, 17, 18, 19, 20, 21, 22, 23, 24, 25, 26, 27, 28] [] ?_)
   | refine dcl ?_)
  (exact ret1)
theorem remY_snoc {l : List Rg} {i : Nat} {lo hi : Int} (h : i < l.length) : remP (l.take (i + 1)) lo hi = remP (l.take i) lo hi ++ remOne (l.getD i default) lo hi := by
 rw [take_snoc h]; unfold remP; simp
theorem rem_00 {r : Rg} {lo hi : Int} (h : ¬ r.lo < lo) (h2 : ¬ r.hi > hi) : remOne r lo hi = [] := by unfold remOne; rw [if_neg h, if_neg (by omega)]; rfl
theorem rem_10 {r : Rg} {lo hi : Int} (h : r.lo < lo) (h2 : ¬ r.hi > hi) : remOne r lo hi = [⟨r.lo, min r.hi (lo - 1)⟩] := by unfold remOne; rw [if_pos h, if_neg (by omega)]; rfl
theorem rem_01 {r : Rg} {lo hi : Int} (h : ¬ r.lo < lo) (h2 : r.hi > hi) : remOne r lo hi = [⟨max r.lo (hi + 1), r.hi⟩] := by unfold remOne; rw [if_neg h, if_pos (by omega)]; rfl
theorem rem_11 {r : Rg} {lo hi : Int} (h : r.lo < lo) (h2 : r.hi > hi) : remOne r lo hi = [⟨r.lo, min r.hi (lo - 1)⟩, ⟨max r.lo (hi + 1), r.hi⟩] := by unfold remOne; rw [if_pos h, if_pos (by omega)]; rfl
theorem remY_len (l : List Rg) (lo hi : Int) : (remP l lo hi).length ≤ 2 * l.length := by
 induction l with
 | nil => simp [remP]
 | cons r t ih =>
   have : remP (r :: t) lo hi = remOne r lo hi ++ remP t lo hi := rfl
   rw [this, List.length_append, List.length_cons]
   have h2 : (remOne r lo hi).length ≤ 2 := by unfold remOne; split <;> split <;> simp
   omega
theorem vmRemoved (l : List Rg) (lo hi : Int) (h : l.length ≤ 1000000) (hlo : -1000000 ≤ lo ∧ lo ≤ 1000000) (hhi : -1000000 ≤ hi ∧ hi ≤ 1000000) : FnP Tryz.prog 145 [.d (dL 2 eRg l), aI lo, aI hi] (.d (dL 2 eRg (remP l lo hi))) := by
 refine fP Tryz.func145 Tryz.ntmps145 Tryz.results145 ?_
 repeat' (first
  | refine stp ?_
  | fail)
 refine WC.loop (fun k s => ∃ (i : Nat) (A : List Rg), k + i = l.length ∧ A = remP (l.take i) lo hi ∧ s = ⟨⟨48, []⟩, [(1, aI lo), (2, aI hi), (7, .own 700 A.length), (10, .d (dL 2 eRg l)), (11, aI l.length), (12, aI (i : Nat))], [(700, hL 116 2 eRg A)]⟩) l.length ⟨0, [], rfl, rfl, rfl⟩ (imp (look [])) ?_
 rintro k s ⟨i, A, hk, hA, rfl⟩
 have hln : A.length ≤ 2 * i := by rw [hA]; exact Nat.le_trans (remY_len _ _ _) (by rw [List.length_take]; omega)
 have hS : i < l.length → remP (l.take (i + 1)) lo hi = A ++ remOne (l.getD i default) lo hi := fun h => by rw [hA]; exact remY_snoc h
 repeat' (first
  | refine stp ?_
  | (refine WC.cond rfl ?_ ?_ <;> intro hb <;> (try have hb' := nrm hb) <;> try (exfalso; omega)))
 all_goals first
  | (obtain rfl : i = l.length := (by omega)
     rw [List.take_of_length_le (Nat.le_refl _)] at hA
     rw [← hA]; (exact ret1))
  | (refine loopQ.n (k - 1) _ (by omega) ⟨i + 1, A ++ [⟨(l.getD i default).lo, min (l.getD i default).hi (lo - 1)⟩] ++ [⟨max (l.getD i default).lo (hi + 1), (l.getD i default).hi⟩], by omega, by rw [hS (by omega), rem_11 (by assumption) (by assumption)]; simp, rfl⟩ (imp (look [(700, 45)])); done)
  | (refine loopQ.n (k - 1) _ (by omega) ⟨i + 1, A ++ [⟨(l.getD i default).lo, min (l.getD i default).hi (lo - 1)⟩], by omega, by rw [hS (by omega), rem_10 (by assumption) (by assumption)], rfl⟩ (imp (look [(700, 30)])); done)
  | (refine loopQ.n (k - 1) _ (by omega) ⟨i + 1, A ++ [⟨max (l.getD i default).lo (hi + 1), (l.getD i default).hi⟩], by omega, by rw [hS (by omega), rem_01 (by assumption) (by assumption)], rfl⟩ (imp (look [(700, 45)])); done)
  | (refine loopQ.n (k - 1) _ (by omega) ⟨i + 1, A, by omega, by rw [hS (by omega), rem_00 (by assumption) (by assumption), List.append_nil], rfl⟩ (imp (look [(700, 700)])); done)
theorem cat_insG {α : Type} [Inhabited α] {e : α → List D} {A L : List α} {x : α} {m k j' : Nat} {row : List D} (hr : e x = row) (hk : k = j') : catF (A.length + 1) (catF A.length (fun i => e (A.getD i default)) (fun _ => row)) (fun i => e (L.getD (k + i) default)) m = e ((A ++ x :: L.drop j').getD m default) := by
 subst hr hk
 have e' : A ++ x :: L.drop k = (A ++ [x]) ++ L.drop k := by simp
 rw [e', ← cat_app (e := e)]
 unfold catF
 rw [show (A ++ [x]).length = A.length + 1 by simp]
 by_cases h : m < A.length + 1
 ·rw [if_pos h, if_pos h]
  have := cat_snoc (e := e) (l := A) (p := x) h
  unfold catF at this
  exact this
 ·rw [if_neg h, if_neg h]
  simp only [List.getD_eq_getElem?_getD, List.getElem?_drop]
def addA (l : List Rg) (lo : Int) (i : Nat) : Prop := ∀ j, j < i → (l.getD j default).hi + 1 < lo
theorem addP_pre : ∀ {l : List Rg} {lo hi : Int} {i : Nat}, i ≤ l.length → addA l lo i → addP l lo hi = l.take i ++ addP (l.drop i) lo hi
 | l, lo, hi, 0, _, _ => by simp
 | [], _, _, i + 1, h, _ => by simp at h
 | r :: t, lo, hi, i + 1, h, ha => by
   have h0 : r.hi + 1 < lo := ha 0 (by omega)
   have e : addP (r :: t) lo hi = r :: addP t lo hi := by rw [addP]; exact if_pos h0
   rw [e, List.take_succ_cons, List.drop_succ_cons, List.cons_append]
   rw [addP_pre (i := i) (by simpa using h) (fun j hj => by have := ha (j + 1) (by omega); simpa using this)]
theorem addP_stop {l : List Rg} {lo hi : Int} (h : ∀ r ∈ l.head?, ¬ r.hi + 1 < lo) : addP l lo hi = addM l lo hi := by
 cases l with
 | nil => rfl
 | cons r t => rw [addP]; exact if_neg (h r rfl)
theorem addM_step {r : Rg} {t : List Rg} {lo hi : Int} (h : r.lo ≤ hi + 1) : addM (r :: t) lo hi = addM t (min lo r.lo) (max hi r.hi) := by rw [addM]; exact if_pos h
theorem addM_stop {l : List Rg} {lo hi : Int} (h : ∀ r ∈ l.head?, ¬ r.lo ≤ hi + 1) : addM l lo hi = ⟨lo, hi⟩ :: l := by
 cases l with
 | nil => rfl
 | cons r t => rw [addM]; exact if_neg (h r rfl)
theorem vmAdded (l : List Rg) (lo hi : Int) (h : l.length ≤ 1000000) (hb : RgBd l) (hlo : -1000000 ≤ lo ∧ lo ≤ 1000000) (hhi : -1000000 ≤ hi ∧ hi ≤ 1000000) : FnP Tryz.prog 138 [.d (dL 2 eRg l), aI lo, aI hi] (.d (dL 2 eRg (addP l lo hi))) := by
 have hbi : ∀ i, i < l.length → _ := fun i h => hb (l.getD i default) (getD_mem' h)
 refine fP Tryz.func138 Tryz.ntmps138 Tryz.results138 ?_
 repeat' (first
  | refine stp ?_
  | fail)
 refine WC.loop (fun k s => ∃ (i : Nat) (A : List Rg), k + i = l.length ∧ addA l lo i ∧ A = l.take i ∧ s = ⟨⟨73, []⟩, [(0, .d (dL 2 eRg l)), (1, aI lo), (2, aI hi), (7, .own 700 A.length), (8, aI (i : Nat))], [(700, hL 116 2 eRg A)]⟩) l.length ⟨0, [], rfl, fun j hj => absurd hj (Nat.not_lt_zero j), rfl, rfl⟩ (imp (look [])) ?_
 rintro k s ⟨i, A, hk, ha, hA, rfl⟩
 have lA : A.length = i := by rw [hA, List.length_take]; omega
 have hbi' := hbi i
 repeat' (first
  | refine stp ?_
  | (refine R.gS rfl rfl rfl ?_ ?_ <;> intro hb <;> (try have hb' := nrm hb) <;> try (exfalso; omega))
  | (refine WC.cond rfl ?_ ?_ <;> intro hb <;> (try have hb' := nrm hb) <;> try (exfalso; omega)))
 all_goals first
  | (refine loopQ.n (k - 1) _ (by omega) ⟨i + 1, A ++ [l.getD i default], by omega, fun j hj => (Nat.lt_succ_iff_lt_or_eq.1 hj).elim (ha j) (fun e => by rw [e]; omega), by rw [take_snoc (by omega), hA], rfl⟩ (imp (look [(700, 31)])); done)
  | skip
 all_goals
  have hP : addP l lo hi = A ++ addM (l.drop i) lo hi := by
   rw [addP_pre (i := i) (by omega) ha, ← hA, addP_stop (fun r hr => ?_)]
   rw [List.head?_drop] at hr
   have hi : i < l.length := (List.getElem?_eq_some_iff.1 hr).1
   have e : l.getD i default = r := by rw [List.getD_eq_getElem?_getD, Option.mem_def.1 hr]; rfl
   rw [← e]
   omega
  rw [hP]
  clear hP ha hbi'
  have hil : i ≤ l.length := by omega
  refine WC.loop (fun k s => ∃ (j : Nat) (x y : Int), k + j = l.length ∧ addM (l.drop i) lo hi = addM (l.drop j) x y ∧ ((-1000000 ≤ x ∧ x ≤ 1000000) ∧ (-1000000 ≤ y ∧ y ≤ 1000000)) ∧ s = ⟨⟨73, []⟩, [(0, .d (dL 2 eRg l)), (1, aI x), (2, aI y), (7, .own 700 A.length), (8, aI (j : Nat))], [(700, hL 116 2 eRg A)]⟩) (l.length - i) ⟨i, lo, hi, by omega, rfl, ⟨hlo, hhi⟩, rfl⟩ (imp (look [(700, 700)])) ?_
  rintro k s ⟨j, x, y, hk, hM, hbd, rfl⟩
  have hbj := hbi j
  have hS : j < l.length → l.drop j = l.getD j default :: l.drop (j + 1) := fun h => by
   rw [List.drop_eq_getElem_cons h, List.getD_eq_getElem?_getD, List.getElem?_eq_getElem h]; rfl
  repeat' (first
   | (apply K.rg 8; refine WC.quiet (by kernel_rfl) (by kernel_rfl) ?_)
   | (first | apply WQ.nil | refine RQ.op (OTp.move rfl rfl rfl rfl) rfl ?_ | refine RQ.op (OTp.assign rfl rfl rfl rfl) rfl ?_ | refine RQ.op (OTp.load1D rfl rfl rfl rfl rfl) rfl ?_ | refine RQ.op (OTp.fieldAddrD rfl rfl rfl rfl) rfl ?_ | refine RQ.op (OTp.indexDz rfl rfl rfl rfl rfl _ rfl (by omega)) rfl ?_ | refine RQ.op (OTp.min2 rfl rfl rfl rfl rfl) rfl ?_ | refine RQ.op (OTp.max2 rfl rfl rfl rfl rfl) rfl ?_)
   | refine stp ?_
   | (refine R.gS rfl rfl rfl ?_ ?_ <;> intro hb <;> (try have hb' := nrm hb) <;> try (exfalso; omega))
   | (refine WC.cond rfl ?_ ?_ <;> intro hb <;> (try have hb' := nrm hb) <;> try (exfalso; omega)))
  all_goals first
   | (refine loopQ.n (k - 1) _ (by omega) ⟨j + 1, min x (l.getD j default).lo, max y (l.getD j default).hi, by omega, by rw [hM, hS (by omega), addM_step (by omega)], by omega, rfl⟩ (imp (look [(700, 700)])); done)
   | (have hE : addM (l.drop j) x y = ⟨x, y⟩ :: l.drop j := addM_stop (fun r hr => by
       rw [List.head?_drop] at hr
       have hj : j < l.length := (List.getElem?_eq_some_iff.1 hr).1
       have e : l.getD j default = r := by rw [List.getD_eq_getElem?_getD, Option.mem_def.1 hr]; rfl
       rw [← e]
       omega)
      rw [hM, hE]
      refine RetG.mk1 (ResV.tmp rfl) ?_
      exact LeV.f1 rfl (by simp only [List.length_append, List.length_cons, List.length_drop]; omega) (fun _ _ => cat_insG rfl rfl))
end Go.Proofs.YtjbhiglaginpeaaGreat
