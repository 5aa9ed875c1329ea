/- Parts of the proof, joined from several texts. No condition. -/
import Derived.Test.YtjbhiglaginpeaaGreatQ24
import Derived.Test.YtjbhiglaginpeaaGreatQ2
set_option maxRecDepth 100000
set_option maxHeartbeats 16000000
set_option linter.unusedVariables false
set_option linter.unusedSimpArgs false
namespace Go.Proofs.YtjbhiglaginpeaaGreat
open Go.RowKit
theorem vmAddedN (l : List Rg) (lo hi : Int) (h : l.length ≤ 1000000) (hb : RgBd l) (hlo : -1000000 ≤ lo ∧ lo ≤ 1000000) (hhi : -1000000 ≤ hi ∧ hi ≤ 1000000) : FnH Tryz.prog 138 [] [.d (dL 2 eRg l), aI lo, aI hi] [] (.own 900 (addP l lo hi).length) [(900, hL 116 2 eRg (addP l lo hi))] := by
 have hbi : ∀ i, i < l.length → _ := fun i h => hb (l.getD i default) (getD_mem' h)
 refine fH Tryz.func138 Tryz.ntmps138 Tryz.results138 ?_
 repeat' (first
  | refine stp ?_
  | fail)
 refine WC.loop (fun k s => ∃ (i : Nat) (A : List Rg), k + i = l.length ∧ addA l lo i ∧ A = l.take i ∧ s = ⟨⟨73, []⟩, [(0, .d (dL 2 eRg l)), (1, aI lo), (2, aI hi), (7, .own 700 A.length), (8, aI (i : Nat))], [(700, hL 116 2 eRg A)]⟩) l.length ⟨0, [], rfl, fun j hj => absurd hj (Nat.not_lt_zero j), rfl, rfl⟩ (imp (look [])) ?_
 rintro k s ⟨i, A, hk, ha, hA, rfl⟩
 have lA : A.length = i := by rw [hA, List.length_take]; omega
 have hbi' := hbi i
 repeat' (first
  | refine stp ?_
  | (refine R.gS rfl rfl rfl ?_ ?_ <;> intro hb <;> (try have hb' := nrm hb) <;> try (exfalso; omega))
  | (refine WC.cond rfl ?_ ?_ <;> intro hb <;> (try have hb' := nrm hb) <;> try (exfalso; omega)))
 all_goals first
  | (refine loopQ.n (k - 1) _ (by omega) ⟨i + 1, A ++ [l.getD i default], by omega, fun j hj => (Nat.lt_succ_iff_lt_or_eq.1 hj).elim (ha j) (fun e => by rw [e]; omega), by rw [take_snoc (by omega), hA], rfl⟩ (imp (look [(700, 31)])); done)
  | skip
 all_goals
  have hP : addP l lo hi = A ++ addM (l.drop i) lo hi := by
   rw [addP_pre (i := i) (by omega) ha, ← hA, addP_stop (fun r hr => ?_)]
   rw [List.head?_drop] at hr
   have hi : i < l.length := (List.getElem?_eq_some_iff.1 hr).1
   have e : l.getD i default = r := by rw [List.getD_eq_getElem?_getD, Option.mem_def.1 hr]; rfl
   rw [← e]
   omega
  rw [hP]
  clear hP ha hbi'
  have hil : i ≤ l.length := by omega
  refine WC.loop (fun k s => ∃ (j : Nat) (x y : Int), k + j = l.length ∧ addM (l.drop i) lo hi = addM (l.drop j) x y ∧ ((-1000000 ≤ x ∧ x ≤ 1000000) ∧ (-1000000 ≤ y ∧ y ≤ 1000000)) ∧ s = ⟨⟨73, []⟩, [(0, .d (dL 2 eRg l)), (1, aI x), (2, aI y), (7, .own 700 A.length), (8, aI (j : Nat))], [(700, hL 116 2 eRg A)]⟩) (l.length - i) ⟨i, lo, hi, by omega, rfl, ⟨hlo, hhi⟩, rfl⟩ (imp (look [(700, 700)])) ?_
  rintro k s ⟨j, x, y, hk, hM, hbd, rfl⟩
  have hbj := hbi j
  have hS : j < l.length → l.drop j = l.getD j default :: l.drop (j + 1) := fun h => by
   rw [List.drop_eq_getElem_cons h, List.getD_eq_getElem?_getD, List.getElem?_eq_getElem h]; rfl
  repeat' (first
   | (apply K.rg 8; refine WC.quiet (by kernel_rfl) (by kernel_rfl) ?_)
   | (first | apply WQ.nil | refine RQ.op (OTp.move rfl rfl rfl rfl) rfl ?_ | refine RQ.op (OTp.assign rfl rfl rfl rfl) rfl ?_ | refine RQ.op (OTp.load1D rfl rfl rfl rfl rfl) rfl ?_ | refine RQ.op (OTp.fieldAddrD rfl rfl rfl rfl) rfl ?_ | refine RQ.op (OTp.indexDz rfl rfl rfl rfl rfl _ rfl (by omega)) rfl ?_ | refine RQ.op (OTp.min2 rfl rfl rfl rfl rfl) rfl ?_ | refine RQ.op (OTp.max2 rfl rfl rfl rfl rfl) rfl ?_)
   | refine stp ?_
   | (refine R.gS rfl rfl rfl ?_ ?_ <;> intro hb <;> (try have hb' := nrm hb) <;> try (exfalso; omega))
   | (refine WC.cond rfl ?_ ?_ <;> intro hb <;> (try have hb' := nrm hb) <;> try (exfalso; omega)))
  all_goals first
   | (refine loopQ.n (k - 1) _ (by omega) ⟨j + 1, min x (l.getD j default).lo, max y (l.getD j default).hi, by omega, by rw [hM, hS (by omega), addM_step (by omega)], by omega, rfl⟩ (imp (look [(700, 700)])); done)
   | (have hE : addM (l.drop j) x y = ⟨x, y⟩ :: l.drop j := addM_stop (fun r hr => by
       rw [List.head?_drop] at hr
       have hj : j < l.length := (List.getElem?_eq_some_iff.1 hr).1
       have e : l.getD j default = r := by rw [List.getD_eq_getElem?_getD, Option.mem_def.1 hr]; rfl
       rw [← e]
       omega)
      rw [hM, hE]
      exact RetHG.mk1 (look [(900, 72)]) (ResV.tmp rfl) (LeV.own rfl (by simp only [List.length_append, List.length_cons, List.length_drop]; omega)) (LeH.arr rfl rfl (by simp only [List.length_append, List.length_cons, List.length_drop]; omega) (fun m _ => cat_insG rfl rfl) LeH.nil) rfl rfl)
end Go.Proofs.YtjbhiglaginpeaaGreat
