/- Plain facts on what a split assigns: no more than there is space, and all that there is space for. No program in sight. -/
import Derived.Test.YtjnplihkagegdaaSplA
namespace Go.Proofs.Ytjnplihkagegdaa

def capOf (l : List Opt) (i : Nat) : Int := if (l.getD i default).act then max ((l.getD i default).win - (l.getD i default).fl) 0 else 0
theorem cap_nonneg (l : List Opt) (i : Nat) : 0 ≤ capOf l i := by unfold capOf; split <;> omega
theorem cap_open {l : List Opt} {i : Nat} (h : (l.getD i default).openB = true) : capOf l i = spaceOf l i ∧ 1 ≤ spaceOf l i := by
  unfold Opt.openB at h
  rw [Bool.and_eq_true, decide_eq_true_eq] at h
  unfold capOf spaceOf
  rw [if_pos h.1]
  omega
theorem cap_shut {l : List Opt} {i : Nat} (h : (l.getD i default).openB = false) : capOf l i = 0 := by
  unfold Opt.openB at h
  unfold capOf
  cases ha : (l.getD i default).act with
  | false => simp
  | true => rw [ha, Bool.true_and, decide_eq_false_iff_not] at h; rw [if_pos rfl]; omega
theorem takeG_bound (l : List Opt) : ∀ (os : List Nat) (n : Nat) (out : List Int), os.Nodup → (∀ j ∈ os, out.getD j 0 = 0 ∧ capOf l j = spaceOf l j ∧ 1 ≤ spaceOf l j) → (∀ j, 0 ≤ out.getD j 0 ∧ out.getD j 0 ≤ capOf l j) →
    ∀ j, 0 ≤ (takeG l os n out).getD j 0 ∧ (takeG l os n out).getD j 0 ≤ capOf l j
  | [], _, _, _, _, h => h
  | i :: t, n, out, hnd, hz, h => by
    rw [List.nodup_cons] at hnd
    have hi := hz i List.mem_cons_self
    rw [takeG]
    refine takeG_bound l t _ _ hnd.2 (fun j hj => ?_) (fun j => ?_)
    · have hji : i ≠ j := fun e => hnd.1 (e ▸ hj)
      have := hz j (List.mem_cons_of_mem _ hj)
      rw [List.getD_eq_getElem?_getD, List.getElem?_set_ne hji, ← List.getD_eq_getElem?_getD]
      exact this
    · by_cases hji : i = j
      · subst hji
        rw [List.getD_eq_getElem?_getD, List.getElem?_set]
        rw [if_pos rfl]
        split
        · rw [Option.getD_some, hi.1]; omega
        · rw [Option.getD_none]; exact ⟨by omega, cap_nonneg l i⟩
      · rw [List.getD_eq_getElem?_getD, List.getElem?_set_ne hji, ← List.getD_eq_getElem?_getD]
        exact h j
theorem zeros_at (n j : Nat) : (zerosI n).getD j 0 = 0 := by
  simp only [zerosI, List.getD_eq_getElem?_getD, List.getElem?_replicate]
  split <;> rfl
theorem splI_bound {l : List Opt} {x : Int} (j : Nat) : 0 ≤ (splI l x).getD j 0 ∧ (splI l x).getD j 0 ≤ capOf l j := by
  unfold splI
  split
  · refine takeG_bound l _ _ _ (order_nodup l) (fun j hj => ⟨zeros_at _ _, ?_⟩) (fun j => ?_) j
    · exact cap_open (order_mem.1 hj).2
    · rw [zeros_at]; exact ⟨Int.le_refl _, cap_nonneg l j⟩
  · exact ⟨by simp, by simpa using cap_nonneg l j⟩
def sumF (f : Nat → Int) : List Nat → Int
  | [] => 0
  | i :: t => f i + sumF f t
theorem sumF_perm {f : Nat → Int} {a b : List Nat} (h : a.Perm b) : sumF f a = sumF f b := by
  induction h with
  | nil => rfl
  | cons x _ ih => simp only [sumF, ih]
  | swap x y l => simp only [sumF]; omega
  | trans _ _ i1 i2 => exact i1.trans i2
theorem sumF_append (f : Nat → Int) (a b : List Nat) : sumF f (a ++ b) = sumF f a + sumF f b := by
  induction a with
  | nil => simp [sumF]
  | cons x xs ih => simp only [List.cons_append, sumF, ih]; omega
theorem foldI_perm (l : List Opt) (D : List Nat) : (foldI l D).Perm D := by
  have : ∀ (D o : List Nat), (D.foldl (insI l) o).Perm (D ++ o) := by
    intro D
    induction D with
    | nil => intro o; exact List.Perm.refl _
    | cons y ys ih =>
      intro o
      have h1 : (insI l o y).Perm (y :: o) := by
        unfold insI
        refine List.perm_middle.trans ?_
        rw [List.take_append_drop]
      exact (ih _).trans ((List.Perm.append_left ys h1).trans List.perm_middle)
  have h := this D []
  rw [List.append_nil] at h
  exact h
theorem sum_order (l : List Opt) : sumF (spaceOf l) (order l) = sumF (capOf l) (List.range l.length) := by
  rw [order_eq, sumF_perm (foldI_perm l _)]
  have : ∀ n, sumF (spaceOf l) (openTo l n) = sumF (capOf l) (List.range n) := by
    intro n
    induction n with
    | zero => rfl
    | succ n ih =>
      unfold openTo at ih ⊢
      rw [List.range_succ, List.filter_append, sumF_append, sumF_append, ih]
      cases ho : (l.getD n default).openB with
      | true =>
        simp only [List.filter_cons, ho, if_true, List.filter_nil, sumF]
        rw [(cap_open ho).1]
      | false =>
        simp only [List.filter_cons, ho, List.filter_nil, sumF, Bool.false_eq_true, if_false]
        rw [cap_shut ho]; omega
  exact this _
def sumTo (L : List Int) (k : Nat) : Int := sumF (fun i => L.getD i 0) (List.range k)
theorem sumTo_succ (L : List Int) (k : Nat) : sumTo L (k + 1) = sumTo L k + L.getD k 0 := by
  unfold sumTo
  rw [List.range_succ, sumF_append]
  simp [sumF]
theorem sumF_congr {f g : Nat → Int} : ∀ (a : List Nat), (∀ x ∈ a, f x = g x) → sumF f a = sumF g a
  | [], _ => rfl
  | x :: xs, h => by simp only [sumF, h x List.mem_cons_self, sumF_congr xs fun y hy => h y (List.mem_cons_of_mem _ hy)]
theorem sumTo_set (L : List Int) (i : Nat) (t : Int) (k : Nat) (hl : i < L.length) : sumTo (L.set i (L.getD i 0 + t)) k = sumTo L k + if i < k then t else 0 := by
  induction k with
  | zero => simp [sumTo, sumF]
  | succ k ih =>
    rw [sumTo_succ, sumTo_succ, ih]
    by_cases h : i = k
    · subst h
      rw [List.getD_eq_getElem?_getD, List.getElem?_set_self hl, Option.getD_some, if_neg (by omega), if_pos (by omega)]
      omega
    · rw [List.getD_eq_getElem?_getD, List.getElem?_set_ne h, ← List.getD_eq_getElem?_getD]
      split <;> split <;> omega
theorem sumTo_take (l : List Opt) : ∀ (os : List Nat) (n : Nat) (out : List Int), (∀ i ∈ os, i < out.length ∧ 0 ≤ spaceOf l i) → sumTo (takeG l os n out) out.length = sumTo out out.length + min (n : Int) (sumF (spaceOf l) os)
  | [], n, out, _ => by simp only [takeG, sumF]; omega
  | i :: t, n, out, h => by
    have hi := h i List.mem_cons_self
    have hs : ∀ (os : List Nat), (∀ i ∈ os, 0 ≤ spaceOf l i) → 0 ≤ sumF (spaceOf l) os := by
      intro os
      induction os with
      | nil => intro _; exact Int.le_refl _
      | cons x xs ih => intro hx; have h1 := hx x List.mem_cons_self; have h2 := ih fun y hy => hx y (List.mem_cons_of_mem _ hy); simp only [sumF]; omega
    have ht := hs t fun j hj => (h j (List.mem_cons_of_mem _ hj)).2
    have ih := sumTo_take l t (n - min n (spaceOf l i).toNat) (out.set i (out.getD i 0 + (min n (spaceOf l i).toNat : Nat))) (fun j hj => by rw [List.length_set]; exact h j (List.mem_cons_of_mem _ hj))
    rw [List.length_set] at ih
    rw [takeG, ih, sumTo_set out i _ _ hi.1, if_pos hi.1, sumF]
    omega
theorem sumTo_zeros (n k : Nat) : sumTo (zerosI n) k = 0 := by
  induction k with
  | zero => rfl
  | succ k ih => rw [sumTo_succ, ih, zeros_at]; rfl
def capTo (l : List Opt) (k : Nat) : Int := sumF (capOf l) (List.range k)
theorem capTo_succ (l : List Opt) (k : Nat) : capTo l (k + 1) = capTo l k + capOf l k := by
  unfold capTo
  rw [List.range_succ, sumF_append]
  simp [sumF]
theorem splI_total {l : List Opt} {N : Nat} (hv : ovB l = true) (hN : N ≤ 256) : (splI l (N : Int)).length = l.length ∧ sumTo (splI l (N : Int)) l.length = min (N : Int) (capTo l l.length) := by
  have hx : withinB (N : Int) 0 256 = true := by simp [withinB]; omega
  unfold splI
  rw [hv, hx, Bool.and_self, if_pos rfl, takeG_len]
  have hz : (zerosI l.length).length = l.length := by simp [zerosI]
  refine ⟨hz, ?_⟩
  have h := sumTo_take l (order l) (N : Int).toNat (zerosI l.length) (fun i hi => by
    have hm := order_mem.1 hi
    rw [hz]
    exact ⟨hm.1, by have := (cap_open hm.2).2; omega⟩)
  rw [hz, sumTo_zeros, sum_order] at h
  rw [h]
  unfold capTo
  omega
end Go.Proofs.Ytjnplihkagegdaa
