/- Plain facts on the order and on the two ways to split packets: packet by packet, and path by path. No program in sight. -/
import Derived.Test.YtjnplihkagegdaaSchE
namespace Go.Proofs.Ytjnplihkagegdaa

def spaceOf (l : List Opt) (i : Nat) : Int := (l.getD i default).win - (l.getD i default).fl
def SortedO (l : List Opt) (out : List Nat) : Prop := out.Pairwise fun a b => rttOf l a ≤ rttOf l b
theorem posI_before (l : List Opt) (out : List Nat) (i : Nat) (hs : SortedO l out) : ∀ k, k ≤ out.length → ∀ x ∈ out.take (posI l out i k), rttOf l x ≤ rttOf l i
  | 0, _, x, hx => by simp [posI] at hx
  | k + 1, hk, x, hx => by
    unfold posI at hx
    split at hx
    · exact posI_before l out i hs k (by omega) x hx
    · rename_i hle
      have hk' : k < out.length := by omega
      have hg : out.getD k 0 = out[k] := by rw [List.getD_eq_getElem?_getD, List.getElem?_eq_getElem hk']; rfl
      rw [hg] at hle
      obtain ⟨j, hj, e⟩ := List.getElem_of_mem hx
      rw [List.getElem_take] at e
      rw [List.length_take] at hj
      rcases Nat.lt_or_ge j k with hjk | hjk
      · have := List.pairwise_iff_getElem.1 hs j k (by omega) hk' hjk
        rw [← e]; omega
      · have : j = k := by omega
        subst this
        rw [← e]; omega
theorem posI_behind (l : List Opt) (out : List Nat) (i : Nat) : ∀ k, k ≤ out.length → ∀ j, posI l out i k ≤ j → j < k → ∀ (h : j < out.length), rttOf l i < rttOf l out[j]
  | 0, _, j, _, h, _ => by omega
  | k + 1, hk, j, hj, hjk, h => by
    unfold posI at hj
    split at hj
    · rename_i hgt
      rcases Nat.lt_or_ge j k with hlt | hge
      · exact posI_behind l out i k (by omega) j hj hlt h
      · have : j = k := by omega
        subst this
        have hg : out.getD j 0 = out[j] := by rw [List.getD_eq_getElem?_getD, List.getElem?_eq_getElem h]; rfl
        rw [hg] at hgt
        exact hgt
    · omega
theorem insI_filter (l : List Opt) (out : List Nat) (i : Nat) (hs : SortedO l out) :
    insI l out i = out.filter (fun x => decide (rttOf l x ≤ rttOf l i)) ++ i :: out.filter (fun x => decide (rttOf l i < rttOf l x)) := by
  unfold insI
  have hp := posI_le l out i out.length
  obtain ⟨p, hpd⟩ : ∃ p, p = posI l out i out.length := ⟨_, rfl⟩
  have h1 := posI_before l out i hs out.length (Nat.le_refl _)
  have h2 := posI_behind l out i out.length (Nat.le_refl _)
  rw [← hpd] at h1 h2 hp ⊢
  have e1 : ∀ x ∈ out.drop p, rttOf l i < rttOf l x := fun x hx => by
    obtain ⟨j, hj, e⟩ := List.getElem_of_mem hx
    rw [List.getElem_drop] at e
    rw [List.length_drop] at hj
    rw [← e]
    exact h2 (p + j) (by omega) (by omega) (by omega)
  conv => rhs; rw [← List.take_append_drop p out]
  rw [List.filter_append, List.filter_append]
  rw [List.filter_eq_self.2 (fun x hx => by simpa using h1 x hx), List.filter_eq_nil_iff.2 (fun x hx => by have := e1 x hx; simp; omega),
    List.filter_eq_nil_iff.2 (fun x hx => by have := h1 x hx; simp; omega), List.filter_eq_self.2 (fun x hx => by simpa using e1 x hx)]
  simp
theorem insI_sorted (l : List Opt) (out : List Nat) (i : Nat) (hs : SortedO l out) : SortedO l (insI l out i) := by
  rw [insI_filter l out i hs]
  unfold SortedO at *
  rw [List.pairwise_append]
  refine ⟨hs.filter _, ?_, ?_⟩
  · rw [List.pairwise_cons]
    exact ⟨fun x hx => by simp at hx; omega, hs.filter _⟩
  · intro a ha b hb
    simp only [List.mem_filter, decide_eq_true_eq, List.mem_cons] at ha hb
    rcases hb with rfl | hb
    · exact ha.2
    · omega
theorem insI_keep (l : List Opt) (out : List Nat) (i : Nat) (hs : SortedO l out) (q : Nat → Bool) (hq : q i = true) : (insI l out i).filter q = insI l (out.filter q) i := by
  rw [insI_filter l out i hs, insI_filter l (out.filter q) i (hs.filter q), List.filter_append, List.filter_cons, if_pos hq, List.filter_filter, List.filter_filter, List.filter_filter, List.filter_filter]
  simp only [Bool.and_comm]
theorem insI_skip (l : List Opt) (out : List Nat) (i : Nat) (q : Nat → Bool) (hq : q i = false) : (insI l out i).filter q = out.filter q := by
  unfold insI
  rw [List.filter_append, List.filter_cons, if_neg (by rw [hq]; simp), ← List.filter_append, List.take_append_drop]
theorem foldI_sorted (l : List Opt) (D : List Nat) : SortedO l (foldI l D) := by
  have : ∀ (D o : List Nat), SortedO l o → SortedO l (D.foldl (insI l) o) := by
    intro D
    induction D with
    | nil => intro o h; exact h
    | cons x xs ih => intro o h; exact ih _ (insI_sorted l o x h)
  exact this D [] List.Pairwise.nil
theorem foldI_filter (l : List Opt) (q : Nat → Bool) (D : List Nat) : (foldI l D).filter q = foldI l (D.filter q) := by
  have : ∀ (D o : List Nat), SortedO l o → (D.foldl (insI l) o).filter q = (D.filter q).foldl (insI l) (o.filter q) := by
    intro D
    induction D with
    | nil => intro o h; rfl
    | cons x xs ih =>
      intro o h
      rw [List.foldl_cons, ih _ (insI_sorted l o x h), List.filter_cons]
      cases hq : q x with
      | true => rw [if_pos rfl, List.foldl_cons, insI_keep l o x h q hq]
      | false => rw [if_neg (by simp), insI_skip l o x q hq]
  exact this D [] List.Pairwise.nil
theorem mem_foldI (l : List Opt) (D : List Nat) (x : Nat) : x ∈ foldI l D ↔ x ∈ D := by
  have mem1 : ∀ (o : List Nat) (i : Nat), x ∈ insI l o i ↔ x = i ∨ x ∈ o := by
    intro o i
    unfold insI
    rw [List.mem_append, List.mem_cons]
    conv => rhs; rw [← List.take_append_drop (posI l o i o.length) o, List.mem_append]
    constructor
    · rintro (h | h | h)
      · exact .inr (.inl h)
      · exact .inl h
      · exact .inr (.inr h)
    · rintro (h | h | h)
      · exact .inr (.inl h)
      · exact .inl h
      · exact .inr (.inr h)
  have : ∀ (D o : List Nat), x ∈ D.foldl (insI l) o ↔ x ∈ D ∨ x ∈ o := by
    intro D
    induction D with
    | nil => intro o; simp
    | cons y ys ih =>
      intro o
      rw [List.foldl_cons, ih, mem1, List.mem_cons]
      constructor
      · rintro (h | h | h) <;> simp [h]
      · rintro ((h | h) | h) <;> simp [h]
  have h := this D []
  simpa [foldI] using h
theorem foldI_nodup (l : List Opt) (D : List Nat) (h : D.Nodup) : (foldI l D).Nodup := by
  have nd1 : ∀ (o : List Nat) (i : Nat), o.Nodup → i ∉ o → (insI l o i).Nodup := by
    intro o i ho hi
    unfold insI
    have hp : (o.take (posI l o i o.length) ++ i :: o.drop (posI l o i o.length)).Perm (i :: o) := by
      refine List.perm_middle.trans ?_
      rw [List.take_append_drop]
    rw [hp.nodup_iff, List.nodup_cons]
    exact ⟨hi, ho⟩
  have : ∀ (D o : List Nat), o.Nodup → D.Nodup → (∀ x ∈ D, x ∉ o) → (D.foldl (insI l) o).Nodup := by
    intro D
    induction D with
    | nil => intro o h _ _; exact h
    | cons y ys ih =>
      intro o ho hd hx
      rw [List.nodup_cons] at hd
      refine ih _ (nd1 o y ho (hx y List.mem_cons_self)) hd.2 fun z hz hz' => ?_
      unfold insI at hz'
      rw [List.mem_append, List.mem_cons] at hz'
      rcases hz' with h1 | h1 | h1
      · exact hx z (List.mem_cons_of_mem _ hz) (List.mem_of_mem_take h1)
      · subst h1; exact hd.1 hz
      · exact hx z (List.mem_cons_of_mem _ hz) (List.mem_of_mem_drop h1)
  exact this D [] List.nodup_nil h (by simp)
theorem order_eq (l : List Opt) : order l = foldI l (openTo l l.length) := (filt_order l l.length).symm
theorem order_nodup (l : List Opt) : (order l).Nodup := by
  rw [order_eq]
  exact foldI_nodup l _ (List.nodup_range.filter _)
theorem order_mem {l : List Opt} {i : Nat} : i ∈ order l ↔ i < l.length ∧ (l.getD i default).openB = true := by
  rw [order_eq, mem_foldI, openTo, List.mem_filter, List.mem_range]
/-- The order hangs on the round-trip times and on which paths are open alone. -/
theorem foldI_congr {l l' : List Opt} (h : ∀ i, rttOf l i = rttOf l' i) (D : List Nat) : foldI l D = foldI l' D := by
  have hp : ∀ (o : List Nat) (i k : Nat), posI l o i k = posI l' o i k := by
    intro o i k
    induction k with
    | zero => rfl
    | succ k ih => simp only [posI, h, ih]
  have hi : insI l = insI l' := by
    funext o i
    unfold insI
    rw [hp]
  unfold foldI
  rw [hi]
def bump (l : List Opt) (i : Nat) : List Opt := l.set i { l.getD i default with fl := (l.getD i default).fl + 1 }
theorem bump_len (l : List Opt) (i : Nat) : (bump l i).length = l.length := by simp [bump]
theorem bump_ne (l : List Opt) (i j : Nat) (h : j ≠ i) : (bump l i).getD j default = l.getD j default := by
  simp only [bump, List.getD_eq_getElem?_getD]
  rw [List.getElem?_set_ne (Ne.symm h)]
theorem bump_at (l : List Opt) (i : Nat) (h : i < l.length) : (bump l i).getD i default = { l.getD i default with fl := (l.getD i default).fl + 1 } := by
  simp only [bump, List.getD_eq_getElem?_getD]
  rw [List.getElem?_set_self h]
  rfl
theorem bump_rtt (l : List Opt) (i j : Nat) (hi : i < l.length) : rttOf (bump l i) j = rttOf l j := by
  unfold rttOf
  by_cases h : j = i
  · subst h; rw [bump_at l j hi]
  · rw [bump_ne l i j h]
theorem order_bump {l : List Opt} {i : Nat} {t : List Nat} (h : order l = i :: t) : order (bump l i) = if spaceOf l i ≤ 1 then t else i :: t := by
  have hm : i ∈ order l := by rw [h]; exact List.mem_cons_self
  obtain ⟨hi, ho⟩ := order_mem.1 hm
  have hnd := order_nodup l
  rw [h, List.nodup_cons] at hnd
  have hop : ∀ j, ((bump l i).getD j default).openB = if j = i then decide (1 < spaceOf l i) else (l.getD j default).openB := by
    intro j
    by_cases hj : j = i
    · subst hj
      rw [bump_at l j hi, if_pos rfl]
      have ha : (l.getD j default).act = true := by
        unfold Opt.openB at ho
        rw [Bool.and_eq_true] at ho
        exact ho.1
      show ((l.getD j default).act && decide ((l.getD j default).fl + 1 < (l.getD j default).win)) = _
      rw [ha, Bool.true_and]
      unfold spaceOf
      rw [decide_eq_decide]
      omega
    · rw [bump_ne l i j hj, if_neg hj]
  rw [order_eq, foldI_congr (fun j => bump_rtt l i j hi), bump_len]
  by_cases hs : spaceOf l i ≤ 1
  · rw [if_pos hs]
    have e : openTo (bump l i) l.length = (openTo l l.length).filter (fun x => decide (x ≠ i)) := by
      unfold openTo
      rw [List.filter_filter]
      refine List.filter_congr fun x _ => ?_
      rw [hop x]
      by_cases hx : x = i
      · rw [if_pos hx]; simp [hx]; omega
      · rw [if_neg hx]; simp [hx]
    rw [e, ← foldI_filter, ← order_eq, h, List.filter_cons, if_neg (by simp), List.filter_eq_self]
    intro x hx
    have : x ≠ i := fun e => hnd.1 (e ▸ hx)
    simp [this]
  · rw [if_neg hs]
    have e : openTo (bump l i) l.length = openTo l l.length := by
      unfold openTo
      refine List.filter_congr fun x _ => ?_
      rw [hop x]
      by_cases hx : x = i
      · rw [if_pos hx, hx, ho]; simp; omega
      · rw [if_neg hx]
    rw [e, ← order_eq, h]
/-- Path by path: each of the order takes what it can. -/
def takeG (l : List Opt) : List Nat → Nat → List Int → List Int
  | [], _, out => out
  | i :: t, n, out => takeG l t (n - min n (spaceOf l i).toNat) (out.set i (out.getD i 0 + (min n (spaceOf l i).toNat : Nat)))
/-- Packet by packet. -/
def stepS (s : List Opt × List Int) : List Opt × List Int :=
  match order s.1 with
  | [] => s
  | i :: _ => (bump s.1 i, s.2.set i (s.2.getD i 0 + 1))
def iterS : Nat → List Opt × List Int → List Opt × List Int
  | 0, s => s
  | n + 1, s => iterS n (stepS s)
theorem iterS_succ (n : Nat) : ∀ s, iterS (n + 1) s = stepS (iterS n s) := by
  induction n with
  | zero => intro s; rfl
  | succ n ih => intro s; show iterS (n + 1) (stepS s) = _; rw [ih]; rfl
theorem set_getD (L : List Int) (i : Nat) : L.set i (L.getD i 0 + ((0 : Nat) : Int)) = L := by
  apply List.ext_getElem?
  intro j
  rw [List.getElem?_set]
  by_cases h : i = j
  · subst h
    by_cases hl : i < L.length
    · simp [hl]
    · simp [hl]
  · simp [h]
theorem takeG_zero (l : List Opt) : ∀ os out, takeG l os 0 out = out
  | [], _ => rfl
  | i :: t, out => by
    rw [takeG, Nat.zero_min, Nat.zero_sub, set_getD]
    exact takeG_zero l t out
theorem takeG_congr {l l' : List Opt} : ∀ (os : List Nat) (n : Nat) (out : List Int), (∀ i ∈ os, spaceOf l i = spaceOf l' i) → takeG l os n out = takeG l' os n out
  | [], _, _, _ => rfl
  | i :: t, n, out, h => by
    rw [takeG, takeG, h i List.mem_cons_self]
    exact takeG_congr t _ _ fun j hj => h j (List.mem_cons_of_mem _ hj)
theorem space_bump_ne (l : List Opt) (i j : Nat) (h : j ≠ i) : spaceOf (bump l i) j = spaceOf l j := by unfold spaceOf; rw [bump_ne l i j h]
theorem space_bump_at (l : List Opt) (i : Nat) (h : i < l.length) : spaceOf (bump l i) i = spaceOf l i - 1 := by unfold spaceOf; rw [bump_at l i h]; simp only; omega
theorem iter_take (n : Nat) : ∀ (l : List Opt) (out : List Int), out.length = l.length → (iterS n (l, out)).2 = takeG l (order l) n out := by
  induction n with
  | zero => intro l out _; rw [takeG_zero]; rfl
  | succ n ih =>
    intro l out hlen
    show (iterS n (stepS (l, out))).2 = _
    cases ho : order l with
    | nil =>
      have hs : stepS (l, out) = (l, out) := by simp only [stepS, ho]
      rw [hs, ih l out hlen, ho]
      rfl
    | cons i t =>
      have hs : stepS (l, out) = (bump l i, out.set i (out.getD i 0 + 1)) := by simp only [stepS, ho]
      have hm : i ∈ order l := by rw [ho]; exact List.mem_cons_self
      obtain ⟨hi, hop⟩ := order_mem.1 hm
      have hnd := order_nodup l
      rw [ho, List.nodup_cons] at hnd
      have hsp : 1 ≤ spaceOf l i := by
        unfold Opt.openB at hop
        rw [Bool.and_eq_true, decide_eq_true_eq] at hop
        unfold spaceOf
        omega
      have hcon : ∀ j ∈ t, spaceOf (bump l i) j = spaceOf l j := fun j hj => space_bump_ne l i j fun e => hnd.1 (e ▸ hj)
      have hg1 : (out.set i (out.getD i 0 + 1)).getD i 0 = out.getD i 0 + 1 := by
        rw [List.getD_eq_getElem?_getD, List.getElem?_set_self (by omega)]; rfl
      rw [hs, ih _ _ (by rw [bump_len, List.length_set]; exact hlen), order_bump ho]
      by_cases h1 : spaceOf l i ≤ 1
      · have e1 : spaceOf l i = 1 := by omega
        rw [if_pos h1, takeG, e1, takeG_congr t n _ hcon]
        have e2 : min (n + 1) (Int.toNat 1) = 1 := by simp
        rw [e2, Nat.add_sub_cancel]
        rfl
      · rw [if_neg h1, takeG, takeG, space_bump_at l i hi, hg1, List.set_set, takeG_congr t _ _ hcon]
        obtain ⟨s, hs'⟩ : ∃ s : Nat, spaceOf l i = (s : Int) + 2 := ⟨(spaceOf l i - 2).toNat, by omega⟩
        have e1 : (spaceOf l i - 1).toNat = s + 1 := by omega
        have e2 : (spaceOf l i).toNat = s + 2 := by omega
        rw [e1, e2]
        have e3 : min (n + 1) (s + 2) = min n (s + 1) + 1 := by omega
        rw [e3]
        have e4 : n + 1 - (min n (s + 1) + 1) = n - min n (s + 1) := by omega
        rw [e4]
        congr 2
        push_cast
        omega
end Go.Proofs.Ytjnplihkagegdaa
