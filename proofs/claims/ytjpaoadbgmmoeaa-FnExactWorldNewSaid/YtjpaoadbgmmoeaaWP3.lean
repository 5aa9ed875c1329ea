/- Sets of numbers as lists of ranges: what adding and removing come to. No program in sight. -/
import Derived.Test.YtjpaoadbgmmoeaaWP2
namespace Go.Proofs.Ytjpaoadbgmmoeaa

/-- Ranges in order, all behind 'last'. -/
def rgOk : Int → List Rg → Prop
  | _, [] => True
  | last, r :: t => last + 2 ≤ r.lo ∧ r.lo ≤ r.hi ∧ r.hi ≤ 999 ∧ rgOk r.hi t
theorem rgOk_low : ∀ (l : List Rg) (a b : Int), rgOk a l → b ≤ a → rgOk b l
  | [], _, _, _, _ => trivial
  | r :: t, a, b, h, hb => ⟨by have := h.1; omega, h.2⟩
theorem rgTo_iff (l : List Rg) : rgTo l l.length = true ↔ rgOk (-2) l := by
  have key : ∀ (l : List Rg) (last : Int), (∀ i, i < l.length → (if i = 0 then last else (l.getD (i - 1) default).hi) + 2 ≤ (l.getD i default).lo ∧ (l.getD i default).lo ≤ (l.getD i default).hi ∧ (l.getD i default).hi ≤ 999) ↔ rgOk last l := by
    intro l
    induction l with
    | nil => intro last; simp [rgOk]
    | cons r t ih =>
      intro last
      simp only [rgOk]
      rw [← ih r.hi]
      constructor
      · intro h
        have h0 := h 0 (by simp)
        simp only [if_pos, List.getD_cons_zero] at h0
        refine ⟨h0.1, h0.2.1, h0.2.2, fun i hi => ?_⟩
        have h1 := h (i + 1) (by simp; omega)
        simp only [if_neg (show i + 1 ≠ 0 by omega), Nat.add_sub_cancel, List.getD_cons_succ] at h1
        by_cases hi0 : i = 0
        · subst hi0; simpa using h1
        · rw [if_neg hi0]
          have e : (r :: t).getD i default = t.getD (i - 1) default := by
            obtain ⟨j, rfl⟩ : ∃ j, i = j + 1 := ⟨i - 1, by omega⟩
            rw [List.getD_cons_succ, Nat.add_sub_cancel]
          rw [e] at h1
          exact h1
      · rintro ⟨h1, h2, h3, h4⟩ i hi
        by_cases hi0 : i = 0
        · subst hi0; simp only [if_pos, List.getD_cons_zero]; exact ⟨h1, h2, h3⟩
        · obtain ⟨j, rfl⟩ : ∃ j, i = j + 1 := ⟨i - 1, by omega⟩
          have h5 := h4 j (by simp at hi; omega)
          rw [if_neg hi0, Nat.add_sub_cancel, List.getD_cons_succ]
          by_cases hj0 : j = 0
          · subst hj0; simpa using h5
          · rw [if_neg hj0] at h5
            obtain ⟨m, rfl⟩ : ∃ m, j = m + 1 := ⟨j - 1, by omega⟩
            rw [List.getD_cons_succ]
            simpa using h5
  rw [← key l (-2)]
  simp only [rgTo, List.all_eq_true, List.mem_range, rgAt, lastHi]
  constructor <;> intro h i hi <;> have := h i hi <;> simpa using this
theorem rgValid_iff (l : List Rg) : rgValid l = true ↔ l.length ≤ 16 ∧ rgOk (-2) l := by
  rw [rgValid, Bool.and_eq_true, rgTo_iff, decide_eq_true_eq]
theorem hasR_nil (n : Int) : hasR [] n = false := rfl
theorem hasR_cons (r : Rg) (t : List Rg) (n : Int) : hasR (r :: t) n = true ↔ (r.lo ≤ n ∧ n ≤ r.hi) ∨ hasR t n = true := by
  simp [hasR]
theorem hasR_low : ∀ {l : List Rg} {last n : Int}, rgOk last l → hasR l n = true → last + 2 ≤ n
  | [], _, _, _, h => by simp [hasR_nil] at h
  | r :: t, last, n, ok, h => by
    rw [hasR_cons] at h
    rcases h with h | h
    · have := ok.1; omega
    · have := hasR_low ok.2.2.2 h
      have := ok.1
      have := ok.2.1
      omega
theorem addM_ok : ∀ (l : List Rg) (last lo hi : Int), rgOk last l → last + 2 ≤ lo → lo ≤ hi → hi ≤ 999 → rgOk last (addM l lo hi)
  | [], last, lo, hi, _, h1, h2, h3 => ⟨h1, h2, h3, trivial⟩
  | r :: t, last, lo, hi, ok, h1, h2, h3 => by
    obtain ⟨a, b, c, d⟩ := ok
    unfold addM
    split
    · exact addM_ok t last _ _ (rgOk_low t _ _ d (by omega)) (by omega) (by omega) (by omega)
    · rename_i hn
      exact ⟨h1, h2, h3, (show hi + 2 ≤ r.lo by omega), b, c, d⟩
theorem hasR_addM : ∀ (l : List Rg) (last lo hi n : Int), rgOk last l → lo ≤ hi → (∀ r ∈ l.head?, lo ≤ r.hi + 1) → (hasR (addM l lo hi) n = true ↔ hasR l n = true ∨ (lo ≤ n ∧ n ≤ hi))
  | [], last, lo, hi, n, _, _, _ => by simp [addM, hasR]
  | r :: t, last, lo, hi, n, ok, h1, h2 => by
    obtain ⟨a, b, c, d⟩ := ok
    have h2' := h2 r rfl
    unfold addM
    split
    · rename_i hr
      rw [hasR_addM t r.hi _ _ n d (by omega) (fun x hx => by
        cases t with
        | nil => simp at hx
        | cons y ys => simp at hx; subst hx; have := d.1; have := d.2.1; omega), hasR_cons]
      constructor
      · rintro (h | h)
        · exact .inl (.inr h)
        · by_cases hh : lo ≤ n ∧ n ≤ hi
          · exact .inr hh
          · exact .inl (.inl (by omega))
      · rintro ((h | h) | h)
        · exact .inr (by omega)
        · exact .inl h
        · exact .inr (by omega)
    · rw [hasR_cons, hasR_cons]
      simp only
      constructor
      · rintro (h | h | h)
        · exact .inr h
        · exact .inl (.inl h)
        · exact .inl (.inr h)
      · rintro ((h | h) | h)
        · exact .inr (.inl h)
        · exact .inr (.inr h)
        · exact .inl h
theorem addP_ok : ∀ (l : List Rg) (last lo hi : Int), rgOk last l → last + 2 ≤ lo → lo ≤ hi → hi ≤ 999 → rgOk last (addP l lo hi)
  | [], last, lo, hi, _, h1, h2, h3 => ⟨h1, h2, h3, trivial⟩
  | r :: t, last, lo, hi, ok, h1, h2, h3 => by
    unfold addP
    split
    · exact ⟨ok.1, ok.2.1, ok.2.2.1, addP_ok t _ _ _ ok.2.2.2 (by omega) h2 h3⟩
    · exact addM_ok (r :: t) last lo hi ok h1 h2 h3
theorem hasR_addP : ∀ (l : List Rg) (last lo hi n : Int), rgOk last l → lo ≤ hi → (hasR (addP l lo hi) n = true ↔ hasR l n = true ∨ (lo ≤ n ∧ n ≤ hi))
  | [], last, lo, hi, n, _, _ => by simp [addP, hasR]
  | r :: t, last, lo, hi, n, ok, h1 => by
    unfold addP
    split
    · rw [hasR_cons, hasR_addP t r.hi lo hi n ok.2.2.2 h1, hasR_cons]
      constructor
      · rintro (h | h | h)
        · exact .inl (.inl h)
        · exact .inl (.inr h)
        · exact .inr h
      · rintro ((h | h) | h)
        · exact .inl h
        · exact .inr (.inl h)
        · exact .inr (.inr h)
    · exact hasR_addM (r :: t) last lo hi n ok h1 (fun x hx => by simp at hx; subst hx; omega)
theorem remP_cons (r : Rg) (t : List Rg) (lo hi : Int) : remP (r :: t) lo hi = remOne r lo hi ++ remP t lo hi := by simp [remP]
theorem remP_ok : ∀ (l : List Rg) (last lo hi : Int), rgOk last l → lo ≤ hi → rgOk last (remP l lo hi)
  | [], _, _, _, _, _ => trivial
  | r :: t, last, lo, hi, ok, h1 => by
    obtain ⟨a, b, c, d⟩ := ok
    rw [remP_cons]
    have ht := remP_ok t r.hi lo hi d h1
    unfold remOne
    by_cases h2 : r.lo < lo
    · by_cases h3 : hi < r.hi
      · rw [if_pos h2, if_pos h3]
        simp only [List.cons_append, List.nil_append, rgOk]
        refine ⟨a, by omega, by omega, by omega, by omega, c, ht⟩
      · rw [if_pos h2, if_neg h3]
        simp only [List.cons_append, List.nil_append, rgOk]
        exact ⟨a, by omega, by omega, rgOk_low _ _ _ ht (by omega)⟩
    · by_cases h3 : hi < r.hi
      · rw [if_neg h2, if_pos h3]
        simp only [List.cons_append, List.nil_append, rgOk]
        exact ⟨by omega, by omega, c, ht⟩
      · rw [if_neg h2, if_neg h3]
        exact rgOk_low _ _ _ ht (by omega)
theorem hasR_append (a b : List Rg) (n : Int) : hasR (a ++ b) n = true ↔ hasR a n = true ∨ hasR b n = true := by simp [hasR]
theorem hasR_remP : ∀ (l : List Rg) (last lo hi n : Int), rgOk last l → lo ≤ hi → (hasR (remP l lo hi) n = true ↔ hasR l n = true ∧ ¬ (lo ≤ n ∧ n ≤ hi))
  | [], _, _, _, _, _, _ => by simp [remP, hasR]
  | r :: t, last, lo, hi, n, ok, h1 => by
    obtain ⟨a, b, c, d⟩ := ok
    rw [remP_cons, hasR_append, hasR_remP t r.hi lo hi n d h1, hasR_cons]
    have h4 : hasR (remOne r lo hi) n = true ↔ (r.lo ≤ n ∧ n ≤ r.hi) ∧ ¬ (lo ≤ n ∧ n ≤ hi) := by
      unfold remOne
      by_cases h2 : r.lo < lo
      · by_cases h3 : hi < r.hi
        · rw [if_pos h2, if_pos h3]
          simp [hasR]; omega
        · rw [if_pos h2, if_neg h3]
          simp [hasR]; omega
      · by_cases h3 : hi < r.hi
        · rw [if_neg h2, if_pos h3]
          simp [hasR]; omega
        · rw [if_neg h2, if_neg h3]
          simp [hasR]; omega
    rw [h4]
    constructor
    · rintro (h | h)
      · exact ⟨.inl h.1, h.2⟩
      · exact ⟨.inr h.1, h.2⟩
    · rintro ⟨h | h, h'⟩
      · exact .inl ⟨h, h'⟩
      · exact .inr ⟨h, h'⟩
/-- All numbers are below x. -/
def rgBelow (l : List Rg) (x : Int) : Prop := ∀ r ∈ l, r.hi < x
theorem topB_iff : ∀ (l : List Rg) (last x : Int), rgOk last l → (topB l x = true ↔ rgBelow l x)
  | [], _, _, _ => by simp [topB, rgBelow]
  | [r], _, _, _ => by simp [topB, rgBelow]
  | r :: s :: t, last, x, ok => by
    have ih := topB_iff (s :: t) r.hi x ok.2.2.2
    have e : topB (r :: s :: t) x = topB (s :: t) x := by simp [topB]
    rw [e, ih]
    constructor
    · intro h y hy
      rcases List.mem_cons.1 hy with rfl | hy
      · have h1 := h s List.mem_cons_self
        have := ok.2.2.2.1
        have := ok.2.2.2.2.1
        omega
      · exact h y hy
    · intro h y hy
      exact h y (List.mem_cons_of_mem _ hy)
theorem below_has {l : List Rg} {x n : Int} (h : rgBelow l x) (hn : hasR l n = true) : n < x := by
  simp only [hasR, List.any_eq_true, Bool.and_eq_true, decide_eq_true_eq] at hn
  obtain ⟨r, hr, h1, h2⟩ := hn
  have := h r hr
  omega
theorem below_addM : ∀ (l : List Rg) (x lo hi : Int), rgBelow l x → hi < x → rgBelow (addM l lo hi) x
  | [], x, lo, hi, _, h => fun r hr => by simp [addM] at hr; subst hr; exact h
  | r :: t, x, lo, hi, hb, h => by
    unfold addM
    have hr := hb r List.mem_cons_self
    have ht : rgBelow t x := fun y hy => hb y (List.mem_cons_of_mem _ hy)
    split
    · exact below_addM t x _ _ ht (by omega)
    · intro y hy
      rcases List.mem_cons.1 hy with rfl | hy
      · exact h
      · exact hb y hy
theorem below_addP : ∀ (l : List Rg) (x lo hi : Int), rgBelow l x → hi < x → rgBelow (addP l lo hi) x
  | [], x, lo, hi, _, h => fun r hr => by simp [addP] at hr; subst hr; exact h
  | r :: t, x, lo, hi, hb, h => by
    unfold addP
    split
    · intro y hy
      rcases List.mem_cons.1 hy with rfl | hy
      · exact hb _ List.mem_cons_self
      · exact below_addP t x lo hi (fun z hz => hb z (List.mem_cons_of_mem _ hz)) h y hy
    · exact below_addM (r :: t) x lo hi hb h
theorem below_remP (l : List Rg) (x lo hi : Int) (hb : rgBelow l x) : rgBelow (remP l lo hi) x := by
  intro y hy
  simp only [remP, List.mem_flatMap, remOne, List.mem_append] at hy
  obtain ⟨r, hr, hy⟩ := hy
  have := hb r hr
  rcases hy with hy | hy
  · split at hy
    · simp at hy; subst hy; simp only; omega
    · simp at hy
  · split at hy
    · simp at hy; subst hy; simp only; omega
    · simp at hy
theorem rgBelow_mono {l : List Rg} {x y : Int} (h : rgBelow l x) (hxy : x ≤ y) : rgBelow l y := fun r hr => by have := h r hr; omega
/-- Few numbers, few ranges. -/
theorem rg_few : ∀ (l : List Rg) (last x : Int), rgOk last l → rgBelow l x → last < x → 2 * (l.length : Int) ≤ x - last
  | [], _, _, _, _, h => by simp; omega
  | r :: t, last, x, ok, hb, h => by
    have hr := hb r List.mem_cons_self
    have ih := rg_few t r.hi x ok.2.2.2 (fun y hy => hb y (List.mem_cons_of_mem _ hy)) hr
    have := ok.1
    have := ok.2.1
    simp only [List.length_cons]
    omega
theorem addM_len : ∀ (l : List Rg) (lo hi : Int), (addM l lo hi).length ≤ l.length + 1
  | [], _, _ => by simp [addM]
  | r :: t, lo, hi => by
    unfold addM
    split
    · have := addM_len t (min lo r.lo) (max hi r.hi); simp only [List.length_cons]; omega
    · simp
theorem addP_len : ∀ (l : List Rg) (lo hi : Int), (addP l lo hi).length ≤ l.length + 1
  | [], _, _ => by simp [addP]
  | r :: t, lo, hi => by
    unfold addP
    split
    · have := addP_len t lo hi; simp only [List.length_cons]; omega
    · exact addM_len (r :: t) lo hi
theorem addP_ne : ∀ (l : List Rg) (lo hi : Int), addP l lo hi ≠ []
  | [], _, _ => by simp [addP]
  | r :: t, lo, hi => by
    unfold addP
    split
    · simp
    · have : ∀ (l : List Rg) (lo hi : Int), addM l lo hi ≠ [] := by
        intro l
        induction l with
        | nil => intro lo hi; simp [addM]
        | cons x xs ih =>
          intro lo hi
          unfold addM
          split
          · exact ih _ _
          · simp
      exact this _ _ _
end Go.Proofs.Ytjpaoadbgmmoeaa
