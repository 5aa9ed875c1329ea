/- Rows of elements of several cells, written in place. No condition. -/
import Derived.Test.YtjpaoadbgmmoeaaBase
import Derived.Deep.Upon
import Derived.Laws.IdiomCopy
import Derived.Laws.AppendOwnNone
namespace Go.Proofs.Ytjpaoadbgmmoeaa
open Go.RowKit

section
variable {α : Type} {enc : α → List Value} {s : Nat}
def flat (enc : α → List Value) (l : List α) : List Value := l.flatMap enc
theorem flat_nil : flat enc [] = [] := rfl
theorem flat_cons (x : α) (l : List α) : flat enc (x :: l) = enc x ++ flat enc l := by simp [flat]
theorem flat_append (a b : List α) : flat enc (a ++ b) = flat enc a ++ flat enc b := by simp [flat]
theorem flat_len (hs : ∀ a, (enc a).length = s) (l : List α) : (flat enc l).length = l.length * s := by
  induction l with
  | nil => simp [flat]
  | cons x xs ih => rw [flat_cons, List.length_append, ih, hs, List.length_cons, Nat.add_mul]; omega
theorem flat_get (hs : ∀ a, (enc a).length = s) (l : List α) (k j : Nat) (u : α) (h : l[k]? = some u) (hj : j < s) : (flat enc l)[k * s + j]? = (enc u)[j]? := by
  induction l generalizing k with
  | nil => simp at h
  | cons x xs ih =>
    rw [flat_cons]
    cases k with
    | zero =>
      simp only [List.getElem?_cons_zero, Option.some.injEq] at h
      subst h
      rw [List.getElem?_append_left (by rw [hs]; omega)]
      simp
    | succ k =>
      simp only [List.getElem?_cons_succ] at h
      rw [List.getElem?_append_right (by rw [hs, Nat.add_mul]; omega), hs, show (k + 1) * s + j - s = k * s + j by rw [Nat.add_mul]; omega]
      exact ih k h
def putMany (L : List Value) : Nat → List Value → List Value
  | _, [] => L
  | o, v :: r => putMany (L.set o v) (o + 1) r
theorem putMany_len (vs : List Value) : ∀ (L : List Value) (o : Nat), (putMany L o vs).length = L.length := by
  induction vs with
  | nil => intro L o; rfl
  | cons v r ih => intro L o; rw [putMany, ih, List.length_set]
theorem putMany_at (vs : List Value) : ∀ (P M R : List Value), M.length = vs.length → putMany (P ++ M ++ R) P.length vs = P ++ vs ++ R := by
  induction vs with
  | nil => intro P M R h; have : M = [] := List.length_eq_zero_iff.1 h; subst this; simp [putMany]
  | cons v r ih =>
    intro P M R h
    cases M with
    | nil => simp at h
    | cons m M =>
      have e : (P ++ m :: M ++ R).set P.length v = P ++ [v] ++ M ++ R := by
        simp [List.append_assoc, List.set_append_right]
      rw [putMany, e]
      have := ih (P ++ [v]) M R (by simpa using h)
      rw [show (P ++ [v]).length = P.length + 1 by simp] at this
      rw [this]
      simp
theorem flat_set (hs : ∀ a, (enc a).length = s) (l : List α) (k : Nat) (u : α) (h : k < l.length) : putMany (flat enc l) (k * s) (enc u) = flat enc (l.set k u) := by
  have e1 : l = l.take k ++ [l[k]] ++ l.drop (k + 1) := by simp
  have e2 : l.set k u = l.take k ++ [u] ++ l.drop (k + 1) := by rw [List.set_eq_take_append_cons_drop, if_pos h]; simp
  have hl : (flat enc (l.take k)).length = k * s := by rw [flat_len hs, List.length_take, Nat.min_eq_left (by omega)]
  rw [e2]
  conv => lhs; rw [e1]
  simp only [flat_append]
  have h1 : ∀ x, flat enc [x] = enc x := fun x => by simp [flat]
  rw [h1, h1, ← hl]
  exact putMany_at (enc u) _ _ _ (by rw [hs, hs])
/-- One cell of one element is written anew. -/
theorem flat_set_cell (hs : ∀ a, (enc a).length = s) {l : List α} {k j : Nat} {u u' : α} {v : Value} (hu : l[k]? = some u) (hj : j < s) (he : enc u' = (enc u).set j v) : (flat enc l).set (k * s + j) v = flat enc (l.set k u') := by
  have h := (List.getElem?_eq_some_iff.1 hu).1
  have e0 : l[k] = u := (List.getElem?_eq_some_iff.1 hu).2
  have e1 : l = l.take k ++ [u] ++ l.drop (k + 1) := by rw [← e0]; simp
  have e2 : l.set k u' = l.take k ++ [u'] ++ l.drop (k + 1) := by rw [List.set_eq_take_append_cons_drop, if_pos h]; simp
  have hl : (flat enc (l.take k)).length = k * s := by rw [flat_len hs, List.length_take, Nat.min_eq_left (by omega)]
  have h1 : ∀ x, flat enc [x] = enc x := fun x => by simp [flat]
  rw [e2]
  conv => lhs; rw [e1]
  simp only [flat_append]
  rw [h1, h1, he, List.append_assoc, List.append_assoc, List.set_append_right _ _ (by omega), hl, Nat.add_sub_cancel_left, List.set_append_left _ _ (by rw [hs]; exact hj)]
end

theorem own_setCells {base e size n cap g : Nat} (vs : List Value) : ∀ (w : World) (xs : List Value) (o : Nat), w.ownsRow base e size (.slice (some ⟨g, 0, none⟩) n cap) n xs →
    (w.setCells g o vs).ownsRow base e size (.slice (some ⟨g, 0, none⟩) n cap) n (putMany xs o vs) ∧ w.grownBy (w.setCells g o vs) (some g) := by
  induction vs with
  | nil => intro w xs o h; exact ⟨h, World.grownBy.refl _ _⟩
  | cons v r ih =>
    intro w xs o h
    have h1 := h.stored o v
    have h2 := ih _ _ (o + 1) h1.1
    exact ⟨h2.1, ⟨h2.2.os.trans h1.2.os, h2.2.tape.trans h1.2.tape, h2.2.output.trans h1.2.output, Nat.le_trans h1.2.size h2.2.size, fun i hi hne => (h2.2.block i (Nat.lt_of_lt_of_le hi h1.2.size) hne).trans (h1.2.block i hi hne)⟩⟩
/-- One element of a row is written anew. -/
theorem own_put {α : Type} {enc : α → List Value} {size : Nat} (hs : ∀ a, (enc a).length = size) {w : World} {base e n cap g : Nat} {l : List α} (h : w.ownsRow base e size (.slice (some ⟨g, 0, none⟩) n cap) n (flat enc l)) (k : Nat) (u : α) (hk : k < n) (hsz : 0 < size) :
    (w.setCells g (k * size) (enc u)).ownsRow base e size (.slice (some ⟨g, 0, none⟩) n cap) n (flat enc (l.set k u)) ∧ w.grownBy (w.setCells g (k * size) (enc u)) (some g) := by
  have hl : k < l.length := by
    have := h.1
    rw [flat_len hs] at this
    have := Nat.eq_of_mul_eq_mul_right hsz this
    omega
  have := own_setCells (enc u) w _ (k * size) h
  rw [flat_set hs l k u hl] at this
  exact this
theorem own_len {α : Type} {enc : α → List Value} {size : Nat} (hs : ∀ a, (enc a).length = size) (hsz : 0 < size) {w : World} {base e n : Nat} {v : Value} {l : List α} (h : w.ownsRow base e size v n (flat enc l)) : l.length = n := by
  have := h.1
  rw [flat_len hs] at this
  exact Nat.eq_of_mul_eq_mul_right hsz this
/-- The cells of one element of a row. -/
theorem own_cell {α : Type} {enc : α → List Value} {size : Nat} (hs : ∀ a, (enc a).length = size) {w : World} {base e n cap g : Nat} {l : List α} (h : w.ownsRow base e size (.slice (some ⟨g, 0, none⟩) n cap) n (flat enc l)) {k j : Nat} {u : α} {x : Value} (hu : l[k]? = some u) (hx : (enc u)[j]? = some x) :
    w.cell? ⟨g, k * size + j, none⟩ = some x ∧ w.frozen? ⟨g, k * size + j, none⟩ = false := by
  have hj : j < size := by rw [← hs u]; exact (List.getElem?_eq_some_iff.1 hx).1
  have hg := flat_get hs l k j u hu hj
  have hlt : k * size + j < n * size := by
    rw [← h.1]
    exact (List.getElem?_eq_some_iff.1 (hg.trans hx)).1
  exact ⟨(h.cellAt _ hlt).trans (hg.trans hx), h.frozenAt _⟩
theorem rd_cell {α : Type} {enc : α → List Value} {size : Nat} (hs : ∀ a, (enc a).length = size) {w : World} {B n : Nat} {A : Option Addr} {l : List α} (h : Rd w B size A n (flat enc l)) {k : Nat} {u : α} (hu : l[k]? = some u) (hsz : 0 < size) :
    ∃ b o, A = some ⟨b, o, none⟩ ∧ b < B ∧ ∀ j x, (enc u)[j]? = some x → w.cell? ⟨b, o + k * size + j, none⟩ = some x := by
  have hl : l.length = n := by
    have := h.1
    rw [flat_len hs] at this
    exact Nat.eq_of_mul_eq_mul_right hsz this
  have hk := (List.getElem?_eq_some_iff.1 hu).1
  obtain ⟨b, o, e, hb, hc⟩ := h.2 (by omega)
  refine ⟨b, o, e, hb, fun j x hx => ?_⟩
  have hj : j < size := by rw [← hs u]; exact (List.getElem?_eq_some_iff.1 hx).1
  have := hc (k * size + j) x ((flat_get hs l k j u hu hj).trans hx)
  rwa [← Nat.add_assoc] at this
/-- 'append(out, x)': x, of several cells, has just been laid in a block of its own. -/
theorem wpList_appS {P : Program} (w : World) {ops : Array Oper} {rest : List Oper} {o : Oper} {a : Act} {Q : Exit → Act → World → Prop} (hgd : o.guard = none) (s x : Operand) (t : TypeId)
    (ho : o.op = .call { callee := .builtin .append, args := #[s, x], argTypes := #[t, t] })
    (base : Nat) (e : TypeId) (i : TypeInfo) (z : Value) (size bytes : Nat) (ht : P.underlying t = some (.slice e)) (hi : P.info? e = some i) (hz : i.zero = some z)
    (hsize : i.size = size) (hby : i.bytes = bytes) (hzs : z.cells.size = size) (hsz : 0 < size) (us : List Value) (hul : us.length = size) (hu : ∀ u ∈ us, u.oneCell' = true)
    (v : Value) (n : Nat) (xs : List Value) (hown : w.ownsRow base e size v n xs) (hs : a.eval s = v) (hx : a.eval x = .slice (some ⟨w.heap.size, 0, none⟩) 1 1)
    (h63 : n + 1 ≤ maxLen) (hbytes : (n + 1) * bytes ≤ 140737488355328) (hbase : base ≤ w.heap.size)
    (h : ∀ g c' w', w'.ownsRow base e size (.slice (some ⟨g, 0, none⟩) (n + 1) c') (n + 1) (xs ++ us) → (v.ownBlock = some g ∨ w.heap.size ≤ g) → n + 1 ≤ c' → c' ≤ maxLen → w.grownBy w' v.ownBlock → wpList P ops Q rest (a.put o.dst (.slice (some ⟨g, 0, none⟩) (n + 1) c')) w') : wpList P ops Q (o :: rest) a (w.alloc (.cells us.toArray e)) := by
  refine wpList_append_lies _ hgd s x t ho base e i z size bytes ht hi hz hsize hby hzs hsz v n xs hs (hown.alloc _) ⟨w.heap.size, 0, none⟩ 1 1 us hx (by omega) (fun j y hy => ?_) hu (by omega) h63 hbytes (by simp; omega) _ rfl fun g c' w' h2 h3 h4 h5 => ?_
  · rw [add_lit, World.cell?_alloc_new, Nat.zero_add]
    simpa using hy
  · have hcc : n + 1 ≤ c' ∧ c' ≤ maxLen := by
      rcases h2.2 with ⟨h0, _⟩ | ⟨g', cap, cur, hv, _, _, hnc, hcm, _⟩
      · cases h0
      · injection hv with _ _ e; subst e; exact ⟨hnc, hcm⟩
    refine h g c' w' h2 ?_ hcc.1 hcc.2 ?_
    · rcases h4 with h4 | h4
      · exact .inl h4
      · right; rw [h4]; simp
    · refine ⟨h3.os, h3.tape, h3.output, Nat.le_trans (by simp) h3.size, fun k hk hne => ?_⟩
      exact (h3.block k (by simp; omega) hne).trans (Below.heap_alloc w _ k hk)
/-- 'append([]T{}, xs...)': a copy in a new row, which is not nil. -/
theorem wpList_clone {P : Program} (w : World) {ops : Array Oper} {rest : List Oper} {o : Oper} {a : Act} {Q : Exit → Act → World → Prop} (hgd : o.guard = none) (s x : Operand) (t : TypeId)
    (ho : o.op = .call { callee := .builtin .append, args := #[s, x], argTypes := #[t, t] })
    (e : TypeId) (i : TypeInfo) (z : Value) (size bytes : Nat) (ht : P.underlying t = some (.slice e)) (hi : P.info? e = some i) (hz : i.zero = some z)
    (hsize : i.size = size) (hby : i.bytes = bytes) (hzs : z.cells.size = size) (hsz : 0 < size)
    (A : Option Addr) (n c B : Nat) (xs : List Value) (hrd : Rd w B size A n xs) (hnil : A = none → c = 0) (hB : B ≤ w.heap.size) (h1 : ∀ u ∈ xs, u.oneCell' = true) (hs : a.eval s = .slice (some ⟨w.heap.size, 0, none⟩) 0 0) (hx : a.eval x = .slice A n c)
    (h63 : n ≤ maxLen) (hbytes : n * bytes ≤ 140737488355328)
    (h : ∀ g c' w', w'.ownsRow w.heap.size e size (.slice (some ⟨g, 0, none⟩) n c') n xs → w.heap.size ≤ g → n ≤ c' → c' ≤ maxLen → Below w.heap.size w w' → wpList P ops Q rest (a.put o.dst (.slice (some ⟨g, 0, none⟩) n c')) w') : wpList P ops Q (o :: rest) a (w.alloc (.cells #[] e)) := by
  have hown := World.ownsRow_lit (base := w.heap.size) (e := e) (size := size) w #[] 0 (Nat.le_refl _) (by omega) (by simp)
  have hbel : Below w.heap.size w (w.alloc (.cells #[] e)) := (Below.refl _ _).alloc (Nat.le_refl _) _
  cases A with
  | none =>
    have hn : n = 0 := by
      rcases Nat.eq_zero_or_pos n with h0 | h0
      · exact h0
      · obtain ⟨b, of, e', _⟩ := hrd.2 h0; cases e'
    subst hn
    have hc := hnil rfl
    subst hc
    have hxs : xs = [] := List.length_eq_zero_iff.1 (by rw [hrd.1]; omega)
    subst hxs
    exact wpList_append_own_none hgd s x t ho w.heap.size e i size ht hi _ 0 [] hs hown hx (h w.heap.size 0 _ hown (Nat.le_refl _) (Nat.le_refl _) (Nat.zero_le _) hbel)
  | some ad =>
    refine wpList_append_own _ hgd s x t ho w.heap.size e i z size bytes ht hi hz hsize hby hzs hsz _ 0 [] hs hown ad n c xs hx hrd.1 (fun j y hy => ?_) h1 (by omega) (by rw [Nat.zero_add]; exact hbytes) (by simp) fun v' w' h2 h3 h4 => ?_
    · have hn : 0 < n := by
        rcases Nat.eq_zero_or_pos n with h0 | h0
        · have := (List.getElem?_eq_some_iff.1 hy).1
          rw [hrd.1, h0] at this
          omega
        · exact h0
      obtain ⟨b', o', e', hb', hc'⟩ := hrd.2 hn
      injection e' with e'
      subst e'
      rw [add_lit]
      exact (hbel.cell (p := ⟨b', o' + j, none⟩) (by show b' < _; omega)).trans (hc' j y hy)
    · simp only [Nat.zero_add, List.nil_append] at h2
      have hbl : Below w.heap.size w w' := hbel.grown h3 (by simp) (fun k hk => (hown.lt k hk).1)
      rcases h2.2 with ⟨hv, hn0⟩ | ⟨g, cap, cur, hv, hb, hh, hnc, hcm, r⟩
      · have := (h4.1 hv).1
        cases this
      · subst hv
        exact h g cap w' h2 hb hnc hcm hbl
end Go.Proofs.Ytjpaoadbgmmoeaa
