/- Worlds whose arrays are their own: roles of blocks, and what a change of one array leaves as it was. No condition. -/
import Derived.Test.YtjpaoadbgmmoeaaW0
namespace Go.Proofs.Ytjpaoadbgmmoeaa
open Go.RowKit

def RCar {α : Type} (R : World → (Nat → Prop) → List Value → α → Prop) : Prop := ∀ {w w' : World} {ok ok' : Nat → Prop}, Car w ok w' ok' → ∀ {cs : List Value} {x : α}, R w ok cs x → R w' ok' cs x
theorem rgCar : RCar RgR := fun _ _ _ h => h
theorem pcCar : RCar PcR := fun _ _ _ h => h
theorem pkCar : RCar PkR := fun _ _ _ h => h
theorem rtCar : RCar RtR := fun _ _ _ h => h
theorem wnCar : RCar WnR := fun _ _ _ h => h
theorem bsCar : RCar BsR := fun _ _ _ h => h
theorem cdCar : RCar CdR := fun _ _ _ h => h
theorem sdCar : RCar SdR := fun hc _ _ h => sd_car hc h
theorem rvCar : RCar RvR := fun hc _ _ h => rv_car hc h
theorem lsCar : RCar LsR := fun hc _ _ h => ls_car hc h
theorem snCar : RCar SnR := fun hc _ _ h => sn_car hc h
theorem wiCar : RCar WiR := fun hc _ _ h => wi_car hc h
/-- The blocks that hold inner rows, which nobody writes. -/
def Inn (ro : Nat → Nat) (w : World) : Nat → Prop := fun b => ro b = 0 ∧ b < w.heap.size
theorem inn_old (ro : Nat → Nat) (w : World) : Sub (Inn ro w) (Old w) := fun _ h => h.2
/-- New blocks get role i at g, and role 0 elsewhere. -/
def reRole (ro : Nat → Nat) (B g i : Nat) : Nat → Nat := fun b => if b < B then ro b else if b = g then i else 0
theorem reRole_old {ro : Nat → Nat} {B g i b : Nat} (h : b < B) : reRole ro B g i b = ro b := if_pos h
theorem reRole_new {ro : Nat → Nat} {B g i : Nat} (h : B ≤ g) : reRole ro B g i g = i := by unfold reRole; rw [if_neg (by omega), if_pos rfl]
section
variable {α : Type} {R : World → (Nat → Prop) → List Value → α → Prop} {size t base i n c : Nat} {ro ro' : Nat → Nat} {w w' : World} {A : Option Addr} {l : List α}
/-- An array of the world's own, of role i, whose elements hold inner rows only. -/
structure OutS (R : World → (Nat → Prop) → List Value → α → Prop) (size t : Nat) (w : World) (base : Nat) (ro : Nat → Nat) (i : Nat) (A : Option Addr) (n c : Nat) (l : List α) : Prop where
  len : l.length = n
  cap : n ≤ c ∧ c ≤ maxLen
  nil : A = none → c = 0
  cells : ∃ css : List (List Value), css.length = n ∧ (∀ x ∈ css, x.length = size) ∧ (∀ (k : Nat) (cs : List Value) (x : α), css[k]? = some cs → l[k]? = some x → R w (Inn ro w) cs x) ∧ w.ownsRow base t size (.slice A n c) n css.flatten
  role : ∀ a, A = some a → ro a.block = i
theorem OutS.form (h : OutS R size t w base ro i A n c l) : A = none ∨ ∃ g, A = some ⟨g, 0, none⟩ ∧ base ≤ g ∧ g < w.heap.size ∧ ro g = i := by
  obtain ⟨css, _, _, _, ho⟩ := h.cells
  rcases ho.2 with ⟨hv, _⟩ | ⟨g, cap, cur, hv, hb, hh, _⟩
  · left; injection hv
  · right
    have hA : A = some ⟨g, 0, none⟩ := by injection hv
    exact ⟨g, hA, hb, (Array.getElem?_eq_some_iff.1 hh).1, h.role _ hA⟩
theorem OutS.slice (hR : RCar R) (h : OutS R size t w base ro i A n c l) : SliceR R size w (Old w) A n c l := by
  obtain ⟨css, h1, h2, h3, ho⟩ := h.cells
  refine ⟨h.len, h.cap.1, h.cap.2, h.nil, css, h1, h2, fun k cs x a b => hR (Car.sub (inn_old ro w)) (h3 k cs x a b), ?_⟩
  have := Rd.of_own ho
  exact ⟨this.1, fun hn => by
    obtain ⟨b, o, e, hb, hc⟩ := this.2 hn
    exact ⟨b, o, e, hb, hc⟩⟩
theorem OutS.at_ (h : OutS R size t w base ro i A n c l) {k : Nat} (hk : k < n) :
    ∃ g cs x, A = some ⟨g, 0, none⟩ ∧ base ≤ g ∧ g < w.heap.size ∧ ro g = i ∧ l[k]? = some x ∧ cs.length = size ∧ R w (Inn ro w) cs x ∧ (∀ j v, cs[j]? = some v → w.cell? ⟨g, k * size + j, none⟩ = some v) ∧ ∀ j, w.frozen? ⟨g, j, none⟩ = false := by
  obtain ⟨css, h1, h2, h3, ho⟩ := h.cells
  rcases h.form with rfl | ⟨g, rfl, hb, hg, hr⟩
  · have := h.nil rfl; have := h.cap.1; omega
  · have hl := h.len
    have hkc : css[k]? = some (css[k]'(by omega)) := List.getElem?_eq_getElem (by omega)
    have hkl : l[k]? = some (l[k]'(by omega)) := List.getElem?_eq_getElem (by omega)
    refine ⟨g, css[k]'(by omega), l[k]'(by omega), rfl, hb, hg, hr, hkl, h2 _ (List.getElem_mem _), h3 k _ _ hkc hkl, fun j v hv => ?_, fun j => ho.frozenAt j⟩
    have hj : j < size := by rw [← h2 _ (List.getElem_mem (show k < css.length by omega))]; exact (List.getElem?_eq_some_iff.1 hv).1
    have := (flatten_get h2 hkc hj).trans hv
    have hlt : k * size + j < n * size := by
      have h9 : (k + 1) * size ≤ n * size := Nat.mul_le_mul_right _ hk
      rw [Nat.add_mul] at h9
      omega
    exact (ho.cellAt _ hlt).trans this
theorem inn_car {o : Option Nat} (hg : w.grownBy w' o) (ho : ∀ g, o = some g → g < w.heap.size → ro g ≠ 0) (hro : ∀ b, b < w.heap.size → ro' b = ro b) : Car w (Inn ro w) w' (Inn ro' w') := by
  rintro b ⟨hb, hlt⟩
  refine ⟨⟨by rw [hro b hlt]; exact hb, Nat.lt_of_lt_of_le hlt hg.size⟩, hg.block b hlt (fun e => ?_)⟩
  exact ho b e.symm hlt hb
/-- A change elsewhere leaves an array as it was. -/
theorem OutS.kept (hR : RCar R) (h : OutS R size t w base ro i A n c l) {o : Option Nat} (hg : w.grownBy w' o) (ho : ∀ g, o = some g → g < w.heap.size → ro g ≠ 0 ∧ ro g ≠ i) (hro : ∀ b, b < w.heap.size → ro' b = ro b) : OutS R size t w' base ro' i A n c l := by
  obtain ⟨css, h1, h2, h3, hrow⟩ := h.cells
  have hcar := inn_car hg (fun g e hlt => (ho g e hlt).1) hro
  refine ⟨h.len, h.cap, h.nil, ⟨css, h1, h2, fun k cs x a b => hR hcar (h3 k cs x a b), hrow.kept hg ?_⟩, fun a e => ?_⟩
  · rcases h.form with rfl | ⟨g, rfl, _, hlt, hr⟩
    · exact .inl rfl
    · right
      intro e
      exact (ho g e.symm hlt).2 hr
  · rcases h.form with rfl | ⟨g, rfl, _, hlt, hr⟩
    · cases e
    · injection e with e; subst e; rw [hro g hlt]; exact hr
theorem OutS.low {base' : Nat} (h : OutS R size t w base ro i A n c l) (hb : base' ≤ base) : OutS R size t w base' ro i A n c l := by
  obtain ⟨css, h1, h2, h3, ho⟩ := h.cells
  refine ⟨h.len, h.cap, h.nil, ⟨css, h1, h2, h3, ho.1, ?_⟩, h.role⟩
  rcases ho.2 with h' | ⟨g, cap, cur, e, hg, r⟩
  · exact .inl h'
  · exact .inr ⟨g, cap, cur, e, by omega, r⟩
theorem flatten_set {css : List (List Value)} (h2 : ∀ x ∈ css, x.length = size) {k : Nat} (hk : k < css.length) {cs : List Value} (hcs : cs.length = size) : putMany css.flatten (k * size) cs = (css.set k cs).flatten := by
  have e1 : css = css.take k ++ [css[k]] ++ css.drop (k + 1) := by simp
  have e2 : css.set k cs = css.take k ++ [cs] ++ css.drop (k + 1) := by rw [List.set_eq_take_append_cons_drop, if_pos hk]; simp
  have hl : (css.take k).flatten.length = k * size := by rw [flatten_len (size := size) (fun x hx => h2 x (List.mem_of_mem_take hx)), List.length_take, Nat.min_eq_left (by omega)]
  rw [e2]
  conv => lhs; rw [e1]
  simp only [List.flatten_append, List.flatten_cons, List.flatten_nil, List.append_nil]
  rw [← hl]
  exact putMany_at cs _ _ _ (by rw [hcs]; exact h2 _ (List.getElem_mem hk))
/-- One element is written anew. -/
theorem OutS.put (hR : RCar R) {g : Nat} (h : OutS R size t w base ro i (some ⟨g, 0, none⟩) n c l) (hi : i ≠ 0) {k : Nat} (hk : k < n) {cs : List Value} {x : α} (hcs : cs.length = size) (hx : R w (Inn ro w) cs x) :
    OutS R size t (w.setCells g (k * size) cs) base ro i (some ⟨g, 0, none⟩) n c (l.set k x) ∧ w.grownBy (w.setCells g (k * size) cs) (some g) := by
  obtain ⟨css, h1, h2, h3, ho⟩ := h.cells
  have hrole := h.role _ rfl
  obtain ⟨o1, o2⟩ := own_setCells cs w _ (k * size) ho
  rw [flatten_set h2 (by omega) hcs] at o1
  have hcar : Car w (Inn ro w) (w.setCells g (k * size) cs) (Inn ro (w.setCells g (k * size) cs)) := inn_car o2 (fun g' e _ => by injection e with e; subst e; rw [hrole]; exact hi) (fun _ _ => rfl)
  refine ⟨⟨by rw [List.length_set]; exact h.len, h.cap, h.nil, ⟨css.set k cs, by rw [List.length_set]; exact h1, fun y hy => ?_, fun j ds y a b => ?_, o1⟩, h.role⟩, o2⟩
  · rcases List.mem_or_eq_of_mem_set hy with hy | hy
    · exact h2 y hy
    · rw [hy]; exact hcs
  · rw [List.getElem?_set] at a b
    have hl := h.len
    by_cases hj : k = j
    · subst hj
      rw [if_pos rfl, if_pos (by omega)] at a b
      injection a with a
      injection b with b
      subst a; subst b
      exact hR hcar hx
    · rw [if_neg hj] at a b
      exact hR hcar (h3 j ds y a b)
theorem flatten_set1 {css : List (List Value)} (h2 : ∀ x ∈ css, x.length = size) {k j : Nat} {cs : List Value} (hk : css[k]? = some cs) (hj : j < size) (v : Value) : css.flatten.set (k * size + j) v = (css.set k (cs.set j v)).flatten := by
  have hkl := (List.getElem?_eq_some_iff.1 hk).1
  have hce := (List.getElem?_eq_some_iff.1 hk).2
  have e1 : css = css.take k ++ [cs] ++ css.drop (k + 1) := by rw [← hce]; simp
  have e2 : css.set k (cs.set j v) = css.take k ++ [cs.set j v] ++ css.drop (k + 1) := by rw [List.set_eq_take_append_cons_drop, if_pos hkl]; simp
  have hl : (css.take k).flatten.length = k * size := by rw [flatten_len (size := size) (fun x hx => h2 x (List.mem_of_mem_take hx)), List.length_take, Nat.min_eq_left (by omega)]
  have hcl : cs.length = size := h2 _ (List.mem_of_getElem? hk)
  rw [e2]
  conv => lhs; rw [e1]
  simp only [List.flatten_append, List.flatten_cons, List.flatten_nil, List.append_nil]
  rw [List.append_assoc, List.append_assoc, List.set_append_right _ _ (by omega), hl, Nat.add_sub_cancel_left, List.set_append_left _ _ (by omega)]
/-- One cell of one element is written anew. -/
theorem OutS.put1 (hR : RCar R) {g : Nat} (h : OutS R size t w base ro i (some ⟨g, 0, none⟩) n c l) (hi : i ≠ 0) {k : Nat} (hk : k < n) {j : Nat} (hj : j < size) {v : Value} {x : α} (hx : ∀ cs, cs.length = size → R w (Inn ro w) cs (l.getD k x) → (∀ j v, cs[j]? = some v → w.cell? ⟨g, k * size + j, none⟩ = some v) → R w (Inn ro w) (cs.set j v) x) :
    OutS R size t (w.setCell ⟨g, k * size + j, none⟩ v) base ro i (some ⟨g, 0, none⟩) n c (l.set k x) ∧ w.grownBy (w.setCell ⟨g, k * size + j, none⟩ v) (some g) := by
  obtain ⟨css, h1, h2, h3, ho⟩ := h.cells
  have hrole := h.role _ rfl
  have hl := h.len
  obtain ⟨o1, o2⟩ := ho.stored (k * size + j) v
  have hkc : css[k]? = some (css[k]'(by omega)) := List.getElem?_eq_getElem (by omega)
  have hkl : l[k]? = some (l[k]'(by omega)) := List.getElem?_eq_getElem (by omega)
  rw [flatten_set1 h2 hkc hj] at o1
  have hlk : l.getD k x = l[k]'(by omega) := by rw [List.getD_eq_getElem?_getD, hkl]; rfl
  have hx' := hx _ (h2 _ (List.getElem_mem (show k < css.length by omega))) (by rw [hlk]; exact h3 k _ _ hkc hkl) (fun j v hv => by
    have hj : j < size := by rw [← h2 _ (List.getElem_mem (show k < css.length by omega))]; exact (List.getElem?_eq_some_iff.1 hv).1
    have h9 : (k + 1) * size ≤ n * size := Nat.mul_le_mul_right _ hk
    rw [Nat.add_mul] at h9
    exact (ho.cellAt _ (by omega)).trans ((flatten_get h2 hkc hj).trans hv))
  have hcar : Car w (Inn ro w) (w.setCell ⟨g, k * size + j, none⟩ v) (Inn ro (w.setCell ⟨g, k * size + j, none⟩ v)) := inn_car o2 (fun g' e _ => by injection e with e; subst e; rw [hrole]; exact hi) (fun _ _ => rfl)
  refine ⟨⟨by rw [List.length_set]; exact h.len, h.cap, h.nil, ⟨css.set k _, by rw [List.length_set]; exact h1, fun y hy => ?_, fun m ds y a b => ?_, o1⟩, h.role⟩, o2⟩
  · rcases List.mem_or_eq_of_mem_set hy with hy | hy
    · exact h2 y hy
    · rw [hy, List.length_set]; exact h2 _ (List.getElem_mem (show k < css.length by omega))
  · rw [List.getElem?_set] at a b
    by_cases hm : k = m
    · subst hm
      rw [if_pos rfl, if_pos (by omega)] at a b
      injection a with a
      injection b with b
      subst a; subst b
      exact hR hcar hx'
    · rw [if_neg hm] at a b
      exact hR hcar (h3 m ds y a b)
/-- A fresh row takes the role. -/
theorem OutS.fresh {g : Nat} {css : List (List Value)} (hl : l.length = n) (hc : n ≤ c ∧ c ≤ maxLen) (h1 : css.length = n) (h2 : ∀ x ∈ css, x.length = size) (h3 : ∀ (k : Nat) (cs : List Value) (x : α), css[k]? = some cs → l[k]? = some x → R w (Inn ro w) cs x) (ho : w.ownsRow base t size (.slice (some ⟨g, 0, none⟩) n c) n css.flatten) (hr : ro g = i) : OutS R size t w base ro i (some ⟨g, 0, none⟩) n c l :=
  ⟨hl, hc, (fun e => by cases e), ⟨css, h1, h2, h3, ho⟩, fun a e => by injection e with e; subst e; exact hr⟩
theorem OutS.none_ : OutS R size t w base ro i none 0 0 [] :=
  ⟨rfl, ⟨Nat.le_refl _, Nat.zero_le _⟩, fun _ => rfl, ⟨[], rfl, by simp, by simp, World.ownsRow_nil _ _ _ _⟩, fun a e => by cases e⟩
end
end Go.Proofs.Ytjpaoadbgmmoeaa
