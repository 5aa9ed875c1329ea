/- How a law's argument that is a slice of options is opened. No condition. -/
import Derived.Test.YtjnplihkagegdaaLaw
import Derived.Test.YtjnplihkagegdaaSch
import Derived.Deep.Slices
import Derived.Deep.Fields
import Derived.ChangeSame
namespace Go.Proofs.Ytjnplihkagegdaa
open Go.ChangeShapes Go.WideShapes Go.ChangeAt Go.RowKit Go.Deep
section
variable {H : Type} {enc : TypeId × Value → H} {P : Program} {w : World} {base : Nat} {spare : Nat → Bool} {held : Bool}
theorem open_slice_fields {t e : TypeId} {fs : Array Field} {fuel : Nat} {cs : List Value} {x : DataW H × List MemPlace} (ht : P.underlying t = some (.slice e)) (he : P.underlying e = some (.struct fs))
    (hone : oneCellFields P fs = true) (hC : P.cellsOf e = fs.size) (h : DataW.trod enc P w base spare held fuel t cs = some x) :
    (cs = [.slice none 0 0] ∧ x = (.nil, [])) ∨
    ∃ (a : Addr) (len cap m : Nat), cs = [.slice (some a) len cap] ∧ len ≤ cap ∧ cap ≤ maxLen ∧ m = (if spare a.block then cap else len) ∧
      ∀ i, i < m → ∃ (n : Nat), ∀ (j : Nat) (f : Field), fs[j]? = some f → ∃ (v : Value) (y : DataW H × List MemPlace), w.cell? (a.add (i * fs.size + j)) = some v ∧ DataW.trod enc P w base spare held n f.type [v] = some y := by
  rcases open_slice ht h with h0 | ⟨a, len, cap, m, n, D, Pl, hcs, hb, hl, hm, hmm, hx, hi⟩
  · exact .inl h0
  · refine .inr ⟨a, len, cap, m, hcs, hl, hm, hmm, fun i him => ?_⟩
    obtain ⟨cs', hc, ht'⟩ := hi i him
    rw [hC] at hc
    obtain ⟨ys, n', hn', hy, hlen, hyl, hf⟩ := DataW.trod_struct he ht'
    obtain ⟨_, hcl, hat⟩ := World.cells?_some hc
    refine ⟨n', fun j f hj => ?_⟩
    obtain ⟨ho, hk⟩ := hone_of hone j f hj
    have hjl : j < fs.size := (Array.getElem?_eq_some_iff.1 hj).1
    have hcell := hat j hjl
    have hv : cs'[j]? = some (cs'[j]'(by omega)) := List.getElem?_eq_getElem (by omega)
    have h1 := hf j f hj
    rw [ho, hk] at h1
    have hone' : (cs'.drop j).take 1 = [cs'[j]'(by omega)] := by
      rw [List.drop_eq_getElem_cons (by omega)]
      rfl
    rw [hone'] at h1
    have hys : ys[j]? = some (ys[j]'(by omega)) := List.getElem?_eq_getElem (by omega)
    refine ⟨_, _, ?_, h1.trans hys⟩
    rw [← Go.Deep.add_add, hcell, hv]

theorem list_of {α : Type} (Q : Nat → α → Prop) (n : Nat) (h : ∀ i, i < n → ∃ u, Q i u) : ∃ l : List α, l.length = n ∧ ∀ i u, l[i]? = some u → Q i u := by
  induction n with
  | zero => exact ⟨[], rfl, fun i u hu => by simp at hu⟩
  | succ n ih =>
    obtain ⟨l, hl, hq⟩ := ih (fun i hi => h i (by omega))
    obtain ⟨u, hu⟩ := h n (by omega)
    refine ⟨l ++ [u], by simp [hl], fun i x hx => ?_⟩
    by_cases hi : i < n
    · rw [List.getElem?_append_left (by omega)] at hx; exact hq i x hx
    · have hlt := (List.getElem?_eq_some_iff.1 hx).1
      simp only [List.length_append, List.length_cons, List.length_nil] at hlt
      obtain rfl : i = n := by omega
      rw [List.getElem?_append_right (by omega), hl, Nat.sub_self] at hx
      simp at hx; subst hx; exact hu
theorem open_Opts {t e : TypeId} {f0 f1 f2 f3 : Field} {a : Option Addr} {len cap : Nat} {d : DataW H} {p : List MemPlace} (ht : P.underlying t = some (.slice e)) (he : P.underlying e = some (.struct #[f0, f1, f2, f3]))
    (hone : oneCellFields P #[f0, f1, f2, f3] = true) (hC : P.cellsOf e = 4) (t0 : P.underlying f0.type = some .bool) (t1 : P.underlying f1.type = some (.int .i64)) (t2 : P.underlying f2.type = some (.int .i64)) (t3 : P.underlying f3.type = some (.int .i64))
    (h : DataW.Trod enc P w 0 (fun _ => true) true t (.slice a len cap) d p) : ∃ l, Opts 9223372036854775807 w w.heap.size a len l := by
  obtain ⟨fuel, hf⟩ := h
  rcases open_slice_fields ht he hone hC hf with ⟨hcs, _⟩ | ⟨x, l, c, m, hcs, hl, hm, hmm, hi⟩
  · simp [Value.cells] at hcs
    obtain ⟨rfl, rfl, rfl⟩ := hcs
    exact ⟨[], Rd.none_, by omega, by simp⟩
  · simp [Value.cells] at hcs
    obtain ⟨rfl, rfl, rfl⟩ := hcs
    simp only [if_true] at hmm
    obtain ⟨ls, hlen, hat⟩ := list_of (fun i (u : Opt) => u.bd ∧ ∀ j v, u.cells[j]? = some v → w.cell? (x.add (i * 4 + j)) = some v) len (fun i him => by
      obtain ⟨n, hn⟩ := hi i (by omega)
      obtain ⟨v0, y0, c0, q0⟩ := hn 0 f0 rfl
      obtain ⟨v1, y1, c1, q1⟩ := hn 1 f1 rfl
      obtain ⟨v2, y2, c2, q2⟩ := hn 2 f2 rfl
      obtain ⟨v3, y3, c3, q3⟩ := hn 3 f3 rfl
      obtain ⟨b0, e0, -⟩ := DataW.trod_bool t0 q0
      obtain ⟨z1, e1, -, w1⟩ := DataW.trod_int t1 q1
      obtain ⟨z2, e2, -, w2⟩ := DataW.trod_int t2 q2
      obtain ⟨z3, e3, -, w3⟩ := DataW.trod_int t3 q3
      simp only [List.cons.injEq, and_true] at e0 e1 e2 e3
      subst e0; subst e1; subst e2; subst e3
      simp [Lit.wf, IntKind.min, IntKind.max, IntKind.signed, IntKind.bits] at w1 w2 w3
      refine ⟨⟨b0, z1, z2, z3⟩, ⟨w1, w2, w3⟩, fun j v hv => ?_⟩
      match j, hv with
      | 0, hv => simp [Opt.cells] at hv; subst hv; exact c0
      | 1, hv => simp [Opt.cells] at hv; subst hv; exact c1
      | 2, hv => simp [Opt.cells] at hv; subst hv; exact c2
      | 3, hv => simp [Opt.cells] at hv; subst hv; exact c3
      | k + 4, hv => simp [Opt.cells] at hv)
    refine ⟨ls, ⟨by rw [optV_len, hlen], fun hn => ?_⟩, by simp only [maxLen] at hm; omega, fun u hu => ?_⟩
    · obtain ⟨b, o, spot⟩ := x
      obtain ⟨u0, hu0⟩ : ∃ u, ls[0]? = some u := ⟨_, List.getElem?_eq_getElem (by omega)⟩
      have h0 := (hat 0 u0 hu0).2 0 _ rfl
      rw [Nat.zero_mul, Nat.zero_add] at h0
      have h0' : w.cell? ⟨b, o, spot⟩ = some (.bool u0.act) := by simpa [Addr.add] using h0
      have hspot : spot = none := by simpa using World.cell?_spot h0'
      subst hspot
      refine ⟨b, o, rfl, World.block_lt_of_cell? w ⟨b, o, none⟩ h0', fun j v hv => ?_⟩
      have hj : j < len * 4 := by have := (List.getElem?_eq_some_iff.1 hv).1; rw [optV_len, hlen] at this; exact this
      have hd : j = j / 4 * 4 + j % 4 := by omega
      obtain ⟨u, hu⟩ : ∃ u, ls[j / 4]? = some u := ⟨_, List.getElem?_eq_getElem (by omega)⟩
      have h1 := optV_get ls (j / 4) (j % 4) u hu (by omega)
      rw [← hd, hv] at h1
      have h2 := (hat (j / 4) u hu).2 (j % 4) v h1.symm
      rw [← hd, add_lit] at h2
      exact h2
    · obtain ⟨i, hi', e⟩ := List.getElem_of_mem hu
      exact (hat i u (by rw [List.getElem?_eq_getElem hi', e])).1
end
end Go.Proofs.Ytjnplihkagegdaa
