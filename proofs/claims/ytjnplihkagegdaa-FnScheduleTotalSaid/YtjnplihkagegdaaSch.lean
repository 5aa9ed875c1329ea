/- Options and orders as plain data, and the contracts of OptionsValid. Condition: the slice reads as a list of options. -/
import Derived.Test.YtjnplihkagegdaaBase
import Derived.Deep.LoopGhost
namespace Go.Proofs.Ytjnplihkagegdaa
open Go.RowKit

structure Opt where
  act : Bool
  rtt : Int
  win : Int
  fl : Int
deriving DecidableEq, Inhabited
def Opt.cells (o : Opt) : List Value := [.bool o.act, .int .i64 o.rtt, .int .i64 o.win, .int .i64 o.fl]
def Opt.okB (o : Opt) : Bool := withinB o.rtt 1 99 && withinB o.win 1 64 && withinB o.fl 0 64
def Opt.bd (o : Opt) : Prop := (-9223372036854775808 ≤ o.rtt ∧ o.rtt ≤ 9223372036854775807) ∧ (-9223372036854775808 ≤ o.win ∧ o.win ≤ 9223372036854775807) ∧ -9223372036854775808 ≤ o.fl ∧ o.fl ≤ 9223372036854775807
def ovB (l : List Opt) : Bool := l.all Opt.okB && decide (l.length ≤ 4)
def optV (l : List Opt) : List Value := l.flatMap Opt.cells
theorem optV_len (l : List Opt) : (optV l).length = l.length * 4 := by
  induction l with
  | nil => rfl
  | cons x xs ih => simp only [optV, List.flatMap_cons, List.length_append, List.length_cons] at ih ⊢; rw [ih]; simp [Opt.cells]; omega
theorem optV_get (l : List Opt) (k j : Nat) (u : Opt) (h : l[k]? = some u) (hj : j < 4) : (optV l)[k * 4 + j]? = u.cells[j]? := by
  induction l generalizing k with
  | nil => simp at h
  | cons x xs ih =>
    have hx : x.cells.length = 4 := rfl
    cases k with
    | zero =>
      simp only [List.getElem?_cons_zero, Option.some.injEq] at h
      subst h
      simp only [optV, List.flatMap_cons]
      rw [List.getElem?_append_left (by rw [hx]; omega)]
      simp
    | succ k =>
      simp only [List.getElem?_cons_succ] at h
      simp only [optV, List.flatMap_cons]
      rw [List.getElem?_append_right (by rw [hx]; omega), hx, show (k + 1) * 4 + j - 4 = k * 4 + j by omega]
      exact ih k h
/-- A slice of options that reads as a list, at most M long. -/
def Opts (M : Nat) (w : World) (B : Nat) (A : Option Addr) (n : Nat) (l : List Opt) : Prop :=
  Rd w B 4 A n (optV l) ∧ n ≤ M ∧ ∀ o ∈ l, o.bd
section
variable {w w' : World} {M B B' n : Nat} {A : Option Addr} {l : List Opt}
theorem Opts.len (h : Opts M w B A n l) : l.length = n := by have := h.1.1; rw [optV_len] at this; omega
theorem Opts.at_ (h : Opts M w B A n l) {k : Nat} (hk : k < n) :
    ∃ b o u, A = some ⟨b, o, none⟩ ∧ b < B ∧ l[k]? = some u ∧ u.bd ∧ w.cell? ⟨b, o + k * 4, none⟩ = some (.bool u.act) ∧ w.cell? ⟨b, o + k * 4 + 1, none⟩ = some (.int .i64 u.rtt) ∧
      w.cell? ⟨b, o + k * 4 + 2, none⟩ = some (.int .i64 u.win) ∧ w.cell? ⟨b, o + k * 4 + 3, none⟩ = some (.int .i64 u.fl) := by
  obtain ⟨b, o, e, hb, hc⟩ := h.1.2 (by omega)
  have hl : k < l.length := by have := h.len; omega
  have hu : l[k]? = some l[k] := List.getElem?_eq_getElem hl
  have key : ∀ j, j < 4 → ∀ v, l[k].cells[j]? = some v → w.cell? ⟨b, o + k * 4 + j, none⟩ = some v := by
    intro j hj v hv
    have := hc (k * 4 + j) v (by rw [optV_get l k j _ hu hj]; exact hv)
    rwa [← Nat.add_assoc] at this
  exact ⟨b, o, l[k], e, hb, hu, h.2.2 _ (List.getElem_mem hl), key 0 (by omega) _ rfl, key 1 (by omega) _ rfl, key 2 (by omega) _ rfl, key 3 (by omega) _ rfl⟩
theorem Opts.below (h : Opts M w B A n l) (hb : Below B' w w') (hB : B ≤ B') : Opts M w' B A n l := ⟨h.1.belowLe hb hB, h.2⟩
theorem Opts.more (h : Opts M w B A n l) (hB : B ≤ B') : Opts M w B' A n l := ⟨h.1.more hB, h.2⟩
end

theorem within_any (n lo hi : Int) (w : World) :
    Calls Try.prog 28 #[.int .i64 n, .int .i64 lo, .int .i64 hi] w fun e w' => e = .returned (.bool (withinB n lo hi)) ∧ w = w' := by
  by_cases h1 : lo ≤ n <;> by_cases h2 : n ≤ hi
  all_goals
    go_enter Try.func28, Try.ntmps28
    go_wp2
    go_ret
    exact ⟨by simp [withinB, h1, h2], rfl⟩
theorem ov_no {l : List Opt} {k : Nat} {u : Opt} (hu : l[k]? = some u) (h : u.okB = false) : ovB l = false := by
  have : l.all Opt.okB = false := List.all_eq_false.2 ⟨u, List.mem_of_getElem? hu, by simp [h]⟩
  simp [ovB, this]
theorem ov_next {l : List Opt} {k : Nat} {u : Opt} (hu : l[k]? = some u) (h : u.okB = true) (hp : (l.take k).all Opt.okB = true) : (l.take (k + 1)).all Opt.okB = true := by
  rw [List.take_add_one, hu, List.all_append, hp]
  simp [h]

set_option maxHeartbeats 400000 in
theorem optionsValid_any (A : Option Addr) (n c : Nat) (l : List Opt) (w : World) (B : Nat) (h : Opts 1048576 w B A n l) (hB : B ≤ w.heap.size) :
    Calls Try.prog 27 #[.slice A n c] w fun e w' => e = .returned (.bool (ovB l)) ∧ Below w.heap.size w w' := by
  have hn := h.2.1
  have hlen := Lib.hid h.len
  go_enter Try.func27, Try.ntmps27
  go_wp2
  go_loopg [7] n (fun m i wr => ∃ k : Nat, k + m = n ∧ i = .int .i64 k ∧ Below w.heap.size w wr ∧ Hid ((l.take k).all Opt.okB = true))
  case atStart => exact ⟨0, by omega, rfl, Below.refl _ _, by simp [Hid]⟩
  case round =>
    obtain ⟨k, hk, rfl, hbr, Hp⟩ := hrel
    by_cases hlt : k < n
    · obtain ⟨b, o, u, rfl, hb, hu, hbd, c0, c1, c2, c3⟩ := (h.below hbr hB).at_ hlt
      have Hu := Lib.hid hu
      clear hu hbd
      go_wp2_with fail
      refine (within_any _ _ _ _).mono ?_
      rintro e w' ⟨rfl, rfl⟩
      cases e1 : withinB u.rtt 1 99 with
      | false =>
        have hno : ovB l = false := ov_no Hu.out (by simp [Opt.okB, e1])
        have Hno := Lib.hid hno
        clear hno e1
        go_wp2_with fail
        go_ret
        exact ⟨ret_bool Hno.out.symm, hbr.alloc hbr.size _⟩
      | true =>
        have E1 := Lib.hid e1
        clear e1
        go_wp2_with fail
        refine (within_any _ _ _ _).mono ?_
        rintro e w' ⟨rfl, rfl⟩
        cases e2 : withinB u.win 1 64 with
        | false =>
          have hno : ovB l = false := ov_no Hu.out (by simp [Opt.okB, e2])
          have Hno := Lib.hid hno
          clear hno e2
          go_wp2_with fail
          go_ret
          exact ⟨ret_bool Hno.out.symm, hbr.alloc hbr.size _⟩
        | true =>
          have E2 := Lib.hid e2
          clear e2
          go_wp2_with fail
          refine (within_any _ _ _ _).mono ?_
          rintro e w' ⟨rfl, rfl⟩
          cases e3 : withinB u.fl 0 64 with
          | false =>
            have hno : ovB l = false := ov_no Hu.out (by simp [Opt.okB, e3])
            have Hno := Lib.hid hno
            clear hno e3
            go_wp2_with fail
            go_ret
            exact ⟨ret_bool Hno.out.symm, hbr.alloc hbr.size _⟩
          | true =>
            have E3 := Lib.hid e3
            clear e3
            go_wp2_with fail
            have hok : u.okB = true := by simp [Opt.okB, E1.out, E2.out, E3.out]
            go_roundg (n - (k + 1))
            case measure => omega
            case rel => exact ⟨k + 1, by omega, by go_num, hbr.alloc hbr.size _, ov_next Hu.out hok Hp.out⟩
    · have hfin : ovB l = decide (n ≤ 4) := by
        have h1 := Hp.out
        rw [List.take_of_length_le (by rw [hlen.out]; omega)] at h1
        rw [ovB, h1, hlen.out]; rfl
      have Hfin := Lib.hid hfin
      clear hfin Hp
      go_wp2
      go_ret
      exact ⟨ret_bool (by rw [Hfin.out]; simp; omega), hbr⟩
end Go.Proofs.Ytjnplihkagegdaa
