/- Slices of integers as lists, and the contracts of the laws' helpers on them. Condition: the slices read as lists. -/
import Derived.Test.YtjnplihkagegdaaSchC
import Derived.Test.YtjnplihkagegdaaRdr
namespace Go.Proofs.Ytjnplihkagegdaa
open Go.RowKit

def iV (L : List Int) : List Value := L.map (Value.int .i64)
theorem iV_len (L : List Int) : (iV L).length = L.length := by simp [iV]
theorem intV_iV (L : List Nat) : intV L = iV (L.map fun (x : Nat) => (x : Int)) := by simp [iV, intV]
/-- A slice of integers that reads as a list. -/
def Ints (w : World) (B : Nat) (A : Option Addr) (n c : Nat) (L : List Int) : Prop := Rd w B 1 A n (iV L) ∧ n ≤ c ∧ c ≤ maxLen
section
variable {w w' : World} {B B' n c : Nat} {A : Option Addr} {L : List Int}
theorem Ints.len (h : Ints w B A n c L) : L.length = n := by have := h.1.1; rw [iV_len] at this; omega
theorem Ints.at_ (h : Ints w B A n c L) {k : Nat} (hk : k < n) : ∃ b o u, A = some ⟨b, o, none⟩ ∧ b < B ∧ L[k]? = some u ∧ w.cell? ⟨b, o + k, none⟩ = some (.int .i64 u) := by
  obtain ⟨b, o, u, e, hb, hu, hc⟩ := h.1.at_ hk
  have hl : k < L.length := by have := h.len; omega
  rw [iV, List.getElem?_map, List.getElem?_eq_getElem hl] at hu
  simp only [Option.map_some, Option.some.injEq] at hu
  subst hu
  exact ⟨b, o, L[k], e, hb, List.getElem?_eq_getElem hl, hc⟩
theorem Ints.below (h : Ints w B A n c L) (hb : Below B' w w') (hB : B ≤ B') : Ints w' B A n c L := ⟨h.1.belowLe hb hB, h.2⟩
theorem Ints.more (h : Ints w B A n c L) (hB : B ≤ B') : Ints w B' A n c L := ⟨h.1.more hB, h.2⟩
theorem Ints.keep (h : Ints w B A n c L) (hk : ∀ p : Addr, p.block < B → A.map (·.block) = some p.block → w'.cell? p = w.cell? p) : Ints w' B A n c L :=
  ⟨⟨h.1.1, fun hn => by
    obtain ⟨b, o, e, hb, hc⟩ := h.1.2 hn
    subst e
    exact ⟨b, o, rfl, hb, fun j u hu => (hk ⟨b, o + j, none⟩ hb rfl).trans (hc j u hu)⟩⟩, h.2⟩
end


set_option maxHeartbeats 400000 in
theorem eqIntS_same (A A' : Option Addr) (n c n' c' : Nat) (L : List Int) (w : World) (B : Nat) (h : Ints w B A n c L) (h' : Ints w B A' n' c' L) :
    Calls Try.prog 17 #[.slice A n c, .slice A' n' c'] w fun e w' => e = .returned (.bool true) ∧ ∃ m, w' = w.drewN m := by
  obtain rfl : n = n' := h.len.symm.trans h'.len
  have hc := h.2
  have hc' := h'.2
  unfold maxLen at hc hc'
  go_enter Try.func17, Try.ntmps17
  go_wp2
  go_loopg [5] n (fun m i wr => ∃ k : Nat, k + m = n ∧ i = .int .i64 k ∧ ∃ q, wr = w.drewN q)
  case atStart => exact ⟨0, by omega, rfl, 0, rfl⟩
  case round =>
    obtain ⟨k, hk, rfl, q, rfl⟩ := hrel
    by_cases hlt : k < n
    · obtain ⟨b, o, u, rfl, hb, hu, hcu⟩ := h.at_ hlt
      obtain ⟨b2, o2, u2, rfl, hb2, hu2, hcu2⟩ := h'.at_ hlt
      obtain rfl : u = u2 := by rw [hu] at hu2; injection hu2
      have q1 : (0 : Int) ≤ (k : Int) := by omega
      have q2 : (k : Int) < (n : Int) := by omega
      clear hu hu2
      go_wp2_with fail
      go_quiet (fail)
      go_wp2_with fail
      go_roundg (n - (k + 1))
      case measure => omega
      case rel => exact ⟨k + 1, by omega, by go_num, _, rfl⟩
    · go_wp2
      go_ret
      exact ⟨rfl, _, rfl⟩

set_option maxHeartbeats 400000 in
theorem sameInts_same (A A' : Option Addr) (n c n' c' : Nat) (L : List Int) (w : World) (B : Nat) (h : Ints w B A n c L) (h' : Ints w B A' n' c' L) :
    Calls Try.prog 11 #[.slice A n c, .slice A' n' c'] w fun e w' => e = .returned (.bool true) ∧ ∃ m, w' = w.drewN m := by
  obtain rfl : n = n' := h.len.symm.trans h'.len
  have hc := h.2
  have hc' := h'.2
  unfold maxLen at hc hc'
  go_enter Try.func11, Try.ntmps11
  go_wp2
  go_loopg [5] n (fun m i wr => ∃ k : Nat, k + m = n ∧ i = .int .i64 k ∧ ∃ q, wr = w.drewN q)
  case atStart => exact ⟨0, by omega, rfl, 0, rfl⟩
  case round =>
    obtain ⟨k, hk, rfl, q, rfl⟩ := hrel
    by_cases hlt : k < n
    · obtain ⟨b, o, u, rfl, hb, hu, hcu⟩ := h.at_ hlt
      obtain ⟨b2, o2, u2, rfl, hb2, hu2, hcu2⟩ := h'.at_ hlt
      obtain rfl : u = u2 := by rw [hu] at hu2; injection hu2
      have q1 : (0 : Int) ≤ (k : Int) := by omega
      have q2 : (k : Int) < (n : Int) := by omega
      clear hu hu2
      go_wp2_with fail
      go_quiet (fail)
      go_wp2_with fail
      go_roundg (n - (k + 1))
      case measure => omega
      case rel => exact ⟨k + 1, by omega, by go_num, _, rfl⟩
    · go_wp2
      go_ret
      exact ⟨rfl, _, rfl⟩

/-- A slice of integers that reads as a list and may be written. -/
def IntsO (w : World) (base : Nat) (A : Option Addr) (n c : Nat) (L : List Int) : Prop :=
  L.length = n ∧ n ≤ c ∧ c ≤ maxLen ∧ (0 < n → ∃ b o cur, A = some ⟨b, o, none⟩ ∧ base ≤ b ∧ w.heap[b]? = some (.cells cur 3 (0, 0)) ∧ ∀ j u, L[j]? = some u → cur[o + j]? = some (.int .i64 u))
theorem IntsO.read {w : World} {base n c : Nat} {A : Option Addr} {L : List Int} (h : IntsO w base A n c L) : Ints w w.heap.size A n c L := by
  refine ⟨⟨by rw [iV_len, h.1, Nat.mul_one], fun hn => ?_⟩, h.2.1, h.2.2.1⟩
  obtain ⟨b, o, cur, e, hb, hh, hc⟩ := h.2.2.2 hn
  refine ⟨b, o, e, (Array.getElem?_eq_some_iff.1 hh).1, fun j u hu => ?_⟩
  rw [iV, List.getElem?_map] at hu
  cases hl : L[j]? with
  | none => rw [hl] at hu; cases hu
  | some x =>
    rw [hl] at hu
    simp only [Option.map_some, Option.some.injEq] at hu
    subst hu
    simp [World.cell?, hh, hc j x hl]
theorem IntsO.kept {w w' : World} {base n c : Nat} {A : Option Addr} {L : List Int} {row : Option Nat} (h : IntsO w base A n c L) (hg : w.grownBy w' row) (hne : 0 < n → ∀ a, A = some a → row ≠ some a.block) : IntsO w' base A n c L := by
  refine ⟨h.1, h.2.1, h.2.2.1, fun hn => ?_⟩
  obtain ⟨b, o, cur, e, hb, hh, hc⟩ := h.2.2.2 hn
  refine ⟨b, o, cur, e, hb, ?_, hc⟩
  rw [hg.block b (Array.getElem?_eq_some_iff.1 hh).1 (fun e' => hne hn _ e e'.symm)]
  exact hh
theorem IntsO.below {w w' : World} {base n c : Nat} {A : Option Addr} {L : List Int} (h : IntsO w base A n c L) (hg : Below w.heap.size w w') : IntsO w' base A n c L := by
  refine ⟨h.1, h.2.1, h.2.2.1, fun hn => ?_⟩
  obtain ⟨b, o, cur, e, hb, hh, hc⟩ := h.2.2.2 hn
  exact ⟨b, o, cur, e, hb, (hg.block b (Array.getElem?_eq_some_iff.1 hh).1).trans hh, hc⟩
theorem IntsO.of_own {w : World} {base n m c : Nat} {A : Option Addr} {L : List Int} (h : w.ownsRow base 3 1 (.slice A m c) n (iV L)) : IntsO w base A n c L ∧ m = n := by
  have hl := h.1
  rw [iV_len, Nat.mul_one] at hl
  rcases h.2 with ⟨h0, h1⟩ | ⟨g, cap, cur, hv, hb, hh, hnc, hcm, hs, ht⟩
  · injection h0 with e1 e2 e3
    subst e1; subst e2; subst e3; subst h1
    exact ⟨⟨hl, Nat.le_refl _, Nat.zero_le _, fun hn => absurd hn (by omega)⟩, rfl⟩
  · injection hv with e1 e2 e3
    subst e1; subst e2; subst e3
    refine ⟨⟨hl, hnc, hcm, fun hn => ⟨g, 0, cur, rfl, hb, hh, fun j u hu => ?_⟩⟩, rfl⟩
    have hu' : (iV L)[j]? = some (.int .i64 u) := by rw [iV, List.getElem?_map, hu]; rfl
    rw [← ht, List.getElem?_take] at hu'
    split at hu'
    · rw [Nat.zero_add]; simpa using hu'
    · cases hu'
def ownOf (n : Nat) (A : Option Addr) : Option Nat := if n = 0 then none else A.map (·.block)
theorem IntsO.store {w : World} {base n c b o k : Nat} {L : List Int} (x : Int) (h : IntsO w base (some ⟨b, o, none⟩) n c L) (hk : k < n) :
    IntsO (w.setCell ⟨b, o + k, none⟩ (.int .i64 x)) base (some ⟨b, o, none⟩) n c (L.set k x) := by
  refine ⟨by rw [List.length_set]; exact h.1, h.2.1, h.2.2.1, fun hn => ?_⟩
  obtain ⟨b', o', cur, e, hb, hh, hc⟩ := h.2.2.2 hn
  injection e with e
  injection e with e1 e2
  subst e1; subst e2
  refine ⟨b, o, cur.setIfInBounds (o + k) (.int .i64 x), rfl, hb, heap_setCell_same w b (o + k) cur 3 _ hh, fun j u hu => ?_⟩
  rw [List.getElem?_set] at hu
  have hsz : o + k < cur.size := by
    have hl : k < L.length := by have := h.1; omega
    have := hc k _ (List.getElem?_eq_getElem hl)
    exact (Array.getElem?_eq_some_iff.1 this).1
  by_cases hjk : k = j
  · subst hjk
    rw [if_pos rfl] at hu
    split at hu
    · injection hu with hu; subst hu
      rw [Array.getElem?_setIfInBounds_self_of_lt hsz]
    · cases hu
  · rw [if_neg hjk] at hu
    rw [Array.getElem?_setIfInBounds_ne (by omega)]
    exact hc j u hu
theorem IntsO.cellAt {w : World} {base n c k : Nat} {A : Option Addr} {L : List Int} (h : IntsO w base A n c L) (hk : k < n) : ∃ b o u, A = some ⟨b, o, none⟩ ∧ base ≤ b ∧ b < w.heap.size ∧ L[k]? = some u ∧ w.cell? ⟨b, o + k, none⟩ = some (.int .i64 u) ∧ w.frozen? ⟨b, o + k, none⟩ = false := by
  obtain ⟨b, o, cur, e, hb, hh, hc⟩ := h.2.2.2 (by omega)
  have hl : k < L.length := by have := h.1; omega
  refine ⟨b, o, L[k], e, hb, (Array.getElem?_eq_some_iff.1 hh).1, List.getElem?_eq_getElem hl, ?_, ?_⟩
  · simp [World.cell?, hh, hc k _ (List.getElem?_eq_getElem hl)]
  · exact frozen_of_row w b (o + k) cur _ hh
def runUp (k : Int) (n : Nat) : List Int := (List.range n).map fun (i : Nat) => k + i
theorem runUp_len (k : Int) (n : Nat) : (runUp k n).length = n := by simp [runUp]
theorem runUp_at (k : Int) (n i : Nat) (h : i < n) : (runUp k n)[i]? = some (k + i) := by simp [runUp, h]

set_option maxHeartbeats 400000 in
theorem markIntS_any (A : Option Addr) (n c : Nat) (L : List Int) (k0 : Nat) (w : World) (base : Nat) (h : IntsO w base A n c L) (hk0 : k0 ≤ 1000) (hn : n ≤ 1000) :
    Calls Try.prog 20 #[.slice A n c, .int .i64 (k0 : Int)] w fun e w' => e = .returned (.int .i64 ((k0 + n : Nat) : Int)) ∧ w.grownBy w' (ownOf n A) ∧ IntsO w' base A n c (runUp k0 n) := by
  have hcm := h.2.2.1
  unfold maxLen at hcm
  have hnc := h.2.1
  go_enter Try.func20, Try.ntmps20
  go_wp2
  go_loopg [1, 5] n (fun m v i wr => ∃ k : Nat, k + m = n ∧ i = .int .i64 k ∧ v = .int .i64 ((k0 + k : Nat) : Int) ∧ w.grownBy wr (ownOf n A) ∧ IntsO wr base A n c (runUp k0 k ++ L.drop k))
  case atStart => exact ⟨0, by omega, rfl, rfl, World.grownBy.refl _ _, by simpa [runUp] using h⟩
  case round =>
    obtain ⟨k, hk, rfl, rfl, hg, ho⟩ := hrel
    by_cases hlt : k < n
    · obtain ⟨b, o, u, rfl, hb, hbs, hu, hcu, hfu⟩ := ho.cellAt hlt
      have hst := ho.store ((k0 + k : Nat) : Int) hlt
      have hl : L.length = n := h.1
      have e1 : (runUp k0 k ++ L.drop k).set k ((k0 + k : Nat) : Int) = runUp k0 (k + 1) ++ L.drop (k + 1) := by
        rw [List.set_append_right _ _ (by rw [runUp_len]; omega), runUp_len, Nat.sub_self, List.drop_eq_getElem_cons (by omega), List.set_cons_zero]
        simp [runUp, List.range_succ]
      rw [e1] at hst
      have hob : ownOf n (some ⟨b, o, none⟩) = some b := by rw [ownOf, if_neg (by omega)]; rfl
      have hg2 : w.grownBy (wr.setCell ⟨b, o + k, none⟩ (.int .i64 ((k0 + k : Nat) : Int))) (some b) := only_setCell (g := b) (by rw [hob] at hg; exact hg) (p := ⟨b, o + k, none⟩) (.inl rfl) _
      have Hst := Lib.hid hst
      have Hg2 := Lib.hid hg2
      have q1 : (0 : Int) ≤ (k : Int) := by omega
      have q2 : (k : Int) < (n : Int) := by omega
      have Hob := Lib.hid hob
      clear hst hg2 hu ho hg e1 hl h hob
      go_wp2
      go_roundg (n - (k + 1))
      case measure => omega
      case rel => exact ⟨k + 1, by omega, by go_num, by go_num, by rw [Hob.out]; exact Hg2.out, Hst.out⟩
    · go_wp2
      go_ret
      have hk' : k = n := by omega
      subst hk'
      have hl : L.length = k := h.1
      rw [List.drop_eq_nil_of_le (by omega), List.append_nil] at ho
      exact ⟨rfl, hg, ho⟩

set_option maxHeartbeats 400000 in
theorem heldIntS_any (A : Option Addr) (n c : Nat) (k0 : Nat) (w : World) (base : Nat) (h : IntsO w base A n c (runUp k0 n)) (hk0 : k0 ≤ 1000) (hn : n ≤ 1000) :
    Calls Try.prog 21 #[.slice A n c, .int .i64 (k0 : Int)] w fun e w' => e = .returned (.int .i64 ((k0 + n : Nat) : Int)) ∧ w = w' := by
  have hcm := h.2.2.1
  unfold maxLen at hcm
  have hnc := h.2.1
  go_enter Try.func21, Try.ntmps21
  go_wp2
  go_loop [1, 5] (fun v i => ∃ k : Nat, k ≤ n ∧ i = .int .i64 k ∧ v = .int .i64 ((k0 + k : Nat) : Int)) (fun _ i => n - (intOf i).toNat)
  case atStart => exact ⟨0, by omega, rfl, rfl⟩
  case round =>
    obtain ⟨k, hk, rfl, rfl⟩ := hrel
    by_cases hlt : k < n
    · obtain ⟨b, o, u, rfl, hb, hbs, hu, hcu, hfu⟩ := h.cellAt hlt
      rw [runUp_at _ _ _ hlt] at hu
      injection hu with hu
      have hu2 : u = ((k0 + k : Nat) : Int) := by omega
      subst hu2
      have q1 : (0 : Int) ≤ (k : Int) := by omega
      have q2 : (k : Int) < (n : Int) := by omega
      clear hu
      go_wp2
      go_round
      case rel => exact ⟨k + 1, by omega, by go_num, by go_num⟩
      case measure => simp [intOf]; omega
    · go_wp2
      go_ret
      have hk' : k = n := by omega
      subst hk'
      exact ⟨rfl, rfl⟩
end Go.Proofs.Ytjnplihkagegdaa
