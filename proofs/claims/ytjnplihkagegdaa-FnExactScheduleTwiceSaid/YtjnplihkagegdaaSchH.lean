/- The contracts of ScheduleTwice, of the program and of the reference. Condition: the slice reads as a list of options. -/
import Derived.Test.YtjnplihkagegdaaSchG
namespace Go.Proofs.Ytjnplihkagegdaa
open Go.RowKit

theorem IntsO.take {w : World} {base n c : Nat} {A : Option Addr} {L : List Int} (h : IntsO w base A n c L) (m c' : Nat) (hm : m ≤ n) (hc : m ≤ c') (hc' : c' ≤ maxLen) : IntsO w base A m c' (L.take m) := by
  refine ⟨by rw [List.length_take, h.1]; omega, hc, hc', fun h0 => ?_⟩
  obtain ⟨b, o, cur, e, hb, hh, hcu⟩ := h.2.2.2 (by omega)
  refine ⟨b, o, cur, e, hb, hh, fun j u hu => ?_⟩
  rw [List.getElem?_take] at hu
  split at hu
  · exact hcu j u hu
  · cases hu
def twiI (l : List Opt) : List Int := (ordI l).take 2
theorem twiI_len (l : List Opt) : (twiI l).length ≤ 1000 := by unfold twiI; rw [List.length_take]; omega
theorem clip_some (a : Addr) (n c : Nat) (w : World) (hn : n ≤ c) (_hc : c ≤ 9223372036854775807) :
    Calls Try.prog 35 #[.slice (some a) n c] w fun e w' => e = .returned (.slice (some a) n n) ∧ w = w' := by
  go_enter Try.func35, Try.ntmps35
  go_wp2
  go_ret
  exact ⟨rfl, rfl⟩
theorem clip_nil (w : World) :
    Calls Try.prog 35 #[.slice none 0 0] w fun e w' => e = .returned (.slice none 0 0) ∧ w = w' := by
  go_enter Try.func35, Try.ntmps35
  go_wp2
  go_ret
  exact ⟨rfl, rfl⟩
theorem IntsO.nilCase {w : World} {base n c : Nat} {L : List Int} (h : IntsO w base none n c L) : n = 0 := by
  rcases Nat.eq_zero_or_pos n with h0 | h0
  · exact h0
  · obtain ⟨b, o, cur, e, _⟩ := h.2.2.2 h0; cases e
theorem IntsO.wide {w : World} {base n c c' : Nat} {A : Option Addr} {L : List Int} (h : IntsO w base A n c L) (hc : n ≤ c') (hm : c' ≤ maxLen) : IntsO w base A n c' L := ⟨h.1, hc, hm, h.2.2.2⟩
theorem twi_le {w : World} {base n c : Nat} {A : Option Addr} {l : List Opt} (h : IntsO w base A n c (ordI l)) (h2 : n ≤ 2) : IntsO w base A n n (twiI l) := by
  have := h.take n n (Nat.le_refl _) (Nat.le_refl _) (by have := h.2.1; have := h.2.2.1; omega)
  rw [List.take_of_length_le (by rw [h.1]; omega)] at this
  unfold twiI
  rw [List.take_of_length_le (by rw [h.1]; omega)]
  exact this
set_option maxHeartbeats 400000 in
theorem scheduleTwice_any (A : Option Addr) (n c : Nat) (l : List Opt) (w : World) (B : Nat) (h : Opts 1048576 w B A n l) (hB : B ≤ w.heap.size) :
    Calls Try.prog 23 #[.slice A n c] w (NewInts (twiI l) w) := by
  have H := Lib.hid (scheduleOrder_any A n c l w B h hB)
  clear h
  go_enter Try.func23, Try.ntmps23
  go_wp2_with fail
  refine H.out.mono ?_
  rintro e w1 ⟨A1, n1, c1, rfl, hb, hI, hz⟩
  have hc := hI.2.1
  have hm := hI.2.2.1
  unfold maxLen at hm
  have Hb := Lib.hid hb
  have HI := Lib.hid hI
  cases A1 with
  | none =>
    obtain rfl : c1 = 0 := hz rfl
    obtain rfl : n1 = 0 := hI.nilCase
    clear hb hI H hz
    go_wp2_with fail
    refine (clip_nil w1).mono ?_
    rintro e w2 ⟨rfl, rfl⟩
    go_wp2
    go_ret
    exact ⟨_, _, _, rfl, Hb.out, twi_le HI.out (by omega), fun _ => rfl⟩
  | some a =>
    clear hb hI H hz
    go_wp2_with fail
    · refine (clip_some a n1 c1 w1 hc hm).mono ?_
      rintro e w2 ⟨rfl, rfl⟩
      have h2 : n1 ≤ 2 := by omega
      go_wp2
      go_ret
      exact ⟨_, _, _, rfl, Hb.out, twi_le HI.out h2, fun hh => by cases hh⟩
    · refine (clip_some a 2 c1 w1 (by omega) hm).mono ?_
      rintro e w2 ⟨rfl, rfl⟩
      have h2 : 2 ≤ n1 := by omega
      go_wp2
      go_ret
      exact ⟨_, _, _, rfl, Hb.out, HI.out.take 2 2 h2 (Nat.le_refl _) (by unfold maxLen; omega), fun hh => by cases hh⟩
set_option maxHeartbeats 400000 in
theorem sScheduleTwice_any (A : Option Addr) (n c : Nat) (l : List Opt) (w : World) (B : Nat) (h : Opts 1048576 w B A n l) (hB : B ≤ w.heap.size) :
    Calls Try.prog 22 #[.slice A n c] w (NewInts (twiI l) w) := by
  have H := Lib.hid (sScheduleOrder_any A n c l w B h hB)
  clear h
  go_enter Try.func22, Try.ntmps22
  go_wp2_with fail
  refine H.out.mono ?_
  rintro e w1 ⟨A1, n1, c1, rfl, hb, hI, hz⟩
  have hc := hI.2.1
  have hm := hI.2.2.1
  unfold maxLen at hm
  have Hb := Lib.hid hb
  have HI := Lib.hid hI
  cases A1 with
  | none =>
    obtain rfl : c1 = 0 := hz rfl
    obtain rfl : n1 = 0 := hI.nilCase
    clear hb hI H hz
    go_wp2
    go_ret
    exact ⟨_, _, _, rfl, Hb.out, twi_le HI.out (by omega), fun _ => rfl⟩
  | some a =>
    clear hb hI H hz
    go_wp2
    · go_ret
      have h2 : 2 ≤ n1 := by omega
      exact ⟨_, _, _, rfl, Hb.out, HI.out.take 2 c1 h2 (by omega) (by unfold maxLen; omega), fun hh => by cases hh⟩
    · go_ret
      have h2 : n1 ≤ 2 := by omega
      exact ⟨_, _, _, rfl, Hb.out, (twi_le HI.out h2).wide hc (by unfold maxLen; omega), fun hh => by cases hh⟩
end Go.Proofs.Ytjnplihkagegdaa
