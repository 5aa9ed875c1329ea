/- The walks of the exact laws of GroupValid, ParityMake and ParityCheck. No condition. -/
import Derived.Test.YtjplhmgfhiaenaaParC
import Derived.Test.YtjplhmgfhiaenaaLaw
namespace Go.Proofs.Ytjplhmgfhiaenaa
open Go.RowKit

theorem strs_of_sz {w : World} {B n : Nat} {A : Option Addr} {ss : List Bs} {M : Nat} {left : Int} (h : Strs M w B A n ss) (hl : left ≤ 1048576) (hz : (n : Int) ≤ left ∧ ∀ s ∈ ss, (s.length : Int) ≤ left) : Strs 1048576 w B A n ss :=
  h.wide (by omega) fun s hs => by have := hz.2 s hs; omega
theorem strs_of_own {w : World} {base e n c : Nat} {A : Option Addr} {ss : List Bs} (h : w.ownsRow base e 1 (.slice A n c) n (strV ss)) (hn : n ≤ 1048576) (hs : ∀ s ∈ ss, s.length ≤ 1048576) : Strs 1048576 w w.heap.size A n ss :=
  ⟨Rd.of_own h, hn, hs⟩

set_option maxHeartbeats 400000 in
theorem exactGroupValid_walk (A : Option Addr) (n c : Nat) (ss : List Bs) (w : World) (h : Strs maxLen w w.heap.size A n ss) :
    Calls Try.prog 3 #[.slice A n c] w fun e w' => e = .returned (.bool true) ∧ Below w.heap.size w w' := by
  go_enter Try.func3, Try.ntmps3
  go_wp2_with fail
  refine (szStringS_any A n c ss 1048576 w _ h (by omega) (by omega)).mono ?_
  rintro e w' ⟨rfl, r, rfl, hr1, hr2, hz⟩
  by_cases hr : r < 0
  · go_wp2_with fail
    go_ret
    exact ⟨rfl, Below.refl _ _⟩
  · have h1 := strs_of_sz h (Int.le_refl _) (hz (by omega))
    clear hz h
    have hn := h1.2.1
    go_wp2_with fail
    refine (toStringS_any A n c ss w _ h1 (Nat.le_refl _)).mono ?_
    rintro e w1 ⟨g1, rfl, hb1, ho1⟩
    have hs1 := strs_of_own ho1 h1.2.1 h1.2.2
    go_wp2_with fail
    refine (sGroupValid_any _ _ _ ss w1 _ hs1).mono ?_
    rintro e w' ⟨rfl, rfl⟩
    go_wp2_with fail
    refine (toStringS_any A n c ss w1 _ (h1.below hb1 (Nat.le_refl _)) hb1.size).mono ?_
    rintro e w2 ⟨g2, rfl, hb2, ho2⟩
    have hs2 := strs_of_own ho2 h1.2.1 h1.2.2
    go_wp2_with fail
    refine (groupValid_any _ _ _ ss w2 _ hs2).mono ?_
    rintro e w' ⟨rfl, rfl⟩
    have hb12 := chain hb1 hb2
    go_wp2_with fail
    refine (toStringS_any A n c ss w2 _ (h1.below hb12 (Nat.le_refl _)) hb12.size).mono ?_
    rintro e w3 ⟨g3, rfl, hb3, ho3⟩
    have hs3 := strs_of_own ho3 h1.2.1 h1.2.2
    go_wp2_with fail
    refine (eqStringS_any _ _ _ _ _ _ ss ss w3 _ _ (hs2.below hb3 (Nat.le_refl _)) hs3).mono ?_
    rintro e w4 ⟨rfl, hb4⟩
    go_wp2_with fail
    go_ret
    exact ⟨rfl, chain (chain hb12 hb3) hb4⟩
set_option maxHeartbeats 400000 in
theorem exactParityMake_walk (A : Option Addr) (n c : Nat) (ss : List Bs) (w : World) (h : Strs maxLen w w.heap.size A n ss) :
    Calls Try.prog 4 #[.slice A n c] w fun e w' => e = .returned (.bool true) ∧ Below w.heap.size w w' := by
  go_enter Try.func4, Try.ntmps4
  go_wp2_with fail
  refine (szStringS_any A n c ss 1048576 w _ h (by omega) (by omega)).mono ?_
  rintro e w' ⟨rfl, r, rfl, hr1, hr2, hz⟩
  by_cases hr : r < 0
  · go_wp2_with fail
    go_ret
    exact ⟨rfl, Below.refl _ _⟩
  · have h1 := strs_of_sz h (Int.le_refl _) (hz (by omega))
    clear hz h
    have hn := h1.2.1
    go_wp2_with fail
    refine (toStringS_any A n c ss w _ h1 (Nat.le_refl _)).mono ?_
    rintro e w1 ⟨g1, rfl, hb1, ho1⟩
    have hs1 := strs_of_own ho1 h1.2.1 h1.2.2
    go_wp2_with fail
    refine (sParityMake_any _ _ _ ss w1 _ hs1 (Nat.le_refl _)).mono ?_
    rintro e w2 ⟨rfl, hb2⟩
    have hb12 := chain hb1 hb2
    go_wp2_with fail
    refine (toStringS_any A n c ss w2 _ (h1.below hb12 (Nat.le_refl _)) hb12.size).mono ?_
    rintro e w3 ⟨g3, rfl, hb3, ho3⟩
    have hs3 := strs_of_own ho3 h1.2.1 h1.2.2
    have hb13 := chain hb12 hb3
    go_wp2_with fail
    refine (parityMake_any _ _ _ ss w3 _ hs3 (Nat.le_refl _)).mono ?_
    rintro e w4 ⟨rfl, hb4⟩
    have hb14 := chain hb13 hb4
    go_wp2_with fail
    refine (toStringS_any A n c ss w4 _ (h1.below hb14 (Nat.le_refl _)) hb14.size).mono ?_
    rintro e w5 ⟨g5, rfl, hb5, ho5⟩
    have hs5 := strs_of_own ho5 h1.2.1 h1.2.2
    go_wp2_with fail
    refine (eqStringS_any _ _ _ _ _ _ ss ss w5 _ _ (hs3.below (chain hb4 hb5) (Nat.le_refl _)) hs5).mono ?_
    rintro e w6 ⟨rfl, hb6⟩
    go_wp2_with fail
    go_ret
    exact ⟨rfl, chain (chain hb14 hb5) hb6⟩

set_option maxHeartbeats 400000 in
theorem exactParityCheck_walk (A : Option Addr) (n c : Nat) (ss : List Bs) (p : Bs) (w : World) (h : Strs maxLen w w.heap.size A n ss) (hp : p.length ≤ maxLen) :
    Calls Try.prog 6 #[.slice A n c, .string (S p)] w fun e w' => e = .returned (.bool true) ∧ Below w.heap.size w w' := by
  unfold maxLen at hp
  by_cases hpl : p.length ≤ 1048576
  · go_enter Try.func6, Try.ntmps6
    go_wp2_with fail
    refine (szStringS_any A n c ss 1048576 w _ h (by omega) (by omega)).mono ?_
    rintro e w' ⟨rfl, r, rfl, hr1, hr2, hz⟩
    by_cases hr : r < 0
    · go_wp2_with fail
      go_ret
      exact ⟨rfl, Below.refl _ _⟩
    · have h1 := strs_of_sz h (Int.le_refl _) (hz (by omega))
      clear hz h
      have hn := h1.2.1
      go_wp2_with fail
      refine (toStringS_any A n c ss w _ h1 (Nat.le_refl _)).mono ?_
      rintro e w1 ⟨g1, rfl, hb1, ho1⟩
      have hs1 := strs_of_own ho1 h1.2.1 h1.2.2
      go_wp2_with fail
      refine (sParityCheck_any _ _ _ ss p w1 _ hs1 (Nat.le_refl _)).mono ?_
      rintro e w2 ⟨rfl, hb2⟩
      have hb12 := chain hb1 hb2
      go_wp2_with fail
      refine (toStringS_any A n c ss w2 _ (h1.below hb12 (Nat.le_refl _)) hb12.size).mono ?_
      rintro e w3 ⟨g3, rfl, hb3, ho3⟩
      have hs3 := strs_of_own ho3 h1.2.1 h1.2.2
      have hb13 := chain hb12 hb3
      go_wp2_with fail
      refine (parityCheck_any _ _ _ ss p w3 _ hs3 (Nat.le_refl _)).mono ?_
      rintro e w4 ⟨rfl, hb4⟩
      have hb14 := chain hb13 hb4
      go_wp2_with fail
      refine (toStringS_any A n c ss w4 _ (h1.below hb14 (Nat.le_refl _)) hb14.size).mono ?_
      rintro e w5 ⟨g5, rfl, hb5, ho5⟩
      have hs5 := strs_of_own ho5 h1.2.1 h1.2.2
      go_wp2_with fail
      refine (eqStringS_any _ _ _ _ _ _ ss ss w5 _ _ (hs3.below (chain hb4 hb5) (Nat.le_refl _)) hs5).mono ?_
      rintro e w6 ⟨rfl, hb6⟩
      go_wp2_with fail
      go_ret
      exact ⟨rfl, chain (chain hb14 hb5) hb6⟩
  · go_enter Try.func6, Try.ntmps6
    go_wp2_with fail
    go_ret
    exact ⟨rfl, Below.refl _ _⟩
end Go.Proofs.Ytjplhmgfhiaenaa
