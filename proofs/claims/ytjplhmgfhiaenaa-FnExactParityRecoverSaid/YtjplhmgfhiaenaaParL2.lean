/- The walk of the exact law on ParityRecover. Condition: slice and string are readable and bounded. -/
import Derived.Test.YtjplhmgfhiaenaaParL1
import Derived.Test.YtjplhmgfhiaenaaParJ
namespace Go.Proofs.Ytjplhmgfhiaenaa
open Go.RowKit
theorem payl_le (ss : List Bs) (m : Nat) (p : Bs) : (payl ss m p).length < 256 := by rw [payl_len]; exact UInt8.toNat_lt _
theorem recD_le (ss : List Bs) (m : Int) (p : Bs) : (recD ss m p).length ≤ 255 := by
  unfold recD
  split
  · have := payl_le ss m.toNat p; omega
  · simp
set_option maxHeartbeats 400000 in
theorem exactParityRecover_walk (A : Option Addr) (n c : Nat) (ss : List Bs) (m : Int) (p : Bs) (w : World) (h : Strs maxLen w w.heap.size A n ss) (_hm : (Lit.int IntKind.i64 m).wf = true) (hp : p.length ≤ maxLen) :
    Calls Try.prog 11 #[.slice A n c, .int .i64 m, .string (S p)] w fun e w' => e = .returned (.bool true) ∧ Below w.heap.size w w' := by
  unfold maxLen at hp
  by_cases hpl : p.length ≤ 1048576
  · go_enter Try.func11, Try.ntmps11
    go_wp2_with fail
    refine (szStringS_any A n c ss 1048576 w _ h (by omega) (by omega)).mono ?_
    rintro e w' ⟨rfl, r, rfl, hr1, hr2, hz⟩
    by_cases hr : r < 0
    · go_wp2_with fail
      go_ret
      exact ⟨rfl, Below.refl _ _⟩
    · have h1 := strs_of_sz h (Int.le_refl _) (hz (by omega))
      clear hz h
      have hn := h1.2.1
      go_wp2_with fail
      refine (toStringS_any A n c ss w _ h1 (Nat.le_refl _)).mono ?_
      rintro e w1 ⟨g1, rfl, hb1, ho1⟩
      have hs1 := strs_of_own ho1 h1.2.1 h1.2.2
      go_wp2_with fail
      refine (sParityRecover_any _ _ _ ss m p w1 _ hs1 (Nat.le_refl _) hpl).mono ?_
      rintro e w2 ⟨rfl, hb2⟩
      have hb12 := chain hb1 hb2
      have hq := recD_le ss m p
      generalize hq0 : recD ss m p = q at hq ⊢
      have Hq0 := Lib.hid hq0
      clear hq0
      generalize hx0 : recOk ss m p = x
      have Hx0 := Lib.hid hx0
      clear hx0
      go_wp2_with fail
      refine (toStringS_any A n c ss w2 _ (h1.below hb12 (Nat.le_refl _)) hb12.size).mono ?_
      rintro e w3 ⟨g3, rfl, hb3, ho3⟩
      have hs3 := strs_of_own ho3 h1.2.1 h1.2.2
      have hb13 := chain hb12 hb3
      go_wp2_with fail
      refine (parityRecover_any _ _ _ ss m p w3 _ hs3 (Nat.le_refl _) hpl).mono ?_
      rintro e w4 ⟨rfl, hb4⟩
      rw [Hq0.out, Hx0.out]
      have hb14 := chain hb13 hb4
      go_wp2_with fail
      refine (toStringS_any A n c ss w4 _ (h1.below hb14 (Nat.le_refl _)) hb14.size).mono ?_
      rintro e w5 ⟨g5, rfl, hb5, ho5⟩
      have hs5 := strs_of_own ho5 h1.2.1 h1.2.2
      go_wp2_with fail
      refine (eqStringS_any _ _ _ _ _ _ ss ss w5 _ _ (hs3.below (chain hb4 hb5) (Nat.le_refl _)) hs5).mono ?_
      rintro e w6 ⟨rfl, hb6⟩
      go_wp2_with fail
      go_ret
      exact ⟨rfl, chain (chain hb14 hb5) hb6⟩
  · go_enter Try.func11, Try.ntmps11
    go_wp2_with fail
    go_ret
    exact ⟨rfl, Below.refl _ _⟩
end Go.Proofs.Ytjplhmgfhiaenaa
