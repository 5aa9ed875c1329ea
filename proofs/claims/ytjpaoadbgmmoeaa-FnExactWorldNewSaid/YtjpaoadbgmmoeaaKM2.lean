/- The laws' marks on rows whose inner rows are empty (those of a new run). Condition: they are. -/
import Derived.Test.YtjpaoadbgmmoeaaKM1
namespace Go.Proofs.Ytjpaoadbgmmoeaa
open Go.RowKit

set_option maxRecDepth 10000 in
theorem markRangeS_0 (A : Option Addr) (c : Nat) (q : Int) (w : World) :
    Calls Try.prog 90 #[.slice A 0 c, .int .i64 q] w fun e w' => e = .returned (.int .i64 q) ∧ w = w' := by
  go_enter Try.func90, Try.ntmps90
  go_wp2
  go_loopg [1, 5] 0 (fun m v i wr => v = .int .i64 q ∧ i = .int .i64 0 ∧ wr = w)
  case atStart => exact ⟨rfl, rfl, rfl⟩
  case round =>
    obtain ⟨rfl, rfl, rfl⟩ := hrel
    go_wp2
    go_ret
    exact ⟨rfl, rfl⟩
set_option maxRecDepth 10000 in
theorem heldRangeS_0 (A : Option Addr) (c : Nat) (q : Int) (w : World) :
    Calls Try.prog 93 #[.slice A 0 c, .int .i64 q] w fun e w' => e = .returned (.int .i64 q) ∧ w = w' := by
  go_enter Try.func93, Try.ntmps93
  go_wp2
  go_loopg [1, 5] 0 (fun m v i wr => v = .int .i64 q ∧ i = .int .i64 0 ∧ wr = w)
  case atStart => exact ⟨rfl, rfl, rfl⟩
  case round =>
    obtain ⟨rfl, rfl, rfl⟩ := hrel
    go_wp2
    go_ret
    exact ⟨rfl, rfl⟩
set_option maxRecDepth 10000 in
theorem markPieceS_0 (A : Option Addr) (c : Nat) (q : Int) (w : World) :
    Calls Try.prog 91 #[.slice A 0 c, .int .i64 q] w fun e w' => e = .returned (.int .i64 q) ∧ w = w' := by
  go_enter Try.func91, Try.ntmps91
  go_wp2
  go_loopg [1, 5] 0 (fun m v i wr => v = .int .i64 q ∧ i = .int .i64 0 ∧ wr = w)
  case atStart => exact ⟨rfl, rfl, rfl⟩
  case round =>
    obtain ⟨rfl, rfl, rfl⟩ := hrel
    go_wp2
    go_ret
    exact ⟨rfl, rfl⟩
set_option maxRecDepth 10000 in
theorem heldPieceS_0 (A : Option Addr) (c : Nat) (q : Int) (w : World) :
    Calls Try.prog 94 #[.slice A 0 c, .int .i64 q] w fun e w' => e = .returned (.int .i64 q) ∧ w = w' := by
  go_enter Try.func94, Try.ntmps94
  go_wp2
  go_loopg [1, 5] 0 (fun m v i wr => v = .int .i64 q ∧ i = .int .i64 0 ∧ wr = w)
  case atStart => exact ⟨rfl, rfl, rfl⟩
  case round =>
    obtain ⟨rfl, rfl, rfl⟩ := hrel
    go_wp2
    go_ret
    exact ⟨rfl, rfl⟩
set_option maxRecDepth 10000 in
theorem markSentPacketS_0 (A : Option Addr) (c : Nat) (q : Int) (w : World) :
    Calls Try.prog 92 #[.slice A 0 c, .int .i64 q] w fun e w' => e = .returned (.int .i64 q) ∧ w = w' := by
  go_enter Try.func92, Try.ntmps92
  go_wp2
  go_loopg [1, 5] 0 (fun m v i wr => v = .int .i64 q ∧ i = .int .i64 0 ∧ wr = w)
  case atStart => exact ⟨rfl, rfl, rfl⟩
  case round =>
    obtain ⟨rfl, rfl, rfl⟩ := hrel
    go_wp2
    go_ret
    exact ⟨rfl, rfl⟩
set_option maxRecDepth 10000 in
theorem heldSentPacketS_0 (A : Option Addr) (c : Nat) (q : Int) (w : World) :
    Calls Try.prog 95 #[.slice A 0 c, .int .i64 q] w fun e w' => e = .returned (.int .i64 q) ∧ w = w' := by
  go_enter Try.func95, Try.ntmps95
  go_wp2
  go_loopg [1, 5] 0 (fun m v i wr => v = .int .i64 q ∧ i = .int .i64 0 ∧ wr = w)
  case atStart => exact ⟨rfl, rfl, rfl⟩
  case round =>
    obtain ⟨rfl, rfl, rfl⟩ := hrel
    go_wp2
    go_ret
    exact ⟨rfl, rfl⟩
set_option maxRecDepth 10000 in
theorem markCarriedS_0 (A : Option Addr) (c : Nat) (q : Int) (w : World) :
    Calls Try.prog 50 #[.slice A 0 c, .int .i64 q] w fun e w' => e = .returned (.int .i64 q) ∧ w = w' := by
  go_enter Try.func50, Try.ntmps50
  go_wp2
  go_loopg [1, 5] 0 (fun m v i wr => v = .int .i64 q ∧ i = .int .i64 0 ∧ wr = w)
  case atStart => exact ⟨rfl, rfl, rfl⟩
  case round =>
    obtain ⟨rfl, rfl, rfl⟩ := hrel
    go_wp2
    go_ret
    exact ⟨rfl, rfl⟩
set_option maxRecDepth 10000 in
theorem heldCarriedS_0 (A : Option Addr) (c : Nat) (q : Int) (w : World) :
    Calls Try.prog 59 #[.slice A 0 c, .int .i64 q] w fun e w' => e = .returned (.int .i64 q) ∧ w = w' := by
  go_enter Try.func59, Try.ntmps59
  go_wp2
  go_loopg [1, 5] 0 (fun m v i wr => v = .int .i64 q ∧ i = .int .i64 0 ∧ wr = w)
  case atStart => exact ⟨rfl, rfl, rfl⟩
  case round =>
    obtain ⟨rfl, rfl, rfl⟩ := hrel
    go_wp2
    go_ret
    exact ⟨rfl, rfl⟩
set_option maxRecDepth 10000 in
theorem markWireS_0 (A : Option Addr) (c : Nat) (q : Int) (w : World) :
    Calls Try.prog 51 #[.slice A 0 c, .int .i64 q] w fun e w' => e = .returned (.int .i64 q) ∧ w = w' := by
  go_enter Try.func51, Try.ntmps51
  go_wp2
  go_loopg [1, 5] 0 (fun m v i wr => v = .int .i64 q ∧ i = .int .i64 0 ∧ wr = w)
  case atStart => exact ⟨rfl, rfl, rfl⟩
  case round =>
    obtain ⟨rfl, rfl, rfl⟩ := hrel
    go_wp2
    go_ret
    exact ⟨rfl, rfl⟩
set_option maxRecDepth 10000 in
theorem heldWireS_0 (A : Option Addr) (c : Nat) (q : Int) (w : World) :
    Calls Try.prog 60 #[.slice A 0 c, .int .i64 q] w fun e w' => e = .returned (.int .i64 q) ∧ w = w' := by
  go_enter Try.func60, Try.ntmps60
  go_wp2
  go_loopg [1, 5] 0 (fun m v i wr => v = .int .i64 q ∧ i = .int .i64 0 ∧ wr = w)
  case atStart => exact ⟨rfl, rfl, rfl⟩
  case round =>
    obtain ⟨rfl, rfl, rfl⟩ := hrel
    go_wp2
    go_ret
    exact ⟨rfl, rfl⟩
set_option maxRecDepth 10000 in
theorem markSendS_0 (A : Option Addr) (c : Nat) (q : Int) (w : World) :
    Calls Try.prog 43 #[.slice A 0 c, .int .i64 q] w fun e w' => e = .returned (.int .i64 q) ∧ w = w' := by
  go_enter Try.func43, Try.ntmps43
  go_wp2
  go_loopg [1, 5] 0 (fun m v i wr => v = .int .i64 q ∧ i = .int .i64 0 ∧ wr = w)
  case atStart => exact ⟨rfl, rfl, rfl⟩
  case round =>
    obtain ⟨rfl, rfl, rfl⟩ := hrel
    go_wp2
    go_ret
    exact ⟨rfl, rfl⟩
set_option maxRecDepth 10000 in
theorem heldSendS_0 (A : Option Addr) (c : Nat) (q : Int) (w : World) :
    Calls Try.prog 52 #[.slice A 0 c, .int .i64 q] w fun e w' => e = .returned (.int .i64 q) ∧ w = w' := by
  go_enter Try.func52, Try.ntmps52
  go_wp2
  go_loopg [1, 5] 0 (fun m v i wr => v = .int .i64 q ∧ i = .int .i64 0 ∧ wr = w)
  case atStart => exact ⟨rfl, rfl, rfl⟩
  case round =>
    obtain ⟨rfl, rfl, rfl⟩ := hrel
    go_wp2
    go_ret
    exact ⟨rfl, rfl⟩
set_option maxRecDepth 10000 in
theorem markRecvS_0 (A : Option Addr) (c : Nat) (q : Int) (w : World) :
    Calls Try.prog 44 #[.slice A 0 c, .int .i64 q] w fun e w' => e = .returned (.int .i64 q) ∧ w = w' := by
  go_enter Try.func44, Try.ntmps44
  go_wp2
  go_loopg [1, 5] 0 (fun m v i wr => v = .int .i64 q ∧ i = .int .i64 0 ∧ wr = w)
  case atStart => exact ⟨rfl, rfl, rfl⟩
  case round =>
    obtain ⟨rfl, rfl, rfl⟩ := hrel
    go_wp2
    go_ret
    exact ⟨rfl, rfl⟩
set_option maxRecDepth 10000 in
theorem heldRecvS_0 (A : Option Addr) (c : Nat) (q : Int) (w : World) :
    Calls Try.prog 53 #[.slice A 0 c, .int .i64 q] w fun e w' => e = .returned (.int .i64 q) ∧ w = w' := by
  go_enter Try.func53, Try.ntmps53
  go_wp2
  go_loopg [1, 5] 0 (fun m v i wr => v = .int .i64 q ∧ i = .int .i64 0 ∧ wr = w)
  case atStart => exact ⟨rfl, rfl, rfl⟩
  case round =>
    obtain ⟨rfl, rfl, rfl⟩ := hrel
    go_wp2
    go_ret
    exact ⟨rfl, rfl⟩
set_option maxRecDepth 10000 in
theorem markStringS_0 (A : Option Addr) (c : Nat) (q : Int) (w : World) :
    Calls Try.prog 45 #[.slice A 0 c, .int .i64 q] w fun e w' => e = .returned (.int .i64 q) ∧ w = w' := by
  go_enter Try.func45, Try.ntmps45
  go_wp2
  go_loopg [1, 5] 0 (fun m v i wr => v = .int .i64 q ∧ i = .int .i64 0 ∧ wr = w)
  case atStart => exact ⟨rfl, rfl, rfl⟩
  case round =>
    obtain ⟨rfl, rfl, rfl⟩ := hrel
    go_wp2
    go_ret
    exact ⟨rfl, rfl⟩
set_option maxRecDepth 10000 in
theorem heldStringS_0 (A : Option Addr) (c : Nat) (q : Int) (w : World) :
    Calls Try.prog 54 #[.slice A 0 c, .int .i64 q] w fun e w' => e = .returned (.int .i64 q) ∧ w = w' := by
  go_enter Try.func54, Try.ntmps54
  go_wp2
  go_loopg [1, 5] 0 (fun m v i wr => v = .int .i64 q ∧ i = .int .i64 0 ∧ wr = w)
  case atStart => exact ⟨rfl, rfl, rfl⟩
  case round =>
    obtain ⟨rfl, rfl, rfl⟩ := hrel
    go_wp2
    go_ret
    exact ⟨rfl, rfl⟩
set_option maxRecDepth 10000 in
theorem markLossS_0 (A : Option Addr) (c : Nat) (q : Int) (w : World) :
    Calls Try.prog 46 #[.slice A 0 c, .int .i64 q] w fun e w' => e = .returned (.int .i64 q) ∧ w = w' := by
  go_enter Try.func46, Try.ntmps46
  go_wp2
  go_loopg [1, 5] 0 (fun m v i wr => v = .int .i64 q ∧ i = .int .i64 0 ∧ wr = w)
  case atStart => exact ⟨rfl, rfl, rfl⟩
  case round =>
    obtain ⟨rfl, rfl, rfl⟩ := hrel
    go_wp2
    go_ret
    exact ⟨rfl, rfl⟩
set_option maxRecDepth 10000 in
theorem heldLossS_0 (A : Option Addr) (c : Nat) (q : Int) (w : World) :
    Calls Try.prog 55 #[.slice A 0 c, .int .i64 q] w fun e w' => e = .returned (.int .i64 q) ∧ w = w' := by
  go_enter Try.func55, Try.ntmps55
  go_wp2
  go_loopg [1, 5] 0 (fun m v i wr => v = .int .i64 q ∧ i = .int .i64 0 ∧ wr = w)
  case atStart => exact ⟨rfl, rfl, rfl⟩
  case round =>
    obtain ⟨rfl, rfl, rfl⟩ := hrel
    go_wp2
    go_ret
    exact ⟨rfl, rfl⟩
set_option maxRecDepth 10000 in
theorem markRttS_0 (A : Option Addr) (c : Nat) (q : Int) (w : World) :
    Calls Try.prog 47 #[.slice A 0 c, .int .i64 q] w fun e w' => e = .returned (.int .i64 q) ∧ w = w' := by
  go_enter Try.func47, Try.ntmps47
  go_wp2
  go_loopg [1, 5] 0 (fun m v i wr => v = .int .i64 q ∧ i = .int .i64 0 ∧ wr = w)
  case atStart => exact ⟨rfl, rfl, rfl⟩
  case round =>
    obtain ⟨rfl, rfl, rfl⟩ := hrel
    go_wp2
    go_ret
    exact ⟨rfl, rfl⟩
set_option maxRecDepth 10000 in
theorem heldRttS_0 (A : Option Addr) (c : Nat) (q : Int) (w : World) :
    Calls Try.prog 56 #[.slice A 0 c, .int .i64 q] w fun e w' => e = .returned (.int .i64 q) ∧ w = w' := by
  go_enter Try.func56, Try.ntmps56
  go_wp2
  go_loopg [1, 5] 0 (fun m v i wr => v = .int .i64 q ∧ i = .int .i64 0 ∧ wr = w)
  case atStart => exact ⟨rfl, rfl, rfl⟩
  case round =>
    obtain ⟨rfl, rfl, rfl⟩ := hrel
    go_wp2
    go_ret
    exact ⟨rfl, rfl⟩
set_option maxRecDepth 10000 in
theorem markWindowS_0 (A : Option Addr) (c : Nat) (q : Int) (w : World) :
    Calls Try.prog 48 #[.slice A 0 c, .int .i64 q] w fun e w' => e = .returned (.int .i64 q) ∧ w = w' := by
  go_enter Try.func48, Try.ntmps48
  go_wp2
  go_loopg [1, 5] 0 (fun m v i wr => v = .int .i64 q ∧ i = .int .i64 0 ∧ wr = w)
  case atStart => exact ⟨rfl, rfl, rfl⟩
  case round =>
    obtain ⟨rfl, rfl, rfl⟩ := hrel
    go_wp2
    go_ret
    exact ⟨rfl, rfl⟩
set_option maxRecDepth 10000 in
theorem heldWindowS_0 (A : Option Addr) (c : Nat) (q : Int) (w : World) :
    Calls Try.prog 57 #[.slice A 0 c, .int .i64 q] w fun e w' => e = .returned (.int .i64 q) ∧ w = w' := by
  go_enter Try.func57, Try.ntmps57
  go_wp2
  go_loopg [1, 5] 0 (fun m v i wr => v = .int .i64 q ∧ i = .int .i64 0 ∧ wr = w)
  case atStart => exact ⟨rfl, rfl, rfl⟩
  case round =>
    obtain ⟨rfl, rfl, rfl⟩ := hrel
    go_wp2
    go_ret
    exact ⟨rfl, rfl⟩
set_option maxRecDepth 10000 in
theorem markRangeSS_0 (A : Option Addr) (c : Nat) (q : Int) (w : World) :
    Calls Try.prog 49 #[.slice A 0 c, .int .i64 q] w fun e w' => e = .returned (.int .i64 q) ∧ w = w' := by
  go_enter Try.func49, Try.ntmps49
  go_wp2
  go_loopg [1, 5] 0 (fun m v i wr => v = .int .i64 q ∧ i = .int .i64 0 ∧ wr = w)
  case atStart => exact ⟨rfl, rfl, rfl⟩
  case round =>
    obtain ⟨rfl, rfl, rfl⟩ := hrel
    go_wp2
    go_ret
    exact ⟨rfl, rfl⟩
set_option maxRecDepth 10000 in
theorem heldRangeSS_0 (A : Option Addr) (c : Nat) (q : Int) (w : World) :
    Calls Try.prog 58 #[.slice A 0 c, .int .i64 q] w fun e w' => e = .returned (.int .i64 q) ∧ w = w' := by
  go_enter Try.func58, Try.ntmps58
  go_wp2
  go_loopg [1, 5] 0 (fun m v i wr => v = .int .i64 q ∧ i = .int .i64 0 ∧ wr = w)
  case atStart => exact ⟨rfl, rfl, rfl⟩
  case round =>
    obtain ⟨rfl, rfl, rfl⟩ := hrel
    go_wp2
    go_ret
    exact ⟨rfl, rfl⟩
def mkSd (q : Int) : List (Nat × Value) := [(0, .string (S (mtext (q)))), (1, .bool ((q + 1) % 3 == 0)), (2, .int .i64 (q + 1 + 1)), (3, .int .i64 (q + 1 + 1 + 1))]
set_option maxRecDepth 10000 in
set_option maxHeartbeats 1000000 in
theorem markSendS_n (g n c : Nat) (k0 : Int) (w : World) (x : Row w g 6 n 0 (fun i : Nat => mkSd (k0 + 4 * (i : Int))) [4, 5]) (h1 : 1 ≤ k0) (h2 : k0 ≤ 1000) (hn : n ≤ 100) :
    Calls Try.prog 43 #[.slice (some ⟨g, 0, none⟩) n c, .int .i64 k0] w fun e w' => e = .returned (.int .i64 (k0 + 4 * n)) ∧ w.grownBy w' (some g) ∧ Row w' g 6 n n (fun i : Nat => mkSd (k0 + 4 * (i : Int))) [4, 5] := by
  obtain ⟨MK, hMK⟩ : ∃ MK : Nat → List (Nat × Value), MK = fun i : Nat => mkSd (k0 + 4 * (i : Int)) := ⟨_, rfl⟩
  have HMK := Lib.hid hMK
  rw [← hMK] at x ⊢
  clear hMK
  go_enter Try.func43, Try.ntmps43
  go_wp2
  go_loopg [1, 5] n (fun m v i wr => ∃ k : Nat, k + m = n ∧ v = .int .i64 (k0 + 4 * k) ∧ i = .int .i64 (k : Int) ∧ w.grownBy wr (some g) ∧ Row wr g 6 n k MK [4, 5])
  case atStart => exact ⟨0, by omega, by simp, rfl, World.grownBy.refl _ _, x⟩
  case round =>
    clear x
    obtain ⟨k, hk, rfl, rfl, hg, x⟩ := hrel
    by_cases hlt : k < n
    · obtain ⟨q, hq⟩ : ∃ q : Int, q = k0 + 4 * k := ⟨_, rfl⟩
      rw [← hq]
      have hq1 : 1 ≤ q := by omega
      have hq2 : q ≤ 2000 := by omega
      have q1 : (0 : Int) ≤ (k : Int) := by omega
      have q2 : (k : Int) < (n : Int) := by omega
      have HMq : Hid (MK k = mkSd q) := by rw [HMK.out, hq]; rfl
      have Hq : Hid (q + 1 + 1 + 1 + 1 = k0 + 4 * ((k + 1 : Nat) : Int)) := by unfold Hid; omega
      clear hq
      go_wp2_with fail
      refine (markText_any q hq1 (by omega) wr).mono ?_
      rintro e w1 ⟨rfl, hb⟩
      have x1 := x.below hb
      have hg1 := on_trans hg (on_below g hb)
      clear x hg hb
      have f0 := x1.frz (k * 6 + 0)
      obtain ⟨v0, d0⟩ := Option.isSome_iff_exists.1 (x1.some_ k hlt 0 (by decide))
      simp only [Nat.add_zero] at f0 d0
      have f1 := x1.frz (k * 6 + 1)
      obtain ⟨v1, d1⟩ := Option.isSome_iff_exists.1 (x1.some_ k hlt 1 (by decide))
      have f2 := x1.frz (k * 6 + 2)
      obtain ⟨v2, d2⟩ := Option.isSome_iff_exists.1 (x1.some_ k hlt 2 (by decide))
      have f3 := x1.frz (k * 6 + 3)
      obtain ⟨v3, d3⟩ := Option.isSome_iff_exists.1 (x1.some_ k hlt 3 (by decide))
      have f4 := x1.frz (k * 6 + 4)
      obtain ⟨a4, c4, d4⟩ := x1.zer k hlt 4 (by decide)
      have f5 := x1.frz (k * 6 + 5)
      obtain ⟨a5, c5, d5⟩ := x1.zer k hlt 5 (by decide)
      have hst := x1.step hlt (L := [0, 1, 2, 3]) (fun i => by rw [HMK.out]; rfl) (by decide) (by decide) (by decide) (by decide)
      have hgs := on_trans hg1 (puts_grown g (k * 6) (MK k) w1)
      rw [HMq.out] at hst hgs
      have Hst := Lib.hid hst
      have Hgs := Lib.hid hgs
      clear hst hgs x1 hg1
      go_wp2_with (first | (go_at_call 90; refine (markRangeS_0 _ _ _ _).mono ?_; rintro e w' ⟨rfl, rfl⟩))
      go_roundg (n - (k + 1))
      case measure => omega
      case rel => exact ⟨k + 1, by omega, by first | rw [← Hq.out] | (have := Hq.out; simp; omega), by go_num, Hgs.out, Hst.out⟩
    · go_wp2
      go_ret
      obtain rfl : k = n := by omega
      exact ⟨rfl, hg, x⟩
set_option maxRecDepth 10000 in
set_option maxHeartbeats 1000000 in
theorem heldSendS_n (g n c : Nat) (k0 : Int) (w : World) (x : Row w g 6 n n (fun i : Nat => mkSd (k0 + 4 * (i : Int))) [4, 5]) (h1 : 1 ≤ k0) (h2 : k0 ≤ 1000) (hn : n ≤ 100) :
    Calls Try.prog 52 #[.slice (some ⟨g, 0, none⟩) n c, .int .i64 k0] w fun e w' => e = .returned (.int .i64 (k0 + 4 * n)) ∧ Below w.heap.size w w' := by
  have Hx := Lib.hid x
  clear x
  go_enter Try.func52, Try.ntmps52
  go_wp2
  go_loopg [1, 5] n (fun m v i wr => ∃ k : Nat, k + m = n ∧ v = .int .i64 (k0 + 4 * k) ∧ i = .int .i64 (k : Int) ∧ Below w.heap.size w wr)
  case atStart => exact ⟨0, by omega, by simp, rfl, Below.refl _ _⟩
  case round =>
    obtain ⟨k, hk, rfl, rfl, hb⟩ := hrel
    by_cases hlt : k < n
    · obtain ⟨q, hq⟩ : ∃ q : Int, q = k0 + 4 * k := ⟨_, rfl⟩
      rw [← hq]
      have hq1 : 1 ≤ q := by omega
      have hq2 : q ≤ 2000 := by omega
      have q1 : (0 : Int) ≤ (k : Int) := by omega
      have q2 : (k : Int) < (n : Int) := by omega
      have Hc : Hid (Cells w g (k * 6) (mkSd q)) := by rw [hq]; exact Hx.out.done k hlt
      have Hq : Hid (q + 1 + 1 + 1 + 1 = k0 + 4 * ((k + 1 : Nat) : Int)) := by unfold Hid; omega
      clear hq
      have d0 := (hb.cell (p := ⟨g, k * 6 + 0, none⟩) Hx.out.blk).trans (Hc.out (0, .string (S (mtext (q)))) (by simp [mkSd]))
      simp only [Nat.add_zero] at d0
      go_wp2_with fail
      refine wp_region_calm (by kernel_rfl) (by kernel_rfl) ?_
      repeat (go_big_quiet_step ((go_at_call 89; exact calm_of (markText_any q hq1 (by omega) _))))
      refine wpQuiet_nil ?_
      intro _ hw'
      obtain ⟨nq, hw''⟩ := hw'
      subst hw''
      clear d0
      have hb2 := hb.trans ((grew_below wr nq).mono hb.size)
      clear hb
      have d0 := (hb2.cell (p := ⟨g, k * 6 + 0, none⟩) Hx.out.blk).trans (Hc.out (0, .string (S (mtext (q)))) (by simp [mkSd]))
      simp only [Nat.add_zero] at d0
      have d1 := (hb2.cell (p := ⟨g, k * 6 + 1, none⟩) Hx.out.blk).trans (Hc.out (1, .bool ((q + 1) % 3 == 0)) (by simp [mkSd]))
      have d2 := (hb2.cell (p := ⟨g, k * 6 + 2, none⟩) Hx.out.blk).trans (Hc.out (2, .int .i64 (q + 1 + 1)) (by simp [mkSd]))
      have d3 := (hb2.cell (p := ⟨g, k * 6 + 3, none⟩) Hx.out.blk).trans (Hc.out (3, .int .i64 (q + 1 + 1 + 1)) (by simp [mkSd]))
      obtain ⟨a4, c4, d4'⟩ := Hx.out.zer k hlt 4 (by decide)
      have d4 := (hb2.cell (p := ⟨g, k * 6 + 4, none⟩) Hx.out.blk).trans d4'
      clear d4'
      obtain ⟨a5, c5, d5'⟩ := Hx.out.zer k hlt 5 (by decide)
      have d5 := (hb2.cell (p := ⟨g, k * 6 + 5, none⟩) Hx.out.blk).trans d5'
      clear d5'
      have Hb := Lib.hid hb2
      clear hb2
      go_wp2_with (first | (go_at_call 93; refine (heldRangeS_0 _ _ _ _).mono ?_; rintro e w' ⟨rfl, rfl⟩))
      go_roundg (n - (k + 1))
      case measure => omega
      case rel => exact ⟨k + 1, by omega, by first | rw [← Hq.out] | (have := Hq.out; simp; omega), by go_num, Hb.out⟩
    · go_wp2
      go_ret
      obtain rfl : k = n := by omega
      exact ⟨rfl, hb⟩
def mkRv (q : Int) : List (Nat × Value) := [(0, .int .i64 (q)), (2, .int .i64 (q + 1)), (3, .int .i64 (q + 1 + 1))]
set_option maxRecDepth 10000 in
set_option maxHeartbeats 1000000 in
theorem markRecvS_n (g n c : Nat) (k0 : Int) (w : World) (x : Row w g 4 n 0 (fun i : Nat => mkRv (k0 + 3 * (i : Int))) [1]) (h1 : 1 ≤ k0) (h2 : k0 ≤ 1000) (hn : n ≤ 100) :
    Calls Try.prog 44 #[.slice (some ⟨g, 0, none⟩) n c, .int .i64 k0] w fun e w' => e = .returned (.int .i64 (k0 + 3 * n)) ∧ w.grownBy w' (some g) ∧ Row w' g 4 n n (fun i : Nat => mkRv (k0 + 3 * (i : Int))) [1] := by
  obtain ⟨MK, hMK⟩ : ∃ MK : Nat → List (Nat × Value), MK = fun i : Nat => mkRv (k0 + 3 * (i : Int)) := ⟨_, rfl⟩
  have HMK := Lib.hid hMK
  rw [← hMK] at x ⊢
  clear hMK
  go_enter Try.func44, Try.ntmps44
  go_wp2
  go_loopg [1, 5] n (fun m v i wr => ∃ k : Nat, k + m = n ∧ v = .int .i64 (k0 + 3 * k) ∧ i = .int .i64 (k : Int) ∧ w.grownBy wr (some g) ∧ Row wr g 4 n k MK [1])
  case atStart => exact ⟨0, by omega, by simp, rfl, World.grownBy.refl _ _, x⟩
  case round =>
    clear x
    obtain ⟨k, hk, rfl, rfl, hg, x⟩ := hrel
    by_cases hlt : k < n
    · obtain ⟨q, hq⟩ : ∃ q : Int, q = k0 + 3 * k := ⟨_, rfl⟩
      rw [← hq]
      have hq1 : 1 ≤ q := by omega
      have hq2 : q ≤ 2000 := by omega
      have q1 : (0 : Int) ≤ (k : Int) := by omega
      have q2 : (k : Int) < (n : Int) := by omega
      have HMq : Hid (MK k = mkRv q) := by rw [HMK.out, hq]; rfl
      have Hq : Hid (q + 1 + 1 + 1 = k0 + 3 * ((k + 1 : Nat) : Int)) := by unfold Hid; omega
      clear hq
      have f0 := x.frz (k * 4 + 0)
      obtain ⟨v0, d0⟩ := Option.isSome_iff_exists.1 (x.some_ k hlt 0 (by decide))
      simp only [Nat.add_zero] at f0 d0
      have f1 := x.frz (k * 4 + 1)
      obtain ⟨a1, c1, d1⟩ := x.zer k hlt 1 (by decide)
      have f2 := x.frz (k * 4 + 2)
      obtain ⟨v2, d2⟩ := Option.isSome_iff_exists.1 (x.some_ k hlt 2 (by decide))
      have f3 := x.frz (k * 4 + 3)
      obtain ⟨v3, d3⟩ := Option.isSome_iff_exists.1 (x.some_ k hlt 3 (by decide))
      have hst := x.step hlt (L := [0, 2, 3]) (fun i => by rw [HMK.out]; rfl) (by decide) (by decide) (by decide) (by decide)
      have hgs := on_trans hg (puts_grown g (k * 4) (MK k) wr)
      rw [HMq.out] at hst hgs
      have Hst := Lib.hid hst
      have Hgs := Lib.hid hgs
      clear hst hgs x hg
      go_wp2_with (first | (go_at_call 91; refine (markPieceS_0 _ _ _ _).mono ?_; rintro e w' ⟨rfl, rfl⟩))
      go_roundg (n - (k + 1))
      case measure => omega
      case rel => exact ⟨k + 1, by omega, by first | rw [← Hq.out] | (have := Hq.out; simp; omega), by go_num, Hgs.out, Hst.out⟩
    · go_wp2
      go_ret
      obtain rfl : k = n := by omega
      exact ⟨rfl, hg, x⟩
set_option maxRecDepth 10000 in
set_option maxHeartbeats 1000000 in
theorem heldRecvS_n (g n c : Nat) (k0 : Int) (w : World) (x : Row w g 4 n n (fun i : Nat => mkRv (k0 + 3 * (i : Int))) [1]) (h1 : 1 ≤ k0) (h2 : k0 ≤ 1000) (hn : n ≤ 100) :
    Calls Try.prog 53 #[.slice (some ⟨g, 0, none⟩) n c, .int .i64 k0] w fun e w' => e = .returned (.int .i64 (k0 + 3 * n)) ∧ Below w.heap.size w w' := by
  have Hx := Lib.hid x
  clear x
  go_enter Try.func53, Try.ntmps53
  go_wp2
  go_loopg [1, 5] n (fun m v i wr => ∃ k : Nat, k + m = n ∧ v = .int .i64 (k0 + 3 * k) ∧ i = .int .i64 (k : Int) ∧ Below w.heap.size w wr)
  case atStart => exact ⟨0, by omega, by simp, rfl, Below.refl _ _⟩
  case round =>
    obtain ⟨k, hk, rfl, rfl, hb⟩ := hrel
    by_cases hlt : k < n
    · obtain ⟨q, hq⟩ : ∃ q : Int, q = k0 + 3 * k := ⟨_, rfl⟩
      rw [← hq]
      have hq1 : 1 ≤ q := by omega
      have hq2 : q ≤ 2000 := by omega
      have q1 : (0 : Int) ≤ (k : Int) := by omega
      have q2 : (k : Int) < (n : Int) := by omega
      have Hc : Hid (Cells w g (k * 4) (mkRv q)) := by rw [hq]; exact Hx.out.done k hlt
      have Hq : Hid (q + 1 + 1 + 1 = k0 + 3 * ((k + 1 : Nat) : Int)) := by unfold Hid; omega
      clear hq
      have d0 := (hb.cell (p := ⟨g, k * 4 + 0, none⟩) Hx.out.blk).trans (Hc.out (0, .int .i64 (q)) (by simp [mkRv]))
      simp only [Nat.add_zero] at d0
      have d2 := (hb.cell (p := ⟨g, k * 4 + 2, none⟩) Hx.out.blk).trans (Hc.out (2, .int .i64 (q + 1)) (by simp [mkRv]))
      have d3 := (hb.cell (p := ⟨g, k * 4 + 3, none⟩) Hx.out.blk).trans (Hc.out (3, .int .i64 (q + 1 + 1)) (by simp [mkRv]))
      obtain ⟨a1, c1, d1'⟩ := Hx.out.zer k hlt 1 (by decide)
      have d1 := (hb.cell (p := ⟨g, k * 4 + 1, none⟩) Hx.out.blk).trans d1'
      clear d1'
      have Hb := Lib.hid hb
      clear hb
      go_wp2_with (first | (go_at_call 94; refine (heldPieceS_0 _ _ _ _).mono ?_; rintro e w' ⟨rfl, rfl⟩))
      go_roundg (n - (k + 1))
      case measure => omega
      case rel => exact ⟨k + 1, by omega, by first | rw [← Hq.out] | (have := Hq.out; simp; omega), by go_num, Hb.out⟩
    · go_wp2
      go_ret
      obtain rfl : k = n := by omega
      exact ⟨rfl, hb⟩
def mkBs (q : Int) : List (Nat × Value) := [(0, .string (S (mtext (q))))]
set_option maxRecDepth 10000 in
set_option maxHeartbeats 1000000 in
theorem markStringS_n (g n c : Nat) (k0 : Int) (w : World) (x : Row w g 1 n 0 (fun i : Nat => mkBs (k0 + 1 * (i : Int))) []) (h1 : 1 ≤ k0) (h2 : k0 ≤ 1000) (hn : n ≤ 100) :
    Calls Try.prog 45 #[.slice (some ⟨g, 0, none⟩) n c, .int .i64 k0] w fun e w' => e = .returned (.int .i64 (k0 + 1 * n)) ∧ w.grownBy w' (some g) ∧ Row w' g 1 n n (fun i : Nat => mkBs (k0 + 1 * (i : Int))) [] := by
  obtain ⟨MK, hMK⟩ : ∃ MK : Nat → List (Nat × Value), MK = fun i : Nat => mkBs (k0 + 1 * (i : Int)) := ⟨_, rfl⟩
  have HMK := Lib.hid hMK
  rw [← hMK] at x ⊢
  clear hMK
  go_enter Try.func45, Try.ntmps45
  go_wp2
  go_loopg [1, 5] n (fun m v i wr => ∃ k : Nat, k + m = n ∧ v = .int .i64 (k0 + 1 * k) ∧ i = .int .i64 (k : Int) ∧ w.grownBy wr (some g) ∧ Row wr g 1 n k MK [])
  case atStart => exact ⟨0, by omega, by simp, rfl, World.grownBy.refl _ _, x⟩
  case round =>
    clear x
    obtain ⟨k, hk, rfl, rfl, hg, x⟩ := hrel
    by_cases hlt : k < n
    · obtain ⟨q, hq⟩ : ∃ q : Int, q = k0 + 1 * k := ⟨_, rfl⟩
      rw [← hq]
      have hq1 : 1 ≤ q := by omega
      have hq2 : q ≤ 2000 := by omega
      have q1 : (0 : Int) ≤ (k : Int) := by omega
      have q2 : (k : Int) < (n : Int) := by omega
      have HMq : Hid (MK k = mkBs q) := by rw [HMK.out, hq]; rfl
      have Hq : Hid (q + 1 = k0 + 1 * ((k + 1 : Nat) : Int)) := by unfold Hid; omega
      clear hq
      go_wp2_with fail
      refine (markText_any q hq1 (by omega) wr).mono ?_
      rintro e w1 ⟨rfl, hb⟩
      have x1 := x.below hb
      have hg1 := on_trans hg (on_below g hb)
      clear x hg hb
      have f0 := x1.frz (k * 1 + 0)
      obtain ⟨v0, d0⟩ := Option.isSome_iff_exists.1 (x1.some_ k hlt 0 (by decide))
      simp only [Nat.add_zero, Nat.mul_one] at f0 d0
      have hst := x1.step hlt (L := [0]) (fun i => by rw [HMK.out]; rfl) (by decide) (by decide) (by decide) (by decide)
      have hgs := on_trans hg1 (puts_grown g (k * 1) (MK k) w1)
      rw [HMq.out, Nat.mul_one] at hst hgs
      have Hst := Lib.hid hst
      have Hgs := Lib.hid hgs
      clear hst hgs x1 hg1
      go_wp2_with (fail)
      go_roundg (n - (k + 1))
      case measure => omega
      case rel => exact ⟨k + 1, by omega, by first | rw [← Hq.out] | (have := Hq.out; simp; omega), by go_num, Hgs.out, Hst.out⟩
    · go_wp2
      go_ret
      obtain rfl : k = n := by omega
      exact ⟨rfl, hg, x⟩
set_option maxRecDepth 10000 in
set_option maxHeartbeats 1000000 in
theorem heldStringS_n (g n c : Nat) (k0 : Int) (w : World) (x : Row w g 1 n n (fun i : Nat => mkBs (k0 + 1 * (i : Int))) []) (h1 : 1 ≤ k0) (h2 : k0 ≤ 1000) (hn : n ≤ 100) :
    Calls Try.prog 54 #[.slice (some ⟨g, 0, none⟩) n c, .int .i64 k0] w fun e w' => e = .returned (.int .i64 (k0 + 1 * n)) ∧ Below w.heap.size w w' := by
  have Hx := Lib.hid x
  clear x
  go_enter Try.func54, Try.ntmps54
  go_wp2
  go_loopg [1, 5] n (fun m v i wr => ∃ k : Nat, k + m = n ∧ v = .int .i64 (k0 + 1 * k) ∧ i = .int .i64 (k : Int) ∧ Below w.heap.size w wr)
  case atStart => exact ⟨0, by omega, by simp, rfl, Below.refl _ _⟩
  case round =>
    obtain ⟨k, hk, rfl, rfl, hb⟩ := hrel
    by_cases hlt : k < n
    · obtain ⟨q, hq⟩ : ∃ q : Int, q = k0 + 1 * k := ⟨_, rfl⟩
      rw [← hq]
      have hq1 : 1 ≤ q := by omega
      have hq2 : q ≤ 2000 := by omega
      have q1 : (0 : Int) ≤ (k : Int) := by omega
      have q2 : (k : Int) < (n : Int) := by omega
      have Hc : Hid (Cells w g (k * 1) (mkBs q)) := by rw [hq]; exact Hx.out.done k hlt
      have Hq : Hid (q + 1 = k0 + 1 * ((k + 1 : Nat) : Int)) := by unfold Hid; omega
      clear hq
      have d0 := (hb.cell (p := ⟨g, k * 1 + 0, none⟩) Hx.out.blk).trans (Hc.out (0, .string (S (mtext (q)))) (by simp [mkBs]))
      simp only [Nat.add_zero, Nat.mul_one] at d0
      go_wp2_with fail
      refine wp_region_calm (by kernel_rfl) (by kernel_rfl) ?_
      repeat (go_big_quiet_step ((go_at_call 89; exact calm_of (markText_any q hq1 (by omega) _))))
      refine wpQuiet_nil ?_
      intro _ hw'
      obtain ⟨nq, hw''⟩ := hw'
      subst hw''
      clear d0
      have hb2 := hb.trans ((grew_below wr nq).mono hb.size)
      clear hb
      have d0 := (hb2.cell (p := ⟨g, k * 1 + 0, none⟩) Hx.out.blk).trans (Hc.out (0, .string (S (mtext (q)))) (by simp [mkBs]))
      simp only [Nat.add_zero, Nat.mul_one] at d0
      have Hb := Lib.hid hb2
      clear hb2
      go_wp2_with (fail)
      go_roundg (n - (k + 1))
      case measure => omega
      case rel => exact ⟨k + 1, by omega, by first | rw [← Hq.out] | (have := Hq.out; simp; omega), by go_num, Hb.out⟩
    · go_wp2
      go_ret
      obtain rfl : k = n := by omega
      exact ⟨rfl, hb⟩
def mkLs (q : Int) : List (Nat × Value) := [(0, .int .i64 (q)), (2, .int .i64 (q + 1))]
set_option maxRecDepth 10000 in
set_option maxHeartbeats 1000000 in
theorem markLossS_n (g n c : Nat) (k0 : Int) (w : World) (x : Row w g 3 n 0 (fun i : Nat => mkLs (k0 + 2 * (i : Int))) [1]) (h1 : 1 ≤ k0) (h2 : k0 ≤ 1000) (hn : n ≤ 100) :
    Calls Try.prog 46 #[.slice (some ⟨g, 0, none⟩) n c, .int .i64 k0] w fun e w' => e = .returned (.int .i64 (k0 + 2 * n)) ∧ w.grownBy w' (some g) ∧ Row w' g 3 n n (fun i : Nat => mkLs (k0 + 2 * (i : Int))) [1] := by
  obtain ⟨MK, hMK⟩ : ∃ MK : Nat → List (Nat × Value), MK = fun i : Nat => mkLs (k0 + 2 * (i : Int)) := ⟨_, rfl⟩
  have HMK := Lib.hid hMK
  rw [← hMK] at x ⊢
  clear hMK
  go_enter Try.func46, Try.ntmps46
  go_wp2
  go_loopg [1, 5] n (fun m v i wr => ∃ k : Nat, k + m = n ∧ v = .int .i64 (k0 + 2 * k) ∧ i = .int .i64 (k : Int) ∧ w.grownBy wr (some g) ∧ Row wr g 3 n k MK [1])
  case atStart => exact ⟨0, by omega, by simp, rfl, World.grownBy.refl _ _, x⟩
  case round =>
    clear x
    obtain ⟨k, hk, rfl, rfl, hg, x⟩ := hrel
    by_cases hlt : k < n
    · obtain ⟨q, hq⟩ : ∃ q : Int, q = k0 + 2 * k := ⟨_, rfl⟩
      rw [← hq]
      have hq1 : 1 ≤ q := by omega
      have hq2 : q ≤ 2000 := by omega
      have q1 : (0 : Int) ≤ (k : Int) := by omega
      have q2 : (k : Int) < (n : Int) := by omega
      have HMq : Hid (MK k = mkLs q) := by rw [HMK.out, hq]; rfl
      have Hq : Hid (q + 1 + 1 = k0 + 2 * ((k + 1 : Nat) : Int)) := by unfold Hid; omega
      clear hq
      have f0 := x.frz (k * 3 + 0)
      obtain ⟨v0, d0⟩ := Option.isSome_iff_exists.1 (x.some_ k hlt 0 (by decide))
      simp only [Nat.add_zero] at f0 d0
      have f1 := x.frz (k * 3 + 1)
      obtain ⟨a1, c1, d1⟩ := x.zer k hlt 1 (by decide)
      have f2 := x.frz (k * 3 + 2)
      obtain ⟨v2, d2⟩ := Option.isSome_iff_exists.1 (x.some_ k hlt 2 (by decide))
      have hst := x.step hlt (L := [0, 2]) (fun i => by rw [HMK.out]; rfl) (by decide) (by decide) (by decide) (by decide)
      have hgs := on_trans hg (puts_grown g (k * 3) (MK k) wr)
      rw [HMq.out] at hst hgs
      have Hst := Lib.hid hst
      have Hgs := Lib.hid hgs
      clear hst hgs x hg
      go_wp2_with (first | (go_at_call 92; refine (markSentPacketS_0 _ _ _ _).mono ?_; rintro e w' ⟨rfl, rfl⟩))
      go_roundg (n - (k + 1))
      case measure => omega
      case rel => exact ⟨k + 1, by omega, by first | rw [← Hq.out] | (have := Hq.out; simp; omega), by go_num, Hgs.out, Hst.out⟩
    · go_wp2
      go_ret
      obtain rfl : k = n := by omega
      exact ⟨rfl, hg, x⟩
set_option maxRecDepth 10000 in
set_option maxHeartbeats 1000000 in
theorem heldLossS_n (g n c : Nat) (k0 : Int) (w : World) (x : Row w g 3 n n (fun i : Nat => mkLs (k0 + 2 * (i : Int))) [1]) (h1 : 1 ≤ k0) (h2 : k0 ≤ 1000) (hn : n ≤ 100) :
    Calls Try.prog 55 #[.slice (some ⟨g, 0, none⟩) n c, .int .i64 k0] w fun e w' => e = .returned (.int .i64 (k0 + 2 * n)) ∧ Below w.heap.size w w' := by
  have Hx := Lib.hid x
  clear x
  go_enter Try.func55, Try.ntmps55
  go_wp2
  go_loopg [1, 5] n (fun m v i wr => ∃ k : Nat, k + m = n ∧ v = .int .i64 (k0 + 2 * k) ∧ i = .int .i64 (k : Int) ∧ Below w.heap.size w wr)
  case atStart => exact ⟨0, by omega, by simp, rfl, Below.refl _ _⟩
  case round =>
    obtain ⟨k, hk, rfl, rfl, hb⟩ := hrel
    by_cases hlt : k < n
    · obtain ⟨q, hq⟩ : ∃ q : Int, q = k0 + 2 * k := ⟨_, rfl⟩
      rw [← hq]
      have hq1 : 1 ≤ q := by omega
      have hq2 : q ≤ 2000 := by omega
      have q1 : (0 : Int) ≤ (k : Int) := by omega
      have q2 : (k : Int) < (n : Int) := by omega
      have Hc : Hid (Cells w g (k * 3) (mkLs q)) := by rw [hq]; exact Hx.out.done k hlt
      have Hq : Hid (q + 1 + 1 = k0 + 2 * ((k + 1 : Nat) : Int)) := by unfold Hid; omega
      clear hq
      have d0 := (hb.cell (p := ⟨g, k * 3 + 0, none⟩) Hx.out.blk).trans (Hc.out (0, .int .i64 (q)) (by simp [mkLs]))
      simp only [Nat.add_zero] at d0
      have d2 := (hb.cell (p := ⟨g, k * 3 + 2, none⟩) Hx.out.blk).trans (Hc.out (2, .int .i64 (q + 1)) (by simp [mkLs]))
      obtain ⟨a1, c1, d1'⟩ := Hx.out.zer k hlt 1 (by decide)
      have d1 := (hb.cell (p := ⟨g, k * 3 + 1, none⟩) Hx.out.blk).trans d1'
      clear d1'
      have Hb := Lib.hid hb
      clear hb
      go_wp2_with (first | (go_at_call 95; refine (heldSentPacketS_0 _ _ _ _).mono ?_; rintro e w' ⟨rfl, rfl⟩))
      go_roundg (n - (k + 1))
      case measure => omega
      case rel => exact ⟨k + 1, by omega, by first | rw [← Hq.out] | (have := Hq.out; simp; omega), by go_num, Hb.out⟩
    · go_wp2
      go_ret
      obtain rfl : k = n := by omega
      exact ⟨rfl, hb⟩
def mkRt (q : Int) : List (Nat × Value) := [(0, .int .i64 (q)), (1, .int .i64 (q + 1)), (2, .int .i64 (q + 1 + 1)), (3, .int .i64 (q + 1 + 1 + 1))]
set_option maxRecDepth 10000 in
set_option maxHeartbeats 1000000 in
theorem markRttS_n (g n c : Nat) (k0 : Int) (w : World) (x : Row w g 4 n 0 (fun i : Nat => mkRt (k0 + 4 * (i : Int))) []) (h1 : 1 ≤ k0) (h2 : k0 ≤ 1000) (hn : n ≤ 100) :
    Calls Try.prog 47 #[.slice (some ⟨g, 0, none⟩) n c, .int .i64 k0] w fun e w' => e = .returned (.int .i64 (k0 + 4 * n)) ∧ w.grownBy w' (some g) ∧ Row w' g 4 n n (fun i : Nat => mkRt (k0 + 4 * (i : Int))) [] := by
  obtain ⟨MK, hMK⟩ : ∃ MK : Nat → List (Nat × Value), MK = fun i : Nat => mkRt (k0 + 4 * (i : Int)) := ⟨_, rfl⟩
  have HMK := Lib.hid hMK
  rw [← hMK] at x ⊢
  clear hMK
  go_enter Try.func47, Try.ntmps47
  go_wp2
  go_loopg [1, 5] n (fun m v i wr => ∃ k : Nat, k + m = n ∧ v = .int .i64 (k0 + 4 * k) ∧ i = .int .i64 (k : Int) ∧ w.grownBy wr (some g) ∧ Row wr g 4 n k MK [])
  case atStart => exact ⟨0, by omega, by simp, rfl, World.grownBy.refl _ _, x⟩
  case round =>
    clear x
    obtain ⟨k, hk, rfl, rfl, hg, x⟩ := hrel
    by_cases hlt : k < n
    · obtain ⟨q, hq⟩ : ∃ q : Int, q = k0 + 4 * k := ⟨_, rfl⟩
      rw [← hq]
      have hq1 : 1 ≤ q := by omega
      have hq2 : q ≤ 2000 := by omega
      have q1 : (0 : Int) ≤ (k : Int) := by omega
      have q2 : (k : Int) < (n : Int) := by omega
      have HMq : Hid (MK k = mkRt q) := by rw [HMK.out, hq]; rfl
      have Hq : Hid (q + 1 + 1 + 1 + 1 = k0 + 4 * ((k + 1 : Nat) : Int)) := by unfold Hid; omega
      clear hq
      have f0 := x.frz (k * 4 + 0)
      obtain ⟨v0, d0⟩ := Option.isSome_iff_exists.1 (x.some_ k hlt 0 (by decide))
      simp only [Nat.add_zero] at f0 d0
      have f1 := x.frz (k * 4 + 1)
      obtain ⟨v1, d1⟩ := Option.isSome_iff_exists.1 (x.some_ k hlt 1 (by decide))
      have f2 := x.frz (k * 4 + 2)
      obtain ⟨v2, d2⟩ := Option.isSome_iff_exists.1 (x.some_ k hlt 2 (by decide))
      have f3 := x.frz (k * 4 + 3)
      obtain ⟨v3, d3⟩ := Option.isSome_iff_exists.1 (x.some_ k hlt 3 (by decide))
      have hst := x.step hlt (L := [0, 1, 2, 3]) (fun i => by rw [HMK.out]; rfl) (by decide) (by decide) (by decide) (by decide)
      have hgs := on_trans hg (puts_grown g (k * 4) (MK k) wr)
      rw [HMq.out] at hst hgs
      have Hst := Lib.hid hst
      have Hgs := Lib.hid hgs
      clear hst hgs x hg
      go_wp2_with (fail)
      go_roundg (n - (k + 1))
      case measure => omega
      case rel => exact ⟨k + 1, by omega, by first | rw [← Hq.out] | (have := Hq.out; simp; omega), by go_num, Hgs.out, Hst.out⟩
    · go_wp2
      go_ret
      obtain rfl : k = n := by omega
      exact ⟨rfl, hg, x⟩
set_option maxRecDepth 10000 in
set_option maxHeartbeats 1000000 in
theorem heldRttS_n (g n c : Nat) (k0 : Int) (w : World) (x : Row w g 4 n n (fun i : Nat => mkRt (k0 + 4 * (i : Int))) []) (h1 : 1 ≤ k0) (h2 : k0 ≤ 1000) (hn : n ≤ 100) :
    Calls Try.prog 56 #[.slice (some ⟨g, 0, none⟩) n c, .int .i64 k0] w fun e w' => e = .returned (.int .i64 (k0 + 4 * n)) ∧ Below w.heap.size w w' := by
  have Hx := Lib.hid x
  clear x
  go_enter Try.func56, Try.ntmps56
  go_wp2
  go_loopg [1, 5] n (fun m v i wr => ∃ k : Nat, k + m = n ∧ v = .int .i64 (k0 + 4 * k) ∧ i = .int .i64 (k : Int) ∧ Below w.heap.size w wr)
  case atStart => exact ⟨0, by omega, by simp, rfl, Below.refl _ _⟩
  case round =>
    obtain ⟨k, hk, rfl, rfl, hb⟩ := hrel
    by_cases hlt : k < n
    · obtain ⟨q, hq⟩ : ∃ q : Int, q = k0 + 4 * k := ⟨_, rfl⟩
      rw [← hq]
      have hq1 : 1 ≤ q := by omega
      have hq2 : q ≤ 2000 := by omega
      have q1 : (0 : Int) ≤ (k : Int) := by omega
      have q2 : (k : Int) < (n : Int) := by omega
      have Hc : Hid (Cells w g (k * 4) (mkRt q)) := by rw [hq]; exact Hx.out.done k hlt
      have Hq : Hid (q + 1 + 1 + 1 + 1 = k0 + 4 * ((k + 1 : Nat) : Int)) := by unfold Hid; omega
      clear hq
      have d0 := (hb.cell (p := ⟨g, k * 4 + 0, none⟩) Hx.out.blk).trans (Hc.out (0, .int .i64 (q)) (by simp [mkRt]))
      simp only [Nat.add_zero] at d0
      have d1 := (hb.cell (p := ⟨g, k * 4 + 1, none⟩) Hx.out.blk).trans (Hc.out (1, .int .i64 (q + 1)) (by simp [mkRt]))
      have d2 := (hb.cell (p := ⟨g, k * 4 + 2, none⟩) Hx.out.blk).trans (Hc.out (2, .int .i64 (q + 1 + 1)) (by simp [mkRt]))
      have d3 := (hb.cell (p := ⟨g, k * 4 + 3, none⟩) Hx.out.blk).trans (Hc.out (3, .int .i64 (q + 1 + 1 + 1)) (by simp [mkRt]))
      have Hb := Lib.hid hb
      clear hb
      go_wp2_with (fail)
      go_roundg (n - (k + 1))
      case measure => omega
      case rel => exact ⟨k + 1, by omega, by first | rw [← Hq.out] | (have := Hq.out; simp; omega), by go_num, Hb.out⟩
    · go_wp2
      go_ret
      obtain rfl : k = n := by omega
      exact ⟨rfl, hb⟩
def mkWn (q : Int) : List (Nat × Value) := [(0, .int .i64 (q)), (1, .int .i64 (q + 1)), (2, .int .i64 (q + 1 + 1)), (3, .int .i64 (q + 1 + 1 + 1))]
set_option maxRecDepth 10000 in
set_option maxHeartbeats 1000000 in
theorem markWindowS_n (g n c : Nat) (k0 : Int) (w : World) (x : Row w g 4 n 0 (fun i : Nat => mkWn (k0 + 4 * (i : Int))) []) (h1 : 1 ≤ k0) (h2 : k0 ≤ 1000) (hn : n ≤ 100) :
    Calls Try.prog 48 #[.slice (some ⟨g, 0, none⟩) n c, .int .i64 k0] w fun e w' => e = .returned (.int .i64 (k0 + 4 * n)) ∧ w.grownBy w' (some g) ∧ Row w' g 4 n n (fun i : Nat => mkWn (k0 + 4 * (i : Int))) [] := by
  obtain ⟨MK, hMK⟩ : ∃ MK : Nat → List (Nat × Value), MK = fun i : Nat => mkWn (k0 + 4 * (i : Int)) := ⟨_, rfl⟩
  have HMK := Lib.hid hMK
  rw [← hMK] at x ⊢
  clear hMK
  go_enter Try.func48, Try.ntmps48
  go_wp2
  go_loopg [1, 5] n (fun m v i wr => ∃ k : Nat, k + m = n ∧ v = .int .i64 (k0 + 4 * k) ∧ i = .int .i64 (k : Int) ∧ w.grownBy wr (some g) ∧ Row wr g 4 n k MK [])
  case atStart => exact ⟨0, by omega, by simp, rfl, World.grownBy.refl _ _, x⟩
  case round =>
    clear x
    obtain ⟨k, hk, rfl, rfl, hg, x⟩ := hrel
    by_cases hlt : k < n
    · obtain ⟨q, hq⟩ : ∃ q : Int, q = k0 + 4 * k := ⟨_, rfl⟩
      rw [← hq]
      have hq1 : 1 ≤ q := by omega
      have hq2 : q ≤ 2000 := by omega
      have q1 : (0 : Int) ≤ (k : Int) := by omega
      have q2 : (k : Int) < (n : Int) := by omega
      have HMq : Hid (MK k = mkWn q) := by rw [HMK.out, hq]; rfl
      have Hq : Hid (q + 1 + 1 + 1 + 1 = k0 + 4 * ((k + 1 : Nat) : Int)) := by unfold Hid; omega
      clear hq
      have f0 := x.frz (k * 4 + 0)
      obtain ⟨v0, d0⟩ := Option.isSome_iff_exists.1 (x.some_ k hlt 0 (by decide))
      simp only [Nat.add_zero] at f0 d0
      have f1 := x.frz (k * 4 + 1)
      obtain ⟨v1, d1⟩ := Option.isSome_iff_exists.1 (x.some_ k hlt 1 (by decide))
      have f2 := x.frz (k * 4 + 2)
      obtain ⟨v2, d2⟩ := Option.isSome_iff_exists.1 (x.some_ k hlt 2 (by decide))
      have f3 := x.frz (k * 4 + 3)
      obtain ⟨v3, d3⟩ := Option.isSome_iff_exists.1 (x.some_ k hlt 3 (by decide))
      have hst := x.step hlt (L := [0, 1, 2, 3]) (fun i => by rw [HMK.out]; rfl) (by decide) (by decide) (by decide) (by decide)
      have hgs := on_trans hg (puts_grown g (k * 4) (MK k) wr)
      rw [HMq.out] at hst hgs
      have Hst := Lib.hid hst
      have Hgs := Lib.hid hgs
      clear hst hgs x hg
      go_wp2_with (fail)
      go_roundg (n - (k + 1))
      case measure => omega
      case rel => exact ⟨k + 1, by omega, by first | rw [← Hq.out] | (have := Hq.out; simp; omega), by go_num, Hgs.out, Hst.out⟩
    · go_wp2
      go_ret
      obtain rfl : k = n := by omega
      exact ⟨rfl, hg, x⟩
set_option maxRecDepth 10000 in
set_option maxHeartbeats 1000000 in
theorem heldWindowS_n (g n c : Nat) (k0 : Int) (w : World) (x : Row w g 4 n n (fun i : Nat => mkWn (k0 + 4 * (i : Int))) []) (h1 : 1 ≤ k0) (h2 : k0 ≤ 1000) (hn : n ≤ 100) :
    Calls Try.prog 57 #[.slice (some ⟨g, 0, none⟩) n c, .int .i64 k0] w fun e w' => e = .returned (.int .i64 (k0 + 4 * n)) ∧ Below w.heap.size w w' := by
  have Hx := Lib.hid x
  clear x
  go_enter Try.func57, Try.ntmps57
  go_wp2
  go_loopg [1, 5] n (fun m v i wr => ∃ k : Nat, k + m = n ∧ v = .int .i64 (k0 + 4 * k) ∧ i = .int .i64 (k : Int) ∧ Below w.heap.size w wr)
  case atStart => exact ⟨0, by omega, by simp, rfl, Below.refl _ _⟩
  case round =>
    obtain ⟨k, hk, rfl, rfl, hb⟩ := hrel
    by_cases hlt : k < n
    · obtain ⟨q, hq⟩ : ∃ q : Int, q = k0 + 4 * k := ⟨_, rfl⟩
      rw [← hq]
      have hq1 : 1 ≤ q := by omega
      have hq2 : q ≤ 2000 := by omega
      have q1 : (0 : Int) ≤ (k : Int) := by omega
      have q2 : (k : Int) < (n : Int) := by omega
      have Hc : Hid (Cells w g (k * 4) (mkWn q)) := by rw [hq]; exact Hx.out.done k hlt
      have Hq : Hid (q + 1 + 1 + 1 + 1 = k0 + 4 * ((k + 1 : Nat) : Int)) := by unfold Hid; omega
      clear hq
      have d0 := (hb.cell (p := ⟨g, k * 4 + 0, none⟩) Hx.out.blk).trans (Hc.out (0, .int .i64 (q)) (by simp [mkWn]))
      simp only [Nat.add_zero] at d0
      have d1 := (hb.cell (p := ⟨g, k * 4 + 1, none⟩) Hx.out.blk).trans (Hc.out (1, .int .i64 (q + 1)) (by simp [mkWn]))
      have d2 := (hb.cell (p := ⟨g, k * 4 + 2, none⟩) Hx.out.blk).trans (Hc.out (2, .int .i64 (q + 1 + 1)) (by simp [mkWn]))
      have d3 := (hb.cell (p := ⟨g, k * 4 + 3, none⟩) Hx.out.blk).trans (Hc.out (3, .int .i64 (q + 1 + 1 + 1)) (by simp [mkWn]))
      have Hb := Lib.hid hb
      clear hb
      go_wp2_with (fail)
      go_roundg (n - (k + 1))
      case measure => omega
      case rel => exact ⟨k + 1, by omega, by first | rw [← Hq.out] | (have := Hq.out; simp; omega), by go_num, Hb.out⟩
    · go_wp2
      go_ret
      obtain rfl : k = n := by omega
      exact ⟨rfl, hb⟩
def mkSn (q : Int) : List (Nat × Value) := []
set_option maxRecDepth 10000 in
set_option maxHeartbeats 1000000 in
theorem markRangeSS_n (g n c : Nat) (k0 : Int) (w : World) (x : Row w g 1 n 0 (fun i : Nat => mkSn (k0 + 0 * (i : Int))) [0]) (h1 : 1 ≤ k0) (h2 : k0 ≤ 1000) (hn : n ≤ 100) :
    Calls Try.prog 49 #[.slice (some ⟨g, 0, none⟩) n c, .int .i64 k0] w fun e w' => e = .returned (.int .i64 (k0 + 0 * n)) ∧ w.grownBy w' (some g) ∧ Row w' g 1 n n (fun i : Nat => mkSn (k0 + 0 * (i : Int))) [0] := by
  obtain ⟨MK, hMK⟩ : ∃ MK : Nat → List (Nat × Value), MK = fun i : Nat => mkSn (k0 + 0 * (i : Int)) := ⟨_, rfl⟩
  have HMK := Lib.hid hMK
  rw [← hMK] at x ⊢
  clear hMK
  go_enter Try.func49, Try.ntmps49
  go_wp2
  go_loopg [1, 5] n (fun m v i wr => ∃ k : Nat, k + m = n ∧ v = .int .i64 (k0 + 0 * k) ∧ i = .int .i64 (k : Int) ∧ w.grownBy wr (some g) ∧ Row wr g 1 n k MK [0])
  case atStart => exact ⟨0, by omega, by simp, rfl, World.grownBy.refl _ _, x⟩
  case round =>
    clear x
    obtain ⟨k, hk, rfl, rfl, hg, x⟩ := hrel
    by_cases hlt : k < n
    · obtain ⟨q, hq⟩ : ∃ q : Int, q = k0 + 0 * k := ⟨_, rfl⟩
      rw [← hq]
      have hq1 : 1 ≤ q := by omega
      have hq2 : q ≤ 2000 := by omega
      have q1 : (0 : Int) ≤ (k : Int) := by omega
      have q2 : (k : Int) < (n : Int) := by omega
      have HMq : Hid (MK k = mkSn q) := by rw [HMK.out, hq]; rfl
      have Hq : Hid (q = k0 + 0 * ((k + 1 : Nat) : Int)) := by unfold Hid; omega
      clear hq
      have f0 := x.frz (k * 1 + 0)
      obtain ⟨a0, c0, d0⟩ := x.zer k hlt 0 (by decide)
      simp only [Nat.add_zero, Nat.mul_one] at f0 d0
      have Hst := Lib.hid (show Row wr g 1 n (k + 1) MK [0] from ⟨x.blk, fun i hi p hp => (by rw [HMK.out] at hp; cases hp), x.some_, x.zer, x.frz⟩)
      have Hgs := Lib.hid hg
      clear x hg
      go_wp2_with (first | (go_at_call 90; refine (markRangeS_0 _ _ _ _).mono ?_; rintro e w' ⟨rfl, rfl⟩))
      go_roundg (n - (k + 1))
      case measure => omega
      case rel => exact ⟨k + 1, by omega, by first | rw [← Hq.out] | (have := Hq.out; simp; omega), by go_num, Hgs.out, Hst.out⟩
    · go_wp2
      go_ret
      obtain rfl : k = n := by omega
      exact ⟨rfl, hg, x⟩
set_option maxRecDepth 10000 in
set_option maxHeartbeats 1000000 in
theorem heldRangeSS_n (g n c : Nat) (k0 : Int) (w : World) (x : Row w g 1 n n (fun i : Nat => mkSn (k0 + 0 * (i : Int))) [0]) (h1 : 1 ≤ k0) (h2 : k0 ≤ 1000) (hn : n ≤ 100) :
    Calls Try.prog 58 #[.slice (some ⟨g, 0, none⟩) n c, .int .i64 k0] w fun e w' => e = .returned (.int .i64 (k0 + 0 * n)) ∧ Below w.heap.size w w' := by
  have Hx := Lib.hid x
  clear x
  go_enter Try.func58, Try.ntmps58
  go_wp2
  go_loopg [1, 5] n (fun m v i wr => ∃ k : Nat, k + m = n ∧ v = .int .i64 (k0 + 0 * k) ∧ i = .int .i64 (k : Int) ∧ Below w.heap.size w wr)
  case atStart => exact ⟨0, by omega, by simp, rfl, Below.refl _ _⟩
  case round =>
    obtain ⟨k, hk, rfl, rfl, hb⟩ := hrel
    by_cases hlt : k < n
    · obtain ⟨q, hq⟩ : ∃ q : Int, q = k0 + 0 * k := ⟨_, rfl⟩
      rw [← hq]
      have hq1 : 1 ≤ q := by omega
      have hq2 : q ≤ 2000 := by omega
      have q1 : (0 : Int) ≤ (k : Int) := by omega
      have q2 : (k : Int) < (n : Int) := by omega
      have Hc : Hid (Cells w g (k * 1) (mkSn q)) := by rw [hq]; exact Hx.out.done k hlt
      have Hq : Hid (q = k0 + 0 * ((k + 1 : Nat) : Int)) := by unfold Hid; omega
      clear hq
      obtain ⟨a0, c0, d0'⟩ := Hx.out.zer k hlt 0 (by decide)
      have d0 := (hb.cell (p := ⟨g, k * 1 + 0, none⟩) Hx.out.blk).trans d0'
      clear d0'
      simp only [Nat.add_zero, Nat.mul_one] at d0
      have Hb := Lib.hid hb
      clear hb
      go_wp2_with (first | (go_at_call 93; refine (heldRangeS_0 _ _ _ _).mono ?_; rintro e w' ⟨rfl, rfl⟩))
      go_roundg (n - (k + 1))
      case measure => omega
      case rel => exact ⟨k + 1, by omega, by first | rw [← Hq.out] | (have := Hq.out; simp; omega), by go_num, Hb.out⟩
    · go_wp2
      go_ret
      obtain rfl : k = n := by omega
      exact ⟨rfl, hb⟩
end Go.Proofs.Ytjpaoadbgmmoeaa
