/- The contracts of the program's SendNew, RecvNew, LossNew. No condition. -/
import Derived.Test.YtjpaoadbgmmoeaaWH
import Derived.Handy
namespace Go.Proofs.Ytjpaoadbgmmoeaa
open Go.RowKit

theorem sendNew_yes (limit : Int) (hl : inB limit 0 30 = true) (w : World) :
    Calls Try.prog 15 #[.int .i64 limit] w fun e w' => e = .returned (.tuple #[.agg #[.string (S []), .bool false, .int .i64 limit, .int .i64 0, .slice none 0 0, .slice none 0 0], .bool true]) ∧ Below w.heap.size w w' := by
  go_enter Try.func15, Try.ntmps15
  go_wp2_with (go_at_call 29; refine (within_dec hl).mono ?_; rintro e w' ⟨rfl, rfl⟩)
  go_returns
  exact ⟨rfl, b_alloc _ _⟩
theorem sendNew_no (limit : Int) (hl : inB limit 0 30 = false) (w : World) :
    Calls Try.prog 15 #[.int .i64 limit] w fun e w' => e = .returned (.tuple #[.agg #[.string (S []), .bool false, .int .i64 0, .int .i64 0, .slice none 0 0, .slice none 0 0], .bool false]) ∧ Below w.heap.size w w' := by
  go_enter Try.func15, Try.ntmps15
  go_wp2_with (go_at_call 29; refine (within_dec hl).mono ?_; rintro e w' ⟨rfl, rfl⟩)
  go_returns
  exact ⟨rfl, b_alloc _ _⟩
theorem recvNew_yes (limit : Int) (hl : inB limit 0 30 = true) (w : World) :
    Calls Try.prog 16 #[.int .i64 limit] w fun e w' => e = .returned (.tuple #[.agg #[.int .i64 0, .slice none 0 0, .int .i64 (-1), .int .i64 limit], .bool true]) ∧ Below w.heap.size w w' := by
  go_enter Try.func16, Try.ntmps16
  go_wp2_with (go_at_call 29; refine (within_dec hl).mono ?_; rintro e w' ⟨rfl, rfl⟩)
  go_returns
  exact ⟨rfl, b_alloc _ _⟩
theorem lossNew_any (w : World) :
    Calls Try.prog 17 #[] w fun e w' => e = .returned (.agg #[.int .i64 0, .slice none 0 0, .int .i64 (-1)]) ∧ Below w.heap.size w w' := by
  go_enter Try.func17, Try.ntmps17
  go_wp2
  go_returns
  exact ⟨rfl, b_alloc _ _⟩
theorem l6In_any (n lo hi : Int) (w : World) :
    Calls Try.prog 18 #[.int .i64 n, .int .i64 lo, .int .i64 hi] w fun e w' => e = .returned (.bool (inB n lo hi)) ∧ w = w' := by
  by_cases h1 : lo ≤ n <;> by_cases h2 : n ≤ hi
  all_goals
    go_enter Try.func18, Try.ntmps18
    go_wp2
    go_ret
    exact ⟨by simp [inB, h1, h2], rfl⟩
theorem l6In_dec {n lo hi : Int} {w : World} {b : Bool} (h : inB n lo hi = b) :
    Calls Try.prog 18 #[.int .i64 n, .int .i64 lo, .int .i64 hi] w fun e w' => e = .returned (.bool b) ∧ w = w' := by rw [← h]; exact l6In_any n lo hi w
theorem sSendNew_yes (limit : Int) (hl : inB limit 0 30 = true) (w : World) :
    Calls Try.prog 19 #[.int .i64 limit] w fun e w' => (∃ b b' : Nat, e = .returned (.tuple #[.agg #[.string (S []), .bool false, .int .i64 limit, .int .i64 0, .slice (some ⟨b, 0, none⟩) 0 0, .slice (some ⟨b', 0, none⟩) 0 0], .bool true])) ∧ Below w.heap.size w w' := by
  go_enter Try.func19, Try.ntmps19
  go_wp2_with (go_at_call 18; refine (l6In_dec hl).mono ?_; rintro e w' ⟨rfl, rfl⟩)
  go_returns
  exact ⟨⟨_, _, rfl⟩, b_grow (b_grow (b_alloc _ _) _) _⟩
theorem sRecvNew_yes (limit : Int) (hl : inB limit 0 30 = true) (w : World) :
    Calls Try.prog 20 #[.int .i64 limit] w fun e w' => (∃ b : Nat, e = .returned (.tuple #[.agg #[.int .i64 0, .slice (some ⟨b, 0, none⟩) 0 0, .int .i64 (-1), .int .i64 limit], .bool true])) ∧ Below w.heap.size w w' := by
  go_enter Try.func20, Try.ntmps20
  go_wp2_with (go_at_call 18; refine (l6In_dec hl).mono ?_; rintro e w' ⟨rfl, rfl⟩)
  go_returns
  exact ⟨⟨_, rfl⟩, b_grow (b_alloc _ _) _⟩
theorem sLossNew_any (w : World) :
    Calls Try.prog 22 #[] w fun e w' => (∃ b : Nat, e = .returned (.agg #[.int .i64 0, .slice (some ⟨b, 0, none⟩) 0 0, .int .i64 (-1)])) ∧ Below w.heap.size w w' := by
  go_enter Try.func22, Try.ntmps22
  go_wp2
  go_returns
  exact ⟨⟨_, rfl⟩, b_grow (b_alloc _ _) _⟩
theorem l51Path_any (w : World) : Calls Try.prog 21 #[] w fun e w' => e = .returned (.int .i64 4) ∧ w = w' := by
  go_enter Try.func21, Try.ntmps21
  go_wp2
  go_ret
  exact ⟨rfl, rfl⟩
end Go.Proofs.Ytjpaoadbgmmoeaa
