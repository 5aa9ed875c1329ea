/- The contracts of the program's small functions on the sending side. Condition: the slices read as lists of ranges. -/
import Derived.Test.YtjpaoadbgmmoeaaWB3
namespace Go.Proofs.Ytjpaoadbgmmoeaa
open Go.RowKit

def Sd.agg (x : Sd) (A : Option Addr) (n c : Nat) (A' : Option Addr) (n' c' : Nat) : Value := .agg #[.string (S x.data), .bool x.fin, .int .i64 x.limit, .int .i64 x.next, .slice A n c, .slice A' n' c']
def Pt.agg (p : Pt) : Value := .agg #[.int .i64 p.off, .string (S p.data), .bool p.fin]
theorem positions_any (x : Sd) (A : Option Addr) (n c : Nat) (A' : Option Addr) (n' c' : Nat) (w : World) (hl : x.data.length ≤ 1099511627776) :
    Calls Try.prog 96 #[x.agg A n c A' n' c'] w fun e w' => e = .returned (.int .i64 x.many) ∧ Below w.heap.size w w' := by
  unfold Sd.agg
  cases hf : x.fin with
  | true =>
    have hm : x.many = (x.data.length : Int) + 1 := by unfold Sd.many bl; rw [hf]; rfl
    have Hm := Lib.hid hm
    clear hm
    go_enter Try.func96, Try.ntmps96
    go_wp2
    go_ret
    exact ⟨ret_int Hm.out.symm, b_alloc _ _⟩
  | false =>
    have hm : x.many = (x.data.length : Int) := by unfold Sd.many bl; rw [hf]; rfl
    have Hm := Lib.hid hm
    clear hm
    go_enter Try.func96, Try.ntmps96
    go_wp2
    go_ret
    exact ⟨ret_int Hm.out.symm, b_alloc _ _⟩
theorem partLast_any (p : Pt) (w : World) (hl : p.data.length ≤ 1099511627776) (h1 : -4294967296 ≤ p.off ∧ p.off ≤ 4294967296) :
    Calls Try.prog 101 #[p.agg] w fun e w' => e = .returned (.int .i64 p.last) ∧ Below w.heap.size w w' := by
  unfold Pt.agg
  cases hf : p.fin with
  | true =>
    have hm : p.last = p.off + (p.data.length : Int) := by unfold Pt.last bl; rw [hf]; rfl
    have Hm := Lib.hid hm
    clear hm
    go_enter Try.func101, Try.ntmps101
    go_wp2
    go_ret
    exact ⟨ret_int Hm.out.symm, b_alloc _ _⟩
  | false =>
    have hm : p.last = p.off + (p.data.length : Int) - 1 := by unfold Pt.last bl; rw [hf]; rfl
    have Hm := Lib.hid hm
    clear hm
    go_enter Try.func101, Try.ntmps101
    go_wp2
    go_ret
    exact ⟨ret_int Hm.out.symm, b_alloc _ _⟩
theorem S_dec (a b : Bs) (h : Decidable (S a = S b)) : @decide (S a = S b) h = (a == b) := by
  rw [Bool.eq_iff_iff, decide_eq_true_eq, beq_iff_eq]
  exact ⟨S_inj, fun h => by rw [h]⟩
theorem hasPrefix_any (a b : Bs) (w : World) (_ha : a.length ≤ 1099511627776) (_hb : b.length ≤ 1099511627776) :
    Calls Try.prog 65 #[.string (S a), .string (S b)] w fun e w' => e = .returned (.bool (a.take b.length == b)) ∧ w = w' := by
  go_enter Try.func65, Try.ntmps65
  go_wp2_with fail
  go_enter Try.func97, Try.ntmps97
  by_cases hle : b.length ≤ a.length
  · go_wp2
    go_ret
    exact ⟨ret_bool rfl, rfl⟩
  · go_wp2
    go_ret
    refine ⟨ret_bool ?_, rfl⟩
    symm
    rw [beq_eq_false_iff_ne]
    intro e
    have := congrArg List.length e
    rw [List.length_take] at this
    omega
theorem isPath_any (p : Int) (w : World) : Calls Try.prog 76 #[.int .i64 p] w fun e w' => e = .returned (.bool (inB p 0 3)) ∧ w = w' := by
  go_enter Try.func76, Try.ntmps76
  go_wp2_with (go_at_call 29; refine (within_any _ _ _ _).mono ?_; rintro e w' ⟨rfl, rfl⟩)
  go_ret
  exact ⟨rfl, rfl⟩
theorem isStream_any (p : Int) (w : World) : Calls Try.prog 73 #[.int .i64 p] w fun e w' => e = .returned (.bool (inB p 0 2)) ∧ w = w' := by
  go_enter Try.func73, Try.ntmps73
  go_wp2_with (go_at_call 29; refine (within_any _ _ _ _).mono ?_; rintro e w' ⟨rfl, rfl⟩)
  go_ret
  exact ⟨rfl, rfl⟩
def Fm.agg (f : Fm) (A : Option Addr) (n c : Nat) : Value := .agg #[.int .i64 f.kind, .int .i64 f.a, .int .i64 f.b, .int .i64 f.c, .string (S f.data), .slice A n c]
theorem partOf_any (f : Fm) (A : Option Addr) (n c : Nat) (w : World) : Calls Try.prog 78 #[f.agg A n c] w fun e w' => e = .returned (fmPart f).agg ∧ Below w.heap.size w w' := by
  unfold Fm.agg Pt.agg fmPart
  go_enter Try.func78, Try.ntmps78
  go_wp2
  refine bodyPost_ret (v := .agg #[.int .i64 f.b, .string (S f.data), .bool (f.c == 1)]) (by simp [results, Try.results78, go_sem]) rfl ⟨?_, ((Below.refl _ _).alloc (Nat.le_refl _) _).alloc (by simp) _⟩
  have : decide (f.c = 1) = (f.c == 1) := by rw [Bool.eq_iff_iff]; simp
  rw [this]
end Go.Proofs.Ytjpaoadbgmmoeaa
