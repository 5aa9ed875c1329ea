/- The contracts of the program's functions on sets of numbers. Condition: the slices read as lists of ranges. -/
import Derived.Test.YtjpaoadbgmmoeaaWP7
import Derived.Test.YtjpaoadbgmmoeaaWM
import Derived.Deep.LoopGhost
import Derived.Deep.Onto
namespace Go.Proofs.Ytjpaoadbgmmoeaa
open Go.RowKit

theorem within_any (n lo hi : Int) (w : World) :
    Calls Try.prog 29 #[.int .i64 n, .int .i64 lo, .int .i64 hi] w fun e w' => e = .returned (.bool (inB n lo hi)) ∧ w = w' := by
  by_cases h1 : lo ≤ n <;> by_cases h2 : n ≤ hi
  all_goals
    go_enter Try.func29, Try.ntmps29
    go_wp2
    go_ret
    exact ⟨by simp [inB, h1, h2], rfl⟩
theorem within_dec {n lo hi : Int} {w : World} {b : Bool} (h : inB n lo hi = b) :
    Calls Try.prog 29 #[.int .i64 n, .int .i64 lo, .int .i64 hi] w fun e w' => e = .returned (.bool b) ∧ w = w' := by rw [← h]; exact within_any n lo hi w
section
variable {w : World} {ok : Nat → Prop} {A : Option Addr} {n c : Nat} {l : List Rg}
/-- The cells of one range. -/
theorem rg_at (h : RgS w ok A n c l) {k : Nat} (hk : k < n) : ∃ b o x, A = some ⟨b, o, none⟩ ∧ ok b ∧ l[k]? = some x ∧ I64 x.lo ∧ I64 x.hi ∧ w.cell? ⟨b, o + k * 2, none⟩ = some (.int .i64 x.lo) ∧ w.cell? ⟨b, o + k * 2 + 1, none⟩ = some (.int .i64 x.hi) := by
  obtain ⟨b, o, cs, x, e, hb, hx, _, ⟨rfl, h1, h2⟩, hc⟩ := h.at_ hk
  exact ⟨b, o, x, e, hb, hx, h1, h2, by have := hc 0 _ rfl; rwa [Nat.add_zero] at this, hc 1 _ rfl⟩
theorem SliceR.below {α : Type} {R : World → (Nat → Prop) → List Value → α → Prop} {size : Nat} {w w' : World} {ok : Nat → Prop} {A : Option Addr} {n c : Nat} {l : List α} (hR : RCar R) (h : SliceR R size w ok A n c l) (hok : Sub ok (Old w)) {B : Nat} (hb : Below B w w') (hB : w.heap.size ≤ B) : SliceR R size w' ok A n c l :=
  h.car (fun _ _ => hR (Car.below hok (hb.mono hB))) (Car.below hok (hb.mono hB))
theorem getD_of? {α : Type} [Inhabited α] {l : List α} {k : Nat} {x : α} (h : l[k]? = some x) : l.getD k default = x := by rw [List.getD_eq_getElem?_getD, h]; rfl
end

theorem lastHi_bd {l : List Rg} {k : Nat} (h : rgTo l k = true) : -2 ≤ lastHi l k ∧ lastHi l k ≤ 999 := by
  unfold lastHi
  by_cases h0 : k = 0
  · rw [if_pos h0]; omega
  · rw [if_neg h0]
    have := rg_bd h (k - 1) (by omega)
    omega
set_option maxHeartbeats 400000 in
theorem rangesValid_any (A : Option Addr) (n c : Nat) (l : List Rg) (w : World) (ok : Nat → Prop) (h : RgS w ok A n c l) (hok : Sub ok (Old w)) :
    Calls Try.prog 72 #[.slice A n c] w fun e w' => e = .returned (.bool (rgValid l)) ∧ Below w.heap.size w w' := by
  have hlen := Lib.hid h.len
  have hcap := h.cap
  by_cases hbig : n ≤ 16
  · go_enter Try.func72, Try.ntmps72
    go_wp2
    go_loopg [3, 11] n (fun m last i wr => ∃ k : Nat, k + m = n ∧ i = .int .i64 k ∧ last = .int .i64 (lastHi l k) ∧ Below w.heap.size w wr ∧ Hid (rgTo l k = true))
    case atStart => exact ⟨0, by omega, rfl, rfl, Below.refl _ _, rfl⟩
    case round =>
      obtain ⟨k, hk, rfl, rfl, hbr, HT⟩ := hrel
      by_cases hlt : k < n
      · obtain ⟨b, o, x, rfl, hb, hx, b1, b2, c0, c1⟩ := rg_at (h.below rgCar hok hbr (Nat.le_refl _)) hlt
        have hbd := lastHi_bd HT.out
        have hg := getD_of? hx
        have hs : Hid (lastHi l (k + 1) = x.hi) := by unfold Hid lastHi; rw [if_neg (by omega), Nat.add_sub_cancel, hg]
        have hn1 : k < l.length := by rw [hlen.out]; exact hlt
        unfold I64 at b1 b2
        cases hat : rgAt l k with
        | true =>
          have HT' : Hid (rgTo l (k + 1) = true) := by unfold Hid; rw [rgTo_succ, HT.out, hat]; rfl
          simp only [rgAt, hg, Bool.and_eq_true, decide_eq_true_eq] at hat
          obtain ⟨t1, t2, t3⟩ := hat
          generalize lastHi l k = last at hbd t1 ⊢
          clear hx hg HT
          go_wp2
          go_roundg (n - (k + 1))
          case measure => omega
          case rel => exact ⟨k + 1, by omega, by go_num, by rw [hs.out], hbr.alloc hbr.size _, HT'⟩
        | false =>
          have hno : rgValid l = false := by rw [rgValid, rgTo_no hat hn1, Bool.and_false]
          have hcase : x.lo < lastHi l k + 2 ∨ (lastHi l k + 2 ≤ x.lo ∧ x.hi < x.lo) ∨ (lastHi l k + 2 ≤ x.lo ∧ x.lo ≤ x.hi ∧ 999 < x.hi) := by
            simp only [rgAt, hg, Bool.and_eq_false_iff, decide_eq_false_iff_not] at hat
            omega
          have Hno := Lib.hid hno
          generalize lastHi l k = last at hbd hcase ⊢
          clear hx hg HT hat hs hno
          rcases hcase with t1 | ⟨t1, t2⟩ | ⟨t1, t2, t3⟩
          all_goals
            go_wp2
            go_ret
            exact ⟨ret_bool Hno.out.symm, hbr.alloc hbr.size _⟩
      · have hkn : k = n := by omega
        subst hkn
        have hyes : rgValid l = true := by rw [rgValid, hlen.out, HT.out]; simp; omega
        have Hyes := Lib.hid hyes
        clear hyes HT
        go_wp2
        go_ret
        exact ⟨ret_bool Hyes.out.symm, hbr⟩
  · have hno : rgValid l = false := by rw [rgValid, hlen.out]; simp; omega
    rw [hno]
    go_enter Try.func72, Try.ntmps72
    go_wp2
    go_ret
    exact ⟨rfl, Below.refl _ _⟩
end Go.Proofs.Ytjpaoadbgmmoeaa
