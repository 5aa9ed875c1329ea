/- The contracts of the program's RttValid, LossValid and WindowsValid. Condition: the slices read as lists. -/
import Derived.Test.YtjpaoadbgmmoeaaWA2
namespace Go.Proofs.Ytjpaoadbgmmoeaa
open Go.RowKit

set_option maxHeartbeats 400000 in
theorem rttValid_any (x : Rt) (w : World) :
    Calls Try.prog 71 #[.agg #[.int .i64 x.latest, .int .i64 x.least, .int .i64 x.smooth, .int .i64 x.vary]] w fun e w' => e = .returned (.bool (rtValid x)) ∧ Below w.heap.size w w' := by
  obtain ⟨a, b, c, d⟩ := x
  go_enter Try.func71, Try.ntmps71
  go_wp2_with (go_at_call 29; refine (within_any _ _ _ _).mono ?_; rintro e w' ⟨rfl, rfl⟩)
  all_goals
    go_ret
    refine ⟨ret_bool ?_, (Below.refl _ _).alloc (Nat.le_refl _) _⟩
    simp_all [rtValid, rtZero]

theorem wns_no {l : List Wn} {k : Nat} {x : Wn} (hx : l[k]? = some x) (h : wnOk x = false) : wnsValid l = false := by
  have : l.all wnOk = false := List.all_eq_false.2 ⟨x, List.mem_of_getElem? hx, by simp [h]⟩
  simp [wnsValid, this]
set_option maxHeartbeats 400000 in
theorem windowsValid_any (A : Option Addr) (n c : Nat) (l : List Wn) (w : World) (ok : Nat → Prop) (h : SliceR WnR 4 w ok A n c l) (hok : Sub ok (Old w)) :
    Calls Try.prog 30 #[.slice A n c] w fun e w' => e = .returned (.bool (wnsValid l)) ∧ Below w.heap.size w w' := by
  have hlen := Lib.hid h.len
  have hcap := h.cap
  go_enter Try.func30, Try.ntmps30
  go_wp2
  go_loopg [7] n (fun m i wr => ∃ k : Nat, k + m = n ∧ i = .int .i64 k ∧ Below w.heap.size w wr ∧ Hid ((l.take k).all wnOk = true))
  case atStart => exact ⟨0, by omega, rfl, Below.refl _ _, rfl⟩
  case round =>
    obtain ⟨k, hk, rfl, hbr, HT⟩ := hrel
    by_cases hlt : k < n
    · obtain ⟨b, o, cs, x, rfl, hb, hx, _, ⟨rfl, _⟩, hc⟩ := (h.below wnCar hok hbr (Nat.le_refl _)).at_ hlt
      have c0 := hc 0 _ rfl
      have c1 := hc 1 _ rfl
      have c2 := hc 2 _ rfl
      have c3 := hc 3 _ rfl
      rw [Nat.add_zero] at c0
      have Hx := Lib.hid hx
      clear hc hx
      go_wp2_with (go_at_call 29; refine (within_any _ _ _ _).mono ?_; rintro e w' ⟨rfl, rfl⟩)
      all_goals first
        | (go_roundg (n - (k + 1))
           case measure => omega
           case rel =>
             refine ⟨k + 1, by omega, by go_num, hbr.alloc hbr.size _, ?_⟩
             have hok' : wnOk x = true := by simp_all [wnOk]
             unfold Hid
             rw [List.take_add_one, Hx.out, List.all_append, HT.out]
             simp [hok'])
        | (go_ret
           refine ⟨ret_bool (Eq.symm (wns_no Hx.out ?_)), hbr.alloc hbr.size _⟩
           simp_all [wnOk])
    · obtain rfl : k = n := by omega
      have hT := HT.out
      rw [List.take_of_length_le (by rw [hlen.out]; omega)] at hT
      have Hall := Lib.hid hT
      clear hT HT
      go_wp2_with (go_at_call 29; refine (within_any _ _ _ _).mono ?_; rintro e w' ⟨rfl, rfl⟩)
      go_ret
      exact ⟨ret_bool (by rw [wnsValid, Hall.out, hlen.out, Bool.true_and]), hbr⟩
end Go.Proofs.Ytjpaoadbgmmoeaa
