/- The contracts of the spec's OptionsValid. Condition: the slice reads as a list of options. -/
import Derived.Test.YtjnplihkagegdaaSch
namespace Go.Proofs.Ytjnplihkagegdaa
open Go.RowKit
theorem l6In_any (n lo hi : Int) (w : World) :
    Calls Try.prog 29 #[.int .i64 n, .int .i64 lo, .int .i64 hi] w fun e w' => e = .returned (.bool (withinB n lo hi)) ∧ w = w' := by
  by_cases h1 : lo ≤ n <;> by_cases h2 : n ≤ hi
  all_goals
    go_enter Try.func29, Try.ntmps29
    go_wp2
    go_ret
    exact ⟨by simp [withinB, h1, h2], rfl⟩
set_option maxHeartbeats 400000 in
theorem sOptionsValid_any (A : Option Addr) (n c : Nat) (l : List Opt) (w : World) (B : Nat) (h : Opts 1048576 w B A n l) (hB : B ≤ w.heap.size) :
    Calls Try.prog 12 #[.slice A n c] w fun e w' => e = .returned (.bool (ovB l)) ∧ Below w.heap.size w w' := by
  have hn := h.2.1
  have hlen := Lib.hid h.len
  go_enter Try.func12, Try.ntmps12
  go_wp2
  go_loopg [3] n (fun m i wr => ∃ k : Nat, k + m = n ∧ i = .int .i64 k ∧ Below w.heap.size w wr ∧ Hid ((l.take k).all Opt.okB = true))
  case atStart => exact ⟨0, by omega, rfl, Below.refl _ _, by simp [Hid]⟩
  case round =>
    obtain ⟨k, hk, rfl, hbr, Hp⟩ := hrel
    by_cases hlt : k < n
    · obtain ⟨b, o, u, rfl, hb, hu, hbd, c0, c1, c2, c3⟩ := (h.below hbr hB).at_ hlt
      have Hu := Lib.hid hu
      clear hu hbd
      go_wp2_with fail
      refine (l6In_any _ _ _ _).mono ?_
      rintro e w' ⟨rfl, rfl⟩
      cases e1 : withinB u.rtt 1 99 with
      | false =>
        have hno : ovB l = false := ov_no Hu.out (by simp [Opt.okB, e1])
        have Hno := Lib.hid hno
        clear hno e1
        go_wp2_with fail
        go_ret
        exact ⟨ret_bool Hno.out.symm, hbr.alloc hbr.size _⟩
      | true =>
        have E1 := Lib.hid e1
        clear e1
        go_wp2_with fail
        refine (l6In_any _ _ _ _).mono ?_
        rintro e w' ⟨rfl, rfl⟩
        cases e2 : withinB u.win 1 64 with
        | false =>
          have hno : ovB l = false := ov_no Hu.out (by simp [Opt.okB, e2])
          have Hno := Lib.hid hno
          clear hno e2
          go_wp2_with fail
          go_ret
          exact ⟨ret_bool Hno.out.symm, hbr.alloc hbr.size _⟩
        | true =>
          have E2 := Lib.hid e2
          clear e2
          go_wp2_with fail
          refine (l6In_any _ _ _ _).mono ?_
          rintro e w' ⟨rfl, rfl⟩
          cases e3 : withinB u.fl 0 64 with
          | false =>
            have hno : ovB l = false := ov_no Hu.out (by simp [Opt.okB, e3])
            have Hno := Lib.hid hno
            clear hno e3
            go_wp2_with fail
            go_ret
            exact ⟨ret_bool Hno.out.symm, hbr.alloc hbr.size _⟩
          | true =>
            have E3 := Lib.hid e3
            clear e3
            go_wp2_with fail
            have hok : u.okB = true := by simp [Opt.okB, E1.out, E2.out, E3.out]
            go_roundg (n - (k + 1))
            case measure => omega
            case rel => exact ⟨k + 1, by omega, by go_num, hbr.alloc hbr.size _, ov_next Hu.out hok Hp.out⟩
    · have hfin : ovB l = decide (n ≤ 4) := by
        have h1 := Hp.out
        rw [List.take_of_length_le (by rw [hlen.out]; omega)] at h1
        rw [ovB, h1, hlen.out]; rfl
      have Hfin := Lib.hid hfin
      clear hfin Hp
      go_wp2
      go_ret
      exact ⟨ret_bool (by rw [Hfin.out]; simp; omega), hbr⟩
end Go.Proofs.Ytjnplihkagegdaa
