/- The contract of the program's LossValid. Condition: the slice reads as a list of packets. -/
import Derived.Test.YtjpaoadbgmmoeaaCalm2
import Derived.Test.YtjpaoadbgmmoeaaWB3
namespace Go.Proofs.Ytjpaoadbgmmoeaa
open Go.RowKit

def Ls.agg (x : Ls) (A : Option Addr) (n c : Nat) : Value := .agg #[.int .i64 x.next, .slice A n c, .int .i64 x.largest]
theorem pk_at {w : World} {ok : Nat → Prop} {A : Option Addr} {n c : Nat} {l : List Pk} (h : SliceR PkR 3 w ok A n c l) {k : Nat} (hk : k < n) : ∃ b o x, A = some ⟨b, o, none⟩ ∧ ok b ∧ l[k]? = some x ∧ (I64 x.num ∧ I64 x.time ∧ I64 x.size) ∧ w.cell? ⟨b, o + k * 3, none⟩ = some (.int .i64 x.num) ∧ w.cell? ⟨b, o + k * 3 + 1, none⟩ = some (.int .i64 x.time) ∧ w.cell? ⟨b, o + k * 3 + 2, none⟩ = some (.int .i64 x.size) := by
  obtain ⟨b, o, cs, x, e, hb, hx, _, ⟨rfl, h1⟩, hc⟩ := h.at_ hk
  exact ⟨b, o, x, e, hb, hx, h1, by have := hc 0 _ rfl; rwa [Nat.add_zero] at this, hc 1 _ rfl, hc 2 _ rfl⟩
def pkA (l : Ls) (p : Pk) : Bool := inB p.num 0 (l.next - 1) && (decide (p.num ≠ l.largest) && (inB p.time 0 999 && inB p.size 1 99))
theorem pkA_no {x : Ls} {p : Pk} (hA : pkA x p = false) : inB p.num 0 (x.next - 1) = false ∨ (inB p.num 0 (x.next - 1) = true ∧ p.num = x.largest) ∨ (inB p.num 0 (x.next - 1) = true ∧ p.num ≠ x.largest ∧ inB p.time 0 999 = false) ∨ (inB p.num 0 (x.next - 1) = true ∧ p.num ≠ x.largest ∧ inB p.time 0 999 = true ∧ inB p.size 1 99 = false) := by
  unfold pkA at hA
  cases a1 : inB p.num 0 (x.next - 1) <;> cases a3 : inB p.time 0 999 <;> cases a4 : inB p.size 1 99 <;> by_cases a2 : p.num = x.largest <;> simp_all
theorem pkAt_eq {l : Ls} {k : Nat} {p : Pk} (h : l.flight[k]? = some p) : pkAt l k = (pkA l p && (decide (k = 0) || (decide ((l.flight.getD (k - 1) default).num < p.num) && decide ((l.flight.getD (k - 1) default).time ≤ p.time)))) := by
  unfold pkAt pkA
  rw [getD_of? h]
theorem pkTo_succ (l : Ls) (k : Nat) : pkTo l (k + 1) = (pkTo l k && pkAt l k) := by simp [pkTo, List.range_succ]
theorem pkTo_no {l : Ls} {k n : Nat} (h : pkAt l k = false) (hk : k < n) : pkTo l n = false := by
  rw [Bool.eq_false_iff]
  intro hn
  simp only [pkTo, List.all_eq_true, List.mem_range] at hn
  rw [hn k hk] at h; cases h
set_option maxHeartbeats 2000000 in
theorem lossValid_any (x : Ls) (A : Option Addr) (n c : Nat) (w : World) (ok : Nat → Prop) (h : SliceR PkR 3 w ok A n c x.flight) (hok : Sub ok (Old w)) (hn : I64 x.next) (_hl : I64 x.largest) :
    Calls Try.prog 70 #[x.agg A n c] w fun e w' => e = .returned (.bool (lsValid x)) ∧ Below w.heap.size w w' := by
  have hlen := Lib.hid h.len
  have hcap := h.cap
  unfold I64 at hn
  have hb0 := b_alloc w (.cells #[.int .i64 x.next, .slice A n c, .int .i64 x.largest] 57)
  cases hL : (inB x.next 0 1000 && inB x.largest (-1) (x.next - 1)) && decide (n ≤ 12) with
  | false =>
    have Hno := Lib.hid (show lsValid x = false by rw [lsValid, hlen.out, hL, Bool.false_and])
    have hw1 : inB x.next 0 1000 = true → IntKind.i64.wrap (x.next - 1) = x.next - 1 := fun e => by have := inB_iff.1 e; exact IntWalk.i64_in _ (by omega)
    unfold Ls.agg
    cases h1 : inB x.next 0 1000 with
    | false =>
      go_enter Try.func70, Try.ntmps70
      go_wp2_with (go_at_call 29; refine (within_dec (by assumption)).mono ?_; rintro e w' ⟨rfl, rfl⟩)
      go_ret
      exact ⟨ret_bool Hno.out.symm, hb0⟩
    | true =>
      have hn1 := inB_iff.1 h1
      clear hw1
      cases h2 : inB x.largest (-1) (x.next - 1) with
      | false =>
        go_enter Try.func70, Try.ntmps70
        go_wp2_with (go_at_call 29; refine (within_dec (by assumption)).mono ?_; rintro e w' ⟨rfl, rfl⟩)
        go_ret
        exact ⟨ret_bool Hno.out.symm, hb0⟩
      | true =>
        have h3 : 12 < n := by rw [h1, h2] at hL; simp at hL; omega
        go_enter Try.func70, Try.ntmps70
        go_wp2_with (go_at_call 29; refine (within_dec (by assumption)).mono ?_; rintro e w' ⟨rfl, rfl⟩)
        go_ret
        exact ⟨ret_bool Hno.out.symm, hb0⟩
  | true =>
    have hL' := hL
    simp only [Bool.and_eq_true, decide_eq_true_eq] at hL
    obtain ⟨⟨h1, h2⟩, h3⟩ := hL
    have hn1 := inB_iff.1 h1
    have hn2 := inB_iff.1 h2
    have hval : Hid (lsValid x = pkTo x n) := by unfold Hid; rw [lsValid, hlen.out, hL', Bool.true_and]
    unfold Ls.agg
    go_enter Try.func70, Try.ntmps70
    go_wp2_with (go_at_call 29; refine (within_dec (by assumption)).mono ?_; rintro e w' ⟨rfl, rfl⟩)
    obtain ⟨W0, hW0⟩ : ∃ W0 : World, W0 = w.alloc (.cells #[.int .i64 x.next, .slice A n c, .int .i64 x.largest] 57) := ⟨_, rfl⟩
    have hs0 : w.heap.size < W0.heap.size := by rw [hW0]; simp
    have d0 : W0.cell? ⟨w.heap.size, 0, none⟩ = some (.int .i64 x.next) := by rw [hW0]; simp
    have d1 : W0.cell? ⟨w.heap.size, 1, none⟩ = some (.slice A n c) := by rw [hW0]; simp
    have d2 : W0.cell? ⟨w.heap.size, 2, none⟩ = some (.int .i64 x.largest) := by rw [hW0]; simp
    rw [← hW0] at hb0 ⊢
    have h0 := h.below pkCar hok hb0 (Nat.le_refl _)
    have hok0 : Sub ok (Old W0) := hok.old (by omega)
    have HB0 := Lib.hid hb0
    clear hW0 hL' h hb0
    go_loopg [27] n (fun m i wr => ∃ k : Nat, k + m = n ∧ i = .int .i64 k ∧ Below W0.heap.size W0 wr ∧ Hid (pkTo x k = true))
    case atStart => exact ⟨0, by omega, rfl, Below.refl _ _, rfl⟩
    case round =>
      obtain ⟨k, hk, rfl, hbr, HT⟩ := hrel
      have hsz := hbr.size
      by_cases hlt : k < n
      · have hr := h0.below pkCar hok0 hbr (Nat.le_refl _)
        obtain ⟨b, o, p, rfl, hbl, hp, ⟨p1, p2, p3⟩, c0, c1, c2⟩ := pk_at hr hlt
        unfold I64 at p1 p2 p3
        have Hp := Lib.hid (pkAt_eq hp)
        have hn3 : k < x.flight.length := by rw [hlen.out]; exact hlt
        have hb1 := hbr.alloc hsz (.cells #[.int .i64 p.num, .int .i64 p.time, .int .i64 p.size] 106)
        have m0 := (hb1.cell (p := ⟨w.heap.size, 0, none⟩) hs0).trans d0
        have m1 := (hb1.cell (p := ⟨w.heap.size, 1, none⟩) hs0).trans d1
        have m2 := (hb1.cell (p := ⟨w.heap.size, 2, none⟩) hs0).trans d2
        have q1 : (0 : Int) ≤ (k : Int) := by omega
        have q2 : (k : Int) < (n : Int) := by omega
        have Hb1 := Lib.hid (HB0.out.trans (hb1.mono (by omega)))
        cases hA : pkA x p with
        | false =>
          have Hno := Lib.hid (show lsValid x = false by rw [hval.out]; exact pkTo_no (by rw [Hp.out, hA]; rfl) hlt)
          have hc := pkA_no hA
          clear d0 d1 d2 hp h0 hA
          rcases hc with e1 | ⟨e1, e2⟩ | ⟨e1, e2, e3⟩ | ⟨e1, e2, e3, e4⟩
          · go_wp2_with (go_at_call 29; refine (within_dec (by assumption)).mono ?_; rintro e w' ⟨rfl, rfl⟩)
            go_ret
            exact ⟨ret_bool Hno.out.symm, Hb1.out⟩
          · rw [← e2] at m2
            clear e2
            go_wp2_with (go_at_call 29; refine (within_dec (by assumption)).mono ?_; rintro e w' ⟨rfl, rfl⟩)
            go_ret
            exact ⟨ret_bool Hno.out.symm, Hb1.out⟩
          · go_wp2_with (go_at_call 29; refine (within_dec (by assumption)).mono ?_; rintro e w' ⟨rfl, rfl⟩)
            go_ret
            exact ⟨ret_bool Hno.out.symm, Hb1.out⟩
          · go_wp2_with (go_at_call 29; refine (within_dec (by assumption)).mono ?_; rintro e w' ⟨rfl, rfl⟩)
            go_ret
            exact ⟨ret_bool Hno.out.symm, Hb1.out⟩
        | true =>
          have hA' := hA
          simp only [pkA, Bool.and_eq_true, decide_eq_true_eq] at hA
          obtain ⟨e1, e2, e3, e4⟩ := hA
          clear d0 d1 d2
          by_cases hk0 : k = 0
          · have HT' : Hid (pkTo x (k + 1) = true) := by unfold Hid; rw [pkTo_succ, HT.out, Hp.out, hA', hk0]; rfl
            have Hbb := Lib.hid hb1
            have z1 : ¬ (0 : Int) < (k : Int) := by omega
            have z2 : ¬ 0 < k := by omega
            clear hA' hb1 hbr hp HT hk0
            go_wp2_with (go_at_call 29; refine (within_dec (by assumption)).mono ?_; rintro e w' ⟨rfl, rfl⟩)
            refine wp_region_calm (by kernel_rfl) (by kernel_rfl) ?_
            repeat (go_big_quiet_step (fail))
            refine wpQuiet_nil ?_
            intro _ hw'
            obtain ⟨nq, hw''⟩ := hw'
            subst hw''
            have Hb := Lib.hid (b_then Hbb.out (grew_below _ nq))
            go_wp2
            go_roundg (n - (k + 1))
            case measure => omega
            case rel => exact ⟨k + 1, by omega, by go_num, Hb.out, HT'⟩
          · have hr1 := h0.below pkCar hok0 hb1 (Nat.le_refl _)
            obtain ⟨b2, o2, y, hA2, hbl2, hy, ⟨y1, y2, y3⟩, f0, f1, f2⟩ := pk_at hr1 (show k - 1 < n by omega)
            obtain ⟨rfl, rfl⟩ : b = b2 ∧ o = o2 := by simpa using hA2
            have hyd : x.flight.getD (k - 1) default = y := getD_of? hy
            unfold I64 at y1 y2 y3
            have z1 : (0 : Int) < (k : Int) := by omega
            have z2 : 0 < k := by omega
            have z3 : IntKind.i64.wrap ((k : Int) - 1) = (k : Int) - 1 := IntWalk.i64_in _ (by omega)
            have z4 : (0 : Int) ≤ (k : Int) - 1 := by omega
            have z5 : (k : Int) - 1 < (n : Int) := by omega
            have z6 : ((k : Int) - 1).toNat = k - 1 := by omega
            have Hbb := Lib.hid hb1
            have hat : pkAt x k = (decide (y.num < p.num) && decide (y.time ≤ p.time)) := by rw [Hp.out, hA', hyd, decide_eq_false hk0]; simp
            have Hat := Lib.hid hat
            clear hA' hb1 hbr hp hk0 hA2 hy hyd hr1 hat h0
            have hc : (p.num ≤ y.num) ∨ (y.num < p.num ∧ p.time < y.time) ∨ (y.num < p.num ∧ y.time ≤ p.time) := by omega
            rcases hc with t1 | ⟨t1, t2⟩ | ⟨t1, t2⟩
            · have Hno := Lib.hid (show lsValid x = false by rw [hval.out]; exact pkTo_no (by rw [Hat.out]; simp; omega) hlt)
              go_wp2_with (go_at_call 29; refine (within_dec (by assumption)).mono ?_; rintro e w' ⟨rfl, rfl⟩)
              refine wp_region_calm (by kernel_rfl) (by kernel_rfl) ?_
              repeat (go_big_quiet_step (fail))
              refine wpQuiet_nil ?_
              intro _ hw'
              obtain ⟨nq, hw''⟩ := hw'
              subst hw''
              have Hb := Lib.hid (Hb1.out.trans ((grew_below _ nq).mono Hb1.out.size))
              go_wp2
              go_ret
              exact ⟨ret_bool Hno.out.symm, Hb.out⟩
            · have Hno := Lib.hid (show lsValid x = false by rw [hval.out]; exact pkTo_no (by rw [Hat.out]; simp; omega) hlt)
              have t3 : decide (p.num ≤ y.num) = false := by simp; omega
              go_wp2_with (go_at_call 29; refine (within_dec (by assumption)).mono ?_; rintro e w' ⟨rfl, rfl⟩)
              refine wp_region_calm (by kernel_rfl) (by kernel_rfl) ?_
              repeat (go_big_quiet_step (fail))
              refine wpQuiet_nil ?_
              intro _ hw'
              obtain ⟨nq, hw''⟩ := hw'
              subst hw''
              have Hb := Lib.hid (Hb1.out.trans ((grew_below _ nq).mono Hb1.out.size))
              go_wp2
              go_ret
              exact ⟨ret_bool Hno.out.symm, Hb.out⟩
            · have HT' : Hid (pkTo x (k + 1) = true) := by unfold Hid; rw [pkTo_succ, HT.out, Hat.out, decide_eq_true t1, decide_eq_true t2]; rfl
              have t3 : decide (p.num ≤ y.num) = false := by simp; omega
              have t4 : decide (p.time < y.time) = false := by simp; omega
              clear HT
              go_wp2_with (go_at_call 29; refine (within_dec (by assumption)).mono ?_; rintro e w' ⟨rfl, rfl⟩)
              refine wp_region_calm (by kernel_rfl) (by kernel_rfl) ?_
              repeat (go_big_quiet_step (fail))
              refine wpQuiet_nil ?_
              intro _ hw'
              obtain ⟨nq, hw''⟩ := hw'
              subst hw''
              have Hb := Lib.hid (b_then Hbb.out (grew_below _ nq))
              go_wp2
              go_roundg (n - (k + 1))
              case measure => omega
              case rel => exact ⟨k + 1, by omega, by go_num, Hb.out, HT'⟩
      · obtain rfl : k = n := by omega
        have Hyes : Hid (lsValid x = true) := by unfold Hid; rw [hval.out, HT.out]
        have Hb := Lib.hid (HB0.out.trans (hbr.mono (by omega)))
        clear HT
        go_wp2
        go_ret
        exact ⟨ret_bool Hyes.out.symm, Hb.out⟩
end Go.Proofs.Ytjpaoadbgmmoeaa
