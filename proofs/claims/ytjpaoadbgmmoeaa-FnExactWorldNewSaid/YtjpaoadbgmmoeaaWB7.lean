/- The contract of the program's SendValid. Condition: the slices read as lists of ranges. -/
import Derived.Test.YtjpaoadbgmmoeaaWB5
import Derived.Test.YtjpaoadbgmmoeaaCalm2
namespace Go.Proofs.Ytjpaoadbgmmoeaa
open Go.RowKit

theorem rg_last {w : World} {ok : Nat → Prop} {A : Option Addr} {n c : Nat} {l : List Rg} (h : RgS w ok A n c l) (hn : 0 < n) : ∃ b o x, A = some ⟨b, o, none⟩ ∧ ok b ∧ l.getLast? = some x ∧ I64 x.lo ∧ I64 x.hi ∧ w.cell? ⟨b, o + (n - 1) * 2 + 1, none⟩ = some (.int .i64 x.hi) := by
  obtain ⟨b, o, x, e, hb, hx, h1, h2, c0, c1⟩ := rg_at h (show n - 1 < n by omega)
  exact ⟨b, o, x, e, hb, by rw [List.getLast?_eq_getElem?, h.len]; exact hx, h1, h2, c1⟩
set_option maxHeartbeats 2000000 in
theorem sendValid_any (x : Sd) (A : Option Addr) (n c : Nat) (A' : Option Addr) (n' c' : Nat) (w : World) (ok : Nat → Prop) (ha : RgS w ok A n c x.acked) (hl : RgS w ok A' n' c' x.lost) (hok : Sub ok (Old w)) (hx : x.data.length ≤ 1099511627776) (hn : I64 x.next) (_hli : I64 x.limit) :
    Calls Try.prog 63 #[x.agg A n c A' n' c'] w fun e w' => e = .returned (.bool (sdValid x)) ∧ Below w.heap.size w w' := by
  unfold I64 at hn
  have hlenA := Lib.hid ha.len
  have hlenL := Lib.hid hl.len
  have hcapA := ha.cap
  have hcapL := hl.cap
  have hbx : bl x.data = (x.data.length : Int) := rfl
  unfold Sd.agg
  go_enter Try.func63, Try.ntmps63
  go_wp2_with fail
  obtain ⟨W0, hW0⟩ : ∃ W0 : World, W0 = w.alloc (.cells #[.string (S x.data), .bool x.fin, .int .i64 x.limit, .int .i64 x.next, .slice A n c, .slice A' n' c'] 47) := ⟨_, rfl⟩
  have hb0 : Below w.heap.size w W0 := by rw [hW0]; exact b_alloc _ _
  have hs0 : w.heap.size < W0.heap.size := by rw [hW0]; simp
  have d0 : W0.cell? ⟨w.heap.size, 0, none⟩ = some (.string (S x.data)) := by rw [hW0]; simp
  have d1 : W0.cell? ⟨w.heap.size, 1, none⟩ = some (.bool x.fin) := by rw [hW0]; simp
  have d2 : W0.cell? ⟨w.heap.size, 2, none⟩ = some (.int .i64 x.limit) := by rw [hW0]; simp
  have d3 : W0.cell? ⟨w.heap.size, 3, none⟩ = some (.int .i64 x.next) := by rw [hW0]; simp
  have d4 : W0.cell? ⟨w.heap.size, 4, none⟩ = some (.slice A n c) := by rw [hW0]; simp
  have d5 : W0.cell? ⟨w.heap.size, 5, none⟩ = some (.slice A' n' c') := by rw [hW0]; simp
  rw [← hW0]
  have HB0 := Lib.hid hb0
  clear hW0 hb0
  have hcase : (30 < (x.data.length : Int)) ∨ ((x.data.length : Int) ≤ 30 ∧ inB x.limit 0 30 = false) ∨ ((x.data.length : Int) ≤ 30 ∧ inB x.limit 0 30 = true ∧ inB x.next 0 x.many = false) ∨ ((x.data.length : Int) ≤ 30 ∧ inB x.limit 0 30 = true ∧ inB x.next 0 x.many = true) := by
    cases inB x.limit 0 30 <;> cases inB x.next 0 x.many <;> simp <;> omega
  have hno : ¬ ((x.data.length : Int) ≤ 30 ∧ inB x.limit 0 30 = true ∧ inB x.next 0 x.many = true ∧ min x.next (x.data.length : Int) ≤ x.limit) → sdValid x = false := fun h => by
    rw [Bool.eq_false_iff]
    intro hv
    refine h ?_
    simp only [sdValid, Bool.and_eq_true, decide_eq_true_eq] at hv
    exact ⟨hv.1.1, hv.1.2.1, hv.1.2.2.1, hv.1.2.2.2⟩
  have HNo := Lib.hid hno
  clear hno hbx
  rcases hcase with h1 | ⟨h1, h2⟩ | ⟨h1, h2, h3⟩ | ⟨h1, h2, h3⟩
  · have Hno := Lib.hid (HNo.out (fun h => by omega))
    have e1 : decide (30 < (x.data.length : Int)) = true := by simp; omega
    refine wp_region_calm (by kernel_rfl) (by kernel_rfl) ?_
    repeat (go_big_quiet_step (first
            | (go_at_call 29; exact calm_same (within_dec (by assumption)))
            | (go_at_call 96; exact calm_of (positions_any x A n c A' n' c' _ hx))))
    refine wpQuiet_nil ?_
    intro _ hw'
    obtain ⟨nq, hw''⟩ := hw'
    subst hw''
    have hbr := grew_below W0 nq
    generalize grew W0 nq = wq at hbr ⊢
    have Hb := Lib.hid (HB0.out.trans (hbr.mono HB0.out.size))
    clear hbr HNo
    go_wp2
    go_ret
    exact ⟨ret_bool Hno.out.symm, Hb.out⟩
  · have Hno := Lib.hid (HNo.out (fun h => by rw [h2] at h; cases h.2.1))
    have e1 : decide (30 < (x.data.length : Int)) = false := by simp; omega
    have e0 : ¬ (30 < (x.data.length : Int)) := by omega
    refine wp_region_calm (by kernel_rfl) (by kernel_rfl) ?_
    repeat (go_big_quiet_step (first
            | (go_at_call 29; exact calm_same (within_dec (by assumption)))
            | (go_at_call 96; exact calm_of (positions_any x A n c A' n' c' _ hx))))
    refine wpQuiet_nil ?_
    intro _ hw'
    obtain ⟨nq, hw''⟩ := hw'
    subst hw''
    have hbr := grew_below W0 nq
    generalize grew W0 nq = wq at hbr ⊢
    have Hb := Lib.hid (HB0.out.trans (hbr.mono HB0.out.size))
    clear hbr HNo
    go_wp2
    go_ret
    exact ⟨ret_bool Hno.out.symm, Hb.out⟩
  · have Hno := Lib.hid (HNo.out (fun h => by rw [h3] at h; cases h.2.2.1))
    have e1 : decide (30 < (x.data.length : Int)) = false := by simp; omega
    have e0 : ¬ (30 < (x.data.length : Int)) := by omega
    refine wp_region_calm (by kernel_rfl) (by kernel_rfl) ?_
    repeat (go_big_quiet_step (first
            | (go_at_call 29; exact calm_same (within_dec (by assumption)))
            | (go_at_call 96; exact calm_of (positions_any x A n c A' n' c' _ hx))))
    refine wpQuiet_nil ?_
    intro _ hw'
    obtain ⟨nq, hw''⟩ := hw'
    subst hw''
    have hbr := grew_below W0 nq
    generalize grew W0 nq = wq at hbr ⊢
    have Hb := Lib.hid (HB0.out.trans (hbr.mono HB0.out.size))
    clear hbr HNo
    go_wp2
    go_ret
    exact ⟨ret_bool Hno.out.symm, Hb.out⟩
  · have e1 : decide (30 < (x.data.length : Int)) = false := by simp; omega
    have hM : (if (x.data.length : Int) < x.next then (x.data.length : Int) else x.next) = min x.next (x.data.length : Int) := by split <;> omega
    refine wp_region_calm (by kernel_rfl) (by kernel_rfl) ?_
    repeat (go_big_quiet_step (first
            | (go_at_call 29; exact calm_same (within_dec (by assumption)))
            | (go_at_call 96; exact calm_of (positions_any x A n c A' n' c' _ hx))))
    refine wpQuiet_nil ?_
    intro _ hw'
    obtain ⟨nq, hw''⟩ := hw'
    subst hw''
    have hbr := grew_below W0 nq
    generalize grew W0 nq = wq at hbr ⊢
    by_cases hfl : min x.next (x.data.length : Int) ≤ x.limit
    · have e2 : ¬ (x.limit < min x.next (x.data.length : Int)) := by omega
      have hn3 := inB_iff.1 h3
      have hb2 := HB0.out
      have ha0 := (ha.below rgCar hok hb2 (Nat.le_refl _)).below rgCar (hok.old (by omega)) hbr (Nat.le_refl _)
      have hl0 := (hl.below rgCar hok hb2 (Nat.le_refl _)).below rgCar (hok.old (by omega)) hbr (Nat.le_refl _)
      have hokr : Sub ok (Old wq) := (hok.old (w' := W0) (by omega)).old hbr.size
      have g3 := (hbr.cell (p := ⟨w.heap.size, 3, none⟩) hs0).trans d3
      have g4 := (hbr.cell (p := ⟨w.heap.size, 4, none⟩) hs0).trans d4
      have g5 := (hbr.cell (p := ⟨w.heap.size, 5, none⟩) hs0).trans d5
      have hsr : w.heap.size < wq.heap.size := by have := hbr.size; omega
      have Hbw := Lib.hid (hb2.trans (hbr.mono (by omega)))
      have hval : Hid (sdValid x = ((rgValid x.acked && topB x.acked x.next) && ((rgValid x.lost && topB x.lost x.next) && apartTo x.acked x.lost x.next.toNat))) := by
        unfold Hid sdValid
        have : bl x.data = (x.data.length : Int) := rfl
        rw [this, decide_eq_true h1, h2, h3, decide_eq_true hfl]; rfl
      clear d0 d1 d2 d3 d4 d5 hM HNo hb2 hbr ha hl
      go_wp2_with fail
      generalize hL1 : wq.alloc (Obj.cells #[Value.slice A n c, Value.slice A' n' c'] 45) = w1
      have hb1 : Below wq.heap.size wq w1 := by rw [← hL1]; exact b_alloc _ _
      have hs1 : wq.heap.size < w1.heap.size := by rw [← hL1]; simp
      have i0 : w1.cell? ⟨wq.heap.size, 0, none⟩ = some (.slice A n c) := by rw [← hL1]; simp
      have i1 : w1.cell? ⟨wq.heap.size, 1, none⟩ = some (.slice A' n' c') := by rw [← hL1]; simp
      have ha1 := ha0.below rgCar hokr hb1 (Nat.le_refl _)
      have hl1 := hl0.below rgCar hokr hb1 (Nat.le_refl _)
      have hok1 : Sub ok (Old w1) := hokr.old hb1.size
      have g3' := (hb1.cell (p := ⟨w.heap.size, 3, none⟩) hsr).trans g3
      have g4' := (hb1.cell (p := ⟨w.heap.size, 4, none⟩) hsr).trans g4
      have g5' := (hb1.cell (p := ⟨w.heap.size, 5, none⟩) hsr).trans g5
      have hsw : w.heap.size < w1.heap.size := by omega
      have Hb1 := Lib.hid (Hbw.out.trans (hb1.mono (by omega)))
      clear hL1 g3 g4 g5 ha0 hl0 hokr hb1
      go_loopg [41] 2 (fun m i wr => ∃ k : Nat, k + m = 2 ∧ i = .int .i64 k ∧ Below w1.heap.size w1 wr ∧ Hid ((1 ≤ k → (rgValid x.acked && topB x.acked x.next) = true) ∧ (2 ≤ k → (rgValid x.lost && topB x.lost x.next) = true)))
      case atStart => exact ⟨0, by omega, rfl, Below.refl _ _, ⟨fun h => by omega, fun h => by omega⟩⟩
      case round =>
        obtain ⟨k, hk, rfl, hbs, HP⟩ := hrel
        have hss := hbs.size
        by_cases hlt : k < 2
        · obtain ⟨Ak, nk, ck, lk, hck, hRk, hres, hnx⟩ : ∃ (Ak : Option Addr) (nk ck : Nat) (lk : List Rg), wr.cell? ⟨wq.heap.size, k, none⟩ = some (.slice Ak nk ck) ∧ RgS wr ok Ak nk ck lk ∧ Hid ((rgValid lk && topB lk x.next) = false → sdValid x = false) ∧ Hid ((rgValid lk && topB lk x.next) = true → ((1 ≤ k + 1 → (rgValid x.acked && topB x.acked x.next) = true) ∧ (2 ≤ k + 1 → (rgValid x.lost && topB x.lost x.next) = true))) := by
            rcases (show k = 0 ∨ k = 1 by omega) with rfl | rfl
            · exact ⟨A, n, c, x.acked, (hbs.cell (p := ⟨wq.heap.size, 0, none⟩) hs1).trans i0, ha1.below rgCar hok1 hbs (Nat.le_refl _), fun h => by rw [hval.out, h]; rfl, fun h => ⟨fun _ => h, fun h2 => by omega⟩⟩
            · exact ⟨A', n', c', x.lost, (hbs.cell (p := ⟨wq.heap.size, 1, none⟩) hs1).trans i1, hl1.below rgCar hok1 hbs (Nat.le_refl _), fun h => by rw [hval.out, h]; simp, fun h => ⟨fun _ => HP.out.1 (Nat.le_refl _), fun _ => h⟩⟩
          have k3 := (hbs.cell (p := ⟨w.heap.size, 3, none⟩) hsw).trans g3'
          have hokk : Sub ok (Old wr) := hok1.old hss
          have hlk := Lib.hid hRk.len
          have hcapk := hRk.cap
          have q1 : (0 : Int) ≤ (k : Int) := by omega
          have q2 : (k : Int) < 2 := by omega
          have Hbs := Lib.hid (Hb1.out.trans (hbs.mono (by omega)))
          clear g3' g4' i0 i1 ha1 hl1
          cases hv : rgValid lk with
          | false =>
            have Hno := Lib.hid (hres.out (by rw [hv]; rfl))
            go_wp2_with fail
            refine wp_region_calm (by kernel_rfl) (by kernel_rfl) ?_
            repeat (go_big_quiet_step ((go_at_call 72; exact calm_of (rangesValid_dec hv hRk hokk))))
            refine wpQuiet_nil ?_
            intro _ hw'
            obtain ⟨nq, hw''⟩ := hw'
            subst hw''
            have Hb := Lib.hid (Hbs.out.trans ((grew_below wr nq).mono (by omega)))
            go_wp2
            go_ret
            exact ⟨ret_bool Hno.out.symm, Hb.out⟩
          | true =>
            have hok2 := ((rgValid_iff lk).1 hv).2
            by_cases hn0 : nk = 0
            · have hnil : lk = [] := List.length_eq_zero_iff.1 (by rw [hlk.out, hn0])
              have Hn := Lib.hid (hnx.out (by rw [hv, hnil]; rfl))
              subst hn0
              go_wp2_with fail
              refine wp_region_calm (by kernel_rfl) (by kernel_rfl) ?_
              repeat (go_big_quiet_step ((go_at_call 72; exact calm_of (rangesValid_dec hv hRk hokk))))
              refine wpQuiet_nil ?_
              intro _ hw'
              obtain ⟨nq, hw''⟩ := hw'
              subst hw''
              have Hb := Lib.hid (hbs.trans ((grew_below wr nq).mono hss))
              go_wp2
              go_roundg (2 - (k + 1))
              case measure => omega
              case rel => exact ⟨k + 1, by omega, by go_num, Hb.out, Hn⟩
            · obtain ⟨b, o, y, hA, hbo, hlast, y1, y2, cy⟩ := rg_last hRk (by omega)
              subst hA
              have htop : topB lk x.next = decide (y.hi < x.next) := by unfold topB; rw [hlast]
              unfold I64 at y2
              have q3 : (0 : Int) ≤ (nk : Int) - 1 := by omega
              have q4 : (nk : Int) - 1 < (nk : Int) := by omega
              have q5 : ((nk : Int) - 1).toNat = nk - 1 := by omega
              have q6 : (0 : Int) < (nk : Int) := by omega
              have q8 : 0 < nk := by omega
              have q7 : IntKind.i64.wrap ((nk : Int) - 1) = (nk : Int) - 1 := IntWalk.i64_in _ (by omega)
              by_cases hy : y.hi < x.next
              · have Hn := Lib.hid (hnx.out (by rw [hv, htop]; simp [hy]))
                clear htop hlast hok2
                go_wp2_with fail
                refine wp_region_calm (by kernel_rfl) (by kernel_rfl) ?_
                repeat (go_big_quiet_step ((go_at_call 72; exact calm_of (rangesValid_dec hv hRk hokk))))
                refine wpQuiet_nil ?_
                intro _ hw'
                obtain ⟨nq, hw''⟩ := hw'
                subst hw''
                have Hb := Lib.hid (hbs.trans ((grew_below wr nq).mono hss))
                go_wp2
                go_roundg (2 - (k + 1))
                case measure => omega
                case rel => exact ⟨k + 1, by omega, by go_num, Hb.out, Hn⟩
              · have Hno := Lib.hid (hres.out (by rw [hv, htop]; simp; omega))
                have hy' : x.next ≤ y.hi := by omega
                clear htop hlast hok2
                go_wp2_with fail
                refine wp_region_calm (by kernel_rfl) (by kernel_rfl) ?_
                repeat (go_big_quiet_step ((go_at_call 72; exact calm_of (rangesValid_dec hv hRk hokk))))
                refine wpQuiet_nil ?_
                intro _ hw'
                obtain ⟨nq, hw''⟩ := hw'
                subst hw''
                have Hb := Lib.hid (Hbs.out.trans ((grew_below wr nq).mono (by omega)))
                go_wp2
                go_ret
                exact ⟨ret_bool Hno.out.symm, Hb.out⟩
        · obtain rfl : k = 2 := by omega
          have HA := Lib.hid (HP.out.1 (by omega))
          have HL := Lib.hid (HP.out.2 (by omega))
          have ha2 := ha1.below rgCar hok1 hbs (Nat.le_refl _)
          have hl2 := hl1.below rgCar hok1 hbs (Nat.le_refl _)
          have hok2 : Sub ok (Old wr) := hok1.old hss
          have k3 := (hbs.cell (p := ⟨w.heap.size, 3, none⟩) hsw).trans g3'
          have k4 := (hbs.cell (p := ⟨w.heap.size, 4, none⟩) hsw).trans g4'
          have k5 := (hbs.cell (p := ⟨w.heap.size, 5, none⟩) hsw).trans g5'
          have hsw2 : w.heap.size < wr.heap.size := by omega
          have Hbs := Lib.hid (Hb1.out.trans (hbs.mono (by omega)))
          have hval2 : Hid (sdValid x = apartTo x.acked x.lost x.next.toNat) := by unfold Hid; rw [hval.out, HA.out, HL.out]; simp
          obtain ⟨N, hN⟩ : ∃ N : Nat, x.next = (N : Int) := ⟨x.next.toNat, by omega⟩
          have hN2 : Hid (x.next.toNat = N) := by unfold Hid; omega
          rw [hN] at k3
          have hNb : N ≤ 31 := by have := many_le (s := x) (by unfold bl; omega); omega
          have HN := Lib.hid hN
          clear hN
          clear g3' g4' g5' i0 i1 ha1 hl1 hval HP
          generalize wr = w2 at ha2 hl2 hok2 k3 k4 k5 hsw2 Hbs ⊢
          go_wp2_with fail
          go_loopg [68] N (fun m i wr => ∃ k : Nat, k + m = N ∧ i = .int .i64 k ∧ Below w2.heap.size w2 wr ∧ Hid (apartTo x.acked x.lost k = true))
          case atStart => exact ⟨0, by omega, rfl, Below.refl _ _, rfl⟩
          case round =>
            obtain ⟨k, hk, rfl, hbr, HT⟩ := hrel
            have hsz := hbr.size
            by_cases hlt : k < N
            · have ha3 := ha2.below rgCar hok2 hbr (Nat.le_refl _)
              have hl3 := hl2.below rgCar hok2 hbr (Nat.le_refl _)
              have hok3 : Sub ok (Old wr) := hok2.old hsz
              have m4 := (hbr.cell (p := ⟨w.heap.size, 4, none⟩) hsw2).trans k4
              have m5 := (hbr.cell (p := ⟨w.heap.size, 5, none⟩) hsw2).trans k5
              have hstep : apartTo x.acked x.lost (k + 1) = (apartTo x.acked x.lost k && !(hasR x.acked k && hasR x.lost k)) := by simp [apartTo, List.range_succ]
              have Hstep := Lib.hid hstep
              have Hbr := Lib.hid hbr
              clear hstep k3 k4 k5 ha2 hl2 hbr
              go_wp2_with fail
              refine (has_any A n c x.acked k wr ok ha3 hok3).mono ?_
              rintro e w3 ⟨rfl, hb3⟩
              have m5' := (hb3.cell (p := ⟨w.heap.size, 5, none⟩) (by show w.heap.size < _; omega)).trans m5
              have hl4 := hl3.below rgCar hok3 hb3 (Nat.le_refl _)
              have Hb3 := Lib.hid (Hbr.out.trans (hb3.mono hsz))
              have hs3 := hb3.size
              cases hva : hasR x.acked (k : Int) with
              | false =>
                have HT' : Hid (apartTo x.acked x.lost (k + 1) = true) := by unfold Hid; rw [Hstep.out, HT.out, hva]; rfl
                clear hva HT hb3
                go_wp2
                go_roundg (N - (k + 1))
                case measure => omega
                case rel => exact ⟨k + 1, by omega, by go_num, Hb3.out, HT'⟩
              | true =>
                have Hva := Lib.hid hva
                clear hva hb3
                go_wp2_with fail
                refine (has_any A' n' c' x.lost k w3 ok hl4 (hok3.old hs3)).mono ?_
                rintro e w4 ⟨rfl, hb4⟩
                have Hb4 := Lib.hid (Hb3.out.trans (hb4.mono (by omega)))
                cases hvl : hasR x.lost (k : Int) with
                | false =>
                  have HT' : Hid (apartTo x.acked x.lost (k + 1) = true) := by unfold Hid; rw [Hstep.out, HT.out, hvl, Bool.and_false]; rfl
                  clear hvl HT hb4
                  go_wp2
                  go_roundg (N - (k + 1))
                  case measure => omega
                  case rel => exact ⟨k + 1, by omega, by go_num, Hb4.out, HT'⟩
                | true =>
                  have Hno : Hid (sdValid x = false) := by
                    unfold Hid
                    rw [hval2.out, hN2.out, Bool.eq_false_iff]
                    intro hh
                    simp only [apartTo, List.all_eq_true, List.mem_range] at hh
                    have := hh k hlt
                    rw [Hva.out, hvl] at this
                    cases this
                  have Hbf := Lib.hid (Hbs.out.trans (Hb4.out.mono (by omega)))
                  clear hvl HT hb4
                  go_wp2
                  go_ret
                  exact ⟨ret_bool Hno.out.symm, Hbf.out⟩
            · obtain rfl : k = N := by omega
              have Hyes : Hid (sdValid x = true) := by unfold Hid; rw [hval2.out, hN2.out, HT.out]
              have Hbf := Lib.hid (Hbs.out.trans (hbr.mono (by omega)))
              clear HT
              go_wp2
              go_ret
              exact ⟨ret_bool Hyes.out.symm, Hbf.out⟩
    · have Hno := Lib.hid (HNo.out (fun h => hfl h.2.2.2))
      have Hb := Lib.hid (HB0.out.trans (hbr.mono HB0.out.size))
      have e2 : x.limit < min x.next (x.data.length : Int) := by omega
      clear hbr HNo hM
      go_wp2
      go_ret
      exact ⟨ret_bool Hno.out.symm, Hb.out⟩
end Go.Proofs.Ytjpaoadbgmmoeaa
