/- The contract of the program's wireValid. Condition: the pointer leads to a run that reads as plain data. -/
import Derived.Test.YtjpaoadbgmmoeaaWB13
import Derived.Test.YtjpaoadbgmmoeaaWB9
import Derived.Test.YtjpaoadbgmmoeaaWB6
namespace Go.Proofs.Ytjpaoadbgmmoeaa
open Go.RowKit

def Wi.agg (x : Wi) (A : Option Addr) (n c : Nat) : Value := .agg #[.int .i64 x.path, .int .i64 x.num, .int .i64 x.frame.kind, .int .i64 x.frame.a, .int .i64 x.frame.b, .int .i64 x.frame.c, .string (S x.frame.data), .slice A n c, .bool x.genuine]
theorem partSent_dec {x : Sd} {p : Pt} {b : Bool} (hb : sent x p = b) {A : Option Addr} {n c : Nat} {A' : Option Addr} {n' c' : Nat} {w : World} (hx : x.data.length ≤ 1099511627776) (hp : p.data.length ≤ 1099511627776) (ho : I64 p.off) (hn : I64 x.next) :
    Calls Try.prog 74 #[.agg #[.string (S x.data), .bool x.fin, .int .i64 x.limit, .int .i64 x.next, .slice A n c, .slice A' n' c'], .agg #[.int .i64 p.off, .string (S p.data), .bool p.fin]] w fun e w' => e = .returned (.bool b) ∧ Below w.heap.size w w' := by
  rw [← hb]; exact partSent_any x p A n c A' n' c' w hx hp ho hn
theorem partOf_dec {k a b c : Int} {d : Bs} {A : Option Addr} {n c' : Nat} {w : World} : Calls Try.prog 78 #[.agg #[.int .i64 k, .int .i64 a, .int .i64 b, .int .i64 c, .string (S d), .slice A n c']] w fun e w' => e = .returned (.agg #[.int .i64 b, .string (S d), .bool (decide (c = 1))]) ∧ Below w.heap.size w w' :=
  partOf_any ⟨k, a, b, c, d, []⟩ A n c' w
theorem wi_no1 {W : Wd} {x : Wi} (h : inB x.path 0 3 = false) : wireOk W x = false := by simp [wireOk, h]
theorem wi_no2 {W : Wd} {x : Wi} (h : fmValid x.frame = false) : wireOk W x = false := by simp [wireOk, h]
theorem wi_no3 {W : Wd} {x : Wi} (h : inB x.num (-1) 999 = false) : wireOk W x = false := by simp [wireOk, h]
theorem wi_rest {W : Wd} {x : Wi} (h1 : inB x.path 0 3 = true) (h2 : fmValid x.frame = true) (h3 : inB x.num (-1) 999 = true) : wireOk W x = (!x.genuine ||
   (if x.frame.kind = 3 then (inB x.num 0 ((W.ls x.path).next - 1) && sent (W.sd x.frame.a) (fmPart x.frame)) && (match carAt W x.path x.num with
      | none => true
      | some k => decide ((W.carried.getD k default).stream = x.frame.a) && decide ((W.carried.getD k default).part = fmPart x.frame))
    else if x.frame.kind = 4 then decide (x.num = -1) && decide (x.frame.b ≤ (W.rv x.frame.a).limit)
    else if x.frame.kind = 2 then decide (x.num = -1) && ackOk W x.frame
    else false)) := by unfold wireOk; rw [h1, h2, h3]; rfl
set_option maxRecDepth 10000 in
set_option maxHeartbeats 4000000 in
theorem wireValid_any (h : Hd) (W : Wd) (bw : Nat) (x : Wi) (A : Option Addr) (n c : Nat) (w : World) (ok : Nat → Prop) (hp : AtP w bw h W.now) (hs : StR w ok h W) (hpa : SliceR LsR 3 w ok h.A4 h.n4 h.c4 W.paths) (hn4 : h.n4 = 4) (hc : SliceR CdR 6 w ok h.A8 h.n8 h.c8 W.carried) (hok : Sub ok (Old w)) (hcb : CarBd W) (hnx : ∀ p : Nat, p < 4 → 0 ≤ (W.ls p).next ∧ (W.ls p).next ≤ 1000)
    (hf : RgS w ok A n c x.frame.ranges) (hI : I64 x.path ∧ I64 x.num ∧ I64 x.frame.kind ∧ I64 x.frame.a ∧ I64 x.frame.b ∧ I64 x.frame.c) (hd : x.frame.data.length ≤ 1099511627776) :
    Calls Try.prog 33 #[.pointer (some ⟨bw, 0, none⟩), x.agg A n c] w fun e w' => e = .returned (.bool (wireOk W x)) ∧ Below w.heap.size w w' := by
  obtain ⟨⟨i1, i2⟩, ⟨i3, i4⟩, ⟨i5, i6⟩, ⟨i7, i8⟩, ⟨i9, i10⟩, i11, i12⟩ := hI
  unfold Wi.agg
  go_enter Try.func33, Try.ntmps33
  go_wp2_with fail
  obtain ⟨W0, hW0⟩ : ∃ W0 : World, W0 = w.alloc (.cells #[.int .i64 x.path, .int .i64 x.num, .int .i64 x.frame.kind, .int .i64 x.frame.a, .int .i64 x.frame.b, .int .i64 x.frame.c, .string (S x.frame.data), .slice A n c, .bool x.genuine] 81) := ⟨_, rfl⟩
  have hb0 : Below w.heap.size w W0 := by rw [hW0]; exact b_alloc _ _
  have hs0 : w.heap.size < W0.heap.size := by rw [hW0]; simp
  have d0 : W0.cell? ⟨w.heap.size, 0, none⟩ = some (.int .i64 x.path) := by rw [hW0]; simp
  have d1 : W0.cell? ⟨w.heap.size, 1, none⟩ = some (.int .i64 x.num) := by rw [hW0]; simp
  have d2 : W0.cell? ⟨w.heap.size, 2, none⟩ = some (.int .i64 x.frame.kind) := by rw [hW0]; simp
  have d3 : W0.cell? ⟨w.heap.size, 3, none⟩ = some (.int .i64 x.frame.a) := by rw [hW0]; simp
  have d4 : W0.cell? ⟨w.heap.size, 4, none⟩ = some (.int .i64 x.frame.b) := by rw [hW0]; simp
  have d5 : W0.cell? ⟨w.heap.size, 5, none⟩ = some (.int .i64 x.frame.c) := by rw [hW0]; simp
  have d6 : W0.cell? ⟨w.heap.size, 6, none⟩ = some (.string (S x.frame.data)) := by rw [hW0]; simp
  have d7 : W0.cell? ⟨w.heap.size, 7, none⟩ = some (.slice A n c) := by rw [hW0]; simp
  have d8 : W0.cell? ⟨w.heap.size, 8, none⟩ = some (.bool x.genuine) := by rw [hW0]; simp
  rw [← hW0]
  have HB0 := Lib.hid hb0
  have HS : Hid (∀ w', Below W0.heap.size W0 w' → Below W0.heap.size W0 w' ∧ w'.cell? ⟨w.heap.size, 1, none⟩ = some (.int .i64 x.num) ∧ w'.cell? ⟨w.heap.size, 2, none⟩ = some (.int .i64 x.frame.kind) ∧ w'.cell? ⟨w.heap.size, 3, none⟩ = some (.int .i64 x.frame.a) ∧ w'.cell? ⟨w.heap.size, 4, none⟩ = some (.int .i64 x.frame.b) ∧ w'.cell? ⟨w.heap.size, 5, none⟩ = some (.int .i64 x.frame.c) ∧ w'.cell? ⟨w.heap.size, 6, none⟩ = some (.string (S x.frame.data)) ∧ w'.cell? ⟨w.heap.size, 7, none⟩ = some (.slice A n c)) := fun w' hb' =>
    ⟨hb', (hb'.cell (p := ⟨w.heap.size, 1, none⟩) hs0).trans d1, (hb'.cell (p := ⟨w.heap.size, 2, none⟩) hs0).trans d2, (hb'.cell (p := ⟨w.heap.size, 3, none⟩) hs0).trans d3, (hb'.cell (p := ⟨w.heap.size, 4, none⟩) hs0).trans d4, (hb'.cell (p := ⟨w.heap.size, 5, none⟩) hs0).trans d5, (hb'.cell (p := ⟨w.heap.size, 6, none⟩) hs0).trans d6, (hb'.cell (p := ⟨w.heap.size, 7, none⟩) hs0).trans d7⟩
  have D0 := Lib.hid d0
  have D8 := Lib.hid d8
  have hp0 := hp.below hb0
  have hs1 := hs.below hok hb0
  have hpa0 := hpa.below lsCar hok hb0 (Nat.le_refl _)
  have hc0 := hc.below cdCar hok hb0 (Nat.le_refl _)
  have hf0 := hf.below rgCar hok hb0 (Nat.le_refl _)
  have hok0 : Sub ok (Old W0) := hok.old hb0.size
  clear hW0 d0 d1 d2 d3 d4 d5 d6 d7 d8 hp hs hpa hc hf hb0
  go_region_held (fun w' => Below W0.heap.size W0 w' ∧ w'.cell? ⟨w.heap.size, 1, none⟩ = some (.int .i64 x.num) ∧ w'.cell? ⟨w.heap.size, 2, none⟩ = some (.int .i64 x.frame.kind) ∧ w'.cell? ⟨w.heap.size, 3, none⟩ = some (.int .i64 x.frame.a) ∧ w'.cell? ⟨w.heap.size, 4, none⟩ = some (.int .i64 x.frame.b) ∧ w'.cell? ⟨w.heap.size, 5, none⟩ = some (.int .i64 x.frame.c) ∧ w'.cell? ⟨w.heap.size, 6, none⟩ = some (.string (S x.frame.data)) ∧ w'.cell? ⟨w.heap.size, 7, none⟩ = some (.slice A n c))
    (first | assumption | exact HS.out _ (b_self _) | exact HS.out _ (b_drew _) | exact HS.out _ (b_grow (And.left (by assumption)) _) | exact HS.out _ (b_grow (b_self _) _) | exact HS.out _ (b_grow (b_drew _) _))
    (fail)
  obtain ⟨x5, hx5⟩ : ∃ x5, x5 = W0.heap.size := ⟨_, rfl⟩
  obtain ⟨W1, hW1⟩ : ∃ W1 : World, W1 = (W0.alloc (.cells #[.int .i64 x.frame.kind, .int .i64 x.frame.a, .int .i64 x.frame.b, .int .i64 x.frame.c, .string (S x.frame.data), .slice A n c] 79)).drew := ⟨_, rfl⟩
  rw [← hW1, ← hx5]
  have hb1 : Below W0.heap.size W0 W1 := by rw [hW1]; exact (b_alloc _ _).drew
  have hl5 : x5 < W1.heap.size := by rw [hx5, hW1]; simp
  have k0 : W1.cell? ⟨x5, 0, none⟩ = some (.int .i64 x.frame.kind) := by rw [hx5, hW1]; simp
  have k1 : W1.cell? ⟨x5, 1, none⟩ = some (.int .i64 x.frame.a) := by rw [hx5, hW1]; simp
  have k2 : W1.cell? ⟨x5, 2, none⟩ = some (.int .i64 x.frame.b) := by rw [hx5, hW1]; simp
  have k3 : W1.cell? ⟨x5, 3, none⟩ = some (.int .i64 x.frame.c) := by rw [hx5, hW1]; simp
  have k4 : W1.cell? ⟨x5, 4, none⟩ = some (.string (S x.frame.data)) := by rw [hx5, hW1]; simp
  have k5 : W1.cell? ⟨x5, 5, none⟩ = some (.slice A n c) := by rw [hx5, hW1]; simp
  have j0 := (hb1.cell (p := ⟨w.heap.size, 0, none⟩) hs0).trans D0.out
  have j8 := (hb1.cell (p := ⟨w.heap.size, 8, none⟩) hs0).trans D8.out
  have hp2 := hp0.below hb1
  have hs2 := hs1.below hok0 hb1
  have hpa2 := hpa0.below lsCar hok0 hb1 (Nat.le_refl _)
  have hc2 := hc0.below cdCar hok0 hb1 (Nat.le_refl _)
  have hf2 := hf0.below rgCar hok0 hb1 (Nat.le_refl _)
  have hok2 : Sub ok (Old W1) := hok0.old hb1.size
  have hsw : w.heap.size < W1.heap.size := by have := hb1.size; omega
  have HB1 := Lib.hid (HB0.out.trans (hb1.mono HB0.out.size))
  have HC : Hid (∀ w', Below W1.heap.size W1 w' → w'.cell? ⟨x5, 0, none⟩ = some (.int .i64 x.frame.kind) ∧ w'.cell? ⟨x5, 1, none⟩ = some (.int .i64 x.frame.a) ∧ w'.cell? ⟨x5, 2, none⟩ = some (.int .i64 x.frame.b) ∧ w'.cell? ⟨x5, 3, none⟩ = some (.int .i64 x.frame.c) ∧ w'.cell? ⟨x5, 4, none⟩ = some (.string (S x.frame.data)) ∧ w'.cell? ⟨x5, 5, none⟩ = some (.slice A n c) ∧ w'.cell? ⟨w.heap.size, 0, none⟩ = some (.int .i64 x.path) ∧ w'.cell? ⟨w.heap.size, 8, none⟩ = some (.bool x.genuine)) := fun w' hb' =>
    ⟨(hb'.cell (p := ⟨x5, 0, none⟩) hl5).trans k0, (hb'.cell (p := ⟨x5, 1, none⟩) hl5).trans k1, (hb'.cell (p := ⟨x5, 2, none⟩) hl5).trans k2, (hb'.cell (p := ⟨x5, 3, none⟩) hl5).trans k3, (hb'.cell (p := ⟨x5, 4, none⟩) hl5).trans k4, (hb'.cell (p := ⟨x5, 5, none⟩) hl5).trans k5, (hb'.cell (p := ⟨w.heap.size, 0, none⟩) hsw).trans j0, (hb'.cell (p := ⟨w.heap.size, 8, none⟩) hsw).trans j8⟩
  clear hW1 hx5 HS D0 D8 hp0 hs1 hpa0 hc0 hf0 hok0 hb1
  cases hv1 : inB x.path 0 3 with
  | false =>
    have Hno := Lib.hid (wi_no1 (W := W) hv1)
    go_wp2_with (go_at_call 76; refine (isPath_any _ _).mono ?_; rintro e w' ⟨rfl, rfl⟩; rw [hv1])
    go_ret
    exact ⟨ret_bool Hno.out.symm, HB1.out⟩
  | true =>
    have HF := Lib.hid (frameValid_any x.frame A n c W1 ok hf2 hok2 hd)
    go_wp2_with (first
      | (go_at_call 76; refine (isPath_any _ _).mono ?_; rintro e w' ⟨rfl, rfl⟩; rw [hv1])
      | fail)
    refine HF.out.mono ?_
    rintro e w2 ⟨rfl, hb2⟩
    have Hb2 := Lib.hid (HB1.out.trans (hb2.mono HB1.out.size))
    cases hv2 : fmValid x.frame with
    | false =>
      have Hno := Lib.hid (wi_no2 (W := W) hv2)
      clear hv2
      go_wp2
      go_ret
      exact ⟨ret_bool Hno.out.symm, Hb2.out⟩
    | true =>
      have Hv1 := Lib.hid hv1
      have Hv2 := Lib.hid hv2
      clear hv2 k0 k1 k2 k3 k4 k5 j0 j8 hv1
      obtain ⟨k0, k1, k2, k3, k4, k5, j0, j8⟩ := HC.out w2 hb2
      cases hv3 : inB x.num (-1) 999 with
      | false =>
        have Hno := Lib.hid (wi_no3 (W := W) hv3)
        go_wp2_with (go_at_call 29; refine (within_dec (by assumption)).mono ?_; rintro e w' ⟨rfl, rfl⟩)
        go_ret
        exact ⟨ret_bool Hno.out.symm, Hb2.out⟩
      | true =>
        have Hrest := Lib.hid (wi_rest (W := W) Hv1.out Hv2.out hv3)
        have hp3 := hp2.below hb2
        have hs3 := hs2.below hok2 hb2
        have hpa3 := hpa2.below lsCar hok2 hb2 (Nat.le_refl _)
        have hc3 := hc2.below cdCar hok2 hb2 (Nat.le_refl _)
        have hf3 := hf2.below rgCar hok2 hb2 (Nat.le_refl _)
        have hok3 : Sub ok (Old w2) := hok2.old hb2.size
        have hl5' : x5 < w2.heap.size := by have := hb2.size; omega
        have hsw' : w.heap.size < w2.heap.size := by have := hb2.size; omega
        clear hp2 hs2 hpa2 hc2 hf2 hok2 hb2 HC HF
        cases hg : x.genuine with
        | false =>
          have Hyes : Hid (wireOk W x = true) := by unfold Hid; rw [Hrest.out, hg]; rfl
          rw [hg] at j8
          clear hg
          go_wp2_with (go_at_call 29; refine (within_dec (by assumption)).mono ?_; rintro e w' ⟨rfl, rfl⟩)
          go_ret
          exact ⟨ret_bool Hyes.out.symm, Hb2.out⟩
        | true =>
          rw [hg] at j8
          have Hg := Lib.hid hg
          clear hg
          by_cases hk3 : x.frame.kind = 3
          · have hfa := fm3 Hv2.out hk3
            have hpp := inB_iff.1 Hv1.out
            obtain ⟨i, hi⟩ : ∃ i : Nat, x.frame.a = (i : Int) := ⟨x.frame.a.toNat, by omega⟩
            obtain ⟨P, hP⟩ : ∃ P : Nat, x.path = (P : Int) := ⟨x.path.toNat, by omega⟩
            have hi3 : i < 3 := by omega
            have hP4 : P < 4 := by omega
            have hnx3 := hnx P hP4
            obtain ⟨b4, o4, l, B4, u4, v4, hA4, hb4, hl, ⟨l1, l2⟩, _, m0, m1, m2⟩ := ls_at hpa3 (k := P) (by rw [hn4]; exact hP4)
            obtain ⟨b1, o1, sx, A1, n1, e1, A2, n2, e2, hA1, hbo1, hsx, ⟨s1, s2, s3⟩, _, _, g0, g1, g2, g3, g4, g5⟩ := sd_at hs3.sends (k := i) (by rw [hs3.n1]; exact hi3)
            have hls : W.ls (P : Int) = l := getD_of? hl
            have hsd : W.sd (i : Int) = sx := getD_of? hsx
            rw [hls] at hnx3
            have p4 := hp3.2 4 _ rfl
            have p1 := hp3.2 1 _ rfl
            rw [hA4, hn4] at p4
            rw [hA1, hs3.n1] at p1
            have hval : Hid (wireOk W x = ((inB x.num 0 (l.next - 1) && sent sx (fmPart x.frame)) && (match carAt W (P : Int) x.num with
                | none => true
                | some k => decide ((W.carried.getD k default).stream = (i : Int)) && decide ((W.carried.getD k default).part = fmPart x.frame)))) := by
              unfold Hid
              rw [Hrest.out, Hg.out, if_pos hk3, hP, hi, hls, hsd]; rfl
            have hwr : IntKind.i64.wrap (l.next - 1) = l.next - 1 := IntWalk.i64_in _ (by omega)
            rw [hk3] at k0
            rw [hi] at k1
            rw [hP] at j0
            have q1 : (0 : Int) ≤ (i : Int) := by omega
            have q2 : (i : Int) < 3 := by omega
            have q3 : (0 : Int) ≤ (P : Int) := by omega
            have q4 : (P : Int) < 4 := by omega
            have HCA := Lib.hid (carriedAt_any h W bw (P : Int) x.num)
            have Hfa := Lib.hid hfa
            clear hls hsd hl hsx hA4 hA1 hk3 hi hP hpa3 hf3 Hrest hpp
            cases hw : inB x.num 0 (l.next - 1) with
            | false =>
              have Hno : Hid (wireOk W x = false) := by unfold Hid; rw [hval.out, hw]; rfl
              have hsent : sent sx (fmPart x.frame) = sent sx (fmPart x.frame) := rfl
              go_wp2_with (go_at_call 29; refine (within_dec hv3).mono ?_; rintro e w' ⟨rfl, rfl⟩)
              refine wp_region_calm (by kernel_rfl) (by kernel_rfl) ?_
              repeat (go_big_quiet_step (first
                | (go_at_call 29; exact calm_same (within_dec (by assumption)))
                | (go_at_call 78; exact calm_of partOf_dec)
                | (go_at_call 74; exact calm_of (partSent_dec hsent s1 hd (show I64 x.frame.b from ⟨i9, i10⟩) s3))))
              refine wpQuiet_nil ?_
              intro _ hw'
              obtain ⟨nq, hw''⟩ := hw'
              subst hw''
              have Hb := Lib.hid (Hb2.out.trans ((grew_below w2 nq).mono Hb2.out.size))
              go_wp2
              go_ret
              exact ⟨ret_bool Hno.out.symm, Hb.out⟩
            | true =>
              cases hsent : sent sx ⟨x.frame.b, x.frame.data, decide (x.frame.c = 1)⟩ with
              | false =>
                have Hno : Hid (wireOk W x = false) := by
                  unfold Hid
                  have : sent sx (fmPart x.frame) = false := hsent
                  rw [hval.out, hw, this]; rfl
                go_wp2_with (go_at_call 29; refine (within_dec hv3).mono ?_; rintro e w' ⟨rfl, rfl⟩)
                refine wp_region_calm (by kernel_rfl) (by kernel_rfl) ?_
                repeat (go_big_quiet_step (first
                  | (go_at_call 29; exact calm_same (within_dec (by assumption)))
                  | (go_at_call 78; exact calm_of partOf_dec)
                  | (go_at_call 74; exact calm_of (partSent_dec hsent s1 hd (show I64 x.frame.b from ⟨i9, i10⟩) s3))))
                refine wpQuiet_nil ?_
                intro _ hw'
                obtain ⟨nq, hw''⟩ := hw'
                subst hw''
                have Hb := Lib.hid (Hb2.out.trans ((grew_below w2 nq).mono Hb2.out.size))
                go_wp2
                go_ret
                exact ⟨ret_bool Hno.out.symm, Hb.out⟩
              | true =>
                have Hval : Hid (wireOk W x = (match carAt W (P : Int) x.num with
                  | none => true
                  | some k => decide ((W.carried.getD k default).stream = (i : Int)) && decide ((W.carried.getD k default).part = fmPart x.frame))) := by
                  unfold Hid
                  have : sent sx (fmPart x.frame) = true := hsent
                  rw [hval.out, hw, this]; rfl
                go_wp2_with (go_at_call 29; refine (within_dec hv3).mono ?_; rintro e w' ⟨rfl, rfl⟩)
                refine wp_region_calm (by kernel_rfl) (by kernel_rfl) ?_
                repeat (go_big_quiet_step (first
                  | (go_at_call 29; exact calm_same (within_dec (by assumption)))
                  | (go_at_call 78; exact calm_of partOf_dec)
                  | (go_at_call 74; exact calm_of (partSent_dec hsent s1 hd (show I64 x.frame.b from ⟨i9, i10⟩) s3))))
                refine wpQuiet_nil ?_
                intro _ hw'
                obtain ⟨nq, hw''⟩ := hw'
                subst hw''
                have hb4' := grew_below w2 nq
                generalize grew w2 nq = w4 at hb4' ⊢
                have Hb4 := Lib.hid (Hb2.out.trans (hb4'.mono Hb2.out.size))
                have HK := Lib.hid (HCA.out w4 ok (hp3.below hb4') (hc3.below cdCar hok3 hb4' (Nat.le_refl _)) (hok3.old hb4'.size))
                have j0' := (hb4'.cell (p := ⟨w.heap.size, 0, none⟩) hsw').trans j0
                go_wp2_with fail
                refine HK.out.mono ?_
                rintro e w5 ⟨rfl, hb5⟩
                have hb45 : Below w2.heap.size w2 w5 := hb4'.trans (hb5.mono hb4'.size)
                have Hb5 := Lib.hid (Hb2.out.trans (hb45.mono Hb2.out.size))
                obtain ⟨y0, y1, y2, y3, y4, y5⟩ : w5.cell? ⟨x5, 0, none⟩ = some (.int .i64 3) ∧ w5.cell? ⟨x5, 1, none⟩ = some (.int .i64 (i : Int)) ∧ w5.cell? ⟨x5, 2, none⟩ = some (.int .i64 x.frame.b) ∧ w5.cell? ⟨x5, 3, none⟩ = some (.int .i64 x.frame.c) ∧ w5.cell? ⟨x5, 4, none⟩ = some (.string (S x.frame.data)) ∧ w5.cell? ⟨x5, 5, none⟩ = some (.slice A n c) :=
                  ⟨(hb45.cell (p := ⟨x5, 0, none⟩) hl5').trans k0, (hb45.cell (p := ⟨x5, 1, none⟩) hl5').trans k1, (hb45.cell (p := ⟨x5, 2, none⟩) hl5').trans k2, (hb45.cell (p := ⟨x5, 3, none⟩) hl5').trans k3, (hb45.cell (p := ⟨x5, 4, none⟩) hl5').trans k4, (hb45.cell (p := ⟨x5, 5, none⟩) hl5').trans k5⟩
                have p8 := (hp3.below hb45).2 8 _ rfl
                have hc5 := hc3.below cdCar hok3 hb45 (Nat.le_refl _)
                clear k0 k1 k2 k3 k4 k5 j0 j8 hb4' hb5 hb45 HK HCA m0 m1 m2 g0 g1 g2 g3 g4 g5 j0' hp3 hs3 hc3
                cases hca : carAt W (P : Int) x.num with
                | none =>
                  have Hyes : Hid (wireOk W x = true) := by unfold Hid; rw [Hval.out, hca]
                  have e0 : idxI (none : Option Nat) = -1 := rfl
                  rw [e0]
                  clear hca
                  go_wp2_with fail
                  refine wp_region_calm (by kernel_rfl) (by kernel_rfl) ?_
                  repeat (go_big_quiet_step ((go_at_call 78; exact calm_of partOf_dec)))
                  refine wpQuiet_nil ?_
                  intro _ hw'
                  obtain ⟨nr, hw''⟩ := hw'
                  subst hw''
                  have Hb := Lib.hid (Hb5.out.trans ((grew_below w5 nr).mono Hb5.out.size))
                  go_wp2
                  go_ret
                  exact ⟨ret_bool Hyes.out.symm, Hb.out⟩
                | some k =>
                  obtain ⟨hkl, -⟩ := List.findIdx?_eq_some_iff_getElem.1 (show W.carried.findIdx? (fun c => decide (c.path = (P : Int)) && decide (c.num = x.num)) = some k from hca)
                  have hlen8 := hc5.len
                  obtain ⟨b8, o8, cd, hA8, hb8, hcd, ⟨z1, z2, z3, z4⟩, f0, f1, f2, f3, f4, f5⟩ := cd_at hc5 (k := k) (by omega)
                  have hcap8 := hc5.cap
                  rw [hA8] at p8
                  have hgd : W.carried.getD k default = cd := getD_of? hcd
                  have Hv : Hid (wireOk W x = (decide (cd.stream = (i : Int)) && decide (cd.part = fmPart x.frame))) := by unfold Hid; rw [Hval.out, hca]; simp only [hgd]
                  have e0 : idxI (some k) = (k : Int) := rfl
                  rw [e0]
                  have u1 : (0 : Int) ≤ (k : Int) := by omega
                  have u2 : (k : Int) < (h.n8 : Int) := by omega
                  have u3 : ¬ (k : Int) < 0 := by omega
                  have u4 : decide ((k : Int) < 0) = false := decide_eq_false u3
                  clear hca hgd hcd hA8 hlen8 hkl hc5
                  by_cases hst : cd.stream = (i : Int)
                  · by_cases hpt : cd.part = fmPart x.frame
                    · have Hyes : Hid (wireOk W x = true) := by unfold Hid; rw [Hv.out, decide_eq_true hst, decide_eq_true hpt]; rfl
                      rw [hst] at f2
                      rw [hpt] at f3 f4 f5
                      have f3' : w5.cell? ⟨b8, o8 + k * 6 + 3, none⟩ = some (.int .i64 x.frame.b) := f3
                      have f4' : w5.cell? ⟨b8, o8 + k * 6 + 4, none⟩ = some (.string (S x.frame.data)) := f4
                      have f5' : w5.cell? ⟨b8, o8 + k * 6 + 5, none⟩ = some (.bool (decide (x.frame.c = 1))) := f5
                      clear hst hpt f3 f4 f5
                      go_wp2_with fail
                      refine wp_region_calm (by kernel_rfl) (by kernel_rfl) ?_
                      repeat (go_big_quiet_step ((go_at_call 78; exact calm_of partOf_dec)))
                      refine wpQuiet_nil ?_
                      intro _ hw'
                      obtain ⟨nr, hw''⟩ := hw'
                      subst hw''
                      have Hb := Lib.hid (Hb5.out.trans ((grew_below w5 nr).mono Hb5.out.size))
                      go_wp2
                      all_goals
                        go_ret
                        exact ⟨ret_bool (by rw [Hyes.out]), Hb.out⟩
                    · have Hno : Hid (wireOk W x = false) := by unfold Hid; rw [Hv.out, decide_eq_false hpt, Bool.and_false]
                      rw [hst] at f2
                      clear hst
                      by_cases h1 : cd.part.off = x.frame.b
                      · rw [h1] at f3
                        by_cases h2 : cd.part.data = x.frame.data
                        · rw [h2] at f4
                          have h3 : ¬ cd.part.fin = decide (x.frame.c = 1) := by
                            intro h3
                            apply hpt
                            cases hcp : cd.part with
                            | mk a b c =>
                              rw [hcp] at h1 h2 h3
                              simp only at h1 h2 h3
                              rw [h1, h2, h3]; rfl
                          have t1 : (cd.part.fin == decide (x.frame.c = 1)) = false := beq_eq_false_iff_ne.2 h3
                          clear h1 h2 hpt
                          go_wp2_with fail
                          refine wp_region_calm (by kernel_rfl) (by kernel_rfl) ?_
                          repeat (go_big_quiet_step ((go_at_call 78; exact calm_of partOf_dec)))
                          refine wpQuiet_nil ?_
                          intro _ hw'
                          obtain ⟨nr, hw''⟩ := hw'
                          subst hw''
                          have Hb := Lib.hid (Hb5.out.trans ((grew_below w5 nr).mono Hb5.out.size))
                          go_wp2
                          all_goals
                            go_ret
                            exact ⟨ret_bool (by rw [Hno.out]), Hb.out⟩
                        · have t1 : (cd.part.data == x.frame.data) = false := beq_eq_false_iff_ne.2 h2
                          clear h1 hpt
                          go_wp2_with fail
                          refine wp_region_calm (by kernel_rfl) (by kernel_rfl) ?_
                          repeat (go_big_quiet_step ((go_at_call 78; exact calm_of partOf_dec)))
                          refine wpQuiet_nil ?_
                          intro _ hw'
                          obtain ⟨nr, hw''⟩ := hw'
                          subst hw''
                          have Hb := Lib.hid (Hb5.out.trans ((grew_below w5 nr).mono Hb5.out.size))
                          go_wp2
                          all_goals
                            go_ret
                            exact ⟨ret_bool (by rw [Hno.out]), Hb.out⟩
                      · have t1 : (cd.part.off == x.frame.b) = false := beq_eq_false_iff_ne.2 h1
                        clear hpt
                        go_wp2_with fail
                        refine wp_region_calm (by kernel_rfl) (by kernel_rfl) ?_
                        repeat (go_big_quiet_step ((go_at_call 78; exact calm_of partOf_dec)))
                        refine wpQuiet_nil ?_
                        intro _ hw'
                        obtain ⟨nr, hw''⟩ := hw'
                        subst hw''
                        have Hb := Lib.hid (Hb5.out.trans ((grew_below w5 nr).mono Hb5.out.size))
                        go_wp2
                        all_goals
                          go_ret
                          exact ⟨ret_bool (by rw [Hno.out]), Hb.out⟩
                  · have Hno : Hid (wireOk W x = false) := by unfold Hid; rw [Hv.out, decide_eq_false hst]; rfl
                    have t1 : (cd.stream == (i : Int)) = false := beq_eq_false_iff_ne.2 hst
                    clear hst
                    go_wp2_with fail
                    refine wp_region_calm (by kernel_rfl) (by kernel_rfl) ?_
                    repeat (go_big_quiet_step ((go_at_call 78; exact calm_of partOf_dec)))
                    refine wpQuiet_nil ?_
                    intro _ hw'
                    obtain ⟨nr, hw''⟩ := hw'
                    subst hw''
                    have Hb := Lib.hid (Hb5.out.trans ((grew_below w5 nr).mono Hb5.out.size))
                    go_wp2
                    go_ret
                    exact ⟨ret_bool Hno.out.symm, Hb.out⟩
          by_cases hk4 : x.frame.kind = 4
          · have hval : Hid (wireOk W x = (decide (x.num = -1) && decide (x.frame.b ≤ (W.rv x.frame.a).limit))) := by
              unfold Hid
              rw [Hrest.out, Hg.out, hk4]; rfl
            have hfa := fm4 Hv2.out hk4
            obtain ⟨i, hi⟩ : ∃ i : Nat, x.frame.a = (i : Int) := ⟨x.frame.a.toNat, by omega⟩
            have hi3 : i < 3 := by omega
            obtain ⟨b7, o7, r, A', n', c', hA, hbo, hr, ⟨r1, r2, r3⟩, _, c0, c1, c2, c3⟩ := rv_at hs3.recvs (k := i) (by rw [hs3.n2]; exact hi3)
            have hrv : W.rv x.frame.a = r := by rw [hi]; exact getD_of? hr
            have p2 := hp3.2 2 _ rfl
            rw [hA, hs3.n2] at p2
            rw [hk4] at k0
            rw [hi] at k1
            have q1 : (0 : Int) ≤ (i : Int) := by omega
            have q2 : (i : Int) < 3 := by omega
            unfold Hid at hval
            rw [hrv] at hval
            have Hval := Lib.hid hval
            clear hval hrv hr hA hk4 hi hk3 hfa hs3 hpa3 hc3 hf3 c0 c1 c2
            by_cases hn1 : x.num = -1
            · by_cases hle : x.frame.b ≤ r.limit
              · have Hyes : Hid (wireOk W x = true) := by unfold Hid; rw [Hval.out, decide_eq_true hn1, decide_eq_true hle]; rfl
                have t1 : (x.num == -1) = true := beq_iff_eq.2 hn1
                have t2 : decide (x.frame.b ≤ r.limit) = true := decide_eq_true hle
                clear hn1
                go_wp2_with (go_at_call 29; refine (within_dec (by assumption)).mono ?_; rintro e w' ⟨rfl, rfl⟩)
                refine wp_region_calm (by kernel_rfl) (by kernel_rfl) ?_
                repeat (go_big_quiet_step (fail))
                refine wpQuiet_nil ?_
                intro _ hw'
                obtain ⟨nq, hw''⟩ := hw'
                subst hw''
                have Hb := Lib.hid (Hb2.out.trans ((grew_below w2 nq).mono Hb2.out.size))
                go_wp2
                go_ret
                exact ⟨ret_bool Hyes.out.symm, Hb.out⟩
              · have Hno : Hid (wireOk W x = false) := by unfold Hid; rw [Hval.out, decide_eq_true hn1, decide_eq_false hle]; rfl
                have t1 : (x.num == -1) = true := beq_iff_eq.2 hn1
                have t2 : decide (x.frame.b ≤ r.limit) = false := decide_eq_false hle
                clear hn1
                go_wp2_with (go_at_call 29; refine (within_dec (by assumption)).mono ?_; rintro e w' ⟨rfl, rfl⟩)
                refine wp_region_calm (by kernel_rfl) (by kernel_rfl) ?_
                repeat (go_big_quiet_step (fail))
                refine wpQuiet_nil ?_
                intro _ hw'
                obtain ⟨nq, hw''⟩ := hw'
                subst hw''
                have Hb := Lib.hid (Hb2.out.trans ((grew_below w2 nq).mono Hb2.out.size))
                go_wp2
                go_ret
                exact ⟨ret_bool Hno.out.symm, Hb.out⟩
            · have Hno : Hid (wireOk W x = false) := by unfold Hid; rw [Hval.out, decide_eq_false hn1]; rfl
              have t1 : (x.num == -1) = false := beq_eq_false_iff_ne.2 hn1
              clear hn1
              go_wp2_with (go_at_call 29; refine (within_dec (by assumption)).mono ?_; rintro e w' ⟨rfl, rfl⟩)
              refine wp_region_calm (by kernel_rfl) (by kernel_rfl) ?_
              repeat (go_big_quiet_step (fail))
              refine wpQuiet_nil ?_
              intro _ hw'
              obtain ⟨nq, hw''⟩ := hw'
              subst hw''
              have Hb := Lib.hid (Hb2.out.trans ((grew_below w2 nq).mono Hb2.out.size))
              go_wp2
              go_ret
              exact ⟨ret_bool Hno.out.symm, Hb.out⟩
          by_cases hk2 : x.frame.kind = 2
          · have hval : Hid (wireOk W x = (decide (x.num = -1) && ackOk W x.frame)) := by
              unfold Hid
              rw [Hrest.out, Hg.out, hk2]; rfl
            have hfa := fm2 Hv2.out hk2
            have hlen := hf3.len
            have HK := Lib.hid (ackValid_any h W bw ⟨2, x.frame.a, x.frame.b, x.frame.c, x.frame.data, x.frame.ranges⟩ A n c w2 ok hp3 hs3 hpa3 hn4 hc3 hok3 hcb hf3 (by have := List.length_pos_iff.2 hfa.2.1; omega) hfa.2.2.2 hfa.1)
            rw [hk2] at k0
            clear hk2 hk3 hk4 hfa hlen
            by_cases hn1 : x.num = -1
            · have t1 : (x.num == -1) = true := beq_iff_eq.2 hn1
              have Hval : Hid (wireOk W x = ackOk W x.frame) := by unfold Hid; rw [hval.out, decide_eq_true hn1]; rfl
              clear hn1
              go_wp2_with (go_at_call 29; refine (within_dec (by assumption)).mono ?_; rintro e w' ⟨rfl, rfl⟩)
              refine HK.out.mono ?_
              rintro e w3 ⟨rfl, hb3⟩
              have Hb := Lib.hid (Hb2.out.trans (hb3.mono Hb2.out.size))
              go_wp2
              all_goals
                go_ret
                exact ⟨ret_bool (by rw [Hval.out]; rfl), Hb.out⟩
            · have Hno : Hid (wireOk W x = false) := by unfold Hid; rw [hval.out, decide_eq_false hn1]; rfl
              have t1 : (x.num == -1) = false := beq_eq_false_iff_ne.2 hn1
              clear hn1
              go_wp2_with (go_at_call 29; refine (within_dec (by assumption)).mono ?_; rintro e w' ⟨rfl, rfl⟩)
              go_ret
              exact ⟨ret_bool Hno.out.symm, Hb2.out⟩
          · have Hno : Hid (wireOk W x = false) := by
              unfold Hid
              rw [Hrest.out, Hg.out, if_neg hk3, if_neg hk4, if_neg hk2]; rfl
            have t3 : (x.frame.kind == 3) = false := beq_eq_false_iff_ne.2 hk3
            have t4 : (x.frame.kind == 4) = false := beq_eq_false_iff_ne.2 hk4
            have t2 : (x.frame.kind == 2) = false := beq_eq_false_iff_ne.2 hk2
            go_wp2_with (go_at_call 29; refine (within_dec (by assumption)).mono ?_; rintro e w' ⟨rfl, rfl⟩)
            go_ret
            exact ⟨ret_bool Hno.out.symm, Hb2.out⟩
end Go.Proofs.Ytjpaoadbgmmoeaa
