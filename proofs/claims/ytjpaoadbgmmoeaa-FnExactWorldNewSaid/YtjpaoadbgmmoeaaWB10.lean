/- The contracts of the program's received and receivedPart. Condition: the pointer leads to a run that reads as plain data. -/
import Derived.Test.YtjpaoadbgmmoeaaWB4
import Derived.Test.YtjpaoadbgmmoeaaWB5
import Derived.Test.YtjpaoadbgmmoeaaCalm2
namespace Go.Proofs.Ytjpaoadbgmmoeaa
open Go.RowKit

section
variable {w w' : World} {ok : Nat → Prop} {A : Option Addr} {n c : Nat}
theorem rv_at {l : List Rv} (h : SliceR RvR 4 w ok A n c l) {k : Nat} (hk : k < n) : ∃ b o x A' n' c', A = some ⟨b, o, none⟩ ∧ ok b ∧ l[k]? = some x ∧ (I64 x.read ∧ I64 x.final ∧ I64 x.limit) ∧ SliceR PcR 2 w ok A' n' c' x.pieces ∧
    w.cell? ⟨b, o + k * 4, none⟩ = some (.int .i64 x.read) ∧ w.cell? ⟨b, o + k * 4 + 1, none⟩ = some (.slice A' n' c') ∧ w.cell? ⟨b, o + k * 4 + 2, none⟩ = some (.int .i64 x.final) ∧ w.cell? ⟨b, o + k * 4 + 3, none⟩ = some (.int .i64 x.limit) := by
  obtain ⟨b, o, cs, x, e, hb, hx, _, ⟨A', n', c', rfl, h1, h2, h3, h4⟩, hc⟩ := h.at_ hk
  exact ⟨b, o, x, A', n', c', e, hb, hx, ⟨h1, h2, h3⟩, h4, by have := hc 0 _ rfl; rwa [Nat.add_zero] at this, hc 1 _ rfl, hc 2 _ rfl, hc 3 _ rfl⟩
theorem sd_at {l : List Sd} (h : SliceR SdR 6 w ok A n c l) {k : Nat} (hk : k < n) : ∃ b o x A' n' c' A2 n2 c2, A = some ⟨b, o, none⟩ ∧ ok b ∧ l[k]? = some x ∧ (x.data.length ≤ 1099511627776 ∧ I64 x.limit ∧ I64 x.next) ∧ RgS w ok A' n' c' x.acked ∧ RgS w ok A2 n2 c2 x.lost ∧
    w.cell? ⟨b, o + k * 6, none⟩ = some (.string (S x.data)) ∧ w.cell? ⟨b, o + k * 6 + 1, none⟩ = some (.bool x.fin) ∧ w.cell? ⟨b, o + k * 6 + 2, none⟩ = some (.int .i64 x.limit) ∧ w.cell? ⟨b, o + k * 6 + 3, none⟩ = some (.int .i64 x.next) ∧ w.cell? ⟨b, o + k * 6 + 4, none⟩ = some (.slice A' n' c') ∧ w.cell? ⟨b, o + k * 6 + 5, none⟩ = some (.slice A2 n2 c2) := by
  obtain ⟨b, o, cs, x, e, hb, hx, _, ⟨A', n', c', A2, n2, c2, rfl, h1, h2, h3, h4, h5⟩, hc⟩ := h.at_ hk
  exact ⟨b, o, x, A', n', c', A2, n2, c2, e, hb, hx, ⟨h1, h2, h3⟩, h4, h5, by have := hc 0 _ rfl; rwa [Nat.add_zero] at this, hc 1 _ rfl, hc 2 _ rfl, hc 3 _ rfl, hc 4 _ rfl, hc 5 _ rfl⟩
theorem bs_at {l : List Bs} (h : SliceR BsR 1 w ok A n c l) {k : Nat} (hk : k < n) : ∃ b o x, A = some ⟨b, o, none⟩ ∧ ok b ∧ l[k]? = some x ∧ x.length ≤ 1099511627776 ∧ w.cell? ⟨b, o + k, none⟩ = some (.string (S x)) := by
  obtain ⟨b, o, cs, x, e, hb, hx, _, ⟨rfl, h1⟩, hc⟩ := h.at_ hk
  exact ⟨b, o, x, e, hb, hx, h1, by have := hc 0 _ rfl; rwa [Nat.add_zero, Nat.mul_one] at this⟩
end
/-- The pointer's block holds the run's ten cells. -/
def AtP (w : World) (bw : Nat) (h : Hd) (now : Int) : Prop := bw < w.heap.size ∧ ∀ j v, (h.cells now)[j]? = some v → w.cell? ⟨bw, j, none⟩ = some v
theorem AtP.below {w w' : World} {bw : Nat} {h : Hd} {now : Int} (x : AtP w bw h now) (hb : Below w.heap.size w w') : AtP w' bw h now :=
  ⟨Nat.lt_of_lt_of_le x.1 hb.size, fun j v hv => (hb.cell (p := ⟨bw, j, none⟩) x.1).trans (x.2 j v hv)⟩
/-- What the walks below ask of the streams of a run. -/
structure StR (w : World) (ok : Nat → Prop) (h : Hd) (W : Wd) : Prop where
  sends : SliceR SdR 6 w ok h.A1 h.n1 h.c1 W.sends
  recvs : SliceR RvR 4 w ok h.A2 h.n2 h.c2 W.recvs
  n1 : h.n1 = 3
  n2 : h.n2 = 3
theorem StR.below {w w' : World} {ok : Nat → Prop} {h : Hd} {W : Wd} (x : StR w ok h W) (hok : Sub ok (Old w)) (hb : Below w.heap.size w w') : StR w' ok h W :=
  ⟨x.sends.below sdCar hok hb (Nat.le_refl _), x.recvs.below rvCar hok hb (Nat.le_refl _), x.n1, x.n2⟩
set_option maxHeartbeats 1000000 in
theorem received_any (h : Hd) (W : Wd) (bw i : Nat) (y : Int) (w : World) (ok : Nat → Prop) (hp : AtP w bw h W.now) (hs : StR w ok h W) (hok : Sub ok (Old w)) (hi : i < 3) (hb : PcsBd (W.rv i).pieces) (hy : 0 ≤ y ∧ y ≤ 1000) :
    Calls Try.prog 69 #[.pointer (some ⟨bw, 0, none⟩), .int .i64 (i : Int), .int .i64 y] w fun e w' => e = .returned (.bool (gotIt (W.sd i) (W.rv i) y)) ∧ Below w.heap.size w w' := by
  obtain ⟨b, o, r, A', n', c', hA, hbo, hr, ⟨r1, r2, r3⟩, hpc, c0, c1, c2, c3⟩ := rv_at hs.recvs (k := i) (by rw [hs.n2]; exact hi)
  obtain ⟨b1, o1, s, A1, m1, e1, A2, m2, e2, hB, hbo1, hsx, ⟨s1, s2, s3⟩, _, _, g0, g1, g2, g3, g4, g5⟩ := sd_at hs.sends (k := i) (by rw [hs.n1]; exact hi)
  have hrv : W.rv i = r := getD_of? hr
  have hsd : W.sd i = s := getD_of? hsx
  rw [hrv] at hb ⊢
  rw [hsd]
  have p2 := hp.2 2 _ rfl
  have p1 := hp.2 1 _ rfl
  rw [hA, hs.n2] at p2
  rw [hB, hs.n1] at p1
  have hbw := hp.1
  have hb0 := b_alloc w (.cells #[.int .i64 r.read, .slice A' n' c', .int .i64 r.final, .int .i64 r.limit] 52)
  have q1 : (0 : Int) ≤ (i : Int) := by omega
  have q2 : (i : Int) < 3 := by omega
  have p1' := (hb0.cell (p := ⟨bw, 1, none⟩) hbw).trans p1
  have hob1 : b1 < w.heap.size := hok b1 hbo1
  have g0' := (hb0.cell (p := ⟨b1, o1 + i * 6, none⟩) hob1).trans g0
  have hpc0 := hpc.below pcCar hok hb0 (Nat.le_refl _)
  have hok0 : Sub ok (Old (w.alloc (.cells #[.int .i64 r.read, .slice A' n' c', .int .i64 r.final, .int .i64 r.limit] 52))) := hok.old (by simp)
  unfold I64 at r1 r2 r3
  have hg := Lib.hid (show gotIt s r y = if y = (s.data.length : Int) then decide (r.final = y) else decide (y < r.read) || (waits r y).isSome by unfold gotIt bl; rfl)
  clear hr hsx hrv hsd hA hB g1 g2 g3 g4 g5 hs hp
  by_cases hl : y = (s.data.length : Int)
  · have hv : Hid (gotIt s r y = decide (r.final = y)) := by unfold Hid; rw [hg.out, if_pos hl]
    have t1 : (y == (s.data.length : Int)) = true := beq_iff_eq.2 hl
    have Hl := Lib.hid hl
    clear hl hg
    go_enter Try.func69, Try.ntmps69
    go_wp2_with fail
    go_ret
    refine ⟨ret_bool ?_, hb0⟩
    rw [hv.out]
    first | rfl | (rw [Bool.eq_iff_iff]; simp)
  · have hv : Hid (gotIt s r y = (decide (y < r.read) || (waits r y).isSome)) := by unfold Hid; rw [hg.out, if_neg hl]
    have t1 : (y == (s.data.length : Int)) = false := beq_eq_false_iff_ne.2 hl
    clear hg
    cases hwt : waits r y with
    | none =>
      have Hwt := Lib.hid hwt
      rw [hwt] at hv
      clear hwt
      go_enter Try.func69, Try.ntmps69
      go_wp2_with (go_at_call 100; refine (waiting_any r y A' n' c' _ ok hpc0 hok0 hb hy).mono ?_; rintro e w5 ⟨rfl, hb5⟩; rw [Hwt.out]; unfold byteV; have z0 : w5.cell? ⟨w.heap.size, 0, none⟩ = some (.int .i64 r.read) := (hb5.cell (p := ⟨w.heap.size, 0, none⟩) (by simp)).trans (by simp))
      all_goals
        have Hb := Lib.hid (b_then hb0 hb5)
        go_ret
        refine ⟨ret_bool ?_, Hb.out⟩
        rw [hv.out]
        first
          | (simp; done)
          | (simp; omega)
    | some cc =>
      have Hwt := Lib.hid hwt
      rw [hwt] at hv
      clear hwt
      go_enter Try.func69, Try.ntmps69
      go_wp2_with (go_at_call 100; refine (waiting_any r y A' n' c' _ ok hpc0 hok0 hb hy).mono ?_; rintro e w5 ⟨rfl, hb5⟩; rw [Hwt.out]; unfold byteV; have z0 : w5.cell? ⟨w.heap.size, 0, none⟩ = some (.int .i64 r.read) := (hb5.cell (p := ⟨w.heap.size, 0, none⟩) (by simp)).trans (by simp))
      all_goals
        have Hb := Lib.hid (b_then hb0 hb5)
        go_ret
        refine ⟨ret_bool ?_, Hb.out⟩
        rw [hv.out]
        first
          | (simp; done)
          | (simp; omega)
set_option maxHeartbeats 1000000 in
theorem receivedPart_any (h : Hd) (W : Wd) (bw i : Nat) (p : Pt) (w : World) (ok : Nat → Prop) (hp : AtP w bw h W.now) (hs : StR w ok h W) (hok : Sub ok (Old w)) (hi : i < 3) (hb : PcsBd (W.rv i).pieces) (ho : 0 ≤ p.off ∧ p.off ≤ 30) (hl : p.last ≤ 100) (hd : p.data.length ≤ 1099511627776) :
    Calls Try.prog 75 #[.pointer (some ⟨bw, 0, none⟩), .int .i64 (i : Int), p.agg] w fun e w' => e = .returned (.bool (gotPart (W.sd i) (W.rv i) p)) ∧ Below w.heap.size w w' := by
  unfold Pt.agg
  have hb0 := b_alloc w (.cells #[.int .i64 p.off, .string (S p.data), .bool p.fin] 71)
  obtain ⟨N, hN⟩ : ∃ N : Nat, (N : Int) = p.last + 1 - p.off ∨ (N = 0 ∧ p.last + 1 - p.off ≤ 0) := ⟨(p.last + 1 - p.off).toNat, by omega⟩
  have HN : Hid ((p.last + 1 - p.off).toNat = N) := by unfold Hid; omega
  have HNL : Hid (∀ k : Nat, k ≤ N → (p.off + k ≤ p.last ↔ k < N)) := fun k hk => by omega
  have hN100 : N ≤ 101 := by omega
  go_enter Try.func75, Try.ntmps75
  go_wp2_with fail
  obtain ⟨W0, hW0⟩ : ∃ W0 : World, W0 = w.alloc (.cells #[.int .i64 p.off, .string (S p.data), .bool p.fin] 71) := ⟨_, rfl⟩
  have hs0 : w.heap.size < W0.heap.size := by rw [hW0]; simp
  have d0 : W0.cell? ⟨w.heap.size, 0, none⟩ = some (.int .i64 p.off) := by rw [hW0]; simp
  have d1 : W0.cell? ⟨w.heap.size, 1, none⟩ = some (.string (S p.data)) := by rw [hW0]; simp
  have d2 : W0.cell? ⟨w.heap.size, 2, none⟩ = some (.bool p.fin) := by rw [hW0]; simp
  rw [← hW0] at hb0 ⊢
  have hp0 := hp.below hb0
  have hS0 := hs.below hok hb0
  have hok0 : Sub ok (Old W0) := hok.old (by omega)
  have HB0 := Lib.hid hb0
  clear hW0 hb0 hp hs
  go_loopg [7] N (fun m v wr => ∃ k : Nat, k + m = N ∧ v = .int .i64 (p.off + k) ∧ Below W0.heap.size W0 wr ∧ Hid (∀ j : Nat, j < k → gotIt (W.sd i) (W.rv i) (p.off + j) = true))
  case atStart => exact ⟨0, by omega, by simp, Below.refl _ _, fun j hj => by omega⟩
  case round =>
    obtain ⟨k, hk, rfl, hbr, HT⟩ := hrel
    have hsz := hbr.size
    have m0 := (hbr.cell (p := ⟨w.heap.size, 0, none⟩) hs0).trans d0
    have m1 := (hbr.cell (p := ⟨w.heap.size, 1, none⟩) hs0).trans d1
    have m2 := (hbr.cell (p := ⟨w.heap.size, 2, none⟩) hs0).trans d2
    have hkN := HNL.out k (by omega)
    clear d0 d1 d2
    go_wp2_with fail
    refine (partLast_any p wr hd (by omega)).mono ?_
    rintro e w1 ⟨rfl, hb1⟩
    have hbr1 := hbr.trans (hb1.mono hsz)
    have hs1 := hbr1.size
    by_cases hlt : k < N
    · have t1 : p.off + (k : Int) ≤ p.last := hkN.2 hlt
      have HX := Lib.hid (received_any h W bw i (p.off + k) w1 ok (hp0.below hbr1) (hS0.below hok0 hbr1) (hok0.old hs1) hi hb (by omega))
      have Hbr1 := Lib.hid hbr1
      clear hb1 hbr1 hbr
      go_wp2_with fail
      refine HX.out.mono ?_
      rintro e w2 ⟨rfl, hb2⟩
      have Hbr2 := Lib.hid (Hbr1.out.trans (hb2.mono hs1))
      cases hg : gotIt (W.sd i) (W.rv i) (p.off + k) with
      | true =>
        have HT' : Hid (∀ j : Nat, j < k + 1 → gotIt (W.sd i) (W.rv i) (p.off + j) = true) := fun j hj => by
          by_cases hjk : j < k
          · exact HT.out j hjk
          · obtain rfl : j = k := by omega
            exact hg
        clear hg HT hb2 HX
        go_wp2
        go_roundg (N - (k + 1))
        case measure => omega
        case rel => exact ⟨k + 1, by omega, by go_num, Hbr2.out, HT'⟩
      | false =>
        have Hno : Hid (gotPart (W.sd i) (W.rv i) p = false) := by
          unfold Hid
          rw [Bool.eq_false_iff]
          intro hh
          rw [gotPart_iff] at hh
          have := hh (p.off + k) (by omega) t1
          rw [hg] at this; cases this
        have Hb := Lib.hid (HB0.out.trans (Hbr2.out.mono (by omega)))
        clear hg HT hb2 HX
        go_wp2
        go_ret
        exact ⟨ret_bool Hno.out.symm, Hb.out⟩
    · have t1 : ¬ p.off + (k : Int) ≤ p.last := fun h' => hlt (hkN.1 h')
      have Hyes : Hid (gotPart (W.sd i) (W.rv i) p = true) := by
        unfold Hid
        rw [gotPart_iff]
        intro x hx1 hx2
        have := HT.out (x - p.off).toNat (by
          have := hkN.2
          have hkk : k = N := by omega
          have := HN.out
          omega)
        rwa [show p.off + ((x - p.off).toNat : Int) = x by omega] at this
      have Hb := Lib.hid (HB0.out.trans (hbr1.mono (by omega)))
      have t2 : p.last < p.off + (k : Int) := by omega
      clear HT hb1 hbr hbr1
      go_wp2
      go_ret
      exact ⟨ret_bool Hyes.out.symm, Hb.out⟩
end Go.Proofs.Ytjpaoadbgmmoeaa
