/- The contracts of the exact laws' helpers on slices of options. Condition: the slices read as lists of options. -/
import Derived.Test.YtjnplihkagegdaaSchF
import Derived.StillTailTactics
namespace Go.Proofs.Ytjnplihkagegdaa
open Go.RowKit

set_option maxHeartbeats 400000 in
theorem eqOptionS_same (A A' : Option Addr) (n c n' c' : Nat) (l : List Opt) (w : World) (B : Nat) (h : Opts 1048576 w B A n l) (h' : Opts 1048576 w B A' n' l) (hB : B ≤ w.heap.size) :
    Calls Try.prog 18 #[.slice A n c, .slice A' n' c'] w fun e w' => e = .returned (.bool true) ∧ Below w.heap.size w w' := by
  obtain rfl : n = n' := h.len.symm.trans h'.len
  have hn := h.2.1
  go_enter Try.func18, Try.ntmps18
  go_wp2
  go_loopg [5] n (fun m i wr => ∃ k : Nat, k + m = n ∧ i = .int .i64 k ∧ Below w.heap.size w wr)
  case atStart => exact ⟨0, by omega, rfl, Below.refl _ _⟩
  case round =>
    obtain ⟨k, hk, rfl, hbr⟩ := hrel
    by_cases hlt : k < n
    · obtain ⟨b, o, u, rfl, hb, hu, hbd, c0, c1, c2, c3⟩ := (h.below hbr hB).at_ hlt
      obtain ⟨b2, o2, u2, rfl, hb2, hu2, hbd2, d0, d1, d2, d3⟩ := (h'.below hbr hB).at_ hlt
      obtain rfl : u = u2 := by rw [hu] at hu2; injection hu2
      have q1 : (0 : Int) ≤ (k : Int) := by omega
      have q2 : (k : Int) < (n : Int) := by omega
      clear hu hu2
      go_wp2_with fail
      go_still_tail 8, (by kernel_rfl)
      change wpList _ _ _ _ _ wr.drew
      go_wp2_with fail
      refine (eqOption_same u _).mono ?_
      rintro e w2 ⟨rfl, hb3⟩
      have Hb := Lib.hid (hbr.drew.trans (hb3.mono hbr.size))
      clear hb3
      go_wp2_with fail
      go_roundg (n - (k + 1))
      case measure => omega
      case rel => exact ⟨k + 1, by omega, by go_num, Hb.out⟩
    · go_wp2
      go_ret
      exact ⟨rfl, hbr⟩

set_option maxHeartbeats 1000000 in
theorem markOptionS_any (g n c : Nat) (xs : List Value) (w : World) (base : Nat) (h : w.ownsRow base 31 4 (.slice (some ⟨g, 0, none⟩) n c) n xs) (hn : n ≤ 1048576) :
    Calls Try.prog 19 #[.slice (some ⟨g, 0, none⟩) n c, .int .i64 1] w fun e w' => e = .returned (.int .i64 (1 + 4 * n)) ∧ w.grownBy w' (some g) := by
  go_enter Try.func19, Try.ntmps19
  go_wp2
  go_loopg [1, 5] n (fun m v i wr => ∃ k : Nat, k + m = n ∧ i = .int .i64 k ∧ v = .int .i64 (1 + 4 * k) ∧ w.grownBy wr (some g) ∧ ∃ ys, wr.ownsRow base 31 4 (.slice (some ⟨g, 0, none⟩) n c) n ys)
  case atStart => exact ⟨0, by omega, rfl, rfl, World.grownBy.refl _ _, xs, h⟩
  case round =>
    obtain ⟨k, hk, rfl, rfl, hg, ys, ho⟩ := hrel
    by_cases hlt : k < n
    · have hcell : ∀ j, j < 4 → ∃ y, wr.cell? ⟨g, k * 4 + j, none⟩ = some y := fun j hj => by
        rw [ho.cellAt (k * 4 + j) (by omega)]
        exact ⟨_, List.getElem?_eq_getElem (by rw [ho.1]; omega)⟩
      obtain ⟨y0, c0⟩ := hcell 0 (by omega)
      obtain ⟨y1, c1⟩ := hcell 1 (by omega)
      obtain ⟨y2, c2⟩ := hcell 2 (by omega)
      obtain ⟨y3, c3⟩ := hcell 3 (by omega)
      have f0 := ho.frozenAt (k * 4)
      have f1 := ho.frozenAt (k * 4 + 1)
      have f2 := ho.frozenAt (k * 4 + 2)
      have f3 := ho.frozenAt (k * 4 + 3)
      rw [Nat.add_zero] at c0
      have q1 : (0 : Int) ≤ (k : Int) := by omega
      have q2 : (k : Int) < (n : Int) := by omega
      have Ho := Lib.hid ho
      have hset := own_setCells [.bool ((1 + 4 * (k : Int)) % 3 == 0), .int .i64 (1 + 4 * (k : Int) + 1), .int .i64 (1 + 4 * (k : Int) + 1 + 1), .int .i64 (1 + 4 * (k : Int) + 1 + 1 + 1)] wr ys (k * 4) Ho.out
      have hgr : w.grownBy _ (some g) := only_trans hg hset.2
      have Hown := Lib.hid hset.1
      have Hgr := Lib.hid hgr
      clear ho hcell h hset hgr
      go_wp2
      go_roundg (n - (k + 1))
      case measure => omega
      case rel => exact ⟨k + 1, by omega, by go_num, by simp; omega, Hgr.out, _, Hown.out⟩
    · go_wp2
      go_ret
      exact ⟨ret_int (by omega), hg⟩

theorem opts_of_own {w : World} {base g n c : Nat} {l : List Opt} (h : w.ownsRow base 31 4 (.slice (some ⟨g, 0, none⟩) n c) n (optV l)) {w0 : World} {B : Nat} {A : Option Addr} (h0 : Opts 1048576 w0 B A n l) : Opts 1048576 w w.heap.size (some ⟨g, 0, none⟩) n l :=
  ⟨Rd.of_own h, h0.2⟩
theorem IntsO.blk {w : World} {base n c : Nat} {A : Option Addr} {L : List Int} (h : IntsO w base A n c L) : 0 < n → ∀ a, A = some a → a.block < w.heap.size := fun hn a ha => by
  obtain ⟨b, o, cur, e, hb, hh, hc⟩ := h.2.2.2 hn
  rw [ha] at e
  injection e with e
  subst e
  exact (Array.getElem?_eq_some_iff.1 hh).1
theorem IntsO.base_ {w : World} {base n c : Nat} {A : Option Addr} {L : List Int} (h : IntsO w base A n c L) : 0 < n → ∀ a, A = some a → base ≤ a.block := fun hn a ha => by
  obtain ⟨b, o, cur, e, hb, hh, hc⟩ := h.2.2.2 hn
  rw [ha] at e
  injection e with e
  subst e
  exact hb
theorem ownOf_some {n b : Nat} {A : Option Addr} (h : ownOf n A = some b) : 0 < n ∧ ∃ a, A = some a ∧ a.block = b := by
  unfold ownOf at h
  split at h
  · cases h
  · cases A with
    | none => cases h
    | some a => exact ⟨by omega, a, rfl, by injection h⟩
theorem only_below {a w : World} {n B : Nat} {A : Option Addr} (h : a.grownBy w (ownOf n A)) (hb : 0 < n → ∀ x, A = some x → B ≤ x.block) (hs : B ≤ a.heap.size) : Below B a w :=
  ⟨h.os, h.tape, h.output, h.size, fun i hi => h.block i (by omega) (fun e => by
    obtain ⟨hn, x, hx, e'⟩ := ownOf_some e.symm
    have := hb hn x hx
    omega)⟩
theorem posI_total (l : List Opt) (h : ovB l = true) : (order l).length ≤ 4 := by
  have := orderTo_len l l.length
  have := len_of_ok h
  unfold order
  omega
theorem ordI_len (l : List Opt) : (ordI l).length ≤ 1000 := by
  unfold ordI
  split
  · rename_i h
    have := posI_total l h
    rw [toI_len]; omega
  · simp
end Go.Proofs.Ytjnplihkagegdaa
