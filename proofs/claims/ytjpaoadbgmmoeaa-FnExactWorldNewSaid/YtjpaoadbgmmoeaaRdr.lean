/- (The part of XDraw that needs no strings.) Contracts of the reader of codes that the laws draw from: every pick is in range, and nothing but the reader's own cells is written. Condition: the reader's place is bounded. -/
import Derived.Test.YtjpaoadbgmmoeaaBase
import Derived.Deep.LoopGhost
namespace Go.Proofs.Ytjpaoadbgmmoeaa
open Go.RowKit

/-- The reader in block g, its place p; its bytes lie below it. -/
def Rdr (w : World) (g p : Nat) : Prop :=
  ∃ A n c bs, w.heap[g]? = some (.cells #[.slice A n c, .int .i64 (p : Int)] 102 (0, 0)) ∧ Byts w g A n c bs ∧ n ≤ 2000
/-- Behind some draws: the reader's place is at most C further; all that was there but the reader is as it was. -/
def Drew (w w' : World) (g p C : Nat) : Prop := w.grownBy w' (some g) ∧ ∃ p', p' ≤ p + C ∧ Rdr w' g p'

theorem Rdr.lt {w : World} {g p : Nat} (h : Rdr w g p) : g < w.heap.size := by
  obtain ⟨A, n, c, bs, hh, _⟩ := h
  exact (Array.getElem?_eq_some_iff.1 hh).1
theorem Rdr.keep {w w' : World} {g p : Nat} (h : Rdr w g p) (hb : Below (g + 1) w w') : Rdr w' g p := by
  obtain ⟨A, n, c, bs, hh, hr, hn⟩ := h
  exact ⟨A, n, c, bs, (hb.block g (by omega)).trans hh, hr.below hb (by omega), hn⟩
theorem only_trans {a b c : World} {row : Option Nat} (h : a.grownBy b row) (k : b.grownBy c row) : a.grownBy c row :=
  ⟨k.os.trans h.os, k.tape.trans h.tape, k.output.trans h.output, Nat.le_trans h.size k.size, fun i hi hne => (k.block i (Nat.lt_of_lt_of_le hi h.size) hne).trans (h.block i hi hne)⟩
theorem only_of_below {a w : World} (h : Below a.heap.size a w) (row : Option Nat) : a.grownBy w row := ⟨h.os, h.tape, h.output, h.size, fun i hi _ => h.block i hi⟩
theorem below_of_only {a w : World} {g B : Nat} (h : a.grownBy w (some g)) (hB : B ≤ g) (hs : B ≤ a.heap.size) : Below B a w :=
  ⟨h.os, h.tape, h.output, h.size, fun i hi => h.block i (by omega) (fun e => by injection e with e; omega)⟩
theorem only_drew {a w : World} {row : Option Nat} (h : a.grownBy w row) : a.grownBy w.drew row := ⟨h.os, h.tape, h.output, h.size, h.block⟩
theorem only_drewN {a w : World} {row : Option Nat} (h : a.grownBy w row) (n : Nat) : a.grownBy (w.drewN n) row := ⟨h.os, h.tape, h.output, h.size, h.block⟩
theorem only_alloc {a w : World} {row : Option Nat} (h : a.grownBy w row) (o : Obj) : a.grownBy (w.alloc o) row :=
  ⟨h.os, h.tape, h.output, Nat.le_trans h.size (by simp), fun i hi hne => (Below.heap_alloc w o i (Nat.lt_of_lt_of_le hi h.size)).trans (h.block i hi hne)⟩
theorem only_setCell {a w : World} {g : Nat} (h : a.grownBy w (some g)) {p : Addr} (hp : p.block = g ∨ a.heap.size ≤ p.block) (u : Value) : a.grownBy (w.setCell p u) (some g) :=
  ⟨h.os, h.tape, h.output, by simpa [World.setCell] using h.size, fun i hi hne => (Below.heap_setCell w p u i (by
    rintro rfl
    rcases hp with hp | hp
    · exact hne (by rw [hp])
    · omega)).trans (h.block i hi hne)⟩
theorem Drew.trans {a b c : World} {g p C D : Nat} (h : Drew a b g p C) (k : ∀ p', p' ≤ p + C → Rdr b g p' → Drew b c g p' D) : Drew a c g p (C + D) := by
  obtain ⟨h1, p', hp', hr⟩ := h
  obtain ⟨k1, q, hq, hr'⟩ := k p' hp' hr
  exact ⟨only_trans h1 k1, q, by omega, hr'⟩
/-- Behind draws: new blocks and draws of an order change nothing. -/
theorem Drew.below {a b c : World} {g p C : Nat} (h : Drew a b g p C) (k : Below b.heap.size b c) : Drew a c g p C := by
  obtain ⟨h1, p', hp', hr⟩ := h
  have hl := hr.lt
  exact ⟨only_trans h1 (only_of_below k _), p', hp', hr.keep (k.mono (by omega))⟩
theorem Drew.belowB {a b c : World} {g p C : Nat} (h : Drew a b g p C) (hg : g < a.heap.size) (k : Below a.heap.size b c) : Drew a c g p C := by
  obtain ⟨h1, p', hp', hr⟩ := h
  exact ⟨⟨k.os.trans h1.os, k.tape.trans h1.tape, k.output.trans h1.output, Nat.le_trans h1.size k.size, fun i hi hne => (k.block i hi).trans (h1.block i hi hne)⟩, p', hp', hr.keep (k.mono (by omega))⟩
theorem Drew.more {a b : World} {g p C D : Nat} (h : Drew a b g p C) (hC : C ≤ D) : Drew a b g p D := ⟨h.1, by obtain ⟨p', hp, hr⟩ := h.2; exact ⟨p', by omega, hr⟩⟩
theorem Drew.own {a b : World} {g p C base e size n : Nat} {v : Value} {xs : List Value} (h : Drew a b g p C) (ho : a.ownsRow base e size v n xs) (hne : ∀ k, v.ownBlock = some k → k ≠ g) : b.ownsRow base e size v n xs :=
  ho.kept h.1 (by
    cases hv : v.ownBlock with
    | none => exact .inl rfl
    | some k => exact .inr (by intro e; injection e with e; exact hne k hv e))

theorem rdr_step {w : World} {g p m c : Nat} {A : Option Addr} {bs : List UInt8} (hh : w.heap[g]? = some (.cells #[.slice A m c, .int .i64 (p : Int)] 102 (0, 0))) (hby : Byts w g A m c bs) (hm : m ≤ 2000) :
    Drew w (w.setCell ⟨g, 1, none⟩ (.int .i64 ((p : Int) + 1))) g p 1 := by
  have hlt : g < w.heap.size := (Array.getElem?_eq_some_iff.1 hh).1
  refine ⟨⟨rfl, rfl, rfl, by simp [World.setCell], fun k _ hne => Below.heap_setCell _ _ _ _ (by intro e; exact hne (by rw [e]))⟩, p + 1, by omega, A, m, c, bs, ?_, ?_, hm⟩
  · simp [World.setCell, Array.getElem?_modify, hh]
  · exact hby.below (B' := g) ((Below.refl _ _).setCell (p := ⟨g, 1, none⟩) (Nat.le_refl _) _) (Nat.le_refl _)

def PickSays (g p : Nat) (n : Int) (w : World) (e : Ending) (w' : World) : Prop :=
  ∃ v : Nat, e = .returned (.int .i64 v) ∧ (1 ≤ n → (v : Int) < n) ∧ (n < 1 → v = 0) ∧ Drew w w' g p 1

theorem xor_nat (a b : Nat) (ha : a < 9223372036854775808) (hb : b < 9223372036854775808) : ∃ x : Nat, bits .xor .i64 (a : Int) (b : Int) = (x : Int) ∧ x < 9223372036854775808 := by
  have ofI : ∀ a : Nat, a < 9223372036854775808 → (BitVec.ofInt 64 (a : Int)).toNat = a := fun a ha => by
    rw [BitVec.ofInt_natCast, BitVec.toNat_ofNat]; exact Nat.mod_eq_of_lt (by omega)
  have hx : a ^^^ b < 2 ^ 63 := Nat.xor_lt_two_pow (by omega) (by omega)
  refine ⟨a ^^^ b, ?_, by omega⟩
  show IntKind.i64.wrap ((BitVec.ofInt 64 (a : Int) ^^^ BitVec.ofInt 64 (b : Int)).toNat : Int) = _
  rw [BitVec.toNat_xor, ofI a ha, ofI b hb, IntKind.wrap_i64]
  omega

set_option maxHeartbeats 1000000 in
theorem pick_any (g p : Nat) (n : Int) (w : World) (h : Rdr w g p) (hp : p ≤ 1000000) (h1 : -1000000 ≤ n) (h2 : n ≤ 1000000) :
    Calls Try.prog 61 #[.pointer (some ⟨g, 0, none⟩), .int .i64 n] w (PickSays g p n w) := by
  obtain ⟨A, m, c, bs, hh, hby, hm⟩ := h
  have hc0 : w.cell? ⟨g, 0, none⟩ = some (.slice A m c) := by simp [World.cell?, hh]
  have hc1 : w.cell? ⟨g, 1, none⟩ = some (.int .i64 (p : Int)) := by simp [World.cell?, hh]
  have hf1 : w.frozen? ⟨g, 1, none⟩ = false := by simp [World.frozen?, hh]
  have HH := Lib.hid hh
  clear hh
  have hst := Lib.hid (rdr_step HH.out hby hm)
  by_cases hn : n < 1
  · go_enter Try.func61, Try.ntmps61
    go_wp2
    go_ret
    exact ⟨0, rfl, fun h => by omega, fun _ => rfl, hst.out⟩
  · have hn1 : 1 ≤ n := by omega
    rcases Nat.eq_zero_or_pos m with hm0 | hm0
    · subst hm0
      go_enter Try.func61, Try.ntmps61
      go_wp2
      go_ret
      exact ⟨0, rfl, fun _ => by omega, fun _ => rfl, hst.out⟩
    · have hmne : ((m : Int) == 0) = false := by simp; omega
      by_cases hpm : p < m
      · obtain ⟨b, o, u, rfl, hb, hu, hc⟩ := hby.at_ hpm
        have hne : b ≠ g := by omega
        have hul := UInt8.toNat_lt u
        clear hu
        go_enter Try.func61, Try.ntmps61
        go_wp2
        go_ret
        have hv : ((u.toNat % n.toNat : Nat) : Int) = (u.toNat : Int) % n := by rw [Int.natCast_emod, Int.toNat_of_nonneg (by omega)]
        refine ⟨u.toNat % n.toNat, ret_int hv.symm, fun _ => ?_, fun h => by omega, hst.out⟩
        rw [hv]
        exact Int.emod_lt_of_pos _ (by omega)
      · obtain ⟨b, o, u, rfl, hb, hu, hc⟩ := hby.at_ (Nat.mod_lt p hm0)
        obtain ⟨b2, o2, u2, e2, hb2, hu2, hc2⟩ := hby.at_ (Nat.mod_lt (p * 7 + 3) hm0)
        obtain ⟨rfl, rfl⟩ : b = b2 ∧ o = o2 := by simpa using e2
        have hne : b ≠ g := by omega
        have hul := UInt8.toNat_lt u
        have hul2 := UInt8.toNat_lt u2
        clear hu hu2 e2
        obtain ⟨i1, hi1⟩ : ∃ i, i = p % m := ⟨_, rfl⟩
        obtain ⟨i2, hi2⟩ : ∃ i, i = (p * 7 + 3) % m := ⟨_, rfl⟩
        obtain ⟨d, hd⟩ : ∃ d, d = p / m := ⟨_, rfl⟩
        have hdp : d ≤ p := by rw [hd]; exact Nat.div_le_self _ _
        have hi1m : i1 < m := by rw [hi1]; exact Nat.mod_lt _ hm0
        have hi2m : i2 < m := by rw [hi2]; exact Nat.mod_lt _ hm0
        rw [← hi1] at hc
        rw [← hi2] at hc2
        have q1 : (p : Int).tmod (m : Int) = (i1 : Int) := by rw [Int.tmod_eq_emod_of_nonneg (by omega), hi1]; simp
        have q2 : ((p : Int) * 7 + 3).tmod (m : Int) = (i2 : Int) := by rw [Int.tmod_eq_emod_of_nonneg (by omega), hi2]; simp
        have q3 : (p : Int).tdiv (m : Int) = (d : Int) := by rw [Int.tdiv_eq_ediv_of_nonneg (by omega), hd]; simp
        have r1 : IntKind.i64.wrap ((p : Int) * 7) = (p : Int) * 7 := IntWalk.i64_in _ (by omega)
        have r2 : IntKind.i64.wrap ((p : Int) * 7 + 3) = (p : Int) * 7 + 3 := IntWalk.i64_in _ (by omega)
        have r3 : IntKind.i64.wrap ((u.toNat : Int) * 131) = (u.toNat : Int) * 131 := IntWalk.i64_in _ (by omega)
        have r4 : IntKind.i64.wrap ((u2.toNat : Int) * 1117) = (u2.toNat : Int) * 1117 := IntWalk.i64_in _ (by omega)
        have r5 : IntKind.i64.wrap ((p : Int) * 29) = (p : Int) * 29 := IntWalk.i64_in _ (by omega)
        have r6 : IntKind.i64.wrap ((d : Int) * 53) = (d : Int) * 53 := IntWalk.i64_in _ (by omega)
        have r7 : IntKind.i64.wrap ((u.toNat : Int) * 131 + (u2.toNat : Int) * 1117) = (u.toNat : Int) * 131 + (u2.toNat : Int) * 1117 := IntWalk.i64_in _ (by omega)
        have r8 : IntKind.i64.wrap ((u.toNat : Int) * 131 + (u2.toNat : Int) * 1117 + (p : Int) * 29) = (u.toNat : Int) * 131 + (u2.toNat : Int) * 1117 + (p : Int) * 29 := IntWalk.i64_in _ (by omega)
        have r9 : IntKind.i64.wrap ((u.toNat : Int) * 131 + (u2.toNat : Int) * 1117 + (p : Int) * 29 + (d : Int) * 53) = (u.toNat : Int) * 131 + (u2.toNat : Int) * 1117 + (p : Int) * 29 + (d : Int) * 53 := IntWalk.i64_in _ (by omega)
        clear hi1 hi2 hd
        go_enter Try.func61, Try.ntmps61
        go_wp2
        go_quiet (fail)
        clear q1 q2 q3 r1 r2 r3 r4 r5 r6 r7 r8 r9
        obtain ⟨x, hx⟩ : ∃ x : Nat, (x : Int) = (u.toNat : Int) * 131 + (u2.toNat : Int) * 1117 + (p : Int) * 29 + (d : Int) * 53 := ⟨u.toNat * 131 + u2.toNat * 1117 + p * 29 + d * 53, by simp⟩
        have hx1 : x < 9223372036854775808 := by omega
        rw [← hx]
        obtain ⟨y, hy, hy1⟩ := xor_nat x (x / 64) hx1 (by omega)
        have hy' : bits .xor .i64 (x : Int) ((x : Int) / 64) = (y : Int) := by rw [← hy, Int.natCast_ediv]; rfl
        clear hy
        clear hx
        go_wp2
        go_ret
        have hv : ((y % n.toNat : Nat) : Int) = (y : Int) % n := by rw [Int.natCast_emod, Int.toNat_of_nonneg (by omega)]
        refine ⟨y % n.toNat, ret_int (by rw [hv]), fun _ => ?_, fun h => by omega, hst.out.below (below_drewN (Below.refl _ _) _)⟩
        rw [hv]
        exact Int.emod_lt_of_pos _ (by omega)
theorem Drew.then {a b c : World} {g p p' C D : Nat} (ho : a.grownBy b (some g)) (hp : p' ≤ p + C) (k : Drew b c g p' D) : Drew a c g p (C + D) := by
  obtain ⟨k1, q, hq, hr'⟩ := k
  exact ⟨only_trans ho k1, q, by omega, hr'⟩
theorem Drew.refl {w : World} {g p : Nat} (h : Rdr w g p) : Drew w w g p 0 := ⟨World.grownBy.refl _ _, p, by omega, h⟩

set_option maxHeartbeats 400000 in
theorem l6Open_any (A : Option Addr) (n c : Nat) (bs : List UInt8) (w : World) (B : Nat) (h : Byts w B A n c bs) (hB : B ≤ w.heap.size) :
    Calls Try.prog 14 #[.slice A n c] w fun e w' => ∃ g, e = .returned (.pointer (some ⟨g, 0, none⟩)) ∧ w.heap.size ≤ g ∧ Below w.heap.size w w' ∧ Rdr w' g 0 := by
  have hn := h.2.1
  have hm := h.2.2
  unfold maxLen at hm
  by_cases hs : n ≤ 2000
  · have hfin : Rdr (w.alloc (.cells #[.slice A n c, .int .i64 0] 102)) w.heap.size 0 :=
      ⟨A, n, c, bs, heap_alloc_new w _, (h.more hB).below ((Below.refl _ _).alloc (Nat.le_refl _) _) (Nat.le_refl _), hs⟩
    have Hfin := Lib.hid hfin
    clear hfin
    go_enter Try.func14, Try.ntmps14
    go_wp2
    go_ret
    exact ⟨w.heap.size, rfl, Nat.le_refl _, (Below.refl _ _).alloc (Nat.le_refl _) _, Hfin.out⟩
  · obtain ⟨b, o, e, hb, hc⟩ := h.1.2 (by omega)
    subst e
    have hby : Byts w B (some ⟨b, o, none⟩) 2000 c (bs.take 2000) := by
      refine ⟨⟨by have := h.len; simp; omega, fun _ => ⟨b, o, rfl, hb, fun j u hu => ?_⟩⟩, by omega, h.2.2⟩
      rw [List.map_take, List.getElem?_take] at hu
      split at hu
      · exact hc j u hu
      · cases hu
    have hfin : Rdr (w.alloc (.cells #[.slice (some ⟨b, o, none⟩) 2000 c, .int .i64 0] 102)) w.heap.size 0 :=
      ⟨_, 2000, c, _, heap_alloc_new w _, (hby.more hB).below ((Below.refl _ _).alloc (Nat.le_refl _) _) (Nat.le_refl _), by omega⟩
    have Hfin := Lib.hid hfin
    clear hfin
    have hc0 : ¬ c = 0 := by omega
    go_enter Try.func14, Try.ntmps14
    go_wp2
    go_ret
    exact ⟨w.heap.size, rfl, Nat.le_refl _, (Below.refl _ _).alloc (Nat.le_refl _) _, Hfin.out⟩
end Go.Proofs.Ytjpaoadbgmmoeaa
