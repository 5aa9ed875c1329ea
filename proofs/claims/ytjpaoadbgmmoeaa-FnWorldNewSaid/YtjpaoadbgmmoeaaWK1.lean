/- The laws' comparisons same.. of parts of runs: two that read as the same data are found the same. Condition: they do. -/
import Derived.Test.YtjpaoadbgmmoeaaCalm3
namespace Go.Proofs.Ytjpaoadbgmmoeaa
open Go.RowKit

set_option maxRecDepth 10000 in
set_option maxHeartbeats 1000000 in
theorem sameRanges_t (A : Option Addr) (n c : Nat) (A' : Option Addr) (c' : Nat) (l : List Rg) (W0 x0 : World) (ok ok' : Nat → Prop) (h : SliceR RgR 2 W0 ok A n c l) (h' : SliceR RgR 2 W0 ok' A' n c' l) (hok : Sub ok (Old W0)) (hok' : Sub ok' (Old W0)) :
    Calls Try.prog 27 #[.slice A n c, .slice A' n c'] (grew W0 x0) fun e w' => e = .returned (.bool true) ∧ ∃ y, w' = grew W0 y := by
  have hcap := h.cap
  go_enter Try.func27, Try.ntmps27
  go_wp2_with fail
  go_loopg [5] n (fun m v wr => ∃ (k : Nat) (z : World), k + m = n ∧ v = .int .i64 (k : Int) ∧ wr = grew W0 z)
  case atStart => exact ⟨0, _, by omega, rfl, rfl⟩
  case round =>
    obtain ⟨k, z, hk, rfl, rfl⟩ := hrel
    by_cases hlt : k < n
    · obtain ⟨b, o, x, rfl, hb, hx, _, _, d0, d1⟩ := rg_at h hlt
      obtain ⟨b', o', x', rfl, hb', hx', _, _, d0', d1'⟩ := rg_at h' hlt
      rw [hx] at hx'
      obtain rfl := Option.some.inj hx'
      have q1 : (0 : Int) ≤ (k : Int) := by omega
      have q2 : (k : Int) < (n : Int) := by omega
      clear hx hx'
      go_wp2_with fail
      refine wp_region_calmG (by kernel_rfl) (by kernel_rfl) ?_
      repeat (go_big_quiet_step (fail))
      refine wpQuiet_nil ?_
      intro _ hw'
      obtain ⟨nq, hw''⟩ := hw'
      subst hw''
      go_wp2
      go_roundg (n - (k + 1))
      case measure => omega
      case rel => exact ⟨k + 1, nq, by omega, by go_num, rfl⟩
    · have hkn : n ≤ k := by omega
      go_wp2
      go_ret
      exact ⟨rfl, _, rfl⟩
set_option maxRecDepth 10000 in
set_option maxHeartbeats 1000000 in
theorem sameWindows_t (A : Option Addr) (n c : Nat) (A' : Option Addr) (c' : Nat) (l : List Wn) (W0 x0 : World) (ok ok' : Nat → Prop) (h : SliceR WnR 4 W0 ok A n c l) (h' : SliceR WnR 4 W0 ok' A' n c' l) (hok : Sub ok (Old W0)) (hok' : Sub ok' (Old W0)) :
    Calls Try.prog 23 #[.slice A n c, .slice A' n c'] (grew W0 x0) fun e w' => e = .returned (.bool true) ∧ ∃ y, w' = grew W0 y := by
  have hcap := h.cap
  go_enter Try.func23, Try.ntmps23
  go_wp2_with fail
  go_loopg [5] n (fun m v wr => ∃ (k : Nat) (z : World), k + m = n ∧ v = .int .i64 (k : Int) ∧ wr = grew W0 z)
  case atStart => exact ⟨0, _, by omega, rfl, rfl⟩
  case round =>
    obtain ⟨k, z, hk, rfl, rfl⟩ := hrel
    by_cases hlt : k < n
    · obtain ⟨b, o, x, rfl, hb, hx, d0, d1, d2, d3⟩ := wn_at2 h hlt
      obtain ⟨b', o', x', rfl, hb', hx', d0', d1', d2', d3'⟩ := wn_at2 h' hlt
      rw [hx] at hx'
      obtain rfl := Option.some.inj hx'
      have q1 : (0 : Int) ≤ (k : Int) := by omega
      have q2 : (k : Int) < (n : Int) := by omega
      clear hx hx'
      go_wp2_with fail
      refine wp_region_calmG (by kernel_rfl) (by kernel_rfl) ?_
      repeat (go_big_quiet_step (fail))
      refine wpQuiet_nil ?_
      intro _ hw'
      obtain ⟨nq, hw''⟩ := hw'
      subst hw''
      go_wp2
      go_roundg (n - (k + 1))
      case measure => omega
      case rel => exact ⟨k + 1, nq, by omega, by go_num, rfl⟩
    · have hkn : n ≤ k := by omega
      go_wp2
      go_ret
      exact ⟨rfl, _, rfl⟩
set_option maxRecDepth 10000 in
set_option maxHeartbeats 1000000 in
theorem sameSend_t (x : Sd) (A1 : Option Addr) (n1 c1 : Nat) (A1' : Option Addr) (c1' : Nat) (A2 : Option Addr) (n2 c2 : Nat) (A2' : Option Addr) (c2' : Nat) (W0 x0 : World) (ok ok' : Nat → Prop) (h1 : SliceR RgR 2 W0 ok A1 n1 c1 x.acked) (h1' : SliceR RgR 2 W0 ok' A1' n1 c1' x.acked) (h2 : SliceR RgR 2 W0 ok A2 n2 c2 x.lost) (h2' : SliceR RgR 2 W0 ok' A2' n2 c2' x.lost) (hok : Sub ok (Old W0)) (hok' : Sub ok' (Old W0)) :
    Calls Try.prog 24 #[.agg #[.string (S x.data), .bool x.fin, .int .i64 x.limit, .int .i64 x.next, .slice A1 n1 c1, .slice A2 n2 c2], .agg #[.string (S x.data), .bool x.fin, .int .i64 x.limit, .int .i64 x.next, .slice A1' n1 c1', .slice A2' n2 c2']] (grew W0 x0) fun e w' => e = .returned (.bool true) ∧ ∃ y, w' = grew W0 y := by
  obtain ⟨V, hV⟩ : ∃ V : World, V = ((grew W0 x0).alloc (.cells #[.string (S x.data), .bool x.fin, .int .i64 x.limit, .int .i64 x.next, .slice A1 n1 c1, .slice A2 n2 c2] 47)).alloc (.cells #[.string (S x.data), .bool x.fin, .int .i64 x.limit, .int .i64 x.next, .slice A1' n1 c1', .slice A2' n2 c2'] 47) := ⟨_, rfl⟩
  have hbV : Below W0.heap.size W0 V := (grew_below W0 x0).trans (by rw [hV]; exact (b_grow (b_alloc _ _) _).mono (grew_below W0 x0).size)
  have u0 : V.cell? ⟨(grew W0 x0).heap.size, 0, none⟩ = some (.string (S x.data)) := by rw [hV]; simp
  have u1 : V.cell? ⟨(grew W0 x0).heap.size, 1, none⟩ = some (.bool x.fin) := by rw [hV]; simp
  have u2 : V.cell? ⟨(grew W0 x0).heap.size, 2, none⟩ = some (.int .i64 x.limit) := by rw [hV]; simp
  have u3 : V.cell? ⟨(grew W0 x0).heap.size, 3, none⟩ = some (.int .i64 x.next) := by rw [hV]; simp
  have u4 : V.cell? ⟨(grew W0 x0).heap.size, 4, none⟩ = some (.slice A1 n1 c1) := by rw [hV]; simp
  have u5 : V.cell? ⟨(grew W0 x0).heap.size, 5, none⟩ = some (.slice A2 n2 c2) := by rw [hV]; simp
  have v0 : V.cell? ⟨(grew W0 x0).heap.size + 1, 0, none⟩ = some (.string (S x.data)) := by rw [hV]; simp
  have v1 : V.cell? ⟨(grew W0 x0).heap.size + 1, 1, none⟩ = some (.bool x.fin) := by rw [hV]; simp
  have v2 : V.cell? ⟨(grew W0 x0).heap.size + 1, 2, none⟩ = some (.int .i64 x.limit) := by rw [hV]; simp
  have v3 : V.cell? ⟨(grew W0 x0).heap.size + 1, 3, none⟩ = some (.int .i64 x.next) := by rw [hV]; simp
  have v4 : V.cell? ⟨(grew W0 x0).heap.size + 1, 4, none⟩ = some (.slice A1' n1 c1') := by rw [hV]; simp
  have v5 : V.cell? ⟨(grew W0 x0).heap.size + 1, 5, none⟩ = some (.slice A2' n2 c2') := by rw [hV]; simp
  have k1 := h1.below rgCar hok hbV (Nat.le_refl _)
  have k1' := h1'.below rgCar hok' hbV (Nat.le_refl _)
  have k2 := h2.below rgCar hok hbV (Nat.le_refl _)
  have k2' := h2'.below rgCar hok' hbV (Nat.le_refl _)
  have okV : Sub ok (Old V) := hok.old hbV.size
  have okV' : Sub ok' (Old V) := hok'.old hbV.size
  have Hout := Lib.hid (show ∀ y, ∃ z, grew V y = grew W0 z from fun y => grew_of' hbV y)
  clear hbV h1 h1' h2 h2'
  go_enter Try.func24, Try.ntmps24
  go_wp2_with fail
  rw [← hV]
  clear hV
  rw [grew_self V]
  refine (sameRanges_t _ _ _ _ _ x.acked V _ _ _ k1 k1' okV okV').mono ?_
  rintro e _ ⟨rfl, y0, rfl⟩
  go_wp2_with fail
  refine (sameRanges_t _ _ _ _ _ x.lost V _ _ _ k2 k2' okV okV').mono ?_
  rintro e _ ⟨rfl, y1, rfl⟩
  go_wp2
  go_ret
  exact ⟨rfl, Hout.out _⟩
set_option maxRecDepth 10000 in
set_option maxHeartbeats 1000000 in
theorem sameFrame_t (x : Fm) (A1 : Option Addr) (n1 c1 : Nat) (A1' : Option Addr) (c1' : Nat) (W0 x0 : World) (ok ok' : Nat → Prop) (h1 : SliceR RgR 2 W0 ok A1 n1 c1 x.ranges) (h1' : SliceR RgR 2 W0 ok' A1' n1 c1' x.ranges) (hok : Sub ok (Old W0)) (hok' : Sub ok' (Old W0)) :
    Calls Try.prog 62 #[.agg #[.int .i64 x.kind, .int .i64 x.a, .int .i64 x.b, .int .i64 x.c, .string (S x.data), .slice A1 n1 c1], .agg #[.int .i64 x.kind, .int .i64 x.a, .int .i64 x.b, .int .i64 x.c, .string (S x.data), .slice A1' n1 c1']] (grew W0 x0) fun e w' => e = .returned (.bool true) ∧ ∃ y, w' = grew W0 y := by
  obtain ⟨V, hV⟩ : ∃ V : World, V = ((grew W0 x0).alloc (.cells #[.int .i64 x.kind, .int .i64 x.a, .int .i64 x.b, .int .i64 x.c, .string (S x.data), .slice A1 n1 c1] 79)).alloc (.cells #[.int .i64 x.kind, .int .i64 x.a, .int .i64 x.b, .int .i64 x.c, .string (S x.data), .slice A1' n1 c1'] 79) := ⟨_, rfl⟩
  have hbV : Below W0.heap.size W0 V := (grew_below W0 x0).trans (by rw [hV]; exact (b_grow (b_alloc _ _) _).mono (grew_below W0 x0).size)
  have u0 : V.cell? ⟨(grew W0 x0).heap.size, 0, none⟩ = some (.int .i64 x.kind) := by rw [hV]; simp
  have u1 : V.cell? ⟨(grew W0 x0).heap.size, 1, none⟩ = some (.int .i64 x.a) := by rw [hV]; simp
  have u2 : V.cell? ⟨(grew W0 x0).heap.size, 2, none⟩ = some (.int .i64 x.b) := by rw [hV]; simp
  have u3 : V.cell? ⟨(grew W0 x0).heap.size, 3, none⟩ = some (.int .i64 x.c) := by rw [hV]; simp
  have u4 : V.cell? ⟨(grew W0 x0).heap.size, 4, none⟩ = some (.string (S x.data)) := by rw [hV]; simp
  have u5 : V.cell? ⟨(grew W0 x0).heap.size, 5, none⟩ = some (.slice A1 n1 c1) := by rw [hV]; simp
  have v0 : V.cell? ⟨(grew W0 x0).heap.size + 1, 0, none⟩ = some (.int .i64 x.kind) := by rw [hV]; simp
  have v1 : V.cell? ⟨(grew W0 x0).heap.size + 1, 1, none⟩ = some (.int .i64 x.a) := by rw [hV]; simp
  have v2 : V.cell? ⟨(grew W0 x0).heap.size + 1, 2, none⟩ = some (.int .i64 x.b) := by rw [hV]; simp
  have v3 : V.cell? ⟨(grew W0 x0).heap.size + 1, 3, none⟩ = some (.int .i64 x.c) := by rw [hV]; simp
  have v4 : V.cell? ⟨(grew W0 x0).heap.size + 1, 4, none⟩ = some (.string (S x.data)) := by rw [hV]; simp
  have v5 : V.cell? ⟨(grew W0 x0).heap.size + 1, 5, none⟩ = some (.slice A1' n1 c1') := by rw [hV]; simp
  have k1 := h1.below rgCar hok hbV (Nat.le_refl _)
  have k1' := h1'.below rgCar hok' hbV (Nat.le_refl _)
  have okV : Sub ok (Old V) := hok.old hbV.size
  have okV' : Sub ok' (Old V) := hok'.old hbV.size
  have Hout := Lib.hid (show ∀ y, ∃ z, grew V y = grew W0 z from fun y => grew_of' hbV y)
  clear hbV h1 h1'
  go_enter Try.func62, Try.ntmps62
  go_wp2_with fail
  rw [← hV]
  clear hV
  rw [grew_self V]
  refine (sameRanges_t _ _ _ _ _ x.ranges V _ _ _ k1 k1' okV okV').mono ?_
  rintro e _ ⟨rfl, y0, rfl⟩
  go_wp2
  go_ret
  exact ⟨rfl, Hout.out _⟩
set_option maxRecDepth 10000 in
set_option maxHeartbeats 1000000 in
theorem sameRecv_t (x : Rv) (A1 : Option Addr) (n1 c1 : Nat) (A1' : Option Addr) (c1' : Nat) (W0 x0 : World) (ok ok' : Nat → Prop) (h1 : SliceR PcR 2 W0 ok A1 n1 c1 x.pieces) (h1' : SliceR PcR 2 W0 ok' A1' n1 c1' x.pieces) (hok : Sub ok (Old W0)) (hok' : Sub ok' (Old W0)) :
    Calls Try.prog 25 #[.agg #[.int .i64 x.read, .slice A1 n1 c1, .int .i64 x.final, .int .i64 x.limit], .agg #[.int .i64 x.read, .slice A1' n1 c1', .int .i64 x.final, .int .i64 x.limit]] (grew W0 x0) fun e w' => e = .returned (.bool true) ∧ ∃ y, w' = grew W0 y := by
  obtain ⟨V, hV⟩ : ∃ V : World, V = ((grew W0 x0).alloc (.cells #[.int .i64 x.read, .slice A1 n1 c1, .int .i64 x.final, .int .i64 x.limit] 52)).alloc (.cells #[.int .i64 x.read, .slice A1' n1 c1', .int .i64 x.final, .int .i64 x.limit] 52) := ⟨_, rfl⟩
  have hbV : Below W0.heap.size W0 V := (grew_below W0 x0).trans (by rw [hV]; exact (b_grow (b_alloc _ _) _).mono (grew_below W0 x0).size)
  have u0 : V.cell? ⟨(grew W0 x0).heap.size, 0, none⟩ = some (.int .i64 x.read) := by rw [hV]; simp
  have u1 : V.cell? ⟨(grew W0 x0).heap.size, 1, none⟩ = some (.slice A1 n1 c1) := by rw [hV]; simp
  have u2 : V.cell? ⟨(grew W0 x0).heap.size, 2, none⟩ = some (.int .i64 x.final) := by rw [hV]; simp
  have u3 : V.cell? ⟨(grew W0 x0).heap.size, 3, none⟩ = some (.int .i64 x.limit) := by rw [hV]; simp
  have v0 : V.cell? ⟨(grew W0 x0).heap.size + 1, 0, none⟩ = some (.int .i64 x.read) := by rw [hV]; simp
  have v1 : V.cell? ⟨(grew W0 x0).heap.size + 1, 1, none⟩ = some (.slice A1' n1 c1') := by rw [hV]; simp
  have v2 : V.cell? ⟨(grew W0 x0).heap.size + 1, 2, none⟩ = some (.int .i64 x.final) := by rw [hV]; simp
  have v3 : V.cell? ⟨(grew W0 x0).heap.size + 1, 3, none⟩ = some (.int .i64 x.limit) := by rw [hV]; simp
  have k1 := h1.below pcCar hok hbV (Nat.le_refl _)
  have k1' := h1'.below pcCar hok' hbV (Nat.le_refl _)
  have okV : Sub ok (Old V) := hok.old hbV.size
  have okV' : Sub ok' (Old V) := hok'.old hbV.size
  have Hout := Lib.hid (show ∀ y, ∃ z, grew V y = grew W0 z from fun y => grew_of' hbV y)
  clear hbV h1 h1'
  go_enter Try.func25, Try.ntmps25
  go_wp2_with fail
  rw [← hV]
  clear hV
  rw [grew_self V]
  have hcap := k1.cap
  go_loopg [5] n1 (fun m v wr => ∃ (k : Nat) (z : World), k + m = n1 ∧ v = .int .i64 (k : Int) ∧ wr = grew V z)
  case atStart => exact ⟨0, V, by omega, rfl, rfl⟩
  case round =>
    obtain ⟨k, z, hk, rfl, rfl⟩ := hrel
    by_cases hlt : k < n1
    · obtain ⟨b, o, y, rfl, hb, hx, d0, d1⟩ := pc_at2 k1 hlt
      obtain ⟨b', o', y', rfl, hb', hx', d0', d1'⟩ := pc_at2 k1' hlt
      rw [hx] at hx'
      obtain rfl := Option.some.inj hx'
      have q1 : (0 : Int) ≤ (k : Int) := by omega
      have q2 : (k : Int) < (n1 : Int) := by omega
      clear hx hx'
      go_wp2_with fail
      refine wp_region_calmG (by kernel_rfl) (by kernel_rfl) ?_
      repeat (go_big_quiet_step (fail))
      refine wpQuiet_nil ?_
      intro _ hw'
      obtain ⟨nq, hw''⟩ := hw'
      subst hw''
      go_wp2
      go_roundg (n1 - (k + 1))
      case measure => omega
      case rel => exact ⟨k + 1, nq, by omega, by go_num, rfl⟩
    · have hkn : n1 ≤ k := by omega
      go_wp2
      go_ret
      exact ⟨rfl, Hout.out _⟩
set_option maxRecDepth 10000 in
set_option maxHeartbeats 1000000 in
theorem sameLoss_t (x : Ls) (A1 : Option Addr) (n1 c1 : Nat) (A1' : Option Addr) (c1' : Nat) (W0 x0 : World) (ok ok' : Nat → Prop) (h1 : SliceR PkR 3 W0 ok A1 n1 c1 x.flight) (h1' : SliceR PkR 3 W0 ok' A1' n1 c1' x.flight) (hok : Sub ok (Old W0)) (hok' : Sub ok' (Old W0)) :
    Calls Try.prog 26 #[.agg #[.int .i64 x.next, .slice A1 n1 c1, .int .i64 x.largest], .agg #[.int .i64 x.next, .slice A1' n1 c1', .int .i64 x.largest]] (grew W0 x0) fun e w' => e = .returned (.bool true) ∧ ∃ y, w' = grew W0 y := by
  obtain ⟨V, hV⟩ : ∃ V : World, V = ((grew W0 x0).alloc (.cells #[.int .i64 x.next, .slice A1 n1 c1, .int .i64 x.largest] 57)).alloc (.cells #[.int .i64 x.next, .slice A1' n1 c1', .int .i64 x.largest] 57) := ⟨_, rfl⟩
  have hbV : Below W0.heap.size W0 V := (grew_below W0 x0).trans (by rw [hV]; exact (b_grow (b_alloc _ _) _).mono (grew_below W0 x0).size)
  have u0 : V.cell? ⟨(grew W0 x0).heap.size, 0, none⟩ = some (.int .i64 x.next) := by rw [hV]; simp
  have u1 : V.cell? ⟨(grew W0 x0).heap.size, 1, none⟩ = some (.slice A1 n1 c1) := by rw [hV]; simp
  have u2 : V.cell? ⟨(grew W0 x0).heap.size, 2, none⟩ = some (.int .i64 x.largest) := by rw [hV]; simp
  have v0 : V.cell? ⟨(grew W0 x0).heap.size + 1, 0, none⟩ = some (.int .i64 x.next) := by rw [hV]; simp
  have v1 : V.cell? ⟨(grew W0 x0).heap.size + 1, 1, none⟩ = some (.slice A1' n1 c1') := by rw [hV]; simp
  have v2 : V.cell? ⟨(grew W0 x0).heap.size + 1, 2, none⟩ = some (.int .i64 x.largest) := by rw [hV]; simp
  have k1 := h1.below pkCar hok hbV (Nat.le_refl _)
  have k1' := h1'.below pkCar hok' hbV (Nat.le_refl _)
  have okV : Sub ok (Old V) := hok.old hbV.size
  have okV' : Sub ok' (Old V) := hok'.old hbV.size
  have Hout := Lib.hid (show ∀ y, ∃ z, grew V y = grew W0 z from fun y => grew_of' hbV y)
  clear hbV h1 h1'
  go_enter Try.func26, Try.ntmps26
  go_wp2_with fail
  rw [← hV]
  clear hV
  rw [grew_self V]
  have hcap := k1.cap
  go_loopg [5] n1 (fun m v wr => ∃ (k : Nat) (z : World), k + m = n1 ∧ v = .int .i64 (k : Int) ∧ wr = grew V z)
  case atStart => exact ⟨0, V, by omega, rfl, rfl⟩
  case round =>
    obtain ⟨k, z, hk, rfl, rfl⟩ := hrel
    by_cases hlt : k < n1
    · obtain ⟨b, o, y, rfl, hb, hx, _, d0, d1, d2⟩ := pk_at k1 hlt
      obtain ⟨b', o', y', rfl, hb', hx', _, d0', d1', d2'⟩ := pk_at k1' hlt
      rw [hx] at hx'
      obtain rfl := Option.some.inj hx'
      have q1 : (0 : Int) ≤ (k : Int) := by omega
      have q2 : (k : Int) < (n1 : Int) := by omega
      clear hx hx'
      go_wp2_with fail
      refine wp_region_calmG (by kernel_rfl) (by kernel_rfl) ?_
      repeat (go_big_quiet_step (fail))
      refine wpQuiet_nil ?_
      intro _ hw'
      obtain ⟨nq, hw''⟩ := hw'
      subst hw''
      go_wp2
      go_roundg (n1 - (k + 1))
      case measure => omega
      case rel => exact ⟨k + 1, nq, by omega, by go_num, rfl⟩
    · have hkn : n1 ≤ k := by omega
      go_wp2
      go_ret
      exact ⟨rfl, Hout.out _⟩
set_option maxRecDepth 10000 in
set_option maxHeartbeats 1000000 in
theorem sameNet_t (A : Option Addr) (n c : Nat) (A' : Option Addr) (c' : Nat) (l : List Wi) (W0 x0 : World) (ok ok' : Nat → Prop) (h : SliceR WiR 9 W0 ok A n c l) (h' : SliceR WiR 9 W0 ok' A' n c' l) (hok : Sub ok (Old W0)) (hok' : Sub ok' (Old W0)) :
    Calls Try.prog 28 #[.slice A n c, .slice A' n c'] (grew W0 x0) fun e w' => e = .returned (.bool true) ∧ ∃ y, w' = grew W0 y := by
  have hcap := h.cap
  go_enter Try.func28, Try.ntmps28
  go_wp2_with fail
  go_loopg [5] n (fun m v wr => ∃ (k : Nat) (z : World), k + m = n ∧ v = .int .i64 (k : Int) ∧ wr = grew W0 z)
  case atStart => exact ⟨0, _, by omega, rfl, rfl⟩
  case round =>
    obtain ⟨k, z, hk, rfl, rfl⟩ := hrel
    by_cases hlt : k < n
    · obtain ⟨b, o, x, A1, n1, c1, rfl, hb, hx, _, _, r1, d0, d1, d2, d3, d4, d5, d6, d7, d8⟩ := wi_at h hlt
      obtain ⟨b', o', x', A1', n1', c1', rfl, hb', hx', _, _, r1', d0', d1', d2', d3', d4', d5', d6', d7', d8'⟩ := wi_at h' hlt
      rw [hx] at hx'
      obtain rfl := Option.some.inj hx'
      obtain rfl : n1' = n1 := by rw [← r1.len, ← r1'.len]
      have q1 : (0 : Int) ≤ (k : Int) := by omega
      have q2 : (k : Int) < (n : Int) := by omega
      clear hx hx'
      go_wp2_with fail
      refine wp_region_calmG (by kernel_rfl) (by kernel_rfl) ?_
      repeat (go_big_quiet_step (((go_at_call 62; exact sameFrame_t x.frame _ _ _ _ _ W0 _ _ _ r1 r1' hok hok'))))
      refine wpQuiet_nil ?_
      intro _ hw'
      obtain ⟨nq, hw''⟩ := hw'
      subst hw''
      go_wp2
      go_roundg (n - (k + 1))
      case measure => omega
      case rel => exact ⟨k + 1, nq, by omega, by go_num, rfl⟩
    · have hkn : n ≤ k := by omega
      go_wp2
      go_ret
      exact ⟨rfl, _, rfl⟩
end Go.Proofs.Ytjpaoadbgmmoeaa
