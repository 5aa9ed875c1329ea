/- The laws' comparisons eq.. of parts of runs: two that read as the same data are found the same. Condition: they do. -/
import Derived.Test.YtjpaoadbgmmoeaaCalm3
namespace Go.Proofs.Ytjpaoadbgmmoeaa
open Go.RowKit

set_option maxRecDepth 10000 in
set_option maxHeartbeats 1000000 in
theorem eqRange_t (x : Rg) (W0 x0 : World) :
    Calls Try.prog 107 #[.agg #[.int .i64 x.lo, .int .i64 x.hi], .agg #[.int .i64 x.lo, .int .i64 x.hi]] (grew W0 x0) fun e w' => e = .returned (.bool true) ∧ ∃ y, w' = grew W0 y := by
  go_enter Try.func107, Try.ntmps107
  go_wp2
  go_ret
  exact ⟨rfl, _, grew_of ((grew_below W0 x0).trans ((b_grow (b_alloc _ _) _).mono (grew_below W0 x0).size))⟩
set_option maxRecDepth 10000 in
set_option maxHeartbeats 1000000 in
theorem eqRangeS_t (A : Option Addr) (n c : Nat) (A' : Option Addr) (c' : Nat) (l : List Rg) (W0 x0 : World) (ok ok' : Nat → Prop) (h : SliceR RgR 2 W0 ok A n c l) (h' : SliceR RgR 2 W0 ok' A' n c' l) (hok : Sub ok (Old W0)) (hok' : Sub ok' (Old W0)) :
    Calls Try.prog 86 #[.slice A n c, .slice A' n c'] (grew W0 x0) fun e w' => e = .returned (.bool true) ∧ ∃ y, w' = grew W0 y := by
  have hcap := h.cap
  go_enter Try.func86, Try.ntmps86
  go_wp2_with fail
  go_loopg [5] n (fun m v wr => ∃ (k : Nat) (z : World), k + m = n ∧ v = .int .i64 (k : Int) ∧ wr = grew W0 z)
  case atStart => exact ⟨0, _, by omega, rfl, rfl⟩
  case round =>
    obtain ⟨k, z, hk, rfl, rfl⟩ := hrel
    by_cases hlt : k < n
    · obtain ⟨b, o, x, rfl, hb, hx, _, _, d0, d1⟩ := rg_at h hlt
      obtain ⟨b', o', x', rfl, hb', hx', _, _, d0', d1'⟩ := rg_at h' hlt
      rw [hx] at hx'
      obtain rfl := Option.some.inj hx'
      have q1 : (0 : Int) ≤ (k : Int) := by omega
      have q2 : (k : Int) < (n : Int) := by omega
      clear hx hx'
      go_wp2_with fail
      refine wp_region_calmG (by kernel_rfl) (by kernel_rfl) ?_
      repeat (go_big_quiet_step (((go_at_call 107; exact eqRange_t _ W0 _))))
      refine wpQuiet_nil ?_
      intro _ hw'
      obtain ⟨nq, hw''⟩ := hw'
      subst hw''
      go_wp2
      go_roundg (n - (k + 1))
      case measure => omega
      case rel => exact ⟨k + 1, nq, by omega, by go_num, rfl⟩
    · have hkn : n ≤ k := by omega
      go_wp2
      go_ret
      exact ⟨rfl, _, rfl⟩
set_option maxRecDepth 10000 in
set_option maxHeartbeats 1000000 in
theorem eqPiece_t (x : Pc) (W0 x0 : World) :
    Calls Try.prog 111 #[.agg #[.int .i64 x.off, .string (S x.data)], .agg #[.int .i64 x.off, .string (S x.data)]] (grew W0 x0) fun e w' => e = .returned (.bool true) ∧ ∃ y, w' = grew W0 y := by
  go_enter Try.func111, Try.ntmps111
  go_wp2
  go_ret
  exact ⟨rfl, _, grew_of ((grew_below W0 x0).trans ((b_grow (b_alloc _ _) _).mono (grew_below W0 x0).size))⟩
set_option maxRecDepth 10000 in
set_option maxHeartbeats 1000000 in
theorem eqPieceS_t (A : Option Addr) (n c : Nat) (A' : Option Addr) (c' : Nat) (l : List Pc) (W0 x0 : World) (ok ok' : Nat → Prop) (h : SliceR PcR 2 W0 ok A n c l) (h' : SliceR PcR 2 W0 ok' A' n c' l) (hok : Sub ok (Old W0)) (hok' : Sub ok' (Old W0)) :
    Calls Try.prog 105 #[.slice A n c, .slice A' n c'] (grew W0 x0) fun e w' => e = .returned (.bool true) ∧ ∃ y, w' = grew W0 y := by
  have hcap := h.cap
  go_enter Try.func105, Try.ntmps105
  go_wp2_with fail
  go_loopg [5] n (fun m v wr => ∃ (k : Nat) (z : World), k + m = n ∧ v = .int .i64 (k : Int) ∧ wr = grew W0 z)
  case atStart => exact ⟨0, _, by omega, rfl, rfl⟩
  case round =>
    obtain ⟨k, z, hk, rfl, rfl⟩ := hrel
    by_cases hlt : k < n
    · obtain ⟨b, o, x, rfl, hb, hx, d0, d1⟩ := pc_at2 h hlt
      obtain ⟨b', o', x', rfl, hb', hx', d0', d1'⟩ := pc_at2 h' hlt
      rw [hx] at hx'
      obtain rfl := Option.some.inj hx'
      have q1 : (0 : Int) ≤ (k : Int) := by omega
      have q2 : (k : Int) < (n : Int) := by omega
      clear hx hx'
      go_wp2_with fail
      refine wp_region_calmG (by kernel_rfl) (by kernel_rfl) ?_
      repeat (go_big_quiet_step (((go_at_call 111; exact eqPiece_t _ W0 _))))
      refine wpQuiet_nil ?_
      intro _ hw'
      obtain ⟨nq, hw''⟩ := hw'
      subst hw''
      go_wp2
      go_roundg (n - (k + 1))
      case measure => omega
      case rel => exact ⟨k + 1, nq, by omega, by go_num, rfl⟩
    · have hkn : n ≤ k := by omega
      go_wp2
      go_ret
      exact ⟨rfl, _, rfl⟩
set_option maxRecDepth 10000 in
set_option maxHeartbeats 1000000 in
theorem eqSentPacket_t (x : Pk) (W0 x0 : World) :
    Calls Try.prog 112 #[.agg #[.int .i64 x.num, .int .i64 x.time, .int .i64 x.size], .agg #[.int .i64 x.num, .int .i64 x.time, .int .i64 x.size]] (grew W0 x0) fun e w' => e = .returned (.bool true) ∧ ∃ y, w' = grew W0 y := by
  go_enter Try.func112, Try.ntmps112
  go_wp2
  go_ret
  exact ⟨rfl, _, grew_of ((grew_below W0 x0).trans ((b_grow (b_alloc _ _) _).mono (grew_below W0 x0).size))⟩
set_option maxRecDepth 10000 in
set_option maxHeartbeats 1000000 in
theorem eqSentPacketS_t (A : Option Addr) (n c : Nat) (A' : Option Addr) (c' : Nat) (l : List Pk) (W0 x0 : World) (ok ok' : Nat → Prop) (h : SliceR PkR 3 W0 ok A n c l) (h' : SliceR PkR 3 W0 ok' A' n c' l) (hok : Sub ok (Old W0)) (hok' : Sub ok' (Old W0)) :
    Calls Try.prog 106 #[.slice A n c, .slice A' n c'] (grew W0 x0) fun e w' => e = .returned (.bool true) ∧ ∃ y, w' = grew W0 y := by
  have hcap := h.cap
  go_enter Try.func106, Try.ntmps106
  go_wp2_with fail
  go_loopg [5] n (fun m v wr => ∃ (k : Nat) (z : World), k + m = n ∧ v = .int .i64 (k : Int) ∧ wr = grew W0 z)
  case atStart => exact ⟨0, _, by omega, rfl, rfl⟩
  case round =>
    obtain ⟨k, z, hk, rfl, rfl⟩ := hrel
    by_cases hlt : k < n
    · obtain ⟨b, o, x, rfl, hb, hx, _, d0, d1, d2⟩ := pk_at h hlt
      obtain ⟨b', o', x', rfl, hb', hx', _, d0', d1', d2'⟩ := pk_at h' hlt
      rw [hx] at hx'
      obtain rfl := Option.some.inj hx'
      have q1 : (0 : Int) ≤ (k : Int) := by omega
      have q2 : (k : Int) < (n : Int) := by omega
      clear hx hx'
      go_wp2_with fail
      refine wp_region_calmG (by kernel_rfl) (by kernel_rfl) ?_
      repeat (go_big_quiet_step (((go_at_call 112; exact eqSentPacket_t _ W0 _))))
      refine wpQuiet_nil ?_
      intro _ hw'
      obtain ⟨nq, hw''⟩ := hw'
      subst hw''
      go_wp2
      go_roundg (n - (k + 1))
      case measure => omega
      case rel => exact ⟨k + 1, nq, by omega, by go_num, rfl⟩
    · have hkn : n ≤ k := by omega
      go_wp2
      go_ret
      exact ⟨rfl, _, rfl⟩
set_option maxRecDepth 10000 in
set_option maxHeartbeats 1000000 in
theorem eqRtt_t (x : Rt) (W0 x0 : World) :
    Calls Try.prog 84 #[.agg #[.int .i64 x.latest, .int .i64 x.least, .int .i64 x.smooth, .int .i64 x.vary], .agg #[.int .i64 x.latest, .int .i64 x.least, .int .i64 x.smooth, .int .i64 x.vary]] (grew W0 x0) fun e w' => e = .returned (.bool true) ∧ ∃ y, w' = grew W0 y := by
  go_enter Try.func84, Try.ntmps84
  go_wp2
  go_ret
  exact ⟨rfl, _, grew_of ((grew_below W0 x0).trans ((b_grow (b_alloc _ _) _).mono (grew_below W0 x0).size))⟩
set_option maxRecDepth 10000 in
set_option maxHeartbeats 1000000 in
theorem eqRttS_t (A : Option Addr) (n c : Nat) (A' : Option Addr) (c' : Nat) (l : List Rt) (W0 x0 : World) (ok ok' : Nat → Prop) (h : SliceR RtR 4 W0 ok A n c l) (h' : SliceR RtR 4 W0 ok' A' n c' l) (hok : Sub ok (Old W0)) (hok' : Sub ok' (Old W0)) :
    Calls Try.prog 38 #[.slice A n c, .slice A' n c'] (grew W0 x0) fun e w' => e = .returned (.bool true) ∧ ∃ y, w' = grew W0 y := by
  have hcap := h.cap
  go_enter Try.func38, Try.ntmps38
  go_wp2_with fail
  go_loopg [5] n (fun m v wr => ∃ (k : Nat) (z : World), k + m = n ∧ v = .int .i64 (k : Int) ∧ wr = grew W0 z)
  case atStart => exact ⟨0, _, by omega, rfl, rfl⟩
  case round =>
    obtain ⟨k, z, hk, rfl, rfl⟩ := hrel
    by_cases hlt : k < n
    · obtain ⟨b, o, x, rfl, hb, hx, _, d0, d1, d2, d3⟩ := rt_at h hlt
      obtain ⟨b', o', x', rfl, hb', hx', _, d0', d1', d2', d3'⟩ := rt_at h' hlt
      rw [hx] at hx'
      obtain rfl := Option.some.inj hx'
      have q1 : (0 : Int) ≤ (k : Int) := by omega
      have q2 : (k : Int) < (n : Int) := by omega
      clear hx hx'
      go_wp2_with fail
      refine wp_region_calmG (by kernel_rfl) (by kernel_rfl) ?_
      repeat (go_big_quiet_step (((go_at_call 84; exact eqRtt_t _ W0 _))))
      refine wpQuiet_nil ?_
      intro _ hw'
      obtain ⟨nq, hw''⟩ := hw'
      subst hw''
      go_wp2
      go_roundg (n - (k + 1))
      case measure => omega
      case rel => exact ⟨k + 1, nq, by omega, by go_num, rfl⟩
    · have hkn : n ≤ k := by omega
      go_wp2
      go_ret
      exact ⟨rfl, _, rfl⟩
set_option maxRecDepth 10000 in
set_option maxHeartbeats 1000000 in
theorem eqWindow_t (x : Wn) (W0 x0 : World) :
    Calls Try.prog 85 #[.agg #[.int .i64 x.size, .int .i64 x.thr, .int .i64 x.credit, .int .i64 x.rtt], .agg #[.int .i64 x.size, .int .i64 x.thr, .int .i64 x.credit, .int .i64 x.rtt]] (grew W0 x0) fun e w' => e = .returned (.bool true) ∧ ∃ y, w' = grew W0 y := by
  go_enter Try.func85, Try.ntmps85
  go_wp2
  go_ret
  exact ⟨rfl, _, grew_of ((grew_below W0 x0).trans ((b_grow (b_alloc _ _) _).mono (grew_below W0 x0).size))⟩
set_option maxRecDepth 10000 in
set_option maxHeartbeats 1000000 in
theorem eqWindowS_t (A : Option Addr) (n c : Nat) (A' : Option Addr) (c' : Nat) (l : List Wn) (W0 x0 : World) (ok ok' : Nat → Prop) (h : SliceR WnR 4 W0 ok A n c l) (h' : SliceR WnR 4 W0 ok' A' n c' l) (hok : Sub ok (Old W0)) (hok' : Sub ok' (Old W0)) :
    Calls Try.prog 39 #[.slice A n c, .slice A' n c'] (grew W0 x0) fun e w' => e = .returned (.bool true) ∧ ∃ y, w' = grew W0 y := by
  have hcap := h.cap
  go_enter Try.func39, Try.ntmps39
  go_wp2_with fail
  go_loopg [5] n (fun m v wr => ∃ (k : Nat) (z : World), k + m = n ∧ v = .int .i64 (k : Int) ∧ wr = grew W0 z)
  case atStart => exact ⟨0, _, by omega, rfl, rfl⟩
  case round =>
    obtain ⟨k, z, hk, rfl, rfl⟩ := hrel
    by_cases hlt : k < n
    · obtain ⟨b, o, x, rfl, hb, hx, d0, d1, d2, d3⟩ := wn_at2 h hlt
      obtain ⟨b', o', x', rfl, hb', hx', d0', d1', d2', d3'⟩ := wn_at2 h' hlt
      rw [hx] at hx'
      obtain rfl := Option.some.inj hx'
      have q1 : (0 : Int) ≤ (k : Int) := by omega
      have q2 : (k : Int) < (n : Int) := by omega
      clear hx hx'
      go_wp2_with fail
      refine wp_region_calmG (by kernel_rfl) (by kernel_rfl) ?_
      repeat (go_big_quiet_step (((go_at_call 85; exact eqWindow_t _ W0 _))))
      refine wpQuiet_nil ?_
      intro _ hw'
      obtain ⟨nq, hw''⟩ := hw'
      subst hw''
      go_wp2
      go_roundg (n - (k + 1))
      case measure => omega
      case rel => exact ⟨k + 1, nq, by omega, by go_num, rfl⟩
    · have hkn : n ≤ k := by omega
      go_wp2
      go_ret
      exact ⟨rfl, _, rfl⟩
set_option maxRecDepth 10000 in
set_option maxHeartbeats 1000000 in
theorem eqStringS_t (A : Option Addr) (n c : Nat) (A' : Option Addr) (c' : Nat) (l : List Bs) (W0 x0 : World) (ok ok' : Nat → Prop) (h : SliceR BsR 1 W0 ok A n c l) (h' : SliceR BsR 1 W0 ok' A' n c' l) (hok : Sub ok (Old W0)) (hok' : Sub ok' (Old W0)) :
    Calls Try.prog 36 #[.slice A n c, .slice A' n c'] (grew W0 x0) fun e w' => e = .returned (.bool true) ∧ ∃ y, w' = grew W0 y := by
  have hcap := h.cap
  go_enter Try.func36, Try.ntmps36
  go_wp2_with fail
  go_loopg [5] n (fun m v wr => ∃ (k : Nat) (z : World), k + m = n ∧ v = .int .i64 (k : Int) ∧ wr = grew W0 z)
  case atStart => exact ⟨0, _, by omega, rfl, rfl⟩
  case round =>
    obtain ⟨k, z, hk, rfl, rfl⟩ := hrel
    by_cases hlt : k < n
    · obtain ⟨b, o, x, rfl, hb, hx, _, d0⟩ := bs_at h hlt
      obtain ⟨b', o', x', rfl, hb', hx', _, d0'⟩ := bs_at h' hlt
      rw [hx] at hx'
      obtain rfl := Option.some.inj hx'
      have q1 : (0 : Int) ≤ (k : Int) := by omega
      have q2 : (k : Int) < (n : Int) := by omega
      clear hx hx'
      go_wp2_with fail
      refine wp_region_calmG (by kernel_rfl) (by kernel_rfl) ?_
      repeat (go_big_quiet_step (fail))
      refine wpQuiet_nil ?_
      intro _ hw'
      obtain ⟨nq, hw''⟩ := hw'
      subst hw''
      go_wp2
      go_roundg (n - (k + 1))
      case measure => omega
      case rel => exact ⟨k + 1, nq, by omega, by go_num, rfl⟩
    · have hkn : n ≤ k := by omega
      go_wp2
      go_ret
      exact ⟨rfl, _, rfl⟩
set_option maxRecDepth 10000 in
set_option maxHeartbeats 1000000 in
theorem eqPart_t (x : Pt) (W0 x0 : World) :
    Calls Try.prog 108 #[.agg #[.int .i64 x.off, .string (S x.data), .bool x.fin], .agg #[.int .i64 x.off, .string (S x.data), .bool x.fin]] (grew W0 x0) fun e w' => e = .returned (.bool true) ∧ ∃ y, w' = grew W0 y := by
  go_enter Try.func108, Try.ntmps108
  go_wp2
  go_ret
  exact ⟨rfl, _, grew_of ((grew_below W0 x0).trans ((b_grow (b_alloc _ _) _).mono (grew_below W0 x0).size))⟩
set_option maxRecDepth 10000 in
set_option maxHeartbeats 1000000 in
theorem eqCarried_t (x : Cd) (W0 x0 : World) :
    Calls Try.prog 87 #[.agg #[.int .i64 x.path, .int .i64 x.num, .int .i64 x.stream, .int .i64 x.part.off, .string (S x.part.data), .bool x.part.fin], .agg #[.int .i64 x.path, .int .i64 x.num, .int .i64 x.stream, .int .i64 x.part.off, .string (S x.part.data), .bool x.part.fin]] (grew W0 x0) fun e w' => e = .returned (.bool true) ∧ ∃ y, w' = grew W0 y := by
  obtain ⟨V, hV⟩ : ∃ V : World, V = ((grew W0 x0).alloc (.cells #[.int .i64 x.path, .int .i64 x.num, .int .i64 x.stream, .int .i64 x.part.off, .string (S x.part.data), .bool x.part.fin] 73)).alloc (.cells #[.int .i64 x.path, .int .i64 x.num, .int .i64 x.stream, .int .i64 x.part.off, .string (S x.part.data), .bool x.part.fin] 73) := ⟨_, rfl⟩
  have hbV : Below W0.heap.size W0 V := (grew_below W0 x0).trans (by rw [hV]; exact (b_grow (b_alloc _ _) _).mono (grew_below W0 x0).size)
  have u0 : V.cell? ⟨(grew W0 x0).heap.size, 0, none⟩ = some (.int .i64 x.path) := by rw [hV]; simp
  have u1 : V.cell? ⟨(grew W0 x0).heap.size, 1, none⟩ = some (.int .i64 x.num) := by rw [hV]; simp
  have u2 : V.cell? ⟨(grew W0 x0).heap.size, 2, none⟩ = some (.int .i64 x.stream) := by rw [hV]; simp
  have u3 : V.cell? ⟨(grew W0 x0).heap.size, 3, none⟩ = some (.int .i64 x.part.off) := by rw [hV]; simp
  have u4 : V.cell? ⟨(grew W0 x0).heap.size, 4, none⟩ = some (.string (S x.part.data)) := by rw [hV]; simp
  have u5 : V.cell? ⟨(grew W0 x0).heap.size, 5, none⟩ = some (.bool x.part.fin) := by rw [hV]; simp
  have v0 : V.cell? ⟨(grew W0 x0).heap.size + 1, 0, none⟩ = some (.int .i64 x.path) := by rw [hV]; simp
  have v1 : V.cell? ⟨(grew W0 x0).heap.size + 1, 1, none⟩ = some (.int .i64 x.num) := by rw [hV]; simp
  have v2 : V.cell? ⟨(grew W0 x0).heap.size + 1, 2, none⟩ = some (.int .i64 x.stream) := by rw [hV]; simp
  have v3 : V.cell? ⟨(grew W0 x0).heap.size + 1, 3, none⟩ = some (.int .i64 x.part.off) := by rw [hV]; simp
  have v4 : V.cell? ⟨(grew W0 x0).heap.size + 1, 4, none⟩ = some (.string (S x.part.data)) := by rw [hV]; simp
  have v5 : V.cell? ⟨(grew W0 x0).heap.size + 1, 5, none⟩ = some (.bool x.part.fin) := by rw [hV]; simp
  have Hout := Lib.hid (show ∀ y, ∃ z, grew V y = grew W0 z from fun y => grew_of' hbV y)
  clear hbV
  go_enter Try.func87, Try.ntmps87
  go_wp2_with fail
  rw [← hV]
  clear hV
  rw [grew_self V]
  refine (eqPart_t x.part V _).mono ?_
  rintro e _ ⟨rfl, y0, rfl⟩
  go_wp2
  go_ret
  exact ⟨rfl, Hout.out _⟩
set_option maxRecDepth 10000 in
set_option maxHeartbeats 1000000 in
theorem eqCarriedS_t (A : Option Addr) (n c : Nat) (A' : Option Addr) (c' : Nat) (l : List Cd) (W0 x0 : World) (ok ok' : Nat → Prop) (h : SliceR CdR 6 W0 ok A n c l) (h' : SliceR CdR 6 W0 ok' A' n c' l) (hok : Sub ok (Old W0)) (hok' : Sub ok' (Old W0)) :
    Calls Try.prog 41 #[.slice A n c, .slice A' n c'] (grew W0 x0) fun e w' => e = .returned (.bool true) ∧ ∃ y, w' = grew W0 y := by
  have hcap := h.cap
  go_enter Try.func41, Try.ntmps41
  go_wp2_with fail
  go_loopg [5] n (fun m v wr => ∃ (k : Nat) (z : World), k + m = n ∧ v = .int .i64 (k : Int) ∧ wr = grew W0 z)
  case atStart => exact ⟨0, _, by omega, rfl, rfl⟩
  case round =>
    obtain ⟨k, z, hk, rfl, rfl⟩ := hrel
    by_cases hlt : k < n
    · obtain ⟨b, o, x, rfl, hb, hx, _, d0, d1, d2, d3, d4, d5⟩ := cd_at h hlt
      obtain ⟨b', o', x', rfl, hb', hx', _, d0', d1', d2', d3', d4', d5'⟩ := cd_at h' hlt
      rw [hx] at hx'
      obtain rfl := Option.some.inj hx'
      have q1 : (0 : Int) ≤ (k : Int) := by omega
      have q2 : (k : Int) < (n : Int) := by omega
      clear hx hx'
      go_wp2_with fail
      refine wp_region_calmG (by kernel_rfl) (by kernel_rfl) ?_
      repeat (go_big_quiet_step (((go_at_call 87; exact eqCarried_t _ W0 _))))
      refine wpQuiet_nil ?_
      intro _ hw'
      obtain ⟨nq, hw''⟩ := hw'
      subst hw''
      go_wp2
      go_roundg (n - (k + 1))
      case measure => omega
      case rel => exact ⟨k + 1, nq, by omega, by go_num, rfl⟩
    · have hkn : n ≤ k := by omega
      go_wp2
      go_ret
      exact ⟨rfl, _, rfl⟩
set_option maxRecDepth 10000 in
set_option maxHeartbeats 1000000 in
theorem eqSend_t (x : Sd) (A1 : Option Addr) (n1 c1 : Nat) (A1' : Option Addr) (c1' : Nat) (A2 : Option Addr) (n2 c2 : Nat) (A2' : Option Addr) (c2' : Nat) (W0 x0 : World) (ok ok' : Nat → Prop) (h1 : SliceR RgR 2 W0 ok A1 n1 c1 x.acked) (h1' : SliceR RgR 2 W0 ok' A1' n1 c1' x.acked) (h2 : SliceR RgR 2 W0 ok A2 n2 c2 x.lost) (h2' : SliceR RgR 2 W0 ok' A2' n2 c2' x.lost) (hok : Sub ok (Old W0)) (hok' : Sub ok' (Old W0)) :
    Calls Try.prog 81 #[.agg #[.string (S x.data), .bool x.fin, .int .i64 x.limit, .int .i64 x.next, .slice A1 n1 c1, .slice A2 n2 c2], .agg #[.string (S x.data), .bool x.fin, .int .i64 x.limit, .int .i64 x.next, .slice A1' n1 c1', .slice A2' n2 c2']] (grew W0 x0) fun e w' => e = .returned (.bool true) ∧ ∃ y, w' = grew W0 y := by
  obtain ⟨V, hV⟩ : ∃ V : World, V = ((grew W0 x0).alloc (.cells #[.string (S x.data), .bool x.fin, .int .i64 x.limit, .int .i64 x.next, .slice A1 n1 c1, .slice A2 n2 c2] 47)).alloc (.cells #[.string (S x.data), .bool x.fin, .int .i64 x.limit, .int .i64 x.next, .slice A1' n1 c1', .slice A2' n2 c2'] 47) := ⟨_, rfl⟩
  have hbV : Below W0.heap.size W0 V := (grew_below W0 x0).trans (by rw [hV]; exact (b_grow (b_alloc _ _) _).mono (grew_below W0 x0).size)
  have u0 : V.cell? ⟨(grew W0 x0).heap.size, 0, none⟩ = some (.string (S x.data)) := by rw [hV]; simp
  have u1 : V.cell? ⟨(grew W0 x0).heap.size, 1, none⟩ = some (.bool x.fin) := by rw [hV]; simp
  have u2 : V.cell? ⟨(grew W0 x0).heap.size, 2, none⟩ = some (.int .i64 x.limit) := by rw [hV]; simp
  have u3 : V.cell? ⟨(grew W0 x0).heap.size, 3, none⟩ = some (.int .i64 x.next) := by rw [hV]; simp
  have u4 : V.cell? ⟨(grew W0 x0).heap.size, 4, none⟩ = some (.slice A1 n1 c1) := by rw [hV]; simp
  have u5 : V.cell? ⟨(grew W0 x0).heap.size, 5, none⟩ = some (.slice A2 n2 c2) := by rw [hV]; simp
  have v0 : V.cell? ⟨(grew W0 x0).heap.size + 1, 0, none⟩ = some (.string (S x.data)) := by rw [hV]; simp
  have v1 : V.cell? ⟨(grew W0 x0).heap.size + 1, 1, none⟩ = some (.bool x.fin) := by rw [hV]; simp
  have v2 : V.cell? ⟨(grew W0 x0).heap.size + 1, 2, none⟩ = some (.int .i64 x.limit) := by rw [hV]; simp
  have v3 : V.cell? ⟨(grew W0 x0).heap.size + 1, 3, none⟩ = some (.int .i64 x.next) := by rw [hV]; simp
  have v4 : V.cell? ⟨(grew W0 x0).heap.size + 1, 4, none⟩ = some (.slice A1' n1 c1') := by rw [hV]; simp
  have v5 : V.cell? ⟨(grew W0 x0).heap.size + 1, 5, none⟩ = some (.slice A2' n2 c2') := by rw [hV]; simp
  have k1 := h1.below rgCar hok hbV (Nat.le_refl _)
  have k1' := h1'.below rgCar hok' hbV (Nat.le_refl _)
  have k2 := h2.below rgCar hok hbV (Nat.le_refl _)
  have k2' := h2'.below rgCar hok' hbV (Nat.le_refl _)
  have okV : Sub ok (Old V) := hok.old hbV.size
  have okV' : Sub ok' (Old V) := hok'.old hbV.size
  have Hout := Lib.hid (show ∀ y, ∃ z, grew V y = grew W0 z from fun y => grew_of' hbV y)
  clear hbV h1 h1' h2 h2'
  go_enter Try.func81, Try.ntmps81
  go_wp2_with fail
  rw [← hV]
  clear hV
  rw [grew_self V]
  refine (eqRangeS_t _ _ _ _ _ x.acked V _ _ _ k1 k1' okV okV').mono ?_
  rintro e _ ⟨rfl, y0, rfl⟩
  go_wp2_with fail
  refine (eqRangeS_t _ _ _ _ _ x.lost V _ _ _ k2 k2' okV okV').mono ?_
  rintro e _ ⟨rfl, y1, rfl⟩
  go_wp2
  go_ret
  exact ⟨rfl, Hout.out _⟩
set_option maxRecDepth 10000 in
set_option maxHeartbeats 1000000 in
theorem eqSendS_t (A : Option Addr) (n c : Nat) (A' : Option Addr) (c' : Nat) (l : List Sd) (W0 x0 : World) (ok ok' : Nat → Prop) (h : SliceR SdR 6 W0 ok A n c l) (h' : SliceR SdR 6 W0 ok' A' n c' l) (hok : Sub ok (Old W0)) (hok' : Sub ok' (Old W0)) :
    Calls Try.prog 34 #[.slice A n c, .slice A' n c'] (grew W0 x0) fun e w' => e = .returned (.bool true) ∧ ∃ y, w' = grew W0 y := by
  have hcap := h.cap
  go_enter Try.func34, Try.ntmps34
  go_wp2_with fail
  go_loopg [5] n (fun m v wr => ∃ (k : Nat) (z : World), k + m = n ∧ v = .int .i64 (k : Int) ∧ wr = grew W0 z)
  case atStart => exact ⟨0, _, by omega, rfl, rfl⟩
  case round =>
    obtain ⟨k, z, hk, rfl, rfl⟩ := hrel
    by_cases hlt : k < n
    · obtain ⟨b, o, x, A1, n1, c1, A2, n2, c2, rfl, hb, hx, _, r1, r2, d0, d1, d2, d3, d4, d5⟩ := sd_at h hlt
      obtain ⟨b', o', x', A1', n1', c1', A2', n2', c2', rfl, hb', hx', _, r1', r2', d0', d1', d2', d3', d4', d5'⟩ := sd_at h' hlt
      rw [hx] at hx'
      obtain rfl := Option.some.inj hx'
      obtain rfl : n1' = n1 := by rw [← r1.len, ← r1'.len]
      obtain rfl : n2' = n2 := by rw [← r2.len, ← r2'.len]
      have q1 : (0 : Int) ≤ (k : Int) := by omega
      have q2 : (k : Int) < (n : Int) := by omega
      clear hx hx'
      go_wp2_with fail
      refine wp_region_calmG (by kernel_rfl) (by kernel_rfl) ?_
      repeat (go_big_quiet_step (((go_at_call 81; exact eqSend_t _ _ _ _ _ _ _ _ _ _ _ W0 _ _ _ r1 r1' r2 r2' hok hok'))))
      refine wpQuiet_nil ?_
      intro _ hw'
      obtain ⟨nq, hw''⟩ := hw'
      subst hw''
      go_wp2
      go_roundg (n - (k + 1))
      case measure => omega
      case rel => exact ⟨k + 1, nq, by omega, by go_num, rfl⟩
    · have hkn : n ≤ k := by omega
      go_wp2
      go_ret
      exact ⟨rfl, _, rfl⟩
set_option maxRecDepth 10000 in
set_option maxHeartbeats 1000000 in
theorem eqRecv_t (x : Rv) (A1 : Option Addr) (n1 c1 : Nat) (A1' : Option Addr) (c1' : Nat) (W0 x0 : World) (ok ok' : Nat → Prop) (h1 : SliceR PcR 2 W0 ok A1 n1 c1 x.pieces) (h1' : SliceR PcR 2 W0 ok' A1' n1 c1' x.pieces) (hok : Sub ok (Old W0)) (hok' : Sub ok' (Old W0)) :
    Calls Try.prog 82 #[.agg #[.int .i64 x.read, .slice A1 n1 c1, .int .i64 x.final, .int .i64 x.limit], .agg #[.int .i64 x.read, .slice A1' n1 c1', .int .i64 x.final, .int .i64 x.limit]] (grew W0 x0) fun e w' => e = .returned (.bool true) ∧ ∃ y, w' = grew W0 y := by
  obtain ⟨V, hV⟩ : ∃ V : World, V = ((grew W0 x0).alloc (.cells #[.int .i64 x.read, .slice A1 n1 c1, .int .i64 x.final, .int .i64 x.limit] 52)).alloc (.cells #[.int .i64 x.read, .slice A1' n1 c1', .int .i64 x.final, .int .i64 x.limit] 52) := ⟨_, rfl⟩
  have hbV : Below W0.heap.size W0 V := (grew_below W0 x0).trans (by rw [hV]; exact (b_grow (b_alloc _ _) _).mono (grew_below W0 x0).size)
  have u0 : V.cell? ⟨(grew W0 x0).heap.size, 0, none⟩ = some (.int .i64 x.read) := by rw [hV]; simp
  have u1 : V.cell? ⟨(grew W0 x0).heap.size, 1, none⟩ = some (.slice A1 n1 c1) := by rw [hV]; simp
  have u2 : V.cell? ⟨(grew W0 x0).heap.size, 2, none⟩ = some (.int .i64 x.final) := by rw [hV]; simp
  have u3 : V.cell? ⟨(grew W0 x0).heap.size, 3, none⟩ = some (.int .i64 x.limit) := by rw [hV]; simp
  have v0 : V.cell? ⟨(grew W0 x0).heap.size + 1, 0, none⟩ = some (.int .i64 x.read) := by rw [hV]; simp
  have v1 : V.cell? ⟨(grew W0 x0).heap.size + 1, 1, none⟩ = some (.slice A1' n1 c1') := by rw [hV]; simp
  have v2 : V.cell? ⟨(grew W0 x0).heap.size + 1, 2, none⟩ = some (.int .i64 x.final) := by rw [hV]; simp
  have v3 : V.cell? ⟨(grew W0 x0).heap.size + 1, 3, none⟩ = some (.int .i64 x.limit) := by rw [hV]; simp
  have k1 := h1.below pcCar hok hbV (Nat.le_refl _)
  have k1' := h1'.below pcCar hok' hbV (Nat.le_refl _)
  have okV : Sub ok (Old V) := hok.old hbV.size
  have okV' : Sub ok' (Old V) := hok'.old hbV.size
  have Hout := Lib.hid (show ∀ y, ∃ z, grew V y = grew W0 z from fun y => grew_of' hbV y)
  clear hbV h1 h1'
  go_enter Try.func82, Try.ntmps82
  go_wp2_with fail
  rw [← hV]
  clear hV
  rw [grew_self V]
  refine (eqPieceS_t _ _ _ _ _ x.pieces V _ _ _ k1 k1' okV okV').mono ?_
  rintro e _ ⟨rfl, y0, rfl⟩
  go_wp2
  go_ret
  exact ⟨rfl, Hout.out _⟩
set_option maxRecDepth 10000 in
set_option maxHeartbeats 1000000 in
theorem eqRecvS_t (A : Option Addr) (n c : Nat) (A' : Option Addr) (c' : Nat) (l : List Rv) (W0 x0 : World) (ok ok' : Nat → Prop) (h : SliceR RvR 4 W0 ok A n c l) (h' : SliceR RvR 4 W0 ok' A' n c' l) (hok : Sub ok (Old W0)) (hok' : Sub ok' (Old W0)) :
    Calls Try.prog 35 #[.slice A n c, .slice A' n c'] (grew W0 x0) fun e w' => e = .returned (.bool true) ∧ ∃ y, w' = grew W0 y := by
  have hcap := h.cap
  go_enter Try.func35, Try.ntmps35
  go_wp2_with fail
  go_loopg [5] n (fun m v wr => ∃ (k : Nat) (z : World), k + m = n ∧ v = .int .i64 (k : Int) ∧ wr = grew W0 z)
  case atStart => exact ⟨0, _, by omega, rfl, rfl⟩
  case round =>
    obtain ⟨k, z, hk, rfl, rfl⟩ := hrel
    by_cases hlt : k < n
    · obtain ⟨b, o, x, A1, n1, c1, rfl, hb, hx, _, r1, d0, d1, d2, d3⟩ := rv_at h hlt
      obtain ⟨b', o', x', A1', n1', c1', rfl, hb', hx', _, r1', d0', d1', d2', d3'⟩ := rv_at h' hlt
      rw [hx] at hx'
      obtain rfl := Option.some.inj hx'
      obtain rfl : n1' = n1 := by rw [← r1.len, ← r1'.len]
      have q1 : (0 : Int) ≤ (k : Int) := by omega
      have q2 : (k : Int) < (n : Int) := by omega
      clear hx hx'
      go_wp2_with fail
      refine wp_region_calmG (by kernel_rfl) (by kernel_rfl) ?_
      repeat (go_big_quiet_step (((go_at_call 82; exact eqRecv_t _ _ _ _ _ _ W0 _ _ _ r1 r1' hok hok'))))
      refine wpQuiet_nil ?_
      intro _ hw'
      obtain ⟨nq, hw''⟩ := hw'
      subst hw''
      go_wp2
      go_roundg (n - (k + 1))
      case measure => omega
      case rel => exact ⟨k + 1, nq, by omega, by go_num, rfl⟩
    · have hkn : n ≤ k := by omega
      go_wp2
      go_ret
      exact ⟨rfl, _, rfl⟩
set_option maxRecDepth 10000 in
set_option maxHeartbeats 1000000 in
theorem eqLoss_t (x : Ls) (A1 : Option Addr) (n1 c1 : Nat) (A1' : Option Addr) (c1' : Nat) (W0 x0 : World) (ok ok' : Nat → Prop) (h1 : SliceR PkR 3 W0 ok A1 n1 c1 x.flight) (h1' : SliceR PkR 3 W0 ok' A1' n1 c1' x.flight) (hok : Sub ok (Old W0)) (hok' : Sub ok' (Old W0)) :
    Calls Try.prog 83 #[.agg #[.int .i64 x.next, .slice A1 n1 c1, .int .i64 x.largest], .agg #[.int .i64 x.next, .slice A1' n1 c1', .int .i64 x.largest]] (grew W0 x0) fun e w' => e = .returned (.bool true) ∧ ∃ y, w' = grew W0 y := by
  obtain ⟨V, hV⟩ : ∃ V : World, V = ((grew W0 x0).alloc (.cells #[.int .i64 x.next, .slice A1 n1 c1, .int .i64 x.largest] 57)).alloc (.cells #[.int .i64 x.next, .slice A1' n1 c1', .int .i64 x.largest] 57) := ⟨_, rfl⟩
  have hbV : Below W0.heap.size W0 V := (grew_below W0 x0).trans (by rw [hV]; exact (b_grow (b_alloc _ _) _).mono (grew_below W0 x0).size)
  have u0 : V.cell? ⟨(grew W0 x0).heap.size, 0, none⟩ = some (.int .i64 x.next) := by rw [hV]; simp
  have u1 : V.cell? ⟨(grew W0 x0).heap.size, 1, none⟩ = some (.slice A1 n1 c1) := by rw [hV]; simp
  have u2 : V.cell? ⟨(grew W0 x0).heap.size, 2, none⟩ = some (.int .i64 x.largest) := by rw [hV]; simp
  have v0 : V.cell? ⟨(grew W0 x0).heap.size + 1, 0, none⟩ = some (.int .i64 x.next) := by rw [hV]; simp
  have v1 : V.cell? ⟨(grew W0 x0).heap.size + 1, 1, none⟩ = some (.slice A1' n1 c1') := by rw [hV]; simp
  have v2 : V.cell? ⟨(grew W0 x0).heap.size + 1, 2, none⟩ = some (.int .i64 x.largest) := by rw [hV]; simp
  have k1 := h1.below pkCar hok hbV (Nat.le_refl _)
  have k1' := h1'.below pkCar hok' hbV (Nat.le_refl _)
  have okV : Sub ok (Old V) := hok.old hbV.size
  have okV' : Sub ok' (Old V) := hok'.old hbV.size
  have Hout := Lib.hid (show ∀ y, ∃ z, grew V y = grew W0 z from fun y => grew_of' hbV y)
  clear hbV h1 h1'
  go_enter Try.func83, Try.ntmps83
  go_wp2_with fail
  rw [← hV]
  clear hV
  rw [grew_self V]
  refine (eqSentPacketS_t _ _ _ _ _ x.flight V _ _ _ k1 k1' okV okV').mono ?_
  rintro e _ ⟨rfl, y0, rfl⟩
  go_wp2
  go_ret
  exact ⟨rfl, Hout.out _⟩
set_option maxRecDepth 10000 in
set_option maxHeartbeats 1000000 in
theorem eqLossS_t (A : Option Addr) (n c : Nat) (A' : Option Addr) (c' : Nat) (l : List Ls) (W0 x0 : World) (ok ok' : Nat → Prop) (h : SliceR LsR 3 W0 ok A n c l) (h' : SliceR LsR 3 W0 ok' A' n c' l) (hok : Sub ok (Old W0)) (hok' : Sub ok' (Old W0)) :
    Calls Try.prog 37 #[.slice A n c, .slice A' n c'] (grew W0 x0) fun e w' => e = .returned (.bool true) ∧ ∃ y, w' = grew W0 y := by
  have hcap := h.cap
  go_enter Try.func37, Try.ntmps37
  go_wp2_with fail
  go_loopg [5] n (fun m v wr => ∃ (k : Nat) (z : World), k + m = n ∧ v = .int .i64 (k : Int) ∧ wr = grew W0 z)
  case atStart => exact ⟨0, _, by omega, rfl, rfl⟩
  case round =>
    obtain ⟨k, z, hk, rfl, rfl⟩ := hrel
    by_cases hlt : k < n
    · obtain ⟨b, o, x, A1, n1, c1, rfl, hb, hx, _, r1, d0, d1, d2⟩ := ls_at h hlt
      obtain ⟨b', o', x', A1', n1', c1', rfl, hb', hx', _, r1', d0', d1', d2'⟩ := ls_at h' hlt
      rw [hx] at hx'
      obtain rfl := Option.some.inj hx'
      obtain rfl : n1' = n1 := by rw [← r1.len, ← r1'.len]
      have q1 : (0 : Int) ≤ (k : Int) := by omega
      have q2 : (k : Int) < (n : Int) := by omega
      clear hx hx'
      go_wp2_with fail
      refine wp_region_calmG (by kernel_rfl) (by kernel_rfl) ?_
      repeat (go_big_quiet_step (((go_at_call 83; exact eqLoss_t _ _ _ _ _ _ W0 _ _ _ r1 r1' hok hok'))))
      refine wpQuiet_nil ?_
      intro _ hw'
      obtain ⟨nq, hw''⟩ := hw'
      subst hw''
      go_wp2
      go_roundg (n - (k + 1))
      case measure => omega
      case rel => exact ⟨k + 1, nq, by omega, by go_num, rfl⟩
    · have hkn : n ≤ k := by omega
      go_wp2
      go_ret
      exact ⟨rfl, _, rfl⟩
set_option maxRecDepth 10000 in
set_option maxHeartbeats 1000000 in
theorem eqRangeSS_t (A : Option Addr) (n c : Nat) (A' : Option Addr) (c' : Nat) (l : List (List Rg)) (W0 x0 : World) (ok ok' : Nat → Prop) (h : SliceR SnR 1 W0 ok A n c l) (h' : SliceR SnR 1 W0 ok' A' n c' l) (hok : Sub ok (Old W0)) (hok' : Sub ok' (Old W0)) :
    Calls Try.prog 40 #[.slice A n c, .slice A' n c'] (grew W0 x0) fun e w' => e = .returned (.bool true) ∧ ∃ y, w' = grew W0 y := by
  have hcap := h.cap
  go_enter Try.func40, Try.ntmps40
  go_wp2_with fail
  go_loopg [5] n (fun m v wr => ∃ (k : Nat) (z : World), k + m = n ∧ v = .int .i64 (k : Int) ∧ wr = grew W0 z)
  case atStart => exact ⟨0, _, by omega, rfl, rfl⟩
  case round =>
    obtain ⟨k, z, hk, rfl, rfl⟩ := hrel
    by_cases hlt : k < n
    · obtain ⟨b, o, x, A1, n1, c1, rfl, hb, hx, r1, d0⟩ := sn_at h hlt
      obtain ⟨b', o', x', A1', n1', c1', rfl, hb', hx', r1', d0'⟩ := sn_at h' hlt
      rw [hx] at hx'
      obtain rfl := Option.some.inj hx'
      obtain rfl : n1' = n1 := by rw [← r1.len, ← r1'.len]
      have q1 : (0 : Int) ≤ (k : Int) := by omega
      have q2 : (k : Int) < (n : Int) := by omega
      clear hx hx'
      go_wp2_with fail
      refine wp_region_calmG (by kernel_rfl) (by kernel_rfl) ?_
      repeat (go_big_quiet_step (((go_at_call 86; exact eqRangeS_t _ _ _ _ _ _ W0 _ _ _ r1 r1' hok hok'))))
      refine wpQuiet_nil ?_
      intro _ hw'
      obtain ⟨nq, hw''⟩ := hw'
      subst hw''
      go_wp2
      go_roundg (n - (k + 1))
      case measure => omega
      case rel => exact ⟨k + 1, nq, by omega, by go_num, rfl⟩
    · have hkn : n ≤ k := by omega
      go_wp2
      go_ret
      exact ⟨rfl, _, rfl⟩
set_option maxRecDepth 10000 in
set_option maxHeartbeats 1000000 in
theorem eqFrame_t (x : Fm) (A1 : Option Addr) (n1 c1 : Nat) (A1' : Option Addr) (c1' : Nat) (W0 x0 : World) (ok ok' : Nat → Prop) (h1 : SliceR RgR 2 W0 ok A1 n1 c1 x.ranges) (h1' : SliceR RgR 2 W0 ok' A1' n1 c1' x.ranges) (hok : Sub ok (Old W0)) (hok' : Sub ok' (Old W0)) :
    Calls Try.prog 109 #[.agg #[.int .i64 x.kind, .int .i64 x.a, .int .i64 x.b, .int .i64 x.c, .string (S x.data), .slice A1 n1 c1], .agg #[.int .i64 x.kind, .int .i64 x.a, .int .i64 x.b, .int .i64 x.c, .string (S x.data), .slice A1' n1 c1']] (grew W0 x0) fun e w' => e = .returned (.bool true) ∧ ∃ y, w' = grew W0 y := by
  obtain ⟨V, hV⟩ : ∃ V : World, V = ((grew W0 x0).alloc (.cells #[.int .i64 x.kind, .int .i64 x.a, .int .i64 x.b, .int .i64 x.c, .string (S x.data), .slice A1 n1 c1] 79)).alloc (.cells #[.int .i64 x.kind, .int .i64 x.a, .int .i64 x.b, .int .i64 x.c, .string (S x.data), .slice A1' n1 c1'] 79) := ⟨_, rfl⟩
  have hbV : Below W0.heap.size W0 V := (grew_below W0 x0).trans (by rw [hV]; exact (b_grow (b_alloc _ _) _).mono (grew_below W0 x0).size)
  have u0 : V.cell? ⟨(grew W0 x0).heap.size, 0, none⟩ = some (.int .i64 x.kind) := by rw [hV]; simp
  have u1 : V.cell? ⟨(grew W0 x0).heap.size, 1, none⟩ = some (.int .i64 x.a) := by rw [hV]; simp
  have u2 : V.cell? ⟨(grew W0 x0).heap.size, 2, none⟩ = some (.int .i64 x.b) := by rw [hV]; simp
  have u3 : V.cell? ⟨(grew W0 x0).heap.size, 3, none⟩ = some (.int .i64 x.c) := by rw [hV]; simp
  have u4 : V.cell? ⟨(grew W0 x0).heap.size, 4, none⟩ = some (.string (S x.data)) := by rw [hV]; simp
  have u5 : V.cell? ⟨(grew W0 x0).heap.size, 5, none⟩ = some (.slice A1 n1 c1) := by rw [hV]; simp
  have v0 : V.cell? ⟨(grew W0 x0).heap.size + 1, 0, none⟩ = some (.int .i64 x.kind) := by rw [hV]; simp
  have v1 : V.cell? ⟨(grew W0 x0).heap.size + 1, 1, none⟩ = some (.int .i64 x.a) := by rw [hV]; simp
  have v2 : V.cell? ⟨(grew W0 x0).heap.size + 1, 2, none⟩ = some (.int .i64 x.b) := by rw [hV]; simp
  have v3 : V.cell? ⟨(grew W0 x0).heap.size + 1, 3, none⟩ = some (.int .i64 x.c) := by rw [hV]; simp
  have v4 : V.cell? ⟨(grew W0 x0).heap.size + 1, 4, none⟩ = some (.string (S x.data)) := by rw [hV]; simp
  have v5 : V.cell? ⟨(grew W0 x0).heap.size + 1, 5, none⟩ = some (.slice A1' n1 c1') := by rw [hV]; simp
  have k1 := h1.below rgCar hok hbV (Nat.le_refl _)
  have k1' := h1'.below rgCar hok' hbV (Nat.le_refl _)
  have okV : Sub ok (Old V) := hok.old hbV.size
  have okV' : Sub ok' (Old V) := hok'.old hbV.size
  have Hout := Lib.hid (show ∀ y, ∃ z, grew V y = grew W0 z from fun y => grew_of' hbV y)
  clear hbV h1 h1'
  go_enter Try.func109, Try.ntmps109
  go_wp2_with fail
  rw [← hV]
  clear hV
  rw [grew_self V]
  refine (eqRangeS_t _ _ _ _ _ x.ranges V _ _ _ k1 k1' okV okV').mono ?_
  rintro e _ ⟨rfl, y0, rfl⟩
  go_wp2
  go_ret
  exact ⟨rfl, Hout.out _⟩
set_option maxRecDepth 10000 in
set_option maxHeartbeats 1000000 in
theorem eqWire_t (x : Wi) (A1 : Option Addr) (n1 c1 : Nat) (A1' : Option Addr) (c1' : Nat) (W0 x0 : World) (ok ok' : Nat → Prop) (h1 : SliceR RgR 2 W0 ok A1 n1 c1 x.frame.ranges) (h1' : SliceR RgR 2 W0 ok' A1' n1 c1' x.frame.ranges) (hok : Sub ok (Old W0)) (hok' : Sub ok' (Old W0)) :
    Calls Try.prog 88 #[.agg #[.int .i64 x.path, .int .i64 x.num, .int .i64 x.frame.kind, .int .i64 x.frame.a, .int .i64 x.frame.b, .int .i64 x.frame.c, .string (S x.frame.data), .slice A1 n1 c1, .bool x.genuine], .agg #[.int .i64 x.path, .int .i64 x.num, .int .i64 x.frame.kind, .int .i64 x.frame.a, .int .i64 x.frame.b, .int .i64 x.frame.c, .string (S x.frame.data), .slice A1' n1 c1', .bool x.genuine]] (grew W0 x0) fun e w' => e = .returned (.bool true) ∧ ∃ y, w' = grew W0 y := by
  obtain ⟨V, hV⟩ : ∃ V : World, V = ((grew W0 x0).alloc (.cells #[.int .i64 x.path, .int .i64 x.num, .int .i64 x.frame.kind, .int .i64 x.frame.a, .int .i64 x.frame.b, .int .i64 x.frame.c, .string (S x.frame.data), .slice A1 n1 c1, .bool x.genuine] 81)).alloc (.cells #[.int .i64 x.path, .int .i64 x.num, .int .i64 x.frame.kind, .int .i64 x.frame.a, .int .i64 x.frame.b, .int .i64 x.frame.c, .string (S x.frame.data), .slice A1' n1 c1', .bool x.genuine] 81) := ⟨_, rfl⟩
  have hbV : Below W0.heap.size W0 V := (grew_below W0 x0).trans (by rw [hV]; exact (b_grow (b_alloc _ _) _).mono (grew_below W0 x0).size)
  have u0 : V.cell? ⟨(grew W0 x0).heap.size, 0, none⟩ = some (.int .i64 x.path) := by rw [hV]; simp
  have u1 : V.cell? ⟨(grew W0 x0).heap.size, 1, none⟩ = some (.int .i64 x.num) := by rw [hV]; simp
  have u2 : V.cell? ⟨(grew W0 x0).heap.size, 2, none⟩ = some (.int .i64 x.frame.kind) := by rw [hV]; simp
  have u3 : V.cell? ⟨(grew W0 x0).heap.size, 3, none⟩ = some (.int .i64 x.frame.a) := by rw [hV]; simp
  have u4 : V.cell? ⟨(grew W0 x0).heap.size, 4, none⟩ = some (.int .i64 x.frame.b) := by rw [hV]; simp
  have u5 : V.cell? ⟨(grew W0 x0).heap.size, 5, none⟩ = some (.int .i64 x.frame.c) := by rw [hV]; simp
  have u6 : V.cell? ⟨(grew W0 x0).heap.size, 6, none⟩ = some (.string (S x.frame.data)) := by rw [hV]; simp
  have u7 : V.cell? ⟨(grew W0 x0).heap.size, 7, none⟩ = some (.slice A1 n1 c1) := by rw [hV]; simp
  have u8 : V.cell? ⟨(grew W0 x0).heap.size, 8, none⟩ = some (.bool x.genuine) := by rw [hV]; simp
  have v0 : V.cell? ⟨(grew W0 x0).heap.size + 1, 0, none⟩ = some (.int .i64 x.path) := by rw [hV]; simp
  have v1 : V.cell? ⟨(grew W0 x0).heap.size + 1, 1, none⟩ = some (.int .i64 x.num) := by rw [hV]; simp
  have v2 : V.cell? ⟨(grew W0 x0).heap.size + 1, 2, none⟩ = some (.int .i64 x.frame.kind) := by rw [hV]; simp
  have v3 : V.cell? ⟨(grew W0 x0).heap.size + 1, 3, none⟩ = some (.int .i64 x.frame.a) := by rw [hV]; simp
  have v4 : V.cell? ⟨(grew W0 x0).heap.size + 1, 4, none⟩ = some (.int .i64 x.frame.b) := by rw [hV]; simp
  have v5 : V.cell? ⟨(grew W0 x0).heap.size + 1, 5, none⟩ = some (.int .i64 x.frame.c) := by rw [hV]; simp
  have v6 : V.cell? ⟨(grew W0 x0).heap.size + 1, 6, none⟩ = some (.string (S x.frame.data)) := by rw [hV]; simp
  have v7 : V.cell? ⟨(grew W0 x0).heap.size + 1, 7, none⟩ = some (.slice A1' n1 c1') := by rw [hV]; simp
  have v8 : V.cell? ⟨(grew W0 x0).heap.size + 1, 8, none⟩ = some (.bool x.genuine) := by rw [hV]; simp
  have k1 := h1.below rgCar hok hbV (Nat.le_refl _)
  have k1' := h1'.below rgCar hok' hbV (Nat.le_refl _)
  have okV : Sub ok (Old V) := hok.old hbV.size
  have okV' : Sub ok' (Old V) := hok'.old hbV.size
  have Hout := Lib.hid (show ∀ y, ∃ z, grew V y = grew W0 z from fun y => grew_of' hbV y)
  clear hbV h1 h1'
  go_enter Try.func88, Try.ntmps88
  go_wp2_with fail
  rw [← hV]
  clear hV
  rw [grew_self V]
  refine (eqFrame_t x.frame _ _ _ _ _ V _ _ _ k1 k1' okV okV').mono ?_
  rintro e _ ⟨rfl, y0, rfl⟩
  go_wp2
  go_ret
  exact ⟨rfl, Hout.out _⟩
set_option maxRecDepth 10000 in
set_option maxHeartbeats 1000000 in
theorem eqWireS_t (A : Option Addr) (n c : Nat) (A' : Option Addr) (c' : Nat) (l : List Wi) (W0 x0 : World) (ok ok' : Nat → Prop) (h : SliceR WiR 9 W0 ok A n c l) (h' : SliceR WiR 9 W0 ok' A' n c' l) (hok : Sub ok (Old W0)) (hok' : Sub ok' (Old W0)) :
    Calls Try.prog 42 #[.slice A n c, .slice A' n c'] (grew W0 x0) fun e w' => e = .returned (.bool true) ∧ ∃ y, w' = grew W0 y := by
  have hcap := h.cap
  go_enter Try.func42, Try.ntmps42
  go_wp2_with fail
  go_loopg [5] n (fun m v wr => ∃ (k : Nat) (z : World), k + m = n ∧ v = .int .i64 (k : Int) ∧ wr = grew W0 z)
  case atStart => exact ⟨0, _, by omega, rfl, rfl⟩
  case round =>
    obtain ⟨k, z, hk, rfl, rfl⟩ := hrel
    by_cases hlt : k < n
    · obtain ⟨b, o, x, A1, n1, c1, rfl, hb, hx, _, _, r1, d0, d1, d2, d3, d4, d5, d6, d7, d8⟩ := wi_at h hlt
      obtain ⟨b', o', x', A1', n1', c1', rfl, hb', hx', _, _, r1', d0', d1', d2', d3', d4', d5', d6', d7', d8'⟩ := wi_at h' hlt
      rw [hx] at hx'
      obtain rfl := Option.some.inj hx'
      obtain rfl : n1' = n1 := by rw [← r1.len, ← r1'.len]
      have q1 : (0 : Int) ≤ (k : Int) := by omega
      have q2 : (k : Int) < (n : Int) := by omega
      clear hx hx'
      go_wp2_with fail
      refine wp_region_calmG (by kernel_rfl) (by kernel_rfl) ?_
      repeat (go_big_quiet_step (((go_at_call 88; exact eqWire_t _ _ _ _ _ _ W0 _ _ _ r1 r1' hok hok'))))
      refine wpQuiet_nil ?_
      intro _ hw'
      obtain ⟨nq, hw''⟩ := hw'
      subst hw''
      go_wp2
      go_roundg (n - (k + 1))
      case measure => omega
      case rel => exact ⟨k + 1, nq, by omega, by go_num, rfl⟩
    · have hkn : n ≤ k := by omega
      go_wp2
      go_ret
      exact ⟨rfl, _, rfl⟩
end Go.Proofs.Ytjpaoadbgmmoeaa
