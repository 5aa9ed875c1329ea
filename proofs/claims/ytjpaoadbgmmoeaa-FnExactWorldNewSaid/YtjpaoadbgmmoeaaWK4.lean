/- The laws' comparison eqWorld of two runs: two that read as the same data are found the same. Condition: they do. -/
import Derived.Test.YtjpaoadbgmmoeaaWK2
namespace Go.Proofs.Ytjpaoadbgmmoeaa
open Go.RowKit

set_option maxRecDepth 10000 in
set_option maxHeartbeats 4000000 in
theorem eqWorld_t (h g : Hd) (W : Wd) (w : World) (ok ok' : Nat → Prop) (hh : WdH w ok h W) (hg : WdH w ok' g W) (hok : Sub ok (Old w)) (hok' : Sub ok' (Old w)) :
    Calls Try.prog 10 #[h.agg W.now, g.agg W.now] w fun e w' => e = .returned (.bool true) ∧ Below w.heap.size w w' := by
  unfold Hd.agg
  obtain ⟨V, hV⟩ : ∃ V : World, V = (w.alloc (.cells #[.int .i64 W.now, .slice h.A1 h.n1 h.c1, .slice h.A2 h.n2 h.c2, .slice h.A3 h.n3 h.c3, .slice h.A4 h.n4 h.c4, .slice h.A5 h.n5 h.c5, .slice h.A6 h.n6 h.c6, .slice h.A7 h.n7 h.c7, .slice h.A8 h.n8 h.c8, .slice h.A9 h.n9 h.c9] 34)).alloc (.cells #[.int .i64 W.now, .slice g.A1 g.n1 g.c1, .slice g.A2 g.n2 g.c2, .slice g.A3 g.n3 g.c3, .slice g.A4 g.n4 g.c4, .slice g.A5 g.n5 g.c5, .slice g.A6 g.n6 g.c6, .slice g.A7 g.n7 g.c7, .slice g.A8 g.n8 g.c8, .slice g.A9 g.n9 g.c9] 34) := ⟨_, rfl⟩
  have hbV : Below w.heap.size w V := by rw [hV]; exact b_grow (b_alloc _ _) _
  have at1 : AtP V w.heap.size h W.now := by rw [hV]; exact (atP_alloc w h W.now _).below (b_alloc _ _)
  have at2 : AtP V (w.heap.size + 1) g W.now := by rw [hV]; have := atP_alloc (w.alloc (.cells #[.int .i64 W.now, .slice h.A1 h.n1 h.c1, .slice h.A2 h.n2 h.c2, .slice h.A3 h.n3 h.c3, .slice h.A4 h.n4 h.c4, .slice h.A5 h.n5 h.c5, .slice h.A6 h.n6 h.c6, .slice h.A7 h.n7 h.c7, .slice h.A8 h.n8 h.c8, .slice h.A9 h.n9 h.c9] 34)) g W.now 34; rw [World.size_alloc] at this; exact this
  have okV : Sub ok (Old V) := hok.old hbV.size
  have okV' : Sub ok' (Old V) := hok'.old hbV.size
  have hhV := hh.car (Car.below hok hbV)
  have hgV := hg.car (Car.below hok' hbV)
  have u0 := at1.2 0 _ rfl
  have v0 := at2.2 0 _ rfl
  obtain ⟨A1, N1, C1, E1⟩ : ∃ A N C, V.cell? ⟨w.heap.size, 1, none⟩ = some (.slice A N C) ∧ SliceR SdR 6 V ok A N C W.sends ∧ N = h.n1 := ⟨_, _, _, at1.2 1 _ rfl, hhV.sends, rfl⟩
  obtain ⟨B1, D1, E1'⟩ : ∃ A C, V.cell? ⟨w.heap.size + 1, 1, none⟩ = some (.slice A N1 C) ∧ SliceR SdR 6 V ok' A N1 C W.sends := ⟨g.A1, g.c1, by rw [E1.2.2, ← hhV.sends.len, hgV.sends.len]; exact at2.2 1 _ rfl, by have := hgV.sends; rw [E1.2.2, ← hhV.sends.len, hgV.sends.len]; exact this⟩
  have a1 := E1.1
  have a1' := E1'.1
  have s1 := E1.2.1
  have s1' := E1'.2
  clear E1 E1'
  obtain ⟨A2, N2, C2, E2⟩ : ∃ A N C, V.cell? ⟨w.heap.size, 2, none⟩ = some (.slice A N C) ∧ SliceR RvR 4 V ok A N C W.recvs ∧ N = h.n2 := ⟨_, _, _, at1.2 2 _ rfl, hhV.recvs, rfl⟩
  obtain ⟨B2, D2, E2'⟩ : ∃ A C, V.cell? ⟨w.heap.size + 1, 2, none⟩ = some (.slice A N2 C) ∧ SliceR RvR 4 V ok' A N2 C W.recvs := ⟨g.A2, g.c2, by rw [E2.2.2, ← hhV.recvs.len, hgV.recvs.len]; exact at2.2 2 _ rfl, by have := hgV.recvs; rw [E2.2.2, ← hhV.recvs.len, hgV.recvs.len]; exact this⟩
  have a2 := E2.1
  have a2' := E2'.1
  have s2 := E2.2.1
  have s2' := E2'.2
  clear E2 E2'
  obtain ⟨A3, N3, C3, E3⟩ : ∃ A N C, V.cell? ⟨w.heap.size, 3, none⟩ = some (.slice A N C) ∧ SliceR BsR 1 V ok A N C W.got ∧ N = h.n3 := ⟨_, _, _, at1.2 3 _ rfl, hhV.got, rfl⟩
  obtain ⟨B3, D3, E3'⟩ : ∃ A C, V.cell? ⟨w.heap.size + 1, 3, none⟩ = some (.slice A N3 C) ∧ SliceR BsR 1 V ok' A N3 C W.got := ⟨g.A3, g.c3, by rw [E3.2.2, ← hhV.got.len, hgV.got.len]; exact at2.2 3 _ rfl, by have := hgV.got; rw [E3.2.2, ← hhV.got.len, hgV.got.len]; exact this⟩
  have a3 := E3.1
  have a3' := E3'.1
  have s3 := E3.2.1
  have s3' := E3'.2
  clear E3 E3'
  obtain ⟨A4, N4, C4, E4⟩ : ∃ A N C, V.cell? ⟨w.heap.size, 4, none⟩ = some (.slice A N C) ∧ SliceR LsR 3 V ok A N C W.paths ∧ N = h.n4 := ⟨_, _, _, at1.2 4 _ rfl, hhV.paths, rfl⟩
  obtain ⟨B4, D4, E4'⟩ : ∃ A C, V.cell? ⟨w.heap.size + 1, 4, none⟩ = some (.slice A N4 C) ∧ SliceR LsR 3 V ok' A N4 C W.paths := ⟨g.A4, g.c4, by rw [E4.2.2, ← hhV.paths.len, hgV.paths.len]; exact at2.2 4 _ rfl, by have := hgV.paths; rw [E4.2.2, ← hhV.paths.len, hgV.paths.len]; exact this⟩
  have a4 := E4.1
  have a4' := E4'.1
  have s4 := E4.2.1
  have s4' := E4'.2
  clear E4 E4'
  obtain ⟨A5, N5, C5, E5⟩ : ∃ A N C, V.cell? ⟨w.heap.size, 5, none⟩ = some (.slice A N C) ∧ SliceR RtR 4 V ok A N C W.rtts ∧ N = h.n5 := ⟨_, _, _, at1.2 5 _ rfl, hhV.rtts, rfl⟩
  obtain ⟨B5, D5, E5'⟩ : ∃ A C, V.cell? ⟨w.heap.size + 1, 5, none⟩ = some (.slice A N5 C) ∧ SliceR RtR 4 V ok' A N5 C W.rtts := ⟨g.A5, g.c5, by rw [E5.2.2, ← hhV.rtts.len, hgV.rtts.len]; exact at2.2 5 _ rfl, by have := hgV.rtts; rw [E5.2.2, ← hhV.rtts.len, hgV.rtts.len]; exact this⟩
  have a5 := E5.1
  have a5' := E5'.1
  have s5 := E5.2.1
  have s5' := E5'.2
  clear E5 E5'
  obtain ⟨A6, N6, C6, E6⟩ : ∃ A N C, V.cell? ⟨w.heap.size, 6, none⟩ = some (.slice A N C) ∧ SliceR WnR 4 V ok A N C W.windows ∧ N = h.n6 := ⟨_, _, _, at1.2 6 _ rfl, hhV.windows, rfl⟩
  obtain ⟨B6, D6, E6'⟩ : ∃ A C, V.cell? ⟨w.heap.size + 1, 6, none⟩ = some (.slice A N6 C) ∧ SliceR WnR 4 V ok' A N6 C W.windows := ⟨g.A6, g.c6, by rw [E6.2.2, ← hhV.windows.len, hgV.windows.len]; exact at2.2 6 _ rfl, by have := hgV.windows; rw [E6.2.2, ← hhV.windows.len, hgV.windows.len]; exact this⟩
  have a6 := E6.1
  have a6' := E6'.1
  have s6 := E6.2.1
  have s6' := E6'.2
  clear E6 E6'
  obtain ⟨A7, N7, C7, E7⟩ : ∃ A N C, V.cell? ⟨w.heap.size, 7, none⟩ = some (.slice A N C) ∧ SliceR SnR 1 V ok A N C W.seen ∧ N = h.n7 := ⟨_, _, _, at1.2 7 _ rfl, hhV.seen, rfl⟩
  obtain ⟨B7, D7, E7'⟩ : ∃ A C, V.cell? ⟨w.heap.size + 1, 7, none⟩ = some (.slice A N7 C) ∧ SliceR SnR 1 V ok' A N7 C W.seen := ⟨g.A7, g.c7, by rw [E7.2.2, ← hhV.seen.len, hgV.seen.len]; exact at2.2 7 _ rfl, by have := hgV.seen; rw [E7.2.2, ← hhV.seen.len, hgV.seen.len]; exact this⟩
  have a7 := E7.1
  have a7' := E7'.1
  have s7 := E7.2.1
  have s7' := E7'.2
  clear E7 E7'
  obtain ⟨A8, N8, C8, E8⟩ : ∃ A N C, V.cell? ⟨w.heap.size, 8, none⟩ = some (.slice A N C) ∧ SliceR CdR 6 V ok A N C W.carried ∧ N = h.n8 := ⟨_, _, _, at1.2 8 _ rfl, hhV.carried, rfl⟩
  obtain ⟨B8, D8, E8'⟩ : ∃ A C, V.cell? ⟨w.heap.size + 1, 8, none⟩ = some (.slice A N8 C) ∧ SliceR CdR 6 V ok' A N8 C W.carried := ⟨g.A8, g.c8, by rw [E8.2.2, ← hhV.carried.len, hgV.carried.len]; exact at2.2 8 _ rfl, by have := hgV.carried; rw [E8.2.2, ← hhV.carried.len, hgV.carried.len]; exact this⟩
  have a8 := E8.1
  have a8' := E8'.1
  have s8 := E8.2.1
  have s8' := E8'.2
  clear E8 E8'
  obtain ⟨A9, N9, C9, E9⟩ : ∃ A N C, V.cell? ⟨w.heap.size, 9, none⟩ = some (.slice A N C) ∧ SliceR WiR 9 V ok A N C W.net ∧ N = h.n9 := ⟨_, _, _, at1.2 9 _ rfl, hhV.net, rfl⟩
  obtain ⟨B9, D9, E9'⟩ : ∃ A C, V.cell? ⟨w.heap.size + 1, 9, none⟩ = some (.slice A N9 C) ∧ SliceR WiR 9 V ok' A N9 C W.net := ⟨g.A9, g.c9, by rw [E9.2.2, ← hhV.net.len, hgV.net.len]; exact at2.2 9 _ rfl, by have := hgV.net; rw [E9.2.2, ← hhV.net.len, hgV.net.len]; exact this⟩
  have a9 := E9.1
  have a9' := E9'.1
  have s9 := E9.2.1
  have s9' := E9'.2
  clear E9 E9'
  have Hout := Lib.hid (show ∀ y, Below w.heap.size w (grew V y) from fun y => hbV.trans ((grew_below V y).mono hbV.size))
  clear hbV at1 at2 hhV hgV hh hg hok hok'
  go_enter Try.func10, Try.ntmps10
  iterate 8 go_step
  rw [← hV]
  clear hV
  rw [grew_self V]
  generalize Value.agg #[.int .i64 W.now, .slice h.A1 h.n1 h.c1, .slice h.A2 h.n2 h.c2, .slice h.A3 h.n3 h.c3, .slice h.A4 h.n4 h.c4, .slice h.A5 h.n5 h.c5, .slice h.A6 h.n6 h.c6, .slice h.A7 h.n7 h.c7, .slice h.A8 h.n8 h.c8, .slice h.A9 h.n9 h.c9] = z1
  generalize Value.agg #[.int .i64 W.now, .slice g.A1 g.n1 g.c1, .slice g.A2 g.n2 g.c2, .slice g.A3 g.n3 g.c3, .slice g.A4 g.n4 g.c4, .slice g.A5 g.n5 g.c5, .slice g.A6 g.n6 g.c6, .slice g.A7 g.n7 g.c7, .slice g.A8 g.n8 g.c8, .slice g.A9 g.n9 g.c9] = z2
  clear h g
  go_wp2_with fail
  refine (eqSendS_t _ _ _ _ _ _ V _ _ _ s1 s1' okV okV').mono ?_
  rintro e _ ⟨rfl, y0, rfl⟩
  clear s1 s1'
  go_wp2_with fail
  refine (eqRecvS_t _ _ _ _ _ _ V _ _ _ s2 s2' okV okV').mono ?_
  rintro e _ ⟨rfl, y1, rfl⟩
  clear s2 s2'
  go_wp2_with fail
  refine (eqStringS_t _ _ _ _ _ _ V _ _ _ s3 s3' okV okV').mono ?_
  rintro e _ ⟨rfl, y2, rfl⟩
  clear s3 s3'
  go_wp2_with fail
  refine (eqLossS_t _ _ _ _ _ _ V _ _ _ s4 s4' okV okV').mono ?_
  rintro e _ ⟨rfl, y3, rfl⟩
  clear s4 s4'
  go_wp2_with fail
  refine (eqRttS_t _ _ _ _ _ _ V _ _ _ s5 s5' okV okV').mono ?_
  rintro e _ ⟨rfl, y4, rfl⟩
  clear s5 s5'
  go_wp2_with fail
  refine (eqWindowS_t _ _ _ _ _ _ V _ _ _ s6 s6' okV okV').mono ?_
  rintro e _ ⟨rfl, y5, rfl⟩
  clear s6 s6'
  go_wp2_with fail
  refine (eqRangeSS_t _ _ _ _ _ _ V _ _ _ s7 s7' okV okV').mono ?_
  rintro e _ ⟨rfl, y6, rfl⟩
  clear s7 s7'
  go_wp2_with fail
  refine (eqCarriedS_t _ _ _ _ _ _ V _ _ _ s8 s8' okV okV').mono ?_
  rintro e _ ⟨rfl, y7, rfl⟩
  clear s8 s8'
  go_wp2_with fail
  refine (eqWireS_t _ _ _ _ _ _ V _ _ _ s9 s9' okV okV').mono ?_
  rintro e _ ⟨rfl, y8, rfl⟩
  clear s9 s9'
  go_wp2
  go_ret
  exact ⟨rfl, Hout.out _⟩
end Go.Proofs.Ytjpaoadbgmmoeaa
