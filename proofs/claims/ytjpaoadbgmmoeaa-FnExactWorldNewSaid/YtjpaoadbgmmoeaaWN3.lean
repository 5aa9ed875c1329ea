/- The contract of the program's WorldNew. No condition. -/
import Derived.Test.YtjpaoadbgmmoeaaWN2
namespace Go.Proofs.Ytjpaoadbgmmoeaa
open Go.RowKit

def hd0 : Hd := ⟨none, none, none, none, none, none, none, none, none, 0, 0, 0, 0, 0, 0, 0, 0, 0, 0, 0, 0, 0, 0, 0, 0, 0, 0⟩
def wn1 (limit : Int) (k : Nat) : Wd := ⟨0, List.replicate k (sd0 limit), List.replicate k (rv0 limit), List.replicate k [], [], [], [], [], [], []⟩
def wins4 : List Wn := [⟨4, 8, 0, 10⟩, ⟨4, 8, 0, 20⟩, ⟨4, 8, 0, 30⟩, ⟨4, 8, 0, 40⟩]
def wn2 (limit : Int) (k : Nat) : Wd := ⟨0, List.replicate 3 (sd0 limit), List.replicate 3 (rv0 limit), List.replicate 3 [], List.replicate k ⟨0, [], -1⟩, List.replicate k rtZero, wins4.take k, List.replicate k [], [], []⟩
theorem wn1_succ (limit : Int) (k : Nat) : { wn1 limit k with sends := (wn1 limit k).sends ++ [sd0 limit], recvs := (wn1 limit k).recvs ++ [rv0 limit], got := (wn1 limit k).got ++ [[]] } = wn1 limit (k + 1) := by
  simp [wn1, List.replicate_succ']
theorem wn2_succ (limit : Int) (k : Nat) (hk : k < 4) : { wn2 limit k with paths := (wn2 limit k).paths ++ [⟨0, [], -1⟩], rtts := (wn2 limit k).rtts ++ [rtZero], windows := (wn2 limit k).windows ++ [⟨4, 8, 0, 10 * ((k : Int) + 1)⟩], seen := (wn2 limit k).seen ++ [[]] } = wn2 limit (k + 1) := by
  have : wins4.take k ++ [⟨4, 8, 0, 10 * ((k : Int) + 1)⟩] = wins4.take (k + 1) := by
    match k, hk with
    | 0, _ => rfl
    | 1, _ => rfl
    | 2, _ => rfl
    | 3, _ => rfl
  simp [wn2, List.replicate_succ', this]
theorem wn2_new (limit : Int) : wn2 limit 4 = wdNew limit := rfl
theorem wn12 (limit : Int) : wn1 limit 3 = wn2 limit 0 := rfl
theorem sdRow (limit : Int) (hl : inB limit 0 30 = true) (w : World) (ok : Nat → Prop) : SdR w ok [.string (S []), .bool false, .int .i64 limit, .int .i64 0, .slice none 0 0, .slice none 0 0] (sd0 limit) := by
  have := inB_iff.1 hl
  exact ⟨none, 0, 0, none, 0, 0, rfl, by simp [sd0], by unfold I64 sd0; simp only; omega, by unfold I64 sd0; simp only; omega, SliceR.nil_, SliceR.nil_⟩
theorem rvRow (limit : Int) (hl : inB limit 0 30 = true) (w : World) (ok : Nat → Prop) : RvR w ok [.int .i64 0, .slice none 0 0, .int .i64 (-1), .int .i64 limit] (rv0 limit) := by
  have := inB_iff.1 hl
  exact ⟨none, 0, 0, rfl, by unfold I64 rv0; simp only; omega, by unfold I64 rv0; simp only; omega, by unfold I64 rv0; simp only; omega, SliceR.nil_⟩
theorem bsRow (w : World) (ok : Nat → Prop) : BsR w ok [.string (S [])] [] := ⟨rfl, by simp⟩
theorem lsRow (w : World) (ok : Nat → Prop) : LsR w ok [.int .i64 0, .slice none 0 0, .int .i64 (-1)] ⟨0, [], -1⟩ :=
  ⟨none, 0, 0, rfl, by unfold I64; simp only; omega, by unfold I64; simp only; omega, SliceR.nil_⟩
theorem rtRow (w : World) (ok : Nat → Prop) : RtR w ok [.int .i64 0, .int .i64 0, .int .i64 0, .int .i64 0] rtZero := ⟨rfl, by unfold I64 rtZero; simp only; omega, by unfold I64 rtZero; simp only; omega, by unfold I64 rtZero; simp only; omega, by unfold I64 rtZero; simp only; omega⟩
theorem wnRow (k : Nat) (hk : k < 4) (w : World) (ok : Nat → Prop) : WnR w ok [.int .i64 4, .int .i64 8, .int .i64 0, .int .i64 (10 * ((k : Int) + 1))] ⟨4, 8, 0, 10 * ((k : Int) + 1)⟩ := ⟨rfl, by unfold I64; simp only; omega, by unfold I64; simp only; omega, by unfold I64; simp only; omega, by unfold I64; simp only; omega⟩
theorem snRow (w : World) (ok : Nat → Prop) : SnR w ok [.slice none 0 0] [] := ⟨none, 0, 0, rfl, SliceR.nil_⟩
theorem newInv_start (W5 : World) (base : Nat) (hb : base ≤ W5.heap.size) (limit : Int) (T : TypeId) : NewInv (W5.alloc (.cells #[.int .i64 0, .slice none 0 0, .slice none 0 0, .slice none 0 0, .slice none 0 0, .slice none 0 0, .slice none 0 0, .slice none 0 0, .slice none 0 0, .slice none 0 0] T)) (fun _ => 10) base W5.heap.size hd0 (fun _ => 10) (wn1 limit 0) (W5.alloc (.cells #[.int .i64 0, .slice none 0 0, .slice none 0 0, .slice none 0 0, .slice none 0 0, .slice none 0 0, .slice none 0 0, .slice none 0 0, .slice none 0 0, .slice none 0 0] T)) :=
  ⟨World.grownBy.refl _ _, by simp, by simp; omega, fun _ _ => ⟨rfl, by omega⟩, rfl, atP_alloc W5 hd0 0 T, fun j => by simp, ⟨OutS.none_, OutS.none_, OutS.none_, OutS.none_, OutS.none_, OutS.none_, OutS.none_, OutS.none_, OutS.none_⟩⟩
set_option maxRecDepth 10000 in
set_option maxHeartbeats 4000000 in
theorem worldNew_yes (limit : Int) (hl : inB limit 0 30 = true) (w : World) :
    Calls Try.prog 6 #[.int .i64 limit] w fun e w' => (∃ h ro, e = .returned (.tuple #[h.agg 0, .bool true]) ∧ OwnH w' w.heap.size ro h (wdNew limit)) ∧ Below w.heap.size w w' := by
  go_enter Try.func6, Try.ntmps6
  go_wp2_with fail
  obtain ⟨r0, hr0⟩ : ∃ r0, r0 = w.heap.size := ⟨_, rfl⟩
  obtain ⟨W1, hW1⟩ : ∃ W1 : World, W1 = w.alloc (.cells #[.int .i64 0, .slice none 0 0, .slice none 0 0, .slice none 0 0, .slice none 0 0, .slice none 0 0, .slice none 0 0, .slice none 0 0, .slice none 0 0, .slice none 0 0] 34) := ⟨_, rfl⟩
  have hb1 : Below w.heap.size w W1 := by rw [hW1]; exact b_alloc _ _
  have hl1 : r0 < W1.heap.size := by rw [hr0, hW1]; simp
  have z1 : ∀ j v, (hd0.cells 0)[j]? = some v → W1.cell? ⟨r0, j, none⟩ = some v := by rw [hr0, hW1]; exact (atP_alloc w hd0 0 _).2
  have y1 : ∀ j, W1.frozen? ⟨r0, j, none⟩ = false := by rw [hr0, hW1]; intro j; simp
  rw [← hW1, ← hr0]
  refine (sendNew_yes limit hl _).mono ?_
  rintro e W2 ⟨rfl, hb2⟩
  go_wp2_with fail
  obtain ⟨bs, hbs⟩ : ∃ bs, bs = W2.heap.size := ⟨_, rfl⟩
  obtain ⟨W3, hW3⟩ : ∃ W3 : World, W3 = W2.alloc (.cells #[.string (S []), .bool false, .int .i64 limit, .int .i64 0, .slice none 0 0, .slice none 0 0] 47) := ⟨_, rfl⟩
  have hb3 : Below W2.heap.size W2 W3 := by rw [hW3]; exact b_alloc _ _
  have hl3 : bs < W3.heap.size := by rw [hbs, hW3]; simp
  have s0 : W3.cell? ⟨bs, 0, none⟩ = some (.string (S [])) := by rw [hbs, hW3]; simp
  have s1 : W3.cell? ⟨bs, 1, none⟩ = some (.bool false) := by rw [hbs, hW3]; simp
  have s2 : W3.cell? ⟨bs, 2, none⟩ = some (.int .i64 limit) := by rw [hbs, hW3]; simp
  have s3 : W3.cell? ⟨bs, 3, none⟩ = some (.int .i64 0) := by rw [hbs, hW3]; simp
  have s4 : W3.cell? ⟨bs, 4, none⟩ = some (.slice none 0 0) := by rw [hbs, hW3]; simp
  have s5 : W3.cell? ⟨bs, 5, none⟩ = some (.slice none 0 0) := by rw [hbs, hW3]; simp
  rw [← hW3, ← hbs]
  refine (recvNew_yes limit hl _).mono ?_
  rintro e W4 ⟨rfl, hb4⟩
  go_wp2_with fail
  obtain ⟨br, hbr⟩ : ∃ br, br = W4.heap.size := ⟨_, rfl⟩
  obtain ⟨W5, hW5⟩ : ∃ W5 : World, W5 = W4.alloc (.cells #[.int .i64 0, .slice none 0 0, .int .i64 (-1), .int .i64 limit] 52) := ⟨_, rfl⟩
  have hb5 : Below W4.heap.size W4 W5 := by rw [hW5]; exact b_alloc _ _
  have hl5 : br < W5.heap.size := by rw [hbr, hW5]; simp
  have q0 : W5.cell? ⟨br, 0, none⟩ = some (.int .i64 0) := by rw [hbr, hW5]; simp
  have q1 : W5.cell? ⟨br, 1, none⟩ = some (.slice none 0 0) := by rw [hbr, hW5]; simp
  have q2 : W5.cell? ⟨br, 2, none⟩ = some (.int .i64 (-1)) := by rw [hbr, hW5]; simp
  have q3 : W5.cell? ⟨br, 3, none⟩ = some (.int .i64 limit) := by rw [hbr, hW5]; simp
  obtain ⟨bw, hbw⟩ : ∃ bw, bw = W5.heap.size := ⟨_, rfl⟩
  obtain ⟨W6, hW6⟩ : ∃ W6 : World, W6 = W5.alloc (.cells #[.int .i64 0, .slice none 0 0, .slice none 0 0, .slice none 0 0, .slice none 0 0, .slice none 0 0, .slice none 0 0, .slice none 0 0, .slice none 0 0, .slice none 0 0] 34) := ⟨_, rfl⟩
  have hb6 : Below W5.heap.size W5 W6 := by rw [hW6]; exact b_alloc _ _
  have hbw2 : W4.heap.size + 1 = bw := by rw [hbw, hW5]; simp
  rw [← hW5, ← hW6, hbw2, ← hbr]
  have hsz : r0 < W6.heap.size ∧ bs < W6.heap.size ∧ br < W6.heap.size ∧ r0 ≠ bw ∧ bs ≠ bw ∧ br ≠ bw ∧ r0 ≤ bw := by
    have a1 := hb2.size
    have a2 := hb3.size
    have a3 := hb4.size
    have a4 := hb5.size
    have a5 := hb6.size
    refine ⟨by omega, by omega, by omega, by omega, by omega, by omega, by omega⟩
  obtain ⟨m1, m2, m3, m4, m5, m6, m7⟩ := hsz
  have hc : Below W3.heap.size W3 W6 := hb4.trans ((hb5.mono hb4.size).trans (hb6.mono (Nat.le_trans hb4.size hb5.size)))
  have hc1 : Below W1.heap.size W1 W6 := hb2.trans ((hb3.mono hb2.size).trans (hc.mono (Nat.le_trans hb2.size hb3.size)))
  have hc5 : Below W5.heap.size W5 W6 := hb6
  have HB6 := Lib.hid (hb1.trans (hc1.mono hb1.size))
  have s0' := (hc.cell (p := ⟨bs, 0, none⟩) hl3).trans s0
  have s1' := (hc.cell (p := ⟨bs, 1, none⟩) hl3).trans s1
  have s2' := (hc.cell (p := ⟨bs, 2, none⟩) hl3).trans s2
  have s3' := (hc.cell (p := ⟨bs, 3, none⟩) hl3).trans s3
  have s4' := (hc.cell (p := ⟨bs, 4, none⟩) hl3).trans s4
  have s5' := (hc.cell (p := ⟨bs, 5, none⟩) hl3).trans s5
  have q0' := (hc5.cell (p := ⟨br, 0, none⟩) hl5).trans q0
  have q1' := (hc5.cell (p := ⟨br, 1, none⟩) hl5).trans q1
  have q2' := (hc5.cell (p := ⟨br, 2, none⟩) hl5).trans q2
  have q3' := (hc5.cell (p := ⟨br, 3, none⟩) hl5).trans q3
  have Hz := Lib.hid (show ∀ j v, (hd0.cells 0)[j]? = some v → W6.cell? ⟨r0, j, none⟩ = some v from fun j v hv => (hc1.cell (p := ⟨r0, j, none⟩) hl1).trans (z1 j v hv))
  have Hy := Lib.hid (show ∀ j, W6.frozen? ⟨r0, j, none⟩ = false from fun j => (hc1.frozen (p := ⟨r0, j, none⟩) hl1).trans (y1 j))
  have hx0 : NewInv W6 (fun _ => 10) w.heap.size bw hd0 (fun _ => 10) (wn1 limit 0) W6 := by
    rw [hW6, hbw]
    exact newInv_start W5 w.heap.size (by have a2 := hb2.size; have a3 := hb3.size; have a4 := hb4.size; have a5 := hb5.size; omega) limit _
  obtain ⟨base, hbase⟩ : ∃ base, base = w.heap.size := ⟨_, rfl⟩
  have Hbase := Lib.hid hbase
  rw [← hbase] at hx0
  clear hb1 hb2 hb3 hb4 hb5 hb6 hc hc1 hc5 hW1 hW3 hW5 hW6 hbw2 hbw hbr s0 s1 s2 s3 s4 s5 q0 q1 q2 q3 z1 y1 hl1 hl3 hl5 hbase
  subst hbs
  subst hr0
  obtain ⟨i1, hi1, f1, g1, e1⟩ := info_parts info1
  obtain ⟨i2, hi2, f2, g2, e2⟩ := info_parts info2
  obtain ⟨i3, hi3, f3, g3, e3⟩ := info_parts infoStr
  obtain ⟨i4, hi4, f4, g4, e4⟩ := info_parts info4
  obtain ⟨i5, hi5, f5, g5, e5⟩ := info_parts info5
  obtain ⟨i6, hi6, f6, g6, e6⟩ := info_parts info6
  obtain ⟨i7, hi7, f7, g7, e7⟩ := info_parts info7
  go_loopg [23] 3 (fun m v wr => ∃ k : Nat, k + m = 3 ∧ v = .int .i64 (k : Int) ∧ ∃ h ro, NewInv W6 (fun _ => 10) base bw h ro (wn1 limit k) wr)
  case atStart => exact ⟨0, by omega, rfl, _, _, hx0⟩
  case round =>
    obtain ⟨k, hk, rfl, h, ro, x⟩ := hrel
    by_cases hlt : k < 3
    · have n1 : h.n1 < 3 := by rw [← x.own.sends.len]; simp [wn1]; omega
      have n2 : h.n2 < 3 := by rw [← x.own.recvs.len]; simp [wn1]; omega
      have n3 : h.n3 < 3 := by rw [← x.own.got.len]; simp [wn1]; omega
      have p1 := x.at_.2 1 _ rfl
      have hba : base ≤ wr.heap.size := Nat.le_trans x.bas x.keep.size
      have u0 := (x.cellOld (a := ⟨W2.heap.size, 0, none⟩) m2 m5).trans s0'
      have u1 := (x.cellOld (a := ⟨W2.heap.size, 1, none⟩) m2 m5).trans s1'
      have u2 := (x.cellOld (a := ⟨W2.heap.size, 2, none⟩) m2 m5).trans s2'
      have u3 := (x.cellOld (a := ⟨W2.heap.size, 3, none⟩) m2 m5).trans s3'
      have u4 := (x.cellOld (a := ⟨W2.heap.size, 4, none⟩) m2 m5).trans s4'
      have u5 := (x.cellOld (a := ⟨W2.heap.size, 5, none⟩) m2 m5).trans s5'
      go_wp2_with (at_builtin; go_must (refine wpList_appO rfl _ _ 24 rfl i1 _ 88 Try.underlying24 hi1 f1 g1 e1 rfl (by omega) sdCar x.own.sends (by decide) hba rfl (fun u hu => by simp only [List.mem_cons, List.not_mem_nil, or_false] at hu; rcases hu with rfl | rfl | rfl | rfl | rfl | rfl <;> rfl) (sdRow limit hl wr _) rfl rfl (by unfold maxLen; omega) (by omega) ?_))
      intro g c' w' hO hg
      obtain ⟨⟨k1, k2, k3, -⟩, h2', ro2, x2⟩ := x.app1 hO hg
      have j1 := x2.at_.2 2 _ rfl
      have hba2 : base ≤ (w'.setCell ⟨bw, 1, none⟩ (.slice (some ⟨g, 0, none⟩) (h.n1 + 1) c')).heap.size := Nat.le_trans x2.bas x2.keep.size
      have t0 := (x2.cellOld (a := ⟨br, 0, none⟩) m3 m6).trans q0'
      have t1 := (x2.cellOld (a := ⟨br, 1, none⟩) m3 m6).trans q1'
      have t2 := (x2.cellOld (a := ⟨br, 2, none⟩) m3 m6).trans q2'
      have t3 := (x2.cellOld (a := ⟨br, 3, none⟩) m3 m6).trans q3'
      have n2 : h2'.n2 < 3 := by rw [← x2.own.recvs.len]; simp [wn1]; omega
      clear hO hg x n1 p1 u0 u1 u2 u3 u4 u5 hba
      go_wp2_with (at_builtin; go_must (refine wpList_appO rfl _ _ 25 rfl i2 _ 48 Try.underlying25 hi2 f2 g2 e2 rfl (by omega) rvCar x2.own.recvs (by decide) hba2 rfl (fun u hu => by simp only [List.mem_cons, List.not_mem_nil, or_false] at hu; rcases hu with rfl | rfl | rfl | rfl <;> rfl) (rvRow limit hl _ _) rfl (by rw [World.size_setCell]; rfl) (by unfold maxLen; omega) (by omega) ?_))
      intro g3' c3 w3 hO hg
      obtain ⟨⟨k1', k2', k3', -⟩, h3', ro3, x3⟩ := x2.app2 (by rw [World.size_setCell]; exact hO) hg
      have j3 := x3.at_.2 3 _ rfl
      have hba3 : base ≤ (w3.setCell ⟨bw, 2, none⟩ (.slice (some ⟨g3', 0, none⟩) (h2'.n2 + 1) c3)).heap.size := Nat.le_trans x3.bas x3.keep.size
      have n3 : h3'.n3 < 3 := by rw [← x3.own.got.len]; simp [wn1]; omega
      clear hO hg x2 n2 j1 t0 t1 t2 t3 hba2 k1 k2 k3
      go_wp2_with (at_builtin; go_must (refine wpList_appO rfl _ _ 26 rfl i3 _ 16 Try.underlying26 hi3 f3 g3 e3 rfl (by omega) bsCar x3.own.got (by decide) hba3 rfl (fun u hu => by simp only [List.mem_cons, List.not_mem_nil, or_false] at hu; subst hu; rfl) (bsRow _ _) rfl (by rw [World.size_setCell]; rfl) (by unfold maxLen; omega) (by omega) ?_))
      intro g4' c4 w4 hO hg
      obtain ⟨⟨k1, k2, k3, -⟩, h4', ro4, x4⟩ := x3.app3 (by rw [World.size_setCell]; exact hO) hg
      have X4 : Hid (NewInv W6 (fun _ => 10) base bw h4' ro4 (wn1 limit (k + 1)) (w4.setCell ⟨bw, 3, none⟩ (.slice (some ⟨g4', 0, none⟩) (h3'.n3 + 1) c4))) := by
        unfold Hid
        rw [← wn1_succ]
        exact x4
      clear hO hg x3 x4 n3 j3 hba3 k1' k2' k3'
      go_wp2
      go_roundg (3 - (k + 1))
      case measure => omega
      case rel => exact ⟨k + 1, by omega, by go_num, h4', ro4, X4.out⟩
    · have hk3 : k = 3 := by omega
      subst hk3
      rw [wn12] at x
      clear hx0 s0' s1' s2' s3' s4' s5' q0' q1' q2' q3'
      go_wp2_with fail
      rename World => Wf
      go_loopg [43] 4 (fun m v wr => ∃ k : Nat, k + m = 4 ∧ v = .int .i64 (k : Int) ∧ ∃ h ro, NewInv W6 (fun _ => 10) base bw h ro (wn2 limit k) wr)
      case atStart => exact ⟨0, by omega, rfl, _, _, x⟩
      case round =>
        clear x
        obtain ⟨k, hk, rfl, h, ro, x⟩ := hrel
        by_cases hlt : k < 4
        · have n4 : h.n4 < 4 := by rw [← x.own.paths.len]; simp [wn2]; omega
          have hba : base ≤ wr.heap.size := Nat.le_trans x.bas x.keep.size
          have p4 := x.at_.2 4 _ rfl
          go_wp2_with fail
          refine wp_region_mix (C := fun v => ∃ y, v = held (fun b => b = bw) wr y) 5 [0, 1] [2, 3, 4] (by kernel_rfl) (by kernel_rfl) (held_drew (fun b => b = bw) wr) ?_
          change wpQuiet _ _ _ _ [_, _] _
          repeat (go_big_quiet_step (fail))
          refine wpQuiet_nil ?_
          change wpList _ _ _ [_] _ _
          go_wp2_with fail
          refine (lossNew_any _).mono ?_
          rintro e w5 ⟨rfl, hb5⟩
          go_wp2_with fail
          have hlw : bw < wr.heap.size := Nat.lt_of_lt_of_le x.bwl x.keep.size
          have hb5' : Below wr.heap.size wr w5 := ((Below.refl _ _).drew).trans (hb5.mono (Nat.le_refl _))
          obtain ⟨ro5, x5⟩ := x.below hb5'
          have hba5 : base ≤ w5.heap.size := Nat.le_trans x5.bas x5.keep.size
          refine ⟨held_of (fun b hb => by subst hb; exact hb5'.block b hlw), ?_⟩
          change wpList _ _ _ [_] _ _
          go_wp2_with fail
          refine ⟨held_of (fun b hb => by subst hb; exact (Below.heap_alloc w5 _ b (Nat.lt_of_lt_of_le hlw hb5'.size)).trans (hb5'.block b hlw)), ?_⟩
          change wpList _ _ _ [_] _ _
          refine wpList_appO rfl _ _ 27 rfl i4 _ 40 Try.underlying27 hi4 f4 g4 e4 rfl (by omega) lsCar x5.own.paths (by decide) hba5 rfl (fun u hu => by simp only [List.mem_cons, List.not_mem_nil, or_false] at hu; rcases hu with rfl | rfl | rfl <;> rfl) (lsRow _ _) rfl rfl (by unfold maxLen; omega) (by omega) ?_
          intro ga ca wa hO hg
          obtain ⟨⟨k1, k2, k3, k4⟩, h2', ro2, x2⟩ := x5.app4 hO hg
          refine ⟨rfl, held_of (fun b hb => by subst hb; exact k4.trans (hb5'.block b hlw)), ?_⟩
          have j1 := x2.at_.2 5 _ rfl
          have hba2 : base ≤ (wa.setCell ⟨bw, 4, none⟩ (.slice (some ⟨ga, 0, none⟩) (h.n4 + 1) ca)).heap.size := Nat.le_trans x2.bas x2.keep.size
          have n5 : h2'.n5 < 4 := by rw [← x2.own.rtts.len]; simp [wn2]; omega
          clear hO hg x x5 n4 p4 hba hba5 hb5 hb5' k4
          change wpList _ _ _ [_, _] _ _
          go_wp2_with (at_builtin; go_must (refine wpList_appO rfl _ _ 28 rfl i5 _ 32 Try.underlying28 hi5 f5 g5 e5 rfl (by omega) rtCar x2.own.rtts (by decide) hba2 rfl (fun u hu => by simp only [List.mem_cons, List.not_mem_nil, or_false] at hu; rcases hu with rfl | rfl | rfl | rfl <;> rfl) (rtRow _ _) rfl (by rw [World.size_setCell]; rfl) (by unfold maxLen; omega) (by omega) ?_))
          intro gb cb wb hO hg
          obtain ⟨⟨k1', k2', k3', -⟩, h3', ro3, x3⟩ := x2.app5 (by rw [World.size_setCell]; exact hO) hg
          have j3 := x3.at_.2 6 _ rfl
          have hba3 : base ≤ (wb.setCell ⟨bw, 5, none⟩ (.slice (some ⟨gb, 0, none⟩) (h2'.n5 + 1) cb)).heap.size := Nat.le_trans x3.bas x3.keep.size
          have n6 : h3'.n6 < 4 := by rw [← x3.own.windows.len]; simp [wn2, wins4]; omega
          have ad : IntKind.i64.wrap ((k : Int) + 1) = (k : Int) + 1 := IntWalk.i64_in _ (by omega)
          have mu : IntKind.i64.wrap (10 * ((k : Int) + 1)) = 10 * ((k : Int) + 1) := IntWalk.i64_in _ (by omega)
          clear hO hg x2 n5 j1 hba2 k1 k2 k3
          go_wp2_with (at_builtin; go_must (refine wpList_appO rfl _ _ 29 rfl i6 _ 32 Try.underlying29 hi6 f6 g6 e6 rfl (by omega) wnCar x3.own.windows (by decide) hba3 rfl (fun u hu => by simp only [List.mem_cons, List.not_mem_nil, or_false] at hu; rcases hu with rfl | rfl | rfl | rfl <;> rfl) (wnRow k hlt _ _) rfl (by rw [World.size_setCell]; rfl) (by unfold maxLen; omega) (by omega) ?_))
          intro gc cc wc hO hg
          obtain ⟨⟨k1, k2, k3, -⟩, h4', ro4, x4⟩ := x3.app6 (by rw [World.size_setCell]; exact hO) hg
          have j4 := x4.at_.2 7 _ rfl
          have hba4 : base ≤ (wc.setCell ⟨bw, 6, none⟩ (.slice (some ⟨gc, 0, none⟩) (h3'.n6 + 1) cc)).heap.size := Nat.le_trans x4.bas x4.keep.size
          have n7 : h4'.n7 < 4 := by rw [← x4.own.seen.len]; simp [wn2]; omega
          clear hO hg x3 n6 j3 hba3 k1' k2' k3'
          go_wp2_with (at_builtin; go_must (refine wpList_appO rfl _ _ 30 rfl i7 _ 24 Try.underlying30 hi7 f7 g7 e7 rfl (by omega) snCar x4.own.seen (by decide) hba4 rfl (fun u hu => by simp only [List.mem_cons, List.not_mem_nil, or_false] at hu; subst hu; rfl) (snRow _ _) rfl (by rw [World.size_setCell]; rfl) (by unfold maxLen; omega) (by omega) ?_))
          intro gd cd wd hO hg
          obtain ⟨⟨k1', k2', k3', -⟩, h5', ro5', x5⟩ := x4.app7 (by rw [World.size_setCell]; exact hO) hg
          have X5 : Hid (NewInv W6 (fun _ => 10) base bw h5' ro5' (wn2 limit (k + 1)) (wd.setCell ⟨bw, 7, none⟩ (.slice (some ⟨gd, 0, none⟩) (h4'.n7 + 1) cd))) := by
            unfold Hid
            rw [← wn2_succ limit k hlt]
            exact x5
          clear hO hg x4 x5 n7 j4 hba4 k1 k2 k3
          go_wp2
          go_roundg (4 - (k + 1))
          case measure => omega
          case rel => exact ⟨k + 1, by omega, by go_num, h5', ro5', X5.out⟩
        · have hk4 : k = 4 := by omega
          subst hk4
          rw [wn2_new] at x
          have hfr0 : ∀ j, wr.frozen? ⟨w.heap.size, j, none⟩ = false := fun j => (World.frozen?_of_block (w := W6) (a := ⟨w.heap.size, j, none⟩) (x.keep.block _ m1 (fun e => m4 (Option.some.inj e)))).trans (Hy.out j)
          have v0 := x.at_.2 0 _ rfl
          have r0 := (x.cellOld (a := ⟨w.heap.size, 0, none⟩) m1 m4).trans (Hz.out 0 _ rfl)
          have v1 := x.at_.2 1 _ rfl
          have r1 := (x.cellOld (a := ⟨w.heap.size, 1, none⟩) m1 m4).trans (Hz.out 1 _ rfl)
          have v2 := x.at_.2 2 _ rfl
          have r2 := (x.cellOld (a := ⟨w.heap.size, 2, none⟩) m1 m4).trans (Hz.out 2 _ rfl)
          have v3 := x.at_.2 3 _ rfl
          have r3 := (x.cellOld (a := ⟨w.heap.size, 3, none⟩) m1 m4).trans (Hz.out 3 _ rfl)
          have v4 := x.at_.2 4 _ rfl
          have r4 := (x.cellOld (a := ⟨w.heap.size, 4, none⟩) m1 m4).trans (Hz.out 4 _ rfl)
          have v5 := x.at_.2 5 _ rfl
          have r5 := (x.cellOld (a := ⟨w.heap.size, 5, none⟩) m1 m4).trans (Hz.out 5 _ rfl)
          have v6 := x.at_.2 6 _ rfl
          have r6 := (x.cellOld (a := ⟨w.heap.size, 6, none⟩) m1 m4).trans (Hz.out 6 _ rfl)
          have v7 := x.at_.2 7 _ rfl
          have r7 := (x.cellOld (a := ⟨w.heap.size, 7, none⟩) m1 m4).trans (Hz.out 7 _ rfl)
          have v8 := x.at_.2 8 _ rfl
          have r8 := (x.cellOld (a := ⟨w.heap.size, 8, none⟩) m1 m4).trans (Hz.out 8 _ rfl)
          have v9 := x.at_.2 9 _ rfl
          have r9 := (x.cellOld (a := ⟨w.heap.size, 9, none⟩) m1 m4).trans (Hz.out 9 _ rfl)
          have A0 : AtP wr w.heap.size hd0 0 := ⟨Nat.lt_of_lt_of_le m1 x.keep.size, fun j v hv => (x.cellOld (a := ⟨w.heap.size, j, none⟩) m1 m4).trans (Hz.out j v hv)⟩
          have Az := atP_puts (h' := h) (now' := 0) A0
          have hgz := grownBy_puts w.heap.size (h.cells 0) 0 wr
          have Hown := Lib.hid (x.own.keep hgz (fun b e _ => by
            obtain rfl : w.heap.size = b := Option.some.inj e
            rw [(x.old _ m1).1]; omega) (fun _ _ => rfl))
          have Hb := Lib.hid (HB6.out.trans ((below_on x.keep (show w.heap.size ≤ bw by omega) (Nat.le_of_lt m1)).trans (below_on hgz (Nat.le_refl _) (Nat.le_trans (Nat.le_of_lt m1) x.keep.size))))
          have c0 := Az.2 0 _ rfl
          have c1 := Az.2 1 _ rfl
          have c2 := Az.2 2 _ rfl
          have c3 := Az.2 3 _ rfl
          have c4 := Az.2 4 _ rfl
          have c5 := Az.2 5 _ rfl
          have c6 := Az.2 6 _ rfl
          have c7 := Az.2 7 _ rfl
          have c8 := Az.2 8 _ rfl
          have c9 := Az.2 9 _ rfl
          have HZ := Lib.hid hgz
          clear A0 Az hgz
          obtain ⟨Wz, hWz⟩ : ∃ Wz : World, Wz = ((((((((((wr.setCell ⟨w.heap.size, 0, none⟩ (.int .i64 0)).setCell ⟨w.heap.size, 1, none⟩ (.slice h.A1 h.n1 h.c1)).setCell ⟨w.heap.size, 2, none⟩ (.slice h.A2 h.n2 h.c2)).setCell ⟨w.heap.size, 3, none⟩ (.slice h.A3 h.n3 h.c3)).setCell ⟨w.heap.size, 4, none⟩ (.slice h.A4 h.n4 h.c4)).setCell ⟨w.heap.size, 5, none⟩ (.slice h.A5 h.n5 h.c5)).setCell ⟨w.heap.size, 6, none⟩ (.slice h.A6 h.n6 h.c6)).setCell ⟨w.heap.size, 7, none⟩ (.slice h.A7 h.n7 h.c7)).setCell ⟨w.heap.size, 8, none⟩ (.slice h.A8 h.n8 h.c8)).setCell ⟨w.heap.size, 9, none⟩ (.slice h.A9 h.n9 h.c9)) := ⟨_, rfl⟩
          have hWz' : wr.setCells w.heap.size 0 (h.cells 0) = Wz := by rw [hWz]; rfl
          rw [hWz'] at Hown Hb c0 c1 c2 c3 c4 c5 c6 c7 c8 c9
          go_wp2
          rw [← hWz]
          clear hWz hWz' HZ
          try simp only [Exit.inBlock, Exit.then]
          refine bodyPost_ret (v := .tuple #[h.agg 0, .bool true]) (by simp [results, Try.results6, c0, c1, c2, c3, c4, c5, c6, c7, c8, c9, Hd.agg, go_sem]) rfl ?_
          exact ⟨⟨h, ro, rfl, by rw [Hbase.out] at Hown; exact Hown.out⟩, Hb.out⟩
end Go.Proofs.Ytjpaoadbgmmoeaa
