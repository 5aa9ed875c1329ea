/- The contract of the program's WorldValid. Condition: the run reads as plain data. -/
import Derived.Test.YtjpaoadbgmmoeaaWB15
import Derived.Test.YtjpaoadbgmmoeaaWB11
namespace Go.Proofs.Ytjpaoadbgmmoeaa
open Go.RowKit

def Hd.agg (h : Hd) (now : Int) : Value := .agg #[.int .i64 now, .slice h.A1 h.n1 h.c1, .slice h.A2 h.n2 h.c2, .slice h.A3 h.n3 h.c3, .slice h.A4 h.n4 h.c4, .slice h.A5 h.n5 h.c5, .slice h.A6 h.n6 h.c6, .slice h.A7 h.n7 h.c7, .slice h.A8 h.n8 h.c8, .slice h.A9 h.n9 h.c9]
theorem wi_at {w : World} {ok : Nat → Prop} {A : Option Addr} {n c : Nat} {l : List Wi} (h : SliceR WiR 9 w ok A n c l) {k : Nat} (hk : k < n) : ∃ b o x A' n' c', A = some ⟨b, o, none⟩ ∧ ok b ∧ l[k]? = some x ∧ (I64 x.path ∧ I64 x.num ∧ I64 x.frame.kind ∧ I64 x.frame.a ∧ I64 x.frame.b ∧ I64 x.frame.c) ∧ x.frame.data.length ≤ 1099511627776 ∧ RgS w ok A' n' c' x.frame.ranges ∧
    w.cell? ⟨b, o + k * 9, none⟩ = some (.int .i64 x.path) ∧ w.cell? ⟨b, o + k * 9 + 1, none⟩ = some (.int .i64 x.num) ∧ w.cell? ⟨b, o + k * 9 + 2, none⟩ = some (.int .i64 x.frame.kind) ∧ w.cell? ⟨b, o + k * 9 + 3, none⟩ = some (.int .i64 x.frame.a) ∧ w.cell? ⟨b, o + k * 9 + 4, none⟩ = some (.int .i64 x.frame.b) ∧ w.cell? ⟨b, o + k * 9 + 5, none⟩ = some (.int .i64 x.frame.c) ∧ w.cell? ⟨b, o + k * 9 + 6, none⟩ = some (.string (S x.frame.data)) ∧ w.cell? ⟨b, o + k * 9 + 7, none⟩ = some (.slice A' n' c') ∧ w.cell? ⟨b, o + k * 9 + 8, none⟩ = some (.bool x.genuine) := by
  obtain ⟨b, o, cs, x, e, hb, hx, _, ⟨A', n', c', rfl, h1, h2, h3, h4, h5, h6, h7, h8⟩, hc⟩ := h.at_ hk
  exact ⟨b, o, x, A', n', c', e, hb, hx, ⟨h1, h2, h3, h4, h5, h6⟩, h7, h8, by have := hc 0 _ rfl; rwa [Nat.add_zero] at this, hc 1 _ rfl, hc 2 _ rfl, hc 3 _ rfl, hc 4 _ rfl, hc 5 _ rfl, hc 6 _ rfl, hc 7 _ rfl, hc 8 _ rfl⟩
theorem paths_stop {W : Wd} {cs : List Cd} {k : Nat} (h : pathsOk W k cs = none) : ∀ j, pathsOk W (k + j) cs = none
  | 0 => h
  | j + 1 => by
    have := paths_stop h j
    show pathsOk W ((k + j) + 1) cs = none
    rw [pathsOk, this]
theorem paths_no {W : Wd} {cs r : List Cd} {k : Nat} (h : pathsOk W k cs = some r) (h' : pathOk W (k : Nat) = false ∨ flightsOk W (k : Nat) (W.ls (k : Nat)).flight r = none) : pathsOk W (k + 1) cs = none := by
  rw [pathsOk, h]
  rcases h' with h' | h'
  · simp [h']
  · simp [h']
theorem paths_yes {W : Wd} {cs r r' : List Cd} {k : Nat} (h : pathsOk W k cs = some r) (h1 : pathOk W (k : Nat) = true) (h2 : flightsOk W (k : Nat) (W.ls (k : Nat)).flight r = some r') : pathsOk W (k + 1) cs = some r' := by
  rw [pathsOk, h]
  simp [h1, h2]
theorem paths_four {W : Wd} {k : Nat} (hk : k < 4) (h : pathsOk W (k + 1) W.carried = none) : pathsOk W 4 W.carried = none := by
  have := paths_stop h (3 - k)
  rwa [show k + 1 + (3 - k) = 4 by omega] at this
def streamsOk (W : Wd) : Bool := (List.range 3).all fun i => streamOk (W.sends.getD i default) (W.recvs.getD i default) (W.got.getD i default)
theorem wd_noA {W : Wd} (h : sizesOk W = false) : wdValid W = false := by simp [wdValid, h]
theorem wd_noB {W : Wd} (h : streamsOk W = false) : wdValid W = false := by
  unfold streamsOk at h
  unfold wdValid
  rw [h, Bool.and_false]; rfl
theorem wd_noC {W : Wd} (h : ¬ pathsOk W 4 W.carried = some []) : wdValid W = false := by simp [wdValid, h]
theorem wd_noD {W : Wd} {x : Wi} (hx : x ∈ W.net) (h : wireOk W x = false) : wdValid W = false := by
  have : W.net.all (wireOk W) = false := List.all_eq_false.2 ⟨x, hx, by rw [h]; simp⟩
  simp [wdValid, this]
theorem wd_yes {W : Wd} (h1 : sizesOk W = true) (h2 : streamsOk W = true) (h3 : pathsOk W 4 W.carried = some []) (h4 : ∀ x ∈ W.net, wireOk W x = true) : wdValid W = true := by
  have : W.net.all (wireOk W) = true := List.all_eq_true.2 h4
  unfold streamsOk at h2
  unfold wdValid
  rw [h1, h2, this, h3]; rfl
theorem stream_no {W : Wd} {i : Nat} (hi : i < 3) (h : streamOk (W.sd i) (W.rv i) (W.got.getD i default) = false) : streamsOk W = false := by
  unfold streamsOk
  exact List.all_eq_false.2 ⟨i, List.mem_range.2 hi, by unfold Wd.sd Wd.rv at h; rw [Int.toNat_natCast] at h; rw [h]; simp⟩
theorem stream_yes {W : Wd} (h : ∀ i : Nat, i < 3 → streamOk (W.sd i) (W.rv i) (W.got.getD i default) = true) : streamsOk W = true := by
  unfold streamsOk
  refine List.all_eq_true.2 fun i hi => ?_
  have := h i (List.mem_range.1 hi)
  unfold Wd.sd Wd.rv at this
  rwa [Int.toNat_natCast] at this
theorem carBd_of {W : Wd} (h : ∀ i : Nat, i < 3 → SdOK (W.sd i) ∧ PcsBd (W.rv i).pieces) (hp : pathsOk W 4 W.carried = some []) : CarBd W ∧ ∀ p : Nat, p < 4 → 0 ≤ (W.ls p).next ∧ (W.ls p).next ≤ 1000 := by
  obtain ⟨h1, c1, e, h2⟩ := (pathsOk_iff W W.carried 4 []).1 hp
  rw [List.append_nil] at e
  refine ⟨⟨fun i hi => (h i hi).2, fun c hc => ?_⟩, fun p hp => (h1 p hp).ls.next⟩
  rw [e] at hc
  obtain ⟨a, _, f⟩ := h2.mem c hc
  obtain ⟨i, hi⟩ : ∃ i : Nat, c.stream = (i : Int) := ⟨c.stream.toNat, by have := f.stream; omega⟩
  have hs := (h i (by have := f.stream; omega)).1
  have hsent := f.sent
  rw [hi] at hsent
  refine ⟨f.stream, hsent.off, ?_⟩
  have k1 := hsent.nxt
  have k2 := hs.nxt.2
  have k3 := many_le hs.len
  omega
theorem Car.low {w w' : World} {ok : Nat → Prop} {B : Nat} (hok : ∀ b, ok b → b < B) (hb : Below B w w') : Car w ok w' ok := fun b h => ⟨h, hb.block b (hok b h)⟩
theorem AtP.low {w w' : World} {bw B : Nat} {h : Hd} {now : Int} (x : AtP w bw h now) (hb : Below B w w') (hB : bw < B) : AtP w' bw h now :=
  ⟨Nat.lt_of_lt_of_le x.1 hb.size, fun j v hv => (hb.cell (p := ⟨bw, j, none⟩) hB).trans (x.2 j v hv)⟩
theorem PaR.car {w w' : World} {ok : Nat → Prop} {h : Hd} {W : Wd} (x : PaR w ok h W) (hc : Car w ok w' ok) : PaR w' ok h W :=
  ⟨x.st.car hc, x.paths.car (fun _ _ => lsCar hc) hc, x.rtts.car (fun _ _ => rtCar hc) hc, x.seen.car (fun _ _ => snCar hc) hc, x.carried.car (fun _ _ => cdCar hc) hc, x.n4, x.n5, x.n7⟩
theorem atP_alloc (w : World) (h : Hd) (now : Int) (T : TypeId) : AtP (w.alloc (.cells #[.int .i64 now, .slice h.A1 h.n1 h.c1, .slice h.A2 h.n2 h.c2, .slice h.A3 h.n3 h.c3, .slice h.A4 h.n4 h.c4, .slice h.A5 h.n5 h.c5, .slice h.A6 h.n6 h.c6, .slice h.A7 h.n7 h.c7, .slice h.A8 h.n8 h.c8, .slice h.A9 h.n9 h.c9] T)) w.heap.size h now := by
  refine ⟨by simp, fun j v hv => ?_⟩
  match j, hv with
  | 0, hv => cases hv; simp
  | 1, hv => cases hv; simp
  | 2, hv => cases hv; simp
  | 3, hv => cases hv; simp
  | 4, hv => cases hv; simp
  | 5, hv => cases hv; simp
  | 6, hv => cases hv; simp
  | 7, hv => cases hv; simp
  | 8, hv => cases hv; simp
  | 9, hv => cases hv; simp
  | j + 10, hv => simp [Hd.cells] at hv
set_option maxRecDepth 10000 in
set_option maxHeartbeats 4000000 in
theorem worldValid_any (h : Hd) (W : Wd) (w : World) (ok : Nat → Prop) (hw : WdH w ok h W) (hok : Sub ok (Old w)) :
    Calls Try.prog 9 #[h.agg W.now] w fun e w' => e = .returned (.bool (wdValid W)) ∧ Below w.heap.size w w' := by
  unfold Hd.agg
  go_enter Try.func9, Try.ntmps9
  go_wp2_with fail
  obtain ⟨bw, hbw⟩ : ∃ bw, bw = w.heap.size := ⟨_, rfl⟩
  obtain ⟨W1, hW1⟩ : ∃ W1 : World, W1 = w.alloc (.cells #[.int .i64 W.now, .slice h.A1 h.n1 h.c1, .slice h.A2 h.n2 h.c2, .slice h.A3 h.n3 h.c3, .slice h.A4 h.n4 h.c4, .slice h.A5 h.n5 h.c5, .slice h.A6 h.n6 h.c6, .slice h.A7 h.n7 h.c7, .slice h.A8 h.n8 h.c8, .slice h.A9 h.n9 h.c9] 34) := ⟨_, rfl⟩
  rw [← hW1, ← hbw]
  have hb1 : Below w.heap.size w W1 := by rw [hW1]; exact b_alloc _ _
  have hp1 : AtP W1 bw h W.now := by rw [hW1, hbw]; exact atP_alloc w h W.now _
  have hw1 := hw.car (Car.below hok hb1)
  have hok1 : Sub ok (Old W1) := hok.old hb1.size
  have hokb : Hid (∀ b, ok b → b < bw) := fun b hb => by rw [hbw]; exact hok b hb
  have hbwl := hp1.1
  have Hb1 := Lib.hid hb1
  have hsb : bw ≤ W1.heap.size := Nat.le_of_lt hbwl
  have Hwb := Lib.hid hbw
  have p0 := hp1.2 0 _ rfl
  have p1 := hp1.2 1 _ rfl
  have p2 := hp1.2 2 _ rfl
  have p3 := hp1.2 3 _ rfl
  have p4 := hp1.2 4 _ rfl
  have p5 := hp1.2 5 _ rfl
  have p6 := hp1.2 6 _ rfl
  have p7 := hp1.2 7 _ rfl
  have p8 := hp1.2 8 _ rfl
  have p9 := hp1.2 9 _ rfl
  have e1 := Lib.hid hw1.sends.len
  have e2 := Lib.hid hw1.recvs.len
  have e3 := Lib.hid hw1.got.len
  have e4 := Lib.hid hw1.paths.len
  have e5 := Lib.hid hw1.rtts.len
  have e6 := Lib.hid hw1.windows.len
  have e7 := Lib.hid hw1.seen.len
  have e8 := Lib.hid hw1.carried.len
  have e9 := Lib.hid hw1.net.len
  have HWV := Lib.hid (windowsValid_any h.A6 h.n6 h.c6 W.windows W1 ok hw1.windows hok1)
  clear hW1 hb1 hw hok hbw
  cases a0 : inB W.now 0 999 with
  | false =>
    have Hno := Lib.hid (wd_noA (W := W) (by unfold sizesOk; rw [a0]; rfl))
    go_wp2_with (first | (go_at_call 29; refine (within_dec a0).mono ?_; rintro e w' ⟨rfl, rfl⟩) | (go_at_call 30; refine HWV.out.mono ?_; rintro e W2 ⟨rfl, hb2⟩))
    go_ret
    exact ⟨ret_bool Hno.out.symm, Hb1.out⟩
  | true =>
    by_cases a1 : h.n1 = 3
    rotate_left
    · have f : (((h.n1 : Nat) : Int) != 3) = true := bne_iff_ne.2 (by omega)
      have f' : ¬ ((h.n1 : Nat) : Int) = 3 := by omega
      have Hno := Lib.hid (wd_noA (W := W) (by unfold sizesOk; simp [e1.out, a1]))
      go_wp2_with (first | (go_at_call 29; refine (within_dec a0).mono ?_; rintro e w' ⟨rfl, rfl⟩) | (go_at_call 30; refine HWV.out.mono ?_; rintro e W2 ⟨rfl, hb2⟩))
      go_ret
      exact ⟨ret_bool Hno.out.symm, Hb1.out⟩
    rw [a1] at p1
    by_cases a2 : h.n2 = 3
    rotate_left
    · have f : (((h.n2 : Nat) : Int) != 3) = true := bne_iff_ne.2 (by omega)
      have f' : ¬ ((h.n2 : Nat) : Int) = 3 := by omega
      have Hno := Lib.hid (wd_noA (W := W) (by unfold sizesOk; simp [e2.out, a2]))
      go_wp2_with (first | (go_at_call 29; refine (within_dec a0).mono ?_; rintro e w' ⟨rfl, rfl⟩) | (go_at_call 30; refine HWV.out.mono ?_; rintro e W2 ⟨rfl, hb2⟩))
      go_ret
      exact ⟨ret_bool Hno.out.symm, Hb1.out⟩
    rw [a2] at p2
    by_cases a3 : h.n3 = 3
    rotate_left
    · have f : (((h.n3 : Nat) : Int) != 3) = true := bne_iff_ne.2 (by omega)
      have f' : ¬ ((h.n3 : Nat) : Int) = 3 := by omega
      have Hno := Lib.hid (wd_noA (W := W) (by unfold sizesOk; simp [e3.out, a3]))
      go_wp2_with (first | (go_at_call 29; refine (within_dec a0).mono ?_; rintro e w' ⟨rfl, rfl⟩) | (go_at_call 30; refine HWV.out.mono ?_; rintro e W2 ⟨rfl, hb2⟩))
      go_ret
      exact ⟨ret_bool Hno.out.symm, Hb1.out⟩
    rw [a3] at p3
    by_cases a4 : h.n4 = 4
    rotate_left
    · have f : (((h.n4 : Nat) : Int) != 4) = true := bne_iff_ne.2 (by omega)
      have f' : ¬ ((h.n4 : Nat) : Int) = 4 := by omega
      have Hno := Lib.hid (wd_noA (W := W) (by unfold sizesOk; simp [e4.out, a4]))
      go_wp2_with (first | (go_at_call 29; refine (within_dec a0).mono ?_; rintro e w' ⟨rfl, rfl⟩) | (go_at_call 30; refine HWV.out.mono ?_; rintro e W2 ⟨rfl, hb2⟩))
      go_ret
      exact ⟨ret_bool Hno.out.symm, Hb1.out⟩
    rw [a4] at p4
    by_cases a5 : h.n5 = 4
    rotate_left
    · have f : (((h.n5 : Nat) : Int) != 4) = true := bne_iff_ne.2 (by omega)
      have f' : ¬ ((h.n5 : Nat) : Int) = 4 := by omega
      have Hno := Lib.hid (wd_noA (W := W) (by unfold sizesOk; simp [e5.out, a5]))
      go_wp2_with (first | (go_at_call 29; refine (within_dec a0).mono ?_; rintro e w' ⟨rfl, rfl⟩) | (go_at_call 30; refine HWV.out.mono ?_; rintro e W2 ⟨rfl, hb2⟩))
      go_ret
      exact ⟨ret_bool Hno.out.symm, Hb1.out⟩
    rw [a5] at p5
    by_cases a6 : h.n6 = 4
    rotate_left
    · have f : (((h.n6 : Nat) : Int) != 4) = true := bne_iff_ne.2 (by omega)
      have f' : ¬ ((h.n6 : Nat) : Int) = 4 := by omega
      have Hno := Lib.hid (wd_noA (W := W) (by unfold sizesOk; simp [e6.out, a6]))
      go_wp2_with (first | (go_at_call 29; refine (within_dec a0).mono ?_; rintro e w' ⟨rfl, rfl⟩) | (go_at_call 30; refine HWV.out.mono ?_; rintro e W2 ⟨rfl, hb2⟩))
      go_ret
      exact ⟨ret_bool Hno.out.symm, Hb1.out⟩
    rw [a6] at p6
    by_cases a7 : h.n7 = 4
    rotate_left
    · have f : (((h.n7 : Nat) : Int) != 4) = true := bne_iff_ne.2 (by omega)
      have f' : ¬ ((h.n7 : Nat) : Int) = 4 := by omega
      have Hno := Lib.hid (wd_noA (W := W) (by unfold sizesOk; simp [e7.out, a7]))
      go_wp2_with (first | (go_at_call 29; refine (within_dec a0).mono ?_; rintro e w' ⟨rfl, rfl⟩) | (go_at_call 30; refine HWV.out.mono ?_; rintro e W2 ⟨rfl, hb2⟩))
      go_ret
      exact ⟨ret_bool Hno.out.symm, Hb1.out⟩
    rw [a7] at p7
    have HWV' := HWV.out
    rw [a6] at HWV'
    cases a8 : wnsValid W.windows with
    | false =>
      rw [a8] at HWV'
      have Hno := Lib.hid (wd_noA (W := W) (by unfold sizesOk; rw [a8]; simp))
      have HWV := Lib.hid HWV'
      clear HWV' a8
      go_wp2_with (first | (go_at_call 29; refine (within_dec a0).mono ?_; rintro e w' ⟨rfl, rfl⟩) | (go_at_call 30; refine HWV.out.mono ?_; rintro e W2 ⟨rfl, hb2⟩))
      go_ret
      exact ⟨ret_bool Hno.out.symm, Hb1.out.trans (hb2.mono Hb1.out.size)⟩
    | true =>
      rw [a8] at HWV'
      have HWV := Lib.hid HWV'
      clear HWV'
      by_cases a9 : h.n9 ≤ 10
      rotate_left
      · have f : decide ((10 : Int) < ((h.n9 : Nat) : Int)) = true := by simp; omega
        have f' : (10 : Int) < ((h.n9 : Nat) : Int) := by omega
        have Hno := Lib.hid (wd_noA (W := W) (by unfold sizesOk; simp [e9.out, a9]))
        clear a9 a8
        go_wp2_with (go_at_call 29; refine (within_dec a0).mono ?_; rintro e w' ⟨rfl, rfl⟩)
        refine HWV.out.mono ?_
        rintro e W2 ⟨rfl, hb2⟩
        have p9' := (hb2.cell (p := ⟨bw, 9, none⟩) hbwl).trans p9
        go_wp2
        go_ret
        exact ⟨ret_bool Hno.out.symm, Hb1.out.trans (hb2.mono Hb1.out.size)⟩
      have f : ¬ (10 : Int) < ((h.n9 : Nat) : Int) := by omega
      have f' : decide ((10 : Int) < ((h.n9 : Nat) : Int)) = false := by simp; omega
      have Hsz := Lib.hid (show sizesOk W = true by unfold sizesOk; simp [a0, e1.out, e2.out, e3.out, e4.out, e5.out, e6.out, e7.out, e9.out, a1, a2, a3, a4, a5, a6, a7, a8, a9])
      go_wp2_with (go_at_call 29; refine (within_dec a0).mono ?_; rintro e w' ⟨rfl, rfl⟩)
      refine HWV.out.mono ?_
      rintro e W2 ⟨rfl, hb2⟩
      have hp2 := hp1.below hb2
      have hw2 := hw1.car (Car.below hok1 hb2)
      have hok2 : Sub ok (Old W2) := hok1.old hb2.size
      have HB2 := Lib.hid (Hb1.out.trans (hb2.mono Hb1.out.size))
      have hsz2 : w.heap.size ≤ W2.heap.size := HB2.out.size
      have hbw2 := hp2.1
      clear p0 p1 p2 p3 p4 p5 p6 p7 p8 p9 hw1 hp1 hb2 HWV Hb1 a8 hok1 hbwl hsb
      have p1 := hp2.2 1 _ rfl
      have p4 := hp2.2 4 _ rfl
      have p9 := hp2.2 9 _ rfl
      rw [a1] at p1
      rw [a4] at p4
      have hs2 : StR W2 ok h W := ⟨hw2.sends, hw2.recvs, a1, a2⟩
      have hpr2 : PaR W2 ok h W := ⟨hs2, hw2.paths, hw2.rtts, hw2.seen, hw2.carried, a4, a5, a7⟩
      have hgot2 := hw2.got
      have hcar2 := hw2.carried
      have hnet2 := hw2.net
      have hnow := hw2.now
      have A3' := Lib.hid a3
      clear hw2 a1 a2 a3 a4 a5 a6 a7 a9 e1 e2 e3 e4 e5 e6 e7
      go_wp2_with fail
      go_loopg [65] 3 (fun m v wr => ∃ k : Nat, k + m = 3 ∧ v = .int .i64 (k : Int) ∧ Below W2.heap.size W2 wr ∧ Hid (∀ i : Nat, i < k → streamOk (W.sd i) (W.rv i) (W.got.getD i default) = true))
      case atStart => exact ⟨0, by omega, rfl, Below.refl _ _, fun i hi => absurd hi (by omega)⟩
      case round =>
        obtain ⟨k, hk, rfl, hbr, HT⟩ := hrel
        have hsr := hbr.size
        by_cases hlt : k < 3
        · have HV := Lib.hid (streamValid_any h W bw k wr ok (hp2.below hbr) (hs2.below hok2 hbr) (hgot2.below bsCar hok2 hbr (Nat.le_refl _)) A3'.out (hok2.old hbr.size) hlt)
          have Hbr := Lib.hid hbr
          clear hbr
          go_wp2_with fail
          refine HV.out.mono ?_
          rintro e W3 ⟨rfl, hb3⟩
          have Hb3 := Lib.hid (Hbr.out.trans (hb3.mono hsr))
          clear HV hb3
          cases hv : streamOk (W.sd k) (W.rv k) (W.got.getD k default) with
          | false =>
            have Hno := Lib.hid (wd_noB (stream_no hlt hv))
            have Hb := Lib.hid (HB2.out.trans (Hb3.out.mono hsz2))
            clear hv HT
            go_wp2
            go_ret
            exact ⟨ret_bool Hno.out.symm, Hb.out⟩
          | true =>
            have HT' : Hid (∀ i : Nat, i < k + 1 → streamOk (W.sd i) (W.rv i) (W.got.getD i default) = true) := fun i hi => by
              by_cases hik : i < k
              · exact HT.out i hik
              · obtain rfl : i = k := by omega
                exact hv
            clear hv HT
            go_wp2
            go_roundg (3 - (k + 1))
            case measure => omega
            case rel => exact ⟨k + 1, by omega, by go_num, Hb3.out, HT'⟩
        · have hk3 : k = 3 := by omega
          subst hk3
          have Hss := Lib.hid (stream_yes HT.out)
          have Hst : Hid (∀ i : Nat, i < 3 → SdOK (W.sd i) ∧ PcsBd (W.rv i).pieces) := fun i hi => ⟨((st_iff _ _ _).1 (HT.out i hi)).sd, pcs_bd ((st_iff _ _ _).1 (HT.out i hi)).rv⟩
          have hpr := hpr2.below hok2 hbr
          have hp := hp2.below hbr
          have hok3 : Sub ok (Old wr) := hok2.old hbr.size
          have HBr := Lib.hid (HB2.out.trans (hbr.mono hsz2))
          have p4' := (hbr.cell (p := ⟨bw, 4, none⟩) hbw2).trans p4
          have hcar := hcar2.below cdCar hok2 hbr (Nat.le_refl _)
          have hnet := hnet2.below wiCar hok2 hbr (Nat.le_refl _)
          clear HT hpr2 hp2 hs2 hgot2 hcar2 hnet2 p1 p4 p9 hbr
          obtain ⟨bc, hbc⟩ : ∃ bc, bc = wr.heap.size := ⟨_, rfl⟩
          obtain ⟨W3, hW3⟩ : ∃ W3 : World, W3 = wr.alloc (.cells #[.int .i64 0] 3) := ⟨_, rfl⟩
          have hb3 : Below wr.heap.size wr W3 := by rw [hW3]; exact b_alloc _ _
          have p4'' := (hb3.cell (p := ⟨bw, 4, none⟩) hp.1).trans p4'
          rw [hW3] at p4''
          have c3 : W3.cell? ⟨bc, 0, none⟩ = some (.int .i64 ((0 : Nat) : Int)) := by rw [hW3, hbc]; simp
          have f3 : W3.frozen? ⟨bc, 0, none⟩ = false := by rw [hW3, hbc]; simp
          have hl3 : bc < W3.heap.size := by rw [hW3, hbc]; simp
          have hp3 := hp.below hb3
          have hpr3 := hpr.below hok3 hb3
          have hcar3 := hcar.below cdCar hok3 hb3 (Nat.le_refl _)
          have hnet3 := hnet.below wiCar hok3 hb3 (Nat.le_refl _)
          have HB3 := Lib.hid (HBr.out.trans (hb3.mono HBr.out.size))
          have hwbc : w.heap.size ≤ bc := by rw [hbc]; exact HBr.out.size
          have hbwbc : bw < bc := by rw [hbc]; exact hp.1
          have hokbc : Hid (∀ b, ok b → b < bc) := fun b hb => by rw [hbc]; exact hok3 b hb
          clear hp hpr hcar hnet hb3 p4' hok3 HBr
          go_wp2_with fail
          rw [← hW3, ← hbc]
          clear hW3 hbc p4''
          go_loopg [75] 4 (fun m v wr => ∃ k : Nat, k + m = 4 ∧ v = .int .i64 (k : Int) ∧ Below bc W3 wr ∧ wr.frozen? ⟨bc, 0, none⟩ = false ∧ ∃ cc : Nat, cc ≤ W.carried.length ∧ wr.cell? ⟨bc, 0, none⟩ = some (.int .i64 (cc : Int)) ∧ Hid (pathsOk W k W.carried = some (W.carried.drop cc)))
          case atStart => exact ⟨0, by omega, rfl, Below.refl _ _, f3, 0, Nat.zero_le _, c3, rfl⟩
          case round =>
            obtain ⟨k, hk, rfl, hbr, hfr, cc, hcc, hct, HT⟩ := hrel
            have hsr := hbr.size
            have hcr := Car.low hokbc.out hbr
            have hp4 := hp3.low hbr hbwbc
            have hlr : bc < wr.heap.size := Nat.lt_of_lt_of_le hl3 hsr
            have hokr : Sub ok (Old wr) := fun b hb => Nat.lt_trans (hokbc.out b hb) hlr
            by_cases hlt : k < 4
            · have HV := Lib.hid (pathValid_any h W bw k bc cc wr ok hp4 (hpr3.car hcr) hokr hokbc.out hbwbc hlr hct hfr hcc hlt hnow Hst.out)
              have Hbr := Lib.hid hbr
              clear hbr hcr hp4 hct hfr
              go_wp2_with fail
              refine HV.out.mono ?_
              rintro e W4 ⟨hb4, hres⟩
              have Hb4 := Lib.hid (Hbr.out.trans hb4)
              have HB4 := Lib.hid (HB3.out.trans (Hb4.out.mono hwbc))
              rcases hres with ⟨rfl, h1, K', h2, h3, h4, h5⟩ | ⟨rfl, hno⟩
              · have HT' := Lib.hid (paths_yes HT.out h1 h3)
                clear HT HV hb4 h1 h3 hcc
                go_wp2
                go_roundg (4 - (k + 1))
                case measure => omega
                case rel => exact ⟨k + 1, by omega, by go_num, Hb4.out, h5, K', h2, h4, HT'⟩
              · have Hno := Lib.hid (wd_noC (W := W) (by rw [paths_four hlt (paths_no HT.out hno)]; simp))
                clear HT HV hb4 hno
                go_wp2
                go_ret
                exact ⟨ret_bool Hno.out.symm, HB4.out⟩
            · have hk4 : k = 4 := by omega
              subst hk4
              have HBf := Lib.hid (HB3.out.trans (hbr.mono hwbc))
              have p8 := hp4.2 8 _ rfl
              have p9 := hp4.2 9 _ rfl
              have hst4 := hpr3.st.car hcr
              have hpa4 := hpr3.paths.car (fun _ _ => lsCar hcr) hcr
              have hn4 := Lib.hid hpr3.n4
              have hcar4 := hcar3.car (fun _ _ => cdCar hcr) hcr
              have hnet4 := hnet3.car (fun _ _ => wiCar hcr) hcr
              have hct' := hct
              clear hp3 hpr3 hcar3 hnet3 hbr hcr c3 f3 hct
              by_cases hcl : cc = h.n8
              rotate_left
              · have f8 : (((cc : Nat) : Int) != ((h.n8 : Nat) : Int)) = true := bne_iff_ne.2 (by omega)
                have f8' : ¬ ((cc : Nat) : Int) = ((h.n8 : Nat) : Int) := by omega
                have Hno := Lib.hid (wd_noC (W := W) (by
                  rw [HT.out]
                  intro e
                  have e' := congrArg List.length (Option.some.inj e)
                  rw [List.length_drop, List.length_nil, e8.out] at e'
                  rw [e8.out] at hcc
                  omega))
                clear hcl HT hcc
                go_wp2_with fail
                go_ret
                exact ⟨ret_bool Hno.out.symm, HBf.out⟩
              have Hpa := Lib.hid (show pathsOk W 4 W.carried = some [] by rw [HT.out, List.drop_eq_nil_of_le (by rw [e8.out]; omega)])
              have hcb := (carBd_of Hst.out Hpa.out)
              have Hcb := Lib.hid hcb.1
              have Hnx := Lib.hid hcb.2
              rw [hcl] at hct'
              obtain ⟨A9, N9, C9, hE9⟩ : ∃ A N C, Value.slice A N C = Value.slice h.A9 h.n9 h.c9 ∧ SliceR WiR 9 wr ok A N C W.net := ⟨_, _, _, rfl, hnet4⟩
              rw [← hE9.1] at p9
              have hnet5 := hE9.2
              have hcap9 := hnet5.cap
              have hlen9 := Lib.hid hnet5.len
              clear hE9 hnet4 hcl hcc HT hcb e9 f f'
              go_wp2_with fail
              have Hcell := Lib.hid hct'
              clear hct'
              rename World => Wf
              go_loopg [90] N9 (fun m v wr => ∃ k : Nat, k + m = N9 ∧ v = .int .i64 (k : Int) ∧ Below Wf.heap.size Wf wr ∧ Hid (∀ x ∈ W.net.take k, wireOk W x = true))
              case atStart => exact ⟨0, by omega, rfl, Below.refl _ _, by simp [Hid]⟩
              case round =>
                obtain ⟨k, hk, rfl, hbn, HT⟩ := hrel
                by_cases hlt : k < N9
                · obtain ⟨b, o, x, A'', n'', c'', rfl, hb, hx, hI, hd, hrg, g0, g1, g2, g3, g4, g5, g6, g7, g8⟩ := wi_at (hnet5.below wiCar hokr hbn (Nat.le_refl _)) hlt
                  have Hx := Lib.hid hx
                  have q3 : (0 : Int) ≤ (k : Int) := by omega
                  have q4 : (k : Int) < (N9 : Int) := by omega
                  obtain ⟨xk, hxk⟩ : ∃ xk, xk = wr.heap.size := ⟨_, rfl⟩
                  obtain ⟨Wx, hWx⟩ : ∃ Wx : World, Wx = wr.alloc (.cells #[.int .i64 x.path, .int .i64 x.num, .int .i64 x.frame.kind, .int .i64 x.frame.a, .int .i64 x.frame.b, .int .i64 x.frame.c, .string (S x.frame.data), .slice A'' n'' c'', .bool x.genuine] 81) := ⟨_, rfl⟩
                  have hbx : Below wr.heap.size wr Wx := by rw [hWx]; exact b_alloc _ _
                  have d0 : Wx.cell? ⟨xk, 0, none⟩ = some (.int .i64 x.path) := by rw [hxk, hWx]; simp
                  have d1 : Wx.cell? ⟨xk, 1, none⟩ = some (.int .i64 x.num) := by rw [hxk, hWx]; simp
                  have d2 : Wx.cell? ⟨xk, 2, none⟩ = some (.int .i64 x.frame.kind) := by rw [hxk, hWx]; simp
                  have d3 : Wx.cell? ⟨xk, 3, none⟩ = some (.int .i64 x.frame.a) := by rw [hxk, hWx]; simp
                  have d4 : Wx.cell? ⟨xk, 4, none⟩ = some (.int .i64 x.frame.b) := by rw [hxk, hWx]; simp
                  have d5 : Wx.cell? ⟨xk, 5, none⟩ = some (.int .i64 x.frame.c) := by rw [hxk, hWx]; simp
                  have d6 : Wx.cell? ⟨xk, 6, none⟩ = some (.string (S x.frame.data)) := by rw [hxk, hWx]; simp
                  have d7 : Wx.cell? ⟨xk, 7, none⟩ = some (.slice A'' n'' c'') := by rw [hxk, hWx]; simp
                  have d8 : Wx.cell? ⟨xk, 8, none⟩ = some (.bool x.genuine) := by rw [hxk, hWx]; simp
                  have hbnx : Below Wf.heap.size Wf Wx := hbn.trans (hbx.mono hbn.size)
                  have hokn : Sub ok (Old wr) := hokr.old hbn.size
                  have HV := wireValid_any h W bw x A'' n'' c'' Wx ok (hp4.below hbnx) (hst4.below hokr hbnx) (hpa4.below lsCar hokr hbnx (Nat.le_refl _)) hn4.out (hcar4.below cdCar hokr hbnx (Nat.le_refl _)) (hokn.old hbx.size) Hcb.out Hnx.out (hrg.below rgCar hokn hbx (Nat.le_refl _)) hI hd
                  unfold Wi.agg at HV
                  have HV' := Lib.hid HV
                  have Hbx := Lib.hid hbnx
                  clear HV hbx hbnx hokn hbn hrg hx
                  go_wp2_with fail
                  rw [← hWx]
                  clear hWx hxk
                  refine HV'.out.mono ?_
                  rintro e Wy ⟨rfl, hby⟩
                  have Hby := Lib.hid (Hbx.out.trans (hby.mono Hbx.out.size))
                  cases hv : wireOk W x with
                  | false =>
                    have Hno := Lib.hid (wd_noD (List.mem_of_getElem? Hx.out) hv)
                    have Hb := Lib.hid (HBf.out.trans (Hby.out.mono HBf.out.size))
                    clear hv HT hby
                    go_wp2
                    go_ret
                    exact ⟨ret_bool Hno.out.symm, Hb.out⟩
                  | true =>
                    have HT' : Hid (∀ y ∈ W.net.take (k + 1), wireOk W y = true) := fun y hy => by
                      rw [List.take_add_one, Hx.out, List.mem_append] at hy
                      rcases hy with hy | hy
                      · exact HT.out y hy
                      · simp at hy; subst hy; exact hv
                    clear hv HT hby
                    go_wp2
                    go_roundg (N9 - (k + 1))
                    case measure => omega
                    case rel => exact ⟨k + 1, by omega, by go_num, Hby.out, HT'⟩
                · have hk9 : N9 ≤ k := by omega
                  have Hyes := Lib.hid (wd_yes Hsz.out Hss.out Hpa.out (fun x hx => HT.out x (by rw [List.take_of_length_le (by rw [hlen9.out]; exact hk9)]; exact hx)))
                  have Hb := Lib.hid (HBf.out.trans (hbn.mono HBf.out.size))
                  clear HT hbn
                  go_wp2
                  go_ret
                  exact ⟨ret_bool Hyes.out.symm, Hb.out⟩
end Go.Proofs.Ytjpaoadbgmmoeaa
