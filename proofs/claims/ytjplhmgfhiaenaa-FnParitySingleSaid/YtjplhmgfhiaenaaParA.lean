/- Contracts of the small functions of parity groups: the tests and the sums. Condition: slices read as lists of strings of bounded length. -/
import Derived.Test.YtjplhmgfhiaenaaPar
import Derived.StillTailTactics
import Derived.Deep.LoopGhost
namespace Go.Proofs.Ytjplhmgfhiaenaa
open Go.RowKit

set_option maxHeartbeats 400000 in
theorem within_any (n lo hi : Int) (w : World) :
    Calls Try.prog 34 #[.int .i64 n, .int .i64 lo, .int .i64 hi] w fun e w' => e = .returned (.bool (withinB n lo hi)) ∧ w = w' := by
  by_cases h1 : lo ≤ n <;> by_cases h2 : n ≤ hi
  all_goals
    go_enter Try.func34, Try.ntmps34
    go_wp2
    go_ret
    exact ⟨by simp [withinB, h1, h2], rfl⟩
set_option maxHeartbeats 400000 in
theorem l6In_any (n lo hi : Int) (w : World) :
    Calls Try.prog 33 #[.int .i64 n, .int .i64 lo, .int .i64 hi] w fun e w' => e = .returned (.bool (withinB n lo hi)) ∧ w = w' := by
  by_cases h1 : lo ≤ n <;> by_cases h2 : n ≤ hi
  all_goals
    go_enter Try.func33, Try.ntmps33
    go_wp2
    go_ret
    exact ⟨by simp [withinB, h1, h2], rfl⟩

theorem gv_done {n : Nat} {ss : List Bs} {k : Nat} (hlen : ss.length = n) (hk : k ≤ n) (hlt : ¬ k < n) (hp : (ss.take k).all shortB = true) : gvB ss = withinB n 1 4 := by
  rw [all_take_le _ _ _ (by omega)] at hp
  simp [gvB, hp, hlen]
theorem gv_no {ss : List Bs} {k : Nat} {u : Bs} (hu : ss[k]? = some u) (h : ¬ u.length ≤ 12) : gvB ss = false := by
  simp only [gvB, all_false shortB ss k u hu (by simpa [shortB] using h), Bool.false_and]
theorem gv_next {ss : List Bs} {k : Nat} {u : Bs} (hu : ss[k]? = some u) (h : u.length ≤ 12) (hp : (ss.take k).all shortB = true) : (ss.take (k + 1)).all shortB = true := by
  rw [all_take_succ _ _ _ _ hu, hp]; simpa [shortB] using h

set_option maxHeartbeats 400000 in
theorem groupValid_any (A : Option Addr) (n c : Nat) (ss : List Bs) (w : World) (B : Nat) (h : Strs 1048576 w B A n ss) :
    Calls Try.prog 20 #[.slice A n c] w fun e w' => e = .returned (.bool (gvB ss)) ∧ w = w' := by
  have hn := h.2.1
  have hlen := Lib.hid h.len
  go_enter Try.func20, Try.ntmps20
  go_wp2
  go_loop [7] (fun i => ∃ k : Nat, k ≤ n ∧ i = .int .i64 k ∧ Hid ((ss.take k).all shortB = true)) (fun i => n - (intOf i).toNat)
  case atStart => exact ⟨0, by omega, rfl, by simp [Hid]⟩
  case round =>
    obtain ⟨k, hk, rfl, hp⟩ := hrel
    by_cases hlt : k < n
    · obtain ⟨b, o, u, rfl, hb, hu, hus, hc⟩ := h.at_ hlt
      have hu' := Lib.hid hu
      clear hu
      by_cases h12 : u.length ≤ 12
      · go_wp2
        go_round
        case rel => exact ⟨k+1, by omega, by go_num, gv_next hu'.out h12 hp.out⟩
        case measure => simp [intOf]; omega
      · go_wp2
        go_ret
        exact ⟨ret_bool (gv_no hu'.out h12).symm, rfl⟩
    · go_wp2_with (go_at_call 34; refine (within_any _ _ _ _).mono ?_; rintro e w' ⟨rfl, rfl⟩)
      go_ret
      exact ⟨ret_bool (gv_done hlen.out hk hlt hp.out).symm, rfl⟩

set_option maxHeartbeats 400000 in
theorem sGroupValid_any (A : Option Addr) (n c : Nat) (ss : List Bs) (w : World) (B : Nat) (h : Strs 1048576 w B A n ss) :
    Calls Try.prog 18 #[.slice A n c] w fun e w' => e = .returned (.bool (gvB ss)) ∧ w = w' := by
  have hn := h.2.1
  have hlen := Lib.hid h.len
  go_enter Try.func18, Try.ntmps18
  go_wp2
  go_loop [3] (fun i => ∃ k : Nat, k ≤ n ∧ i = .int .i64 k ∧ Hid ((ss.take k).all shortB = true)) (fun i => n - (intOf i).toNat)
  case atStart => exact ⟨0, by omega, rfl, by simp [Hid]⟩
  case round =>
    obtain ⟨k, hk, rfl, hp⟩ := hrel
    by_cases hlt : k < n
    · obtain ⟨b, o, u, rfl, hb, hu, hus, hc⟩ := h.at_ hlt
      have hu' := Lib.hid hu
      clear hu
      by_cases h12 : u.length ≤ 12
      · go_wp2
        go_round
        case rel => exact ⟨k+1, by omega, by go_num, gv_next hu'.out h12 hp.out⟩
        case measure => simp [intOf]; omega
      · go_wp2
        go_ret
        exact ⟨ret_bool (gv_no hu'.out h12).symm, rfl⟩
    · go_wp2_with (go_at_call 33; refine (l6In_any _ _ _ _).mono ?_; rintro e w' ⟨rfl, rfl⟩)
      go_ret
      exact ⟨ret_bool (gv_done hlen.out hk hlt hp.out).symm, rfl⟩

theorem byteAt_lt {s : Bs} (h : s.length ≤ 12) (k : Nat) : byteAt s k < 256 := by
  unfold byteAt; split
  · omega
  · exact UInt8.toNat_lt _

set_option maxHeartbeats 400000 in
theorem l44Byte_any (s : Bs) (k : Nat) (w : World) (_hs : s.length ≤ 1048576) (hk : k ≤ 1048576) :
    Calls Try.prog 42 #[.string (S s), .int .i64 k] w fun e w' => e = .returned (.int .i64 (byteAt s k)) ∧ w = w' := by
  rcases Nat.eq_zero_or_pos k with rfl | h0
  · go_enter Try.func42, Try.ntmps42
    go_wp2
    go_ret
    exact ⟨by simp [byteAt], rfl⟩
  · obtain ⟨j, rfl⟩ : ∃ j, k = j + 1 := ⟨k - 1, by omega⟩
    have hb := UInt8.toNat_lt (s[j]?.getD 0)
    by_cases h1 : j + 1 ≤ s.length
    · go_enter Try.func42, Try.ntmps42
      go_wp2
      go_ret
      exact ⟨by simp [byteAt], rfl⟩
    · go_enter Try.func42, Try.ntmps42
      go_wp2
      go_ret
      exact ⟨by simp [byteAt, List.getElem?_eq_none (show s.length ≤ j by omega)], rfl⟩

/-- What l44Make has summed: cell k after the first i payloads, and of payload i the bytes below j. -/
def sumTo (ss : List Bs) (wo : Int) (i k : Nat) : Nat := ((ss.take i).zipIdx.map fun (s, t) => if (t : Int) = wo then 0 else byteAt s k).sum
def made (ss : List Bs) (wo : Int) (size i j : Nat) : List Value :=
  (List.range size).map fun k => Value.int .i64 (((if k < j then sumTo ss wo (i + 1) k else sumTo ss wo i k) % 256 : Nat) : Int)
theorem sumTo_succ {ss : List Bs} {wo : Int} {i : Nat} {u : Bs} (hu : ss[i]? = some u) (k : Nat) : sumTo ss wo (i + 1) k = sumTo ss wo i k + if (i : Int) = wo then 0 else byteAt u k := by
  have hi : i < ss.length := (List.getElem?_eq_some_iff.1 hu).1
  unfold sumTo
  rw [List.take_add_one, hu, List.zipIdx_append, List.map_append, List.sum_append]
  simp [Nat.min_eq_left (Nat.le_of_lt hi)]
theorem made_get {ss : List Bs} {wo : Int} {size k j : Nat} (hj : j < size) : (made ss wo size k j)[j]? = some (.int .i64 ((sumTo ss wo k j % 256 : Nat) : Int)) := by
  simp [made, hj]
theorem made_set {ss : List Bs} {wo : Int} {size k j q : Nat} {u : Bs} (hu : ss[k]? = some u) (hk : ¬ (k : Int) = wo) (hq : q = sumTo ss wo k j % 256) :
    (made ss wo size k j).set j (.int .i64 (((q : Int) + (byteAt u j : Int)) % 256)) = made ss wo size k (j + 1) := by
  apply List.ext_getElem?
  intro t
  rw [List.getElem?_set]
  by_cases ht : t < size
  · by_cases e : j = t
    · subst e
      have h1 := sumTo_succ (wo := wo) hu j
      rw [if_neg hk] at h1
      simp [made, ht]
      omega
    · have h2 : (t < j + 1) ↔ (t < j) := by omega
      simp [made, ht, e, h2]
  · simp [made, ht]
    omega
theorem made_row {ss : List Bs} {wo : Int} {size k : Nat} : made ss wo size k size = made ss wo size (k + 1) 0 := by
  unfold made
  apply List.map_congr_left
  intro t ht
  simp at ht
  simp [ht]
theorem made_skip {ss : List Bs} {wo : Int} {size k : Nat} {u : Bs} (hu : ss[k]? = some u) (hk : (k : Int) = wo) : made ss wo size k 0 = made ss wo size (k + 1) 0 := by
  unfold made
  apply List.map_congr_left
  intro t _
  simp [sumTo_succ hu, hk]
theorem made_start {ss : List Bs} {wo : Int} {size : Nat} : (madeCells #[Value.int .i64 0] size).toList = made ss wo size 0 0 := by
  rw [toList_madeCells_one]
  apply List.ext_getElem?
  intro t
  by_cases ht : t < size <;> simp [made, sumTo, ht]
theorem info3 : (Try.prog.info? 3).map (fun i => (i.zero, i.size, i.bytes)) = some (some (.int .i64 0), 1, 8) := by kernel_rfl

set_option maxHeartbeats 400000 in
theorem l44Make_any (A : Option Addr) (n c : Nat) (ss : List Bs) (size : Nat) (wo : Int) (w : World) (B : Nat) (h : Strs 1048576 w B A n ss) (hB : B ≤ w.heap.size) (h12 : ∀ s ∈ ss, s.length ≤ 12) (hs : size ≤ 1048576)
    (_hw1 : -1 ≤ wo) (hw2 : wo ≤ 1048576) :
    Calls Try.prog 35 #[.slice A n c, .int .i64 size, .int .i64 wo] w fun e w' => ∃ g, e = .returned (.slice (some ⟨g, 0, none⟩) size size) ∧ Below w.heap.size w w' ∧
      w'.ownsRow w.heap.size 3 1 (.slice (some ⟨g, 0, none⟩) size size) size (made ss wo size n 0) := by
  have hn := h.2.1
  have hlen := Lib.hid h.len
  obtain ⟨i0, hi, hz0, hz1, hz2⟩ := info_parts info3
  go_enter Try.func35, Try.ntmps35
  go_wp2_with (at_make; refine wpList_make_full _ rfl _ _ 42 rfl w.heap.size 3 i0 _ 1 Try.underlying42 hi hz0 hz1 _ _ _ _ size rfl rfl rfl rfl (by rw [hz2]; omega) (by unfold maxLen; omega) (Nat.le_refl _) ?_)
  intro w1 hown hgrow
  have hb1 : Below w.heap.size w w1 := (Below.refl _ _).grown hgrow (Nat.le_refl _) (by intro k hk; cases hk)
  clear hgrow
  obtain ⟨g, hg⟩ : ∃ g, g = w.heap.size := ⟨_, rfl⟩
  obtain ⟨B0, hB0⟩ : ∃ B0, B0 = w.heap.size := ⟨_, rfl⟩
  have hg0 : B ≤ g := by omega
  have hBB : B ≤ B0 := by omega
  have hown' : w1.ownsRow B0 3 1 (.slice (some ⟨g, 0, none⟩) size size) size (made ss wo size 0 0) := by
    rw [hg, hB0, ← made_start]; exact hown
  rw [← hg]
  have Hg := Lib.hid hg
  have HB0 := Lib.hid hB0
  clear hown hg hB0
  go_wp2
  go_loopg [8] n (fun m i wr => ∃ k : Nat, k + m = n ∧ i = .int .i64 k ∧ Below B0 w wr ∧ wr.ownsRow B0 3 1 (.slice (some ⟨g, 0, none⟩) size size) size (made ss wo size k 0))
  case atStart => exact ⟨0, by omega, rfl, by rw [HB0.out]; exact hb1, hown'⟩
  case round =>
    obtain ⟨k, hk, rfl, hbr, hor⟩ := hrel
    by_cases hlt : k < n
    · by_cases hkw : (k : Int) = wo
      · obtain ⟨b, o, u, rfl, hb, hu, hus, hc⟩ := (h.below hbr hBB).at_ hlt
        have hu' := Lib.hid hu
        have hkw' : ((k : Int) != wo) = false := by simp [hkw]
        have hs0 : wo ≤ 1048576 := by omega
        have Hkw := Lib.hid hkw
        clear hu hkw
        obtain ⟨w0, rfl⟩ : ∃ w0 : World, w0 = wr := ⟨_, rfl⟩
        go_wp2
        go_loopg [9] 0 (fun m i wr => i = .int .i64 0 ∧ w0 = wr)
        case atStart => exact ⟨rfl, rfl⟩
        case round =>
          obtain ⟨rfl, rfl⟩ := hrel
          by_cases h0 : size = 0
          all_goals
            go_wp2
            go_roundg (n - (k + 1))
            case measure => omega
            case rel => exact ⟨k + 1, by omega, by go_num, hbr, by rw [← made_skip hu'.out Hkw.out]; exact hor⟩
      · have hkw' : ((k : Int) != wo) = true := by simp [hkw]
        obtain ⟨w0, rfl⟩ : ∃ w0 : World, w0 = wr := ⟨_, rfl⟩
        go_wp2
        go_loopg [9] size (fun m i wr => ∃ j : Nat, j + m = size ∧ i = .int .i64 j ∧ Below B0 w wr ∧ wr.ownsRow B0 3 1 (.slice (some ⟨g, 0, none⟩) size size) size (made ss wo size k j))
        case atStart => exact ⟨0, by omega, rfl, hbr, hor⟩
        case round =>
          obtain ⟨j, hj, rfl, hbj, hoj⟩ := hrel
          by_cases hjl : j < size
          · obtain ⟨b, o, u, rfl, hb, hu, hus, hc⟩ := (h.below hbj hBB).at_ hlt
            have hu' := Lib.hid hu
            have hu12 : u.length ≤ 12 := h12 u (List.mem_of_getElem? hu)
            clear hu
            have hcell : wr.cell? ⟨g, j, none⟩ = some (.int .i64 ((sumTo ss wo k j % 256 : Nat) : Int)) := by
              rw [hoj.cellAt j (by omega), made_get hjl]
            have hfr : wr.frozen? ⟨g, j, none⟩ = false := hoj.frozenAt j
            have hb256 := byteAt_lt hu12 j
            obtain ⟨q, hq⟩ : ∃ q, q = sumTo ss wo k j % 256 := ⟨_, rfl⟩
            have hq256 : q < 256 := by omega
            rw [← hq] at hcell
            have Hq := Lib.hid hq
            clear hq
            go_wp2_with fail
            go_still_tail 15, (by kernel_rfl)
            still_call (still_of (l44Byte_any u j _ (by omega) (by omega)))
            repeat still_step
            refine wpStill_nil ?_
            change wpList _ _ _ _ _ wr.drew
            go_wp2
            go_roundg (size - (j + 1))
            case measure => omega
            case rel =>
              have hst := hoj.stored j (.int .i64 (((q : Int) + (byteAt u j : Int)) % 256))
              rw [made_set hu'.out hkw Hq.out] at hst
              exact ⟨j + 1, by omega, by go_num, (hbj.setCell (p := ⟨g, j, none⟩) (by rw [Hg.out, HB0.out]; exact Nat.le_refl _) _).drew, hst.1.drew⟩
          · have hjs : j = size := by omega
            subst hjs
            go_wp2
            go_roundg (n - (k + 1))
            case measure => omega
            case rel => exact ⟨k + 1, by omega, by go_num, hbj, by rw [← made_row]; exact hoj⟩
    · have hkn : k = n := by omega
      subst hkn
      go_wp2
      go_ret
      exact ⟨g, rfl, by rw [← HB0.out]; exact hbr, by rw [← HB0.out]; exact hor⟩

end Go.Proofs.Ytjplhmgfhiaenaa
