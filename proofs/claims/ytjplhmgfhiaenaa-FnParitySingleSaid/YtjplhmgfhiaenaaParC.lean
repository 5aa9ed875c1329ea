/- Contracts of the helpers of the exact laws over lists of strings, and of both texts of ParityCheck. -/
import Derived.Test.YtjplhmgfhiaenaaParB
namespace Go.Proofs.Ytjplhmgfhiaenaa
open Go.RowKit

/-- What szStringS says: a number of at most 'left'; where it is not negative, the list and its strings are that small. -/
def SzSays (left : Int) (n : Nat) (ss : List Bs) (w : World) (e : Ending) (w' : World) : Prop :=
  w = w' ∧ ∃ r : Int, e = .returned (.int .i64 r) ∧ -1 ≤ r ∧ r ≤ left ∧ (0 ≤ r → (n : Int) ≤ left ∧ ∀ s ∈ ss, (s.length : Int) ≤ left)

set_option maxHeartbeats 400000 in
theorem szStringS_any (A : Option Addr) (n c : Nat) (ss : List Bs) (left : Int) (w : World) (B : Nat) (h : Strs maxLen w B A n ss) (h0 : 0 ≤ left) (h1 : left ≤ 1048576) :
    Calls Try.prog 17 #[.slice A n c, .int .i64 left] w (SzSays left n ss w) := by
  have hn := h.2.1
  unfold maxLen at hn
  have hlen := Lib.hid h.len
  by_cases hs : left < n
  · go_enter Try.func17, Try.ntmps17
    go_wp2
    go_ret
    exact ⟨rfl, -1, rfl, by omega, by omega, fun hh => by omega⟩
  · have hs0 : ¬ left - n < 0 := by omega
    go_enter Try.func17, Try.ntmps17
    go_wp2
    go_loopg [1, 5] n (fun m l i wr => ∃ k : Nat, k + m = n ∧ i = .int .i64 k ∧ w = wr ∧ ∃ q : Int, 0 ≤ q ∧ q ≤ left ∧ l = .int .i64 q ∧ Hid (∀ s ∈ ss.take k, (s.length : Int) ≤ left))
    case atStart => exact ⟨0, by omega, rfl, rfl, left - n, by omega, by omega, rfl, by simp [Hid]⟩
    case round =>
      obtain ⟨k, hk, rfl, rfl, q, hq0, hq1, rfl, Hs⟩ := hrel
      by_cases hlt : k < n
      · obtain ⟨b, o, u, rfl, hb, hu, hus, hc⟩ := h.at_ hlt
        have hu' := Lib.hid hu
        clear hu
        unfold maxLen at hus
        by_cases hqu : q < u.length
        · have hqu' : q - u.length < 0 := by omega
          go_wp2
          go_ret
          exact ⟨rfl, -1, rfl, by omega, by omega, fun hh => by omega⟩
        · have hqu' : ¬ q - u.length < 0 := by omega
          go_wp2
          go_roundg (n - (k + 1))
          case measure => omega
          case rel =>
            refine ⟨k + 1, by omega, by go_num, rfl, q - u.length, by omega, by omega, rfl, ?_⟩
            intro s hs
            rw [List.take_add_one, hu'.out] at hs
            rcases List.mem_append.1 hs with hs | hs
            · exact Hs.out s hs
            · have : s = u := by simpa using hs
              subst this; omega
      · go_wp2
        go_ret
        have hn' := hlen.out
        exact ⟨rfl, q, rfl, by omega, by omega, fun _ => ⟨by omega, by have := Hs.out; rwa [List.take_of_length_le (by omega)] at this⟩⟩

def toRow (ss : List Bs) (n k : Nat) : List Value := strV (ss.take k) ++ List.replicate (n - k) (.string (S []))
theorem toRow_set {ss : List Bs} {n k : Nat} {u : Bs} (hl : ss.length = n) (hu : ss[k]? = some u) : (toRow ss n k).set k (.string (S u)) = toRow ss n (k + 1) := by
  have hk : k < ss.length := (List.getElem?_eq_some_iff.1 hu).1
  have h1 : (strV (ss.take k)).length = k := by simp [strV]; omega
  unfold toRow
  rw [List.set_append, h1, if_neg (by omega), Nat.sub_self, show n - k = (n - (k + 1)) + 1 from by omega, List.replicate_succ, List.set_cons_zero, List.take_add_one, hu]
  simp [strV]
theorem toRow_all {ss : List Bs} {n : Nat} (hl : ss.length = n) : toRow ss n n = strV ss := by
  subst hl; simp [toRow]
theorem toRow_start {ss : List Bs} {n : Nat} : List.replicate n (.string (S [])) = toRow ss n 0 := by simp [toRow, strV]

set_option maxHeartbeats 400000 in
theorem toStringS_any (A : Option Addr) (n c : Nat) (ss : List Bs) (w : World) (B : Nat) (h : Strs 1048576 w B A n ss) (hB : B ≤ w.heap.size) :
    Calls Try.prog 19 #[.slice A n c] w fun e w' => ∃ g, e = .returned (.slice (some ⟨g, 0, none⟩) n n) ∧ Below w.heap.size w w' ∧
      w'.ownsRow w.heap.size 9 1 (.slice (some ⟨g, 0, none⟩) n n) n (strV ss) := by
  have hn := h.2.1
  have hlen := Lib.hid h.len
  obtain ⟨i0, hi, hz0, hz1, hz2⟩ := info_parts infoStr
  go_enter Try.func19, Try.ntmps19
  go_wp2_with (at_make; refine wpList_mk1 _ rfl _ _ 22 rfl 9 i0 _ Try.underlying22 hi hz0 hz1 rfl _ _ _ _ n rfl rfl rfl rfl (by rw [hz2]; omega) (by unfold maxLen; omega) ?_)
  intro g w1 hb1 hg0 hown
  obtain ⟨B1, HB1⟩ : ∃ B1, Hid (B1 = w.heap.size) := ⟨_, rfl⟩
  rw [← HB1.out] at hb1 hown hg0
  have hBB : B ≤ B1 := by rw [HB1.out]; exact hB
  rw [toRow_start (ss := ss)] at hown
  go_wp2
  go_loopg [4] n (fun m i wr => ∃ k : Nat, k + m = n ∧ i = .int .i64 k ∧ Below B1 w wr ∧ wr.ownsRow B1 9 1 (.slice (some ⟨g, 0, none⟩) n n) n (toRow ss n k))
  case atStart => exact ⟨0, by omega, rfl, hb1, hown⟩
  case round =>
    obtain ⟨k, hk, rfl, hbr, hor⟩ := hrel
    clear hown hb1
    by_cases hlt : k < n
    · obtain ⟨b, o, u, rfl, hb, hu, hus, hc⟩ := (h.below hbr hBB).at_ hlt
      have hu' := Lib.hid hu
      clear hu
      obtain ⟨x, hx⟩ : ∃ x, wr.cell? ⟨g, k, none⟩ = some x := by
        rw [hor.cellAt k (by omega)]
        exact ⟨_, List.getElem?_eq_getElem (by have := hor.1; omega)⟩
      have hfr : wr.frozen? ⟨g, k, none⟩ = false := hor.frozenAt k
      go_wp2
      go_roundg (n - (k + 1))
      case measure => omega
      case rel =>
        have hst := hor.stored k (.string (S u))
        rw [toRow_set hlen.out hu'.out] at hst
        exact ⟨k + 1, by omega, by go_num, hbr.setCell (p := ⟨g, k, none⟩) hg0 _, hst.1⟩
    · have hkn : k = n := by omega
      subst hkn
      rw [toRow_all hlen.out] at hor
      go_wp2
      go_ret
      exact ⟨g, rfl, by rw [← HB1.out]; exact hbr, by rw [← HB1.out]; exact hor⟩

theorem eq_take_next {α} [DecidableEq α] {ss ts : List α} {k : Nat} {u : α} (hs : ss[k]? = some u) (ht : ts[k]? = some u) (h : ss.take k = ts.take k) : ss.take (k + 1) = ts.take (k + 1) := by
  rw [List.take_add_one, List.take_add_one, h, hs, ht]

set_option maxHeartbeats 400000 in
theorem eqStringS_any (A A' : Option Addr) (n c n' c' : Nat) (ss ts : List Bs) (w : World) (B B' : Nat) (h : Strs 1048576 w B A n ss) (h' : Strs 1048576 w B' A' n' ts) :
    Calls Try.prog 21 #[.slice A n c, .slice A' n' c'] w fun e w' => e = .returned (.bool (decide (ss = ts))) ∧ Below w.heap.size w w' := by
  have hn := h.2.1
  have hn' := h'.2.1
  have hlen := Lib.hid h.len
  have hlen' := Lib.hid h'.len
  by_cases hnn : n = n'
  · subst hnn
    go_enter Try.func21, Try.ntmps21
    go_wp2
    go_loopg [5] n (fun m i wr => ∃ k : Nat, k + m = n ∧ i = .int .i64 k ∧ (∃ d, wr = w.drewN d) ∧ Hid (ss.take k = ts.take k))
    case atStart => exact ⟨0, by omega, rfl, ⟨0, rfl⟩, by simp [Hid]⟩
    case round =>
      obtain ⟨k, hk, rfl, ⟨d, rfl⟩, hp⟩ := hrel
      by_cases hlt : k < n
      · obtain ⟨b, o, u, rfl, hb, hu, hus, hc⟩ := h.at_ hlt
        obtain ⟨b', o', u', rfl, hb', hu', hus', hc'⟩ := h'.at_ hlt
        have Hu := Lib.hid hu
        have Hu' := Lib.hid hu'
        clear hu hu'
        by_cases huu : u = u'
        · subst huu
          go_wp2_with fail
          go_quiet (fail)
          go_wp2
          go_roundg (n - (k + 1))
          case measure => omega
          case rel => exact ⟨k + 1, by omega, by go_num, ⟨d + nq, rfl⟩, eq_take_next Hu.out Hu'.out hp.out⟩
        · have hbne : (u == u') = false := by simpa using huu
          have Huu := Lib.hid huu
          clear huu
          go_wp2_with fail
          go_quiet (fail)
          go_wp2
          go_ret
          refine ⟨ret_bool (decide_eq_false fun hh => Huu.out ?_).symm, below_drewN (below_drewN (Below.refl _ _) _) _⟩
          have h1 := Hu.out
          rw [hh, Hu'.out] at h1
          exact (Option.some.inj h1).symm
      · go_wp2
        go_ret
        refine ⟨ret_bool (decide_eq_true ?_).symm, below_drewN (Below.refl _ _) _⟩
        have h1 := hp.out
        rwa [List.take_of_length_le (by rw [hlen.out]; omega), List.take_of_length_le (by rw [hlen'.out]; omega)] at h1
  · have hnb : ((n : Int) == n') = false := by simpa using fun hh => hnn (by omega)
    go_enter Try.func21, Try.ntmps21
    go_wp2
    go_ret
    refine ⟨ret_bool ?_, Below.refl _ _⟩
    symm
    apply decide_eq_false
    intro hh
    apply hnn
    rw [← hlen.out, ← hlen'.out, hh]
set_option maxHeartbeats 400000 in
theorem parityCheck_any (A : Option Addr) (n c : Nat) (ss : List Bs) (p : Bs) (w : World) (B : Nat) (h : Strs 1048576 w B A n ss) (hB : B ≤ w.heap.size) :
    Calls Try.prog 26 #[.slice A n c, .string (S p)] w fun e w' => e = .returned (.bool (pcB ss p)) ∧ Below w.heap.size w w' := by
  have hg := groupValid_any A n c ss w B h
  have hp := parityMake_any A n c ss w B h hB
  have Hp := Lib.hid hp
  clear hp
  cases hgv : gvB ss with
  | false =>
    rw [hgv] at hg
    have hfin : pcB ss p = false := by simp [pcB, hgv]
    have Hg := Lib.hid hg
    have Hfin := Lib.hid hfin
    clear hgv hg hfin
    go_enter Try.func26, Try.ntmps26
    go_wp2_with (go_at_call 20; refine Hg.out.mono ?_; rintro e w' ⟨rfl, rfl⟩)
    go_ret
    exact ⟨ret_bool Hfin.out.symm, Below.refl _ _⟩
  | true =>
    rw [hgv] at hg
    have hfin : pcB ss p = (pm ss == p) := by simp [pcB, hgv]
    have Hg := Lib.hid hg
    have Hfin := Lib.hid hfin
    clear hgv hg hfin
    go_enter Try.func26, Try.ntmps26
    go_wp2_with (first | (go_at_call 20; refine Hg.out.mono ?_; rintro e w' ⟨rfl, rfl⟩) | (go_at_call 23; refine Hp.out.mono ?_; rintro e w1 ⟨rfl, hb1⟩))
    go_ret
    exact ⟨ret_bool (by rw [Hfin.out]), hb1⟩

set_option maxHeartbeats 400000 in
theorem sParityCheck_any (A : Option Addr) (n c : Nat) (ss : List Bs) (p : Bs) (w : World) (B : Nat) (h : Strs 1048576 w B A n ss) (hB : B ≤ w.heap.size) :
    Calls Try.prog 25 #[.slice A n c, .string (S p)] w fun e w' => e = .returned (.bool (pcB ss p)) ∧ Below w.heap.size w w' := by
  have hg := sGroupValid_any A n c ss w B h
  have hp := sParityMake_any A n c ss w B h hB
  have Hp := Lib.hid hp
  clear hp
  cases hgv : gvB ss with
  | false =>
    rw [hgv] at hg
    have hfin : pcB ss p = false := by simp [pcB, hgv]
    have Hg := Lib.hid hg
    have Hfin := Lib.hid hfin
    clear hgv hg hfin
    go_enter Try.func25, Try.ntmps25
    go_wp2_with (go_at_call 18; refine Hg.out.mono ?_; rintro e w' ⟨rfl, rfl⟩)
    go_ret
    exact ⟨ret_bool Hfin.out.symm, Below.refl _ _⟩
  | true =>
    rw [hgv] at hg
    have hfin : pcB ss p = (pm ss == p) := by simp [pcB, hgv]
    have Hg := Lib.hid hg
    have Hfin := Lib.hid hfin
    clear hgv hg hfin
    go_enter Try.func25, Try.ntmps25
    go_wp2_with (first | (go_at_call 18; refine Hg.out.mono ?_; rintro e w' ⟨rfl, rfl⟩) | (go_at_call 22; refine Hp.out.mono ?_; rintro e w1 ⟨rfl, hb1⟩))
    go_ret
    exact ⟨ret_bool (by rw [Hfin.out]), hb1⟩
end Go.Proofs.Ytjplhmgfhiaenaa
