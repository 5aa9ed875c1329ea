/- Contracts of drawn parities, and the walk of the law on ParityCheck. No condition. -/
import Derived.Test.YtjplhmgfhiaenaaParF
import Derived.Deep.RegionHeld3
namespace Go.Proofs.Ytjplhmgfhiaenaa
open Go.RowKit

theorem pm_length (ss : List Bs) : (pm ss).length ≤ 13 := by
  unfold pm
  split
  · rename_i h
    simp only [parity, List.length_map, List.length_range]
    have := longest_le (gvB_short h)
    omega
  · simp

set_option maxHeartbeats 1000000 in
theorem l93Parity_any (g p : Nat) (A : Option Addr) (n c : Nat) (ss : List Bs) (w : World) (B : Nat) (h : Rdr w g p) (hp : p ≤ 700000) (hs : Strs 1048576 w B A n ss) (hB : B ≤ w.heap.size) :
    Calls Try.prog 39 #[.pointer (some ⟨g, 0, none⟩), .slice A n c] w fun e w' => ∃ s, s.length ≤ 60 ∧ e = .returned (.string (S s)) ∧ Drew w w' g p 50 := by
  have kc := fun W n => run_byteStr (P := Try.prog) W 28 5 9 n Try.underlying28 Try.underlying5 Try.underlying9
  go_enter Try.func39, Try.ntmps39
  go_wp2_with fail
  refine (sParityMake_any A n c ss w B hs hB).mono ?_
  rintro e w1 ⟨rfl, hb1⟩
  have hq13 := pm_length ss
  generalize pm ss = q at hq13 ⊢
  obtain ⟨ho1, p1, hp1, hr1⟩ := (Drew.refl h).below hb1
  clear h hs hb1
  go_wp2_with fail
  refine (pick_any g p1 9 _ hr1 (by omega) (by omega) (by omega)).mono ?_
  rintro e w2 ⟨v, rfl, hv, -, hd2⟩
  have hv9 := hv (by omega)
  obtain ⟨ho2, p2, hp2, hr2⟩ := Drew.then ho1 hp1 hd2
  clear hv hd2 ho1 hr1
  by_cases h0 : v = 0
  · subst h0
    go_wp2_with fail
    refine (pick_any g p2 2 _ hr2 (by omega) (by omega) (by omega)).mono ?_
    rintro e w3 ⟨x, rfl, hx, -, hd3⟩
    have hx2 := hx (by omega)
    have hd4 := Drew.then ho2 hp2 hd3
    have Hd4 := Lib.hid hd4
    clear hx hd3 hd4 ho2 hr2
    go_wp2
    go_ret
    exact ⟨q ++ [UInt8.ofNat x], by simp; omega, rfl, (Hd4.out.below (alloc_below _ _)).more (by omega)⟩
  · by_cases h1 : v = 1
    · subst h1
      have hd4 : Drew w w2 g p 50 := ⟨ho2, p2, by omega, hr2⟩
      have hdiv : (q.length : Int) / 2 ≤ q.length := by omega
      have Hd4 := Lib.hid hd4
      clear hd4 ho2 hr2
      go_wp2
      go_ret
      refine ⟨_, ?_, rfl, Hd4.out⟩
      simp only [List.length_take]
      omega
    · by_cases h2 : v = 2
      · subst h2
        cases q with
        | nil =>
          have hd4 : Drew w w2 g p 50 := ⟨ho2, p2, by omega, hr2⟩
          have Hd4 := Lib.hid hd4
          clear hd4 ho2 hr2
          go_wp2
          go_ret
          exact ⟨[], by simp, rfl, Hd4.out⟩
        | cons q0 qt =>
          simp only [List.length_cons] at hq13
          go_wp2_with fail
          refine (pick_any g p2 _ _ hr2 (by omega) (by omega) (by omega)).mono ?_
          rintro e w3 ⟨k, rfl, hk, -, hd3⟩
          have hk' : k < qt.length + 1 := by have := hk (by omega); omega
          obtain ⟨ho3, p3, hp3, hr3⟩ := Drew.then ho2 hp2 hd3
          clear hk hd3 ho2 hr2
          have hd3' : Drew w w3.drew g p 8 := Drew.more ⟨only_drew ho3, p3, hp3, hr3⟩ (by omega)
          obtain ⟨ho3, p3, hp3, hr3⟩ := hd3'
          have sl1 := fun W => run_from (P := Try.prog) W 9 Try.underlying9 (q0 :: qt) ((k : Int) + 1) (k + 1) (by omega) (by simp; omega)
          have sl2 := fun W => run_to (P := Try.prog) W 9 Try.underlying9 (q0 :: qt) (k : Int) k rfl (by simp; omega)
          have sm : IntKind.i64.wrap ((k : Int) + 1) = (k : Int) + 1 := IntWalk.i64_in _ (by omega)
          go_wp2_with fail
          go_region_with (go_at_call 40; refine (pick_any g p3 256 _ hr3 (by omega) (by omega) (by omega)).mono ?_; rintro e w4 ⟨x, rfl, hx, -, hd4⟩)
          have hd5 := (Drew.then ho3 hp3 hd4).more (show 8 + 1 ≤ 9 by omega)
          have Hd5 := Lib.hid hd5
          clear hd5 hd4 ho3 hr3 sl1 sl2 sm
          go_wp2
          go_ret
          refine ⟨_, ?_, rfl, (Hd5.out.below (alloc_below _ _)).more (by omega)⟩
          simp only [List.length_append, List.length_take, List.length_cons, List.length_drop]
          omega
      · by_cases h3 : v = 3
        · subst h3
          go_wp2_with fail
          refine (l93Payload_any g p2 _ hr2 (by omega)).mono ?_
          rintro e w3 ⟨s, hsl, rfl, hd3⟩
          have hd4 := Drew.then ho2 hp2 hd3
          have Hd4 := Lib.hid hd4
          clear hd3 hd4 ho2 hr2
          go_wp2
          go_ret
          exact ⟨s, by omega, rfl, Hd4.out.more (by omega)⟩
        · have b0 : ((v : Int) == 0) = false := by simp; omega
          have b1 : ((v : Int) == 1) = false := by simp; omega
          have b2 : ((v : Int) == 2) = false := by simp; omega
          have b3 : ((v : Int) == 3) = false := by simp; omega
          have hd4 : Drew w w2 g p 50 := ⟨ho2, p2, by omega, hr2⟩
          have Hd4 := Lib.hid hd4
          clear hd4 ho2 hr2
          go_wp2
          go_ret
          exact ⟨q, by omega, rfl, Hd4.out⟩
def GroupParitySays (w : World) (e : Ending) (w' : World) : Prop :=
  ∃ A n c ss p, e = .returned (.tuple #[.slice A n c, .string (S p)]) ∧ p.length ≤ 60 ∧ n ≤ 5 ∧ (∀ s ∈ ss, s.length ≤ 20) ∧ Strs 1048576 w' w'.heap.size A n ss ∧ Below w.heap.size w w'
set_option maxHeartbeats 400000 in
theorem drawParityCheck_any (A : Option Addr) (n c : Nat) (bs : List UInt8) (w : World) (B : Nat) (h : Byts w B A n c bs) (hB : B ≤ w.heap.size) :
    Calls Try.prog 31 #[.slice A n c] w (GroupParitySays w) := by
  go_enter Try.func31, Try.ntmps31
  go_wp2_with fail
  refine (l6Open_any A n c bs w B h hB).mono ?_
  rintro e w1 ⟨g, rfl, hg, hb1, hr1⟩
  go_wp2_with fail
  refine (l93Group_any g 0 w1 hr1 (by omega)).mono ?_
  rintro e w2 ⟨v, ss, h5, h20, rfl, hown, hd⟩
  obtain ⟨A', c', rfl, hc'⟩ := own_form hown
  have hs2 := strs_of_own hown (by omega) (fun s hs => by have := h20 s hs; omega)
  obtain ⟨ho2, p2, hp2, hr2⟩ := hd
  go_wp2_with fail
  refine (l93Parity_any g p2 A' ss.length c' ss w2 _ hr2 (by omega) hs2 (Nat.le_refl _)).mono ?_
  rintro e w3 ⟨p, hp, rfl, hd3⟩
  have hown3 := hd3.own hown (fun k hk => by have := (hown.lt k hk).1; have := hr1.lt; omega)
  have hs3 := strs_of_own hown3 (by omega) (fun s hs => by have := h20 s hs; omega)
  have hb2 : Below w.heap.size w1 w2 := below_of_only ho2 hg hb1.size
  have hb3 : Below w.heap.size w2 w3 := below_of_only hd3.1 hg (by have := hb1.size; have := hb2.size; omega)
  have hfin : GroupParitySays w (.returned (.tuple #[.slice A' ss.length c', .string (S p)])) w3 := ⟨A', ss.length, c', ss, p, rfl, hp, h5, h20, hs3, (hb1.trans hb2).trans hb3⟩
  have Hfin := Lib.hid hfin
  clear hfin hown hown3 hd3 hb2 hb3 hc' hs2 hs3 ho2 hr2 hr1 hb1
  go_wp2
  go_ret2
  exact Hfin.out

set_option maxHeartbeats 400000 in
theorem parityCheckLaw_walk (A : Option Addr) (n c : Nat) (bs : List UInt8) (w : World) (h : Byts w w.heap.size A n c bs) :
    Calls Try.prog 12 #[.slice A n c] w fun e w' => e = .returned (.bool true) ∧ Below w.heap.size w w' := by
  have hn := h.2.1
  have hm := h.2.2
  unfold maxLen at hm
  by_cases hbig : n ≤ 1048576
  · go_enter Try.func12, Try.ntmps12
    go_wp2_with fail
    refine (drawParityCheck_any A n c bs w _ h (Nat.le_refl _)).mono ?_
    rintro e w1 ⟨A', k, c', ss, p, rfl, hp, hk5, h20, hs, hb1⟩
    go_wp2_with fail
    refine (parityCheck_any A' k c' ss p w1 _ hs (Nat.le_refl _)).mono ?_
    rintro e w2 ⟨rfl, hb2⟩
    have hs2 := (hs.below hb2 (Nat.le_refl _)).more hb2.size
    go_wp2_with fail
    refine (sParityCheck_any A' k c' ss p w2 _ hs2 (Nat.le_refl _)).mono ?_
    rintro e w3 ⟨rfl, hb3⟩
    have hs3 := (hs2.below hb3 (Nat.le_refl _)).more hb3.size
    have hb13 := chain (chain hb1 hb2) hb3
    have hpc : pcB ss p = (gvB ss && (pm ss == p)) := rfl
    have Hpc := Lib.hid hpc
    clear hs hs2 hpc
    generalize pcB ss p = x at Hpc ⊢
    have hg := groupValid_any A' k c' ss w3 _ hs3
    cases hgv : gvB ss with
    | false =>
      rw [hgv] at hg Hpc
      have hx : x = false := by simpa using Hpc.out
      subst hx
      have Hg := Lib.hid hg
      clear hg hgv
      go_wp2_with (go_at_call 20; refine Hg.out.mono ?_; rintro e w' ⟨rfl, rfl⟩)
      go_ret
      exact ⟨rfl, hb13⟩
    | true =>
      rw [hgv] at hg Hpc
      have Hg := Lib.hid hg
      clear hg hgv
      have hp := parityMake_any A' k c' ss w3 _ hs3 (Nat.le_refl _)
      have Hp := Lib.hid hp
      clear hp
      cases x
      all_goals
        go_wp2_with (first | (go_at_call 20; refine Hg.out.mono ?_; rintro e w' ⟨rfl, rfl⟩) | (go_at_call 23; refine Hp.out.mono ?_; rintro e w4 ⟨rfl, hb4⟩))
        go_ret
        have h1 := Hpc.out
        simp only [Bool.true_and] at h1
        exact ⟨ret_bool (by (rw [← h1]) <;> rfl), chain hb13 hb4⟩
  · go_enter Try.func12, Try.ntmps12
    go_wp2
    go_ret
    exact ⟨rfl, Below.refl _ _⟩
end Go.Proofs.Ytjplhmgfhiaenaa
