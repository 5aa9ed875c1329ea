/- The contract of the drawn group, index and parity. No condition. -/
import Derived.Test.YtjplhmgfhiaenaaParK
namespace Go.Proofs.Ytjplhmgfhiaenaa
open Go.RowKit
def RecDrawSays (w : World) (e : Ending) (w' : World) : Prop :=
  ∃ A n c ss m p, e = .returned (.tuple #[.slice A n c, .int .i64 m, .string (S p)]) ∧ p.length ≤ 60 ∧ n ≤ 5 ∧ Strs 1048576 w' w'.heap.size A n ss ∧ Below w.heap.size w w'
set_option maxHeartbeats 400000 in
theorem drawParityRecover_any (A : Option Addr) (n c : Nat) (bs : List UInt8) (w : World) (B : Nat) (h : Byts w B A n c bs) (hB : B ≤ w.heap.size) :
    Calls Try.prog 32 #[.slice A n c] w (RecDrawSays w) := by
  go_enter Try.func32, Try.ntmps32
  go_wp2_with fail
  refine (l6Open_any A n c bs w B h hB).mono ?_
  rintro e w1 ⟨g, rfl, hg, hb1, hr1⟩
  go_wp2_with fail
  refine (l93Group_any g 0 w1 hr1 (by omega)).mono ?_
  rintro e w2 ⟨v, ss, h5, h20, rfl, hown, hd⟩
  obtain ⟨A', c', rfl, hc'⟩ := own_form hown
  have hs2 := strs_of_own hown (by omega) (fun s hs => by have := h20 s hs; omega)
  obtain ⟨ho2, p2, hp2, hr2⟩ := hd
  have hb2 : Below w.heap.size w w2 := hb1.trans (below_of_only ho2 hg hb1.size)
  have hgne : ∀ k, (Value.slice A' ss.length c').ownBlock = some k → k ≠ g := fun k hk => by have := (hown.lt k hk).1; have := hr1.lt; omega
  have Hgne := Lib.hid hgne
  have hw1 := hb1.size
  clear ho2 hr1 hb1 h hgne
  go_wp2_with fail
  refine (l93Parity_any g p2 A' ss.length c' ss w2 _ hr2 (by omega) hs2 (Nat.le_refl _)).mono ?_
  rintro e w3 ⟨p, hp, rfl, hd3⟩
  obtain ⟨ho3, p3, hp3, hr3⟩ := hd3
  clear hs2 hr2
  go_wp2_with fail
  all_goals
    refine (pick_any g p3 _ _ hr3 (by omega) (by omega) (by omega)).mono ?_
    rintro e w4 ⟨v0, rfl, hv0, hv0', hd4⟩
    obtain ⟨ho4, p4, hp4, hr4⟩ := Drew.then ho3 hp3 hd4
    have hv4 : v0 ≤ 5 := by omega
    clear hv0 hv0' hd4 ho3 hr3
    go_wp2_with fail
    refine (pick_any g p4 _ _ hr4 (by omega) (by omega) (by omega)).mono ?_
    rintro e w5 ⟨v1, rfl, hv1, -, hd5⟩
    obtain ⟨ho5, p5, hp5, hr5⟩ := Drew.then ho4 hp4 hd5
    have hv1' : (v1 : Int) < 14 := hv1 (by omega)
    clear hv1 hd5 ho4 hr4
    go_wp2_with fail
    refine (pick_any g p5 _ _ hr5 (by omega) (by omega) (by omega)).mono ?_
    rintro e w6 ⟨v2, rfl, hv2, -, hd6⟩
    obtain ⟨ho6, p6, hp6, hr6⟩ := Drew.then ho5 hp5 hd6
    have hv2' : (v2 : Int) < 7 := hv2 (by omega)
    clear hv2 hd6 ho5 hr5
    obtain ⟨q, hq⟩ : ∃ q : Nat, q = v1 / 13 := ⟨_, rfl⟩
    have hq1 : q ≤ 1 := by omega
    have r1 : (v1 : Int).tdiv 13 = (q : Int) := by rw [Int.tdiv_eq_ediv_of_nonneg (by omega)]; omega
    have r1' : (v1 : Int) / 13 = (q : Int) := by omega
    obtain ⟨z, hz⟩ : ∃ z : Int, z = (q : Int) * ((v2 : Int) - 3) := ⟨_, rfl⟩
    have hzb : -3 ≤ z ∧ z ≤ 3 := by
      have : q = 0 ∨ q = 1 := by omega
      rcases this with rfl | rfl <;> simp at hz <;> omega
    obtain ⟨ze1, ze2⟩ := hzb
    have r2 : IntKind.i64.wrap ((v2 : Int) - 3) = (v2 : Int) - 3 := IntWalk.i64_in _ (by omega)
    have r3 : IntKind.i64.wrap ((q : Int) * ((v2 : Int) - 3)) = z := by rw [← hz]; exact IntWalk.i64_in _ (by omega)
    have r4 : IntKind.i64.wrap ((v0 : Int) + z) = (v0 : Int) + z := IntWalk.i64_in _ (by omega)
    clear hq hz
    go_wp2_with fail
    clear r1 r1' r2 r3 r4
    obtain ⟨m, hm⟩ : ∃ m : Int, m = (v0 : Int) + z := ⟨_, rfl⟩
    have hm1 : -3 ≤ m ∧ m ≤ 8 := by omega
    obtain ⟨hm1, hm2⟩ := hm1
    rw [← hm]
    clear hm hv4 ze1 ze2
    have hlk := l6In_any m 0 ((ss.length : Int) - 1) w6
    have hown6 := hown.kept ho6 (by
      rcases hc : (Value.slice A' ss.length c').ownBlock with _ | k
      · exact .inl rfl
      · exact .inr (by intro e; injection e with e; exact Hgne.out k hc e))
    have hb6 : Below w.heap.size w w6 := hb2.trans (below_of_only ho6 hg hb2.size)
    refine hlk.mono ?_
    rintro e w' ⟨rfl, rfl⟩
    cases hwi : withinB m 0 ((ss.length : Int) - 1) with
    | false =>
      have hfin : RecDrawSays w (.returned (.tuple #[.slice A' ss.length c', .int .i64 m, .string (S p)])) w6 :=
        ⟨A', ss.length, c', ss, m, p, rfl, hp, h5, strs_of_own hown6 (by omega) (fun s hs => by have := h20 s hs; omega), hb6⟩
      have Hfin := Lib.hid hfin
      clear hfin hown6 hown hb6 hb2 ho6 hr6 hc' hwi hlk
      go_wp2_with fail
      go_ret3
      exact Hfin.out
    | true =>
      have hmb : 0 ≤ m ∧ m ≤ (ss.length : Int) - 1 := by simpa [withinB] using hwi
      obtain ⟨mm, rfl⟩ : ∃ mm : Nat, m = (mm : Int) := ⟨m.toNat, by omega⟩
      have hmn : mm < ss.length := by omega
      try (exfalso; omega)
      all_goals
        clear hwi hlk hmb hm1 hm2
        go_wp2_with fail
        refine (pick_any g p6 _ _ hr6 (by omega) (by omega) (by omega)).mono ?_
        rintro e w7 ⟨v3, rfl, hv3, -, hd7⟩
        obtain ⟨ho7, p7, hp7, hr7⟩ := Drew.then ho6 hp6 hd7
        clear hown6 hb6 ho6 hr6 hd7 hv3
        by_cases h0 : v3 = 0
        · subst h0
          go_wp2_with fail
          refine (l93Payload_any g p7 _ hr7 (by omega)).mono ?_
          rintro e w8 ⟨u, hul, rfl, hd8⟩
          obtain ⟨ho8, p8, hp8, hr8⟩ := Drew.then ho7 hp7 hd8
          have hown8 := hown.kept ho8 (by
            rcases hc : (Value.slice A' ss.length c').ownBlock with _ | k
            · exact .inl rfl
            · exact .inr (by intro e; injection e with e; exact Hgne.out k hc e))
          have hb8 : Below w.heap.size w w8 := hb2.trans (below_of_only ho8 hg hb2.size)
          have hpos : 0 < ss.length := by omega
          have hsz := (hc' hpos).1
          clear hown ho7 ho8 hr7 hr8 hd8 hc'
          rcases hown8.2 with ⟨he, h1⟩ | ⟨gc, cap, cur, he, hgc, -⟩
          · omega
          · injection he with e1 e2 e3
            subst e1; subst e3
            have hx : w8.cell? ⟨gc, mm, none⟩ = some (.string (S ss[mm])) := by
              rw [hown8.cellAt mm (by omega)]
              simp [strV, hmn]
            have hfr : w8.frozen? ⟨gc, mm, none⟩ = false := hown8.frozenAt mm
            have hst := (hown8.stored mm (.string (S u))).1
            rw [strV_set] at hst
            have hs5 := strs_of_own hst (by omega) (fun s hs => by
              rcases List.mem_or_eq_of_mem_set hs with hs | rfl
              · have := h20 s hs; omega
              · omega)
            have hb9 := hb8.setCell (p := ⟨gc, mm, none⟩) (Nat.le_trans hw1 hgc) (.string (S u))
            have hfin : RecDrawSays w (.returned (.tuple #[.slice (some ⟨gc, 0, none⟩) ss.length c', .int .i64 mm, .string (S p)])) (w8.setCell ⟨gc, mm, none⟩ (.string (S u))) :=
              ⟨_, ss.length, c', ss.set mm u, mm, p, rfl, hp, h5, hs5, hb9⟩
            have Hfin := Lib.hid hfin
            clear hfin hst hs5 hb9 hown8 e2 hpos hsz
            go_wp2
            go_ret3
            exact Hfin.out
        · have hvb : ((v3 : Int) == 0) = false := by simp; omega
          have hown7 := hown.kept ho7 (by
            rcases hc : (Value.slice A' ss.length c').ownBlock with _ | k
            · exact .inl rfl
            · exact .inr (by intro e; injection e with e; exact Hgne.out k hc e))
          have hb7 : Below w.heap.size w w7 := hb2.trans (below_of_only ho7 hg hb2.size)
          have hfin : RecDrawSays w (.returned (.tuple #[.slice A' ss.length c', .int .i64 mm, .string (S p)])) w7 :=
            ⟨A', ss.length, c', ss, mm, p, rfl, hp, h5, strs_of_own hown7 (by omega) (fun s hs => by have := h20 s hs; omega), hb7⟩
          have Hfin := Lib.hid hfin
          clear hfin hown7 hown hb7 hb2 ho7 hr7 hc'
          go_wp2_with fail
          go_ret3
          exact Hfin.out
end Go.Proofs.Ytjplhmgfhiaenaa
