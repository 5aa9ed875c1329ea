/- Contracts of the draws of options. Condition: the reader's place is bounded. -/
import Derived.Test.YtjnplihkagegdaaSplB
import Derived.Test.YtjnplihkagegdaaRdr
namespace Go.Proofs.Ytjnplihkagegdaa
open Go.RowKit

def optOf (a : Bool) (r w f : Int) : Opt := ⟨a, r, w, f⟩
def AllBd (l : List Opt) : Prop := ∀ o ∈ l, o.bd
theorem AllBd.snoc {l : List Opt} {o : Opt} (h : AllBd l) (ho : o.bd) : AllBd (l ++ [o]) := fun x hx => by
  rcases List.mem_append.1 hx with hx | hx
  · exact h x hx
  · simp at hx; subst hx; exact ho
theorem AllBd.set {l : List Opt} {k : Nat} {o : Opt} (h : AllBd l) (ho : o.bd) : AllBd (l.set k o) := fun x hx => by
  rcases List.mem_or_eq_of_mem_set hx with hx | hx
  · exact h x hx
  · subst hx; exact ho
def OptRow (w : World) (base g c : Nat) (l : List Opt) : Prop := w.ownsRow base 31 4 (.slice (some ⟨g, 0, none⟩) l.length c) l.length (flat Opt.cells l)
theorem OptRow.drewn {a b : World} {base g c gr p C : Nat} {l : List Opt} (h : OptRow a base g c l) (hd : Drew a b gr p C) (hg : gr < base) : OptRow b base g c l :=
  hd.own h (fun k hk => by have := (World.ownsRow.lt h k hk).1; omega)
/-- One number of one option is written anew. -/
theorem OptRow.put {w : World} {base g c k j : Nat} {l : List Opt} {f : Int} (h : OptRow w base g c l) (hb : AllBd l) (hk : k < l.length) (hj : j = 1 ∨ j = 2 ∨ j = 3) (hf : -1000000 ≤ f ∧ f ≤ 1000000) :
    ∃ l', l'.length = l.length ∧ AllBd l' ∧ OptRow (w.setCell ⟨g, k * 4 + j, none⟩ (.int .i64 f)) base g c l' := by
  obtain ⟨u, hu⟩ : ∃ u, l[k]? = some u := ⟨_, List.getElem?_eq_getElem hk⟩
  have hub := hb u (List.mem_of_getElem? hu)
  have key : ∀ u' : Opt, u'.bd → u'.cells = u.cells.set j (.int .i64 f) → j < 4 → ∃ l', l'.length = l.length ∧ AllBd l' ∧ OptRow (w.setCell ⟨g, k * 4 + j, none⟩ (.int .i64 f)) base g c l' := fun u' hu' he h4 => by
    refine ⟨l.set k u', List.length_set, hb.set hu', ?_⟩
    have h1 := (World.ownsRow.stored h (k * 4 + j) (.int .i64 f)).1
    rw [flat_set_cell (enc := Opt.cells) (s := 4) (fun _ => rfl) hu h4 he] at h1
    unfold OptRow
    rw [List.length_set]
    exact h1
  unfold Opt.bd at hub
  rcases hj with rfl | rfl | rfl
  · exact key { u with rtt := f } ⟨by simp only; omega, hub.2⟩ rfl (by omega)
  · exact key { u with win := f } ⟨hub.1, by simp only; omega, hub.2.2⟩ rfl (by omega)
  · exact key { u with fl := f } ⟨hub.1, hub.2.1, by simp only; omega⟩ rfl (by omega)
theorem OptRow.snoc {w : World} {base g c n : Nat} {l : List Opt} {a : Bool} {r wn f : Int} (hn : l.length = n) (h : w.ownsRow base 31 4 (.slice (some ⟨g, 0, none⟩) (n + 1) c) (n + 1) (flat Opt.cells l ++ [.bool a, .int .i64 r, .int .i64 wn, .int .i64 f])) : OptRow w base g c (l ++ [⟨a, r, wn, f⟩]) := by
  subst hn
  unfold OptRow
  rw [flat_append, List.length_append]
  exact h
theorem OptRow.cell {w : World} {base g c k j : Nat} {l : List Opt} (h : OptRow w base g c l) (hk : k < l.length) (hj : j < 4) : ∃ y, w.cell? ⟨g, k * 4 + j, none⟩ = some y ∧ w.frozen? ⟨g, k * 4 + j, none⟩ = false := by
  obtain ⟨u, hu⟩ : ∃ u, l[k]? = some u := ⟨_, List.getElem?_eq_getElem hk⟩
  obtain ⟨x, hx⟩ : ∃ x, u.cells[j]? = some x := ⟨_, List.getElem?_eq_getElem (by simpa [Opt.cells] using hj)⟩
  exact ⟨x, own_cell (enc := Opt.cells) (fun _ => rfl) h hu hx⟩
def OptsDrawn (g p : Nat) (w : World) (e : Ending) (w' : World) : Prop := ∃ g' c l, e = .returned (.slice (some ⟨g', 0, none⟩) l.length c) ∧ l.length ≤ 8 ∧ AllBd l ∧ l.length ≤ c ∧ OptRow w' w.heap.size g' c l ∧ Drew w w' g p 60

set_option maxHeartbeats 1000000 in
theorem l93Options_any (g p : Nat) (w : World) (h : Rdr w g p) (hp : p ≤ 900000) :
    Calls Try.prog 25 #[.pointer (some ⟨g, 0, none⟩)] w (OptsDrawn g p w) := by
  obtain ⟨i1, hi1, hy0, hy1, hy2⟩ := info_parts infoOpt
  go_enter Try.func25, Try.ntmps25
  go_wp2
  obtain ⟨B1, HB1⟩ : ∃ B1, Hid (B1 = w.heap.size) := ⟨_, rfl⟩
  have hown0 : OptRow (w.alloc (.cells #[] 31)) B1 w.heap.size 0 [] := by
    rw [HB1.out]; exact World.ownsRow_lit w #[] 0 (Nat.le_refl _) (by omega) rfl
  have hgB : g < B1 := by rw [HB1.out]; exact h.lt
  have hd0 : Drew w (w.alloc (.cells #[] 31)) g p 0 := (Drew.refl h).below (alloc_below w _)
  go_loopg [3, 4] 4 (fun m out i wr => ∃ k : Nat, k + m = 4 ∧ i = .int .i64 k ∧ ∃ g' c l, out = .slice (some ⟨g', 0, none⟩) l.length c ∧ l.length = k ∧ l.length ≤ c ∧ Hid (AllBd l) ∧ OptRow wr B1 g' c l ∧ Drew w wr g p (6 * k))
  case atStart => exact ⟨0, by omega, rfl, w.heap.size, 0, [], rfl, rfl, Nat.le_refl _, fun x hx => by simp at hx, hown0, hd0⟩
  case round =>
    clear hown0 hd0
    obtain ⟨k, hk, rfl, g', c, l, rfl, rfl, hlc, Hbd, hro, ho, p', hp', hr⟩ := hrel
    go_wp2_with fail
    refine (pick_any g p' 5 _ hr (by omega) (by omega) (by omega)).mono ?_
    rintro e w1 ⟨v, rfl, hv, -, hd1⟩
    have hv5 := hv (by omega)
    have hro1 := hro.drewn hd1 hgB
    obtain ⟨ho1, p1, hp1, hr1⟩ := Drew.then ho hp' hd1
    clear hv hd1 hr ho hro
    by_cases hkv : l.length < v
    · go_wp2_with fail
      refine (pick_any g p1 4 _ hr1 (by omega) (by omega) (by omega)).mono ?_
      rintro e w2 ⟨x1, rfl, hx1, -, hd2⟩
      have hx1' := hx1 (by omega)
      have hro2 := hro1.drewn hd2 hgB
      obtain ⟨ho2, p2, hp2, hr2⟩ := Drew.then ho1 hp1 hd2
      clear hx1 hd2 hr1 ho1 hro1
      go_wp2_with fail
      refine (pick_any g p2 6 _ hr2 (by omega) (by omega) (by omega)).mono ?_
      rintro e w3 ⟨x2, rfl, hx2, -, hd3⟩
      have hx2' := hx2 (by omega)
      have hro3 := hro2.drewn hd3 hgB
      obtain ⟨ho3, p3, hp3, hr3⟩ := Drew.then ho2 hp2 hd3
      clear hx2 hd3 hr2 ho2 hro2
      go_wp2_with fail
      refine (pick_any g p3 16 _ hr3 (by omega) (by omega) (by omega)).mono ?_
      rintro e w4 ⟨x3, rfl, hx3, -, hd4⟩
      have hx3' := hx3 (by omega)
      have hro4 := hro3.drewn hd4 hgB
      obtain ⟨ho4, p4, hp4, hr4⟩ := Drew.then ho3 hp3 hd4
      have hm1 : (x2 : Int) * (x3 : Int) ≤ 75 := by
        have : x2 * x3 ≤ 5 * 15 := Nat.mul_le_mul (by omega) (by omega)
        have h2 : ((x2 * x3 : Nat) : Int) ≤ 75 := by omega
        rwa [Int.natCast_mul] at h2
      have hm0 : (0 : Int) ≤ (x2 : Int) * (x3 : Int) := Int.mul_nonneg (by omega) (by omega)
      clear hx3 hd4 hr3 ho3 hro3
      go_wp2_with fail
      refine (pick_any g p4 20 _ hr4 (by omega) (by omega) (by omega)).mono ?_
      rintro e w5 ⟨x4, rfl, hx4, -, hd5⟩
      have hx4' := hx4 (by omega)
      have hro5 := hro4.drewn hd5 hgB
      obtain ⟨ho5, p5, hp5, hr5⟩ := Drew.then ho4 hp4 hd5
      clear hx4 hd5 hr4 ho4 hro4
      go_wp2_with fail
      refine (pick_any g p5 16 _ hr5 (by omega) (by omega) (by omega)).mono ?_
      rintro e w6 ⟨x5, rfl, hx5, -, hd6⟩
      have hx5' := hx5 (by omega)
      have hro6 := hro5.drewn hd6 hgB
      have hdd := Drew.then ho5 hp5 hd6
      have hsz := hdd.1.size
      have hl9 : l.length ≤ 8 := by omega
      clear hx5 hd6 hr5 ho5 hro5
      go_wp2_with (at_builtin; go_must (refine wpList_appS _ rfl _ _ 23 rfl B1 31 i1 _ 4 32 Try.underlying23 hi1 hy0 hy1 hy2 rfl (by omega) _ rfl (fun u hu => by simp only [List.mem_cons, List.not_mem_nil, or_false] at hu; rcases hu with rfl | rfl | rfl | rfl <;> rfl) _ _ _ (World.ownsRow.alloc hro6 _) rfl (by rw [World.size_alloc]; rfl) (by unfold maxLen; omega) (by omega) ?hb ?_))
      case hb => simp; rw [HB1.out]; omega
      intro g2 c2 w7 hown7 hat hcc hcm hgr
      have hro7 := OptRow.snoc rfl hown7
      have hd7 : Drew w w7 g p (6 * (l.length + 1)) := by
        have hb67 : Below B1 w6 w7 := (((Below.refl B1 w6).alloc (by rw [HB1.out]; omega) _).grown hgr (by simp; rw [HB1.out]; omega) (fun k hk => (World.ownsRow.lt hro6 k hk).1))
        exact (hdd.belowB (by rw [← HB1.out]; exact hgB) (by rw [← HB1.out]; exact hb67)).more (by omega)
      have hbd7 := Hbd.out.snoc (o := ⟨decide (0 < x1), 1 + (x2 : Int) * (x3 : Int), 1 + (x4 : Int), (x5 : Int)⟩) ⟨⟨by simp only; omega, by simp only; omega⟩, ⟨by simp only; omega, by simp only; omega⟩, by simp only; omega, by simp only; omega⟩
      obtain ⟨l2, hl2⟩ : ∃ l2, l2 = l ++ [(⟨decide (0 < x1), 1 + (x2 : Int) * (x3 : Int), 1 + (x4 : Int), (x5 : Int)⟩ : Opt)] := ⟨_, rfl⟩
      rw [← hl2] at hro7 hbd7
      have hll : l2.length = l.length + 1 := by rw [hl2]; simp
      have Hll := Lib.hid hll
      have Hro7 := Lib.hid hro7
      have Hd7 := Lib.hid hd7
      have Hbd7 := Lib.hid hbd7
      clear hro7 hd7 hbd7 hll hl2 hown7 hat hgr hdd hro6 hsz
      go_wp2
      go_roundg (3 - l.length)
      case measure => omega
      case rel => exact ⟨l.length + 1, by omega, by go_num, g2, c2, l2, by rw [Hll.out], Hll.out, by rw [Hll.out]; omega, Hbd7, Hro7.out, Hd7.out⟩
    · have hl5 : l.length ≤ 4 := by omega
      by_cases h0 : l.length = 0
      · have hb0 : ((l.length : Int) == 0) = true := beq_iff_eq.2 (by omega)
        have Hfin : Hid (OptsDrawn g p w (.returned (.slice (some ⟨g', 0, none⟩) l.length c)) w1) :=
          ⟨g', c, l, rfl, by omega, Hbd.out, hlc, by rw [← HB1.out]; exact hro1, ho1, p1, by omega, hr1⟩
        clear h0 hro1 ho1 hr1
        go_wp2
        go_ret
        exact Hfin.out
      · have hb0 : ((l.length : Int) == 0) = false := beq_eq_false_iff_ne.2 (by omega)
        have hl1 : 1 ≤ l.length := by omega
        clear h0
        go_wp2_with fail
        refine (pick_any g p1 (l.length : Int) _ hr1 (by omega) (by omega) (by omega)).mono ?_
        rintro e w2 ⟨kk, rfl, hkk, -, hd2⟩
        have hkl : kk < l.length := by have := hkk (by omega); omega
        have hro2 := hro1.drewn hd2 hgB
        obtain ⟨ho2, p2, hp2, hr2⟩ := Drew.then ho1 hp1 hd2
        clear hkk hd2 hr1 ho1 hro1
        go_wp2_with fail
        refine (pick_any g p2 18 _ hr2 (by omega) (by omega) (by omega)).mono ?_
        rintro e w3 ⟨x, rfl, hx, -, hd3⟩
        have hro3 := hro2.drewn hd3 hgB
        obtain ⟨ho3, p3, hp3, hr3⟩ := Drew.then ho2 hp2 hd3
        have hgb := (World.ownsRow.lt hro3 g' rfl).1
        clear hx hd3 hr2 ho2 hro2
        by_cases x0 : x = 0
        · subst x0
          go_wp2_with fail
          refine (pick_any g p3 2 _ hr3 (by omega) (by omega) (by omega)).mono ?_
          rintro e w4 ⟨y, rfl, hy, -, hd4⟩
          have hy2 := hy (by omega)
          have hro4 := hro3.drewn hd4 hgB
          have hdd := Drew.then ho3 hp3 hd4
          obtain ⟨z, hcz, hfz⟩ := hro4.cell hkl (show 1 < 4 by omega)
          obtain ⟨l', hl', hbd', hro'⟩ := hro4.put (j := 1) (f := (y : Int) * 100) Hbd.out hkl (by omega) (by omega)
          have Hfin : Hid (OptsDrawn g p w (.returned (.slice (some ⟨g', 0, none⟩) l.length c)) (w4.setCell ⟨g', kk * 4 + 1, none⟩ (.int .i64 ((y : Int) * 100)))) := by
            refine ⟨g', c, l', by rw [hl'], by omega, hbd', by omega, by rw [← HB1.out]; exact hro', ?_⟩
            exact (hdd.belowB (by rw [← HB1.out]; exact hgB) ((Below.refl w.heap.size w4).setCell (p := ⟨g', kk * 4 + 1, none⟩) (by show w.heap.size ≤ g'; rw [← HB1.out]; exact hgb) _)).more (by omega)
          clear hy hd4 hr3 ho3 hro3 hro4 hdd hro' hl' hbd'
          have q1 : (0 : Int) ≤ (kk : Int) := by omega
          have q2 : (kk : Int) < (l.length : Int) := by omega
          go_wp2
          go_ret
          exact Hfin.out
        by_cases x1 : x = 1
        · subst x1
          go_wp2_with fail
          refine (pick_any g p3 2 _ hr3 (by omega) (by omega) (by omega)).mono ?_
          rintro e w4 ⟨y, rfl, hy, -, hd4⟩
          have hy2 := hy (by omega)
          have hro4 := hro3.drewn hd4 hgB
          have hdd := Drew.then ho3 hp3 hd4
          obtain ⟨z, hcz, hfz⟩ := hro4.cell hkl (show 2 < 4 by omega)
          obtain ⟨l', hl', hbd', hro'⟩ := hro4.put (j := 2) (f := (y : Int) * 65) Hbd.out hkl (by omega) (by omega)
          have Hfin : Hid (OptsDrawn g p w (.returned (.slice (some ⟨g', 0, none⟩) l.length c)) (w4.setCell ⟨g', kk * 4 + 2, none⟩ (.int .i64 ((y : Int) * 65)))) := by
            refine ⟨g', c, l', by rw [hl'], by omega, hbd', by omega, by rw [← HB1.out]; exact hro', ?_⟩
            exact (hdd.belowB (by rw [← HB1.out]; exact hgB) ((Below.refl w.heap.size w4).setCell (p := ⟨g', kk * 4 + 2, none⟩) (by show w.heap.size ≤ g'; rw [← HB1.out]; exact hgb) _)).more (by omega)
          clear hy hd4 hr3 ho3 hro3 hro4 hdd hro' hl' hbd'
          have q1 : (0 : Int) ≤ (kk : Int) := by omega
          have q2 : (kk : Int) < (l.length : Int) := by omega
          go_wp2
          go_ret
          exact Hfin.out
        by_cases x2 : x = 2
        · subst x2
          go_wp2_with fail
          refine (pick_any g p3 2 _ hr3 (by omega) (by omega) (by omega)).mono ?_
          rintro e w4 ⟨y, rfl, hy, -, hd4⟩
          have hy2 := hy (by omega)
          have hro4 := hro3.drewn hd4 hgB
          have hdd := Drew.then ho3 hp3 hd4
          obtain ⟨z, hcz, hfz⟩ := hro4.cell hkl (show 3 < 4 by omega)
          obtain ⟨l', hl', hbd', hro'⟩ := hro4.put (j := 3) (f := (y : Int) * 66 - 1) Hbd.out hkl (by omega) (by omega)
          have Hfin : Hid (OptsDrawn g p w (.returned (.slice (some ⟨g', 0, none⟩) l.length c)) (w4.setCell ⟨g', kk * 4 + 3, none⟩ (.int .i64 ((y : Int) * 66 - 1)))) := by
            refine ⟨g', c, l', by rw [hl'], by omega, hbd', by omega, by rw [← HB1.out]; exact hro', ?_⟩
            exact (hdd.belowB (by rw [← HB1.out]; exact hgB) ((Below.refl w.heap.size w4).setCell (p := ⟨g', kk * 4 + 3, none⟩) (by show w.heap.size ≤ g'; rw [← HB1.out]; exact hgb) _)).more (by omega)
          clear hy hd4 hr3 ho3 hro3 hro4 hdd hro' hl' hbd'
          have q1 : (0 : Int) ≤ (kk : Int) := by omega
          have q2 : (kk : Int) < (l.length : Int) := by omega
          go_wp2
          go_ret
          exact Hfin.out
        by_cases x3 : x = 3
        · subst x3
          have hcells : ∀ j u, (flat Opt.cells l)[j]? = some u → w3.cell? ((⟨g', 0, none⟩ : Addr).add j) = some u := fun j u hu => World.ownsRow.cells hro3 rfl j u hu
          have hlen4 : (flat Opt.cells l).length = l.length * 4 := flat_len (enc := Opt.cells) (s := 4) (fun _ => rfl) l
          have hbs : B1 ≤ w3.heap.size := by have := ho3.size; rw [HB1.out]; exact this
          go_wp2_with (at_builtin; go_must (refine wpList_append_lies _ rfl _ _ 23 rfl B1 31 i1 _ 4 32 Try.underlying23 hi1 hy0 hy1 hy2 rfl (by omega) _ _ _ rfl hro3 ⟨g', 0, none⟩ l.length c (flat Opt.cells l) rfl hlen4 hcells (cells_one l) (by omega) (by unfold maxLen; omega) (by omega) hbs _ rfl ?_))
          intro g2 c2 w4 hown hgr hat hlt2
          have hll : (l ++ l).length = l.length + l.length := by simp
          rw [← hll, ← flat_append] at hown
          have hcc := row_le hown
          have Hfin : Hid (OptsDrawn g p w (.returned (.slice (some ⟨g2, 0, none⟩) (l ++ l).length c2)) w4) := by
            refine ⟨g2, c2, l ++ l, rfl, by omega, fun x hx => ?_, hcc, by rw [← HB1.out]; exact hown, ?_⟩
            · rcases List.mem_append.1 hx with hx | hx <;> exact Hbd.out x hx
            · have hb34 : Below B1 w3 w4 := (Below.refl B1 w3).grown hgr hbs (fun k hk => (World.ownsRow.lt hro3 k hk).1)
              have hd : Drew w w3 g p 60 := ⟨ho3, p3, by omega, hr3⟩
              exact hd.belowB (by rw [← HB1.out]; exact hgB) (by rw [← HB1.out]; exact hb34)
          rw [hll] at Hfin
          clear hcells hlen4 hown hgr hat hlt2 hll hcc hro3 hr3 ho3
          go_wp2
          go_ret
          exact Hfin.out
        · have e0 : ((x : Int) == 0) = false := by simp; omega
          have e1 : ((x : Int) == 1) = false := by simp; omega
          have e2 : ((x : Int) == 2) = false := by simp; omega
          have e3 : ((x : Int) == 3) = false := by simp; omega
          have Hfin : Hid (OptsDrawn g p w (.returned (.slice (some ⟨g', 0, none⟩) l.length c)) w3) :=
            ⟨g', c, l, rfl, by omega, Hbd.out, hlc, by rw [← HB1.out]; exact hro3, ho3, p3, by omega, hr3⟩
          clear x0 x1 x2 x3 hro3 ho3 hr3
          go_wp2
          go_ret
          exact Hfin.out

theorem lit8 (W : World) (a b c x : Nat) (hx : x < 8) : ∃ z : Int, (W.alloc (.cells #[.int .i64 (-1), .int .i64 0, .int .i64 1, .int .i64 256, .int .i64 257, .int .i64 (a : Int), .int .i64 (b : Int), .int .i64 (c : Int)] 3)).cell? ⟨W.heap.size, x, none⟩ = some (.int .i64 z) := by
  rw [World.cell?_alloc_new]
  match x, hx with
  | 0, _ => exact ⟨_, rfl⟩
  | 1, _ => exact ⟨_, rfl⟩
  | 2, _ => exact ⟨_, rfl⟩
  | 3, _ => exact ⟨_, rfl⟩
  | 4, _ => exact ⟨_, rfl⟩
  | 5, _ => exact ⟨_, rfl⟩
  | 6, _ => exact ⟨_, rfl⟩
  | 7, _ => exact ⟨_, rfl⟩
def SplitDrawn (w : World) (e : Ending) (w' : World) : Prop := ∃ g' c l x, e = .returned (.tuple #[.slice (some ⟨g', 0, none⟩) l.length c, .int .i64 x]) ∧ l.length ≤ 8 ∧ AllBd l ∧ l.length ≤ c ∧ OptRow w' w.heap.size g' c l ∧ Below w.heap.size w w'
set_option maxHeartbeats 1000000 in
theorem drawScheduleSplit_any (A : Option Addr) (n c : Nat) (bs : List UInt8) (w : World) (B : Nat) (h : Byts w B A n c bs) (hB : B ≤ w.heap.size) :
    Calls Try.prog 8 #[.slice A n c] w (SplitDrawn w) := by
  have H := Lib.hid (l6Open_any A n c bs w B h hB)
  clear h
  go_enter Try.func8, Try.ntmps8
  go_wp2_with fail
  refine H.out.mono ?_
  rintro e w1 ⟨g, rfl, hg, hb1, hr⟩
  have hs1 := hb1.size
  have hgl1 := hr.lt
  have Hb1 := Lib.hid hb1
  clear hb1 H
  go_wp2_with fail
  refine (l93Options_any g 0 w1 hr (by omega)).mono ?_
  rintro e w2 ⟨g', c', l, rfl, hl, hbd, hlc, hro, ho, p2, hp2, hr2⟩
  have Hro := Lib.hid hro
  have Hbd := Lib.hid hbd
  have Hb2 := Lib.hid (Hb1.out.trans (below_of_only ho (by omega) hs1))
  clear hro hbd ho hr
  have hrd : Rdr w2.drew g p2 := hr2.keep ((Below.refl _ _).drew)
  obtain ⟨m, hm⟩ : ∃ m, m = l.length := ⟨_, rfl⟩
  rw [← hm] at hl hlc ⊢
  have Hm := Lib.hid hm
  clear hm
  go_wp2_with fail
  go_region_with (first
    | (go_at_call 26; ((with_reducible refine (pick_any g p2 60 _ hrd (by omega) (by omega) (by omega)).mono ?_); rintro e w3 ⟨x1, rfl, hx1, -, ho3, p3, hp3, hr3⟩))
    | (go_at_call 26; ((with_reducible refine (pick_any g p3 20 _ hr3 (by omega) (by omega) (by omega)).mono ?_); rintro e w4 ⟨x2, rfl, hx2, -, ho4, p4, hp4, hr4⟩))
    | (go_at_call 26; ((with_reducible refine (pick_any g p4 20 _ hr4 (by omega) (by omega) (by omega)).mono ?_); rintro e w5 ⟨x3, rfl, hx3, -, ho5, p5, hp5, hr5⟩))
    | (go_at_call 26; ((with_reducible refine (pick_any g p5 8 w5 hr5 (by omega) (by omega) (by omega)).mono ?_); rintro e w6 ⟨x4, rfl, hx4, -, ho6, p6, hp6, hr6⟩; have hx8 : x4 < 8 := (by have := hx4 (by omega); omega); have hx9 : (x4 : Int) < 8 := (by omega); obtain ⟨z, hz⟩ := lit8 w6 x1 x2 x3 x4 hx8))
    | (go_at_call 26; ((with_reducible refine (pick_any g p5 8 _ (hr5.keep ((Below.refl _ _).alloc hr5.lt _)) (by omega) (by omega) (by omega)).mono ?_); rintro e w6 ⟨x4, rfl, hx4, -, ho6, p6, hp6, hr6⟩; have hx8 : x4 < 8 := (by have := hx4 (by omega); omega); have hx9 : (x4 : Int) < 8 := (by omega); have hz : ∃ z : Int, w6.cell? ⟨w5.heap.size, x4, none⟩ = some (.int .i64 z) := (by obtain ⟨z, hz⟩ := lit8 w5 x1 x2 x3 x4 hx8; exact ⟨z, (World.cell?_of_block (ho6.block w5.heap.size (by simp) (by have := hr5.lt; intro e; injection e with e; omega))).trans hz⟩); obtain ⟨z, hz⟩ := hz)))
  all_goals
    have hG : Hid (∀ W : World, w5.grownBy W (some g) → SplitDrawn w (.returned (.tuple #[.slice (some ⟨g', 0, none⟩) m c', .int .i64 z])) W) := by
      intro W hW
      have hg2 : w2.grownBy W (some g) := only_trans (only_trans (only_trans (only_trans (only_drew (World.grownBy.refl w2 (some g))) ho3) ho4) ho5) hW
      refine ⟨g', c', l, z, by rw [← Hm.out], by rw [← Hm.out]; exact hl, Hbd.out, by rw [← Hm.out]; exact hlc, ?_, ?_⟩
      · have h1 := own_low Hro.out hs1
        have hne : g' ≠ g := by have := (World.ownsRow.lt Hro.out g' rfl).1; omega
        exact World.ownsRow.kept h1 hg2 (.inr (by simp [Value.ownBlock]; exact hne))
      · exact Hb2.out.trans (below_of_only hg2 hg (by have := Hb2.out.size; omega))
    first
    | have hF := hG.out _ (only_alloc ho6 (.cells #[.int .i64 (-1), .int .i64 0, .int .i64 1, .int .i64 256, .int .i64 257, .int .i64 (x1 : Int), .int .i64 (x2 : Int), .int .i64 (x3 : Int)] 3))
      have HF := Lib.hid hF
      clear hF hG ho3 ho4 ho5 ho6 hr2 hr3 hr4 hr5 hr6 hrd hz
      go_wp2_with fail
      go_ret2
      exact HF.out
    | have hF := hG.out w6 (only_trans (only_alloc (World.grownBy.refl w5 (some g)) _) ho6)
      have HF := Lib.hid hF
      clear hF hG ho3 ho4 ho5 ho6 hr2 hr3 hr4 hr5 hr6 hrd hz
      go_wp2_with fail
      go_ret2
      exact HF.out
end Go.Proofs.Ytjnplihkagegdaa
