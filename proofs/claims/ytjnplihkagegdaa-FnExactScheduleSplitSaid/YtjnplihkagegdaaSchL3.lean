/- The walk of the law FnExactScheduleSplit: it returns true, whatever the options. Condition: the slice reads as a list of options. -/
import Derived.Test.YtjnplihkagegdaaSplB
namespace Go.Proofs.Ytjnplihkagegdaa
open Go.RowKit

set_option maxHeartbeats 1000000 in
theorem fnExactScheduleSplit_walk (A : Option Addr) (n c : Nat) (l : List Opt) (x : Int) (w : World) (h : Opts 9223372036854775807 w w.heap.size A n l) (_hx : (Lit.int .i64 x).wf = true) :
    Calls Try.prog 7 #[.slice A n c, .int .i64 x] w fun e w' => e = .returned (.bool true) ∧ Below w.heap.size w w' := by
  by_cases hn : n ≤ 1048576
  · have h1 : Opts 1048576 w w.heap.size A n l := ⟨h.1, hn, h.2.2⟩
    have hFl := splI_len l x
    have H1 := Lib.hid h1
    clear h h1
    go_enter Try.func7, Try.ntmps7
    go_wp2_with fail
    refine (szOptionS_any A n c w (by omega)).mono ?_
    rintro e w0 ⟨rfl, rfl⟩
    rw [if_pos hn]
    go_wp2_with fail
    refine (toOptionS_any A n c l _ w.heap.size H1.out (Nat.le_refl _)).mono ?_
    rintro e w1 ⟨g1, rfl, hb1, ho1⟩
    have hO1 := Lib.hid (opts_of_own ho1 H1.out)
    have hB1 := Lib.hid hb1
    have hs1 := hb1.size
    clear hb1 ho1
    go_wp2_with fail
    refine (sScheduleSplit_any _ n n l x w1 _ hO1.out (Nat.le_refl _)).mono ?_
    rintro e w2 ⟨A0, n0, c0, rfl, hb2, hI0, -⟩
    have hB2 := Lib.hid (hB1.out.trans (hb2.mono hs1))
    have hI0' := Lib.hid hI0
    have hs2 := hb2.size
    have hl0 : n0 ≤ 1000 := by have := hI0.1; omega
    have hne0 := Lib.hid (IntsO.blk hI0)
    clear hb2 hI0
    go_wp2_with fail
    refine (toOptionS_any A n c l w2 w.heap.size (H1.out.below hB2.out (Nat.le_refl _)) (by omega)).mono ?_
    rintro e w3 ⟨g3, rfl, hb3, ho3⟩
    have hO3 := Lib.hid (opts_of_own ho3 H1.out)
    have hg3 := ho3.lt g3 rfl
    have hown3 := Lib.hid ho3
    have hB3 := Lib.hid (hB2.out.trans (hb3.mono (by omega)))
    have hI03 := Lib.hid (hI0'.out.below hb3)
    have hs3 := hb3.size
    clear hb3 ho3 hI0'
    go_wp2_with fail
    refine (scheduleSplit_any _ n n l x w3 _ hO3.out (Nat.le_refl _)).mono ?_
    rintro e w4 ⟨A4, n4, c4, rfl, hb4, hI4, -⟩
    have hB4 := Lib.hid (hB3.out.trans (hb4.mono (by omega)))
    have hI04 := Lib.hid (hI03.out.below hb4)
    have hO4 := Lib.hid ((hO3.out.below hb4 (Nat.le_refl _)).more hb4.size)
    have hown4 := Lib.hid (hown3.out.kept (only_of_below hb4 none) (.inr (by simp [Value.ownBlock])))
    have hI4' := Lib.hid hI4
    have hs4 := hb4.size
    have hl4 : n4 ≤ 1000 := by have := hI4.1; omega
    have hne4 := Lib.hid (IntsO.base_ hI4)
    clear hb4 hI4 hI03 hown3 hO3
    go_wp2_with fail
    refine (eqIntS_same A4 A0 n4 c4 n0 c0 (splI l x) w4 _ hI4'.out.read hI04.out.read).mono ?_
    rintro e w5 ⟨rfl, q5, rfl⟩
    go_wp2_with fail
    refine (toOptionS_any A n c l _ w.heap.size (H1.out.below (below_drewN hB4.out q5) (Nat.le_refl _)) (by show w.heap.size ≤ w4.heap.size; omega)).mono ?_
    rintro e w6 ⟨g6, rfl, hb6, ho6⟩
    have hb6' : Below w4.heap.size w4 w6 := (below_drewN (Below.refl w4.heap.size w4) q5).trans hb6
    have hO6 := Lib.hid (opts_of_own ho6 H1.out)
    have hB6 := Lib.hid (hB4.out.trans (hb6'.mono (by omega)))
    have hI06 := Lib.hid (hI04.out.below hb6')
    have hI46 := Lib.hid (hI4'.out.below hb6')
    have hO46 := Lib.hid ((hO4.out.below hb6' (Nat.le_refl _)).more hb6'.size)
    have hown6 := Lib.hid (hown4.out.kept (only_of_below hb6' none) (.inr (by simp [Value.ownBlock])))
    have hs6 := hb6'.size
    clear hb6 hb6' ho6 hI04 hI4' hO4 hown4
    go_wp2_with fail
    refine (eqOptionS_same _ _ n n n n l w6 _ hO46.out hO6.out (Nat.le_refl _)).mono ?_
    rintro e w7 ⟨rfl, hb7⟩
    have hB7 := Lib.hid (hB6.out.trans (hb7.mono (by omega)))
    have hI07 := Lib.hid (hI06.out.below hb7)
    have hI47 := Lib.hid (hI46.out.below hb7)
    have hown7 := Lib.hid (hown6.out.kept (only_of_below hb7 none) (.inr (by simp [Value.ownBlock])))
    have hs7 := hb7.size
    clear hb7 hI06 hI46 hown6 hO46 hO6
    go_wp2_with fail
    refine (markOptionS_any g3 n n _ w7 _ hown7.out hn).mono ?_
    rintro e w8 ⟨rfl, hg8⟩
    have hI08 := Lib.hid (hI07.out.kept hg8 (fun hn0 a ha e => by have := hne0.out hn0 a ha; injection e with e; omega))
    have hI48 := Lib.hid (hI47.out.kept hg8 (fun hn0 a ha e => by have := hne4.out hn0 a ha; injection e with e; omega))
    have hB8 := Lib.hid (hB7.out.trans (below_of_only hg8 (B := w.heap.size) (by omega) (by omega)))
    have hs8 := hg8.size
    clear hg8 hI07 hI47 hown7
    have hkn : (0 : Int) ≤ 1 + 4 * (n : Int) := by omega
    go_wp2_with fail
    refine (eqIntS_same A4 A0 n4 c4 n0 c0 (splI l x) w8 _ hI48.out.read hI08.out.read).mono ?_
    rintro e w9 ⟨rfl, q9, rfl⟩
    go_wp2_with fail
    refine (markIntS_any A4 n4 c4 (splI l x) 1 _ w3.heap.size (hI48.out.below (below_drewN (Below.refl _ w8) q9)) (by omega) hl4).mono ?_
    rintro e w10 ⟨rfl, hg10, hm10⟩
    have hg10' : w8.grownBy w10 (ownOf n4 A4) := only_trans (only_drewN (World.grownBy.refl w8 _) q9) hg10
    have hI010 := Lib.hid (hI08.out.kept hg10' (fun hn0 a ha e => by
      have h0 := hne0.out hn0 a ha
      obtain ⟨hz, a4, hA4, hb⟩ := ownOf_some e
      have := hne4.out hz a4 hA4
      omega))
    have hM10 := Lib.hid hm10
    have hB10 := Lib.hid (hB8.out.trans (only_below hg10' (B := w.heap.size) (fun hz a ha => by have := hne4.out hz a ha; omega) (by omega)))
    have hs10 := hg10'.size
    clear hg10 hg10' hm10 hI08 hI48
    go_wp2_with fail
    refine (heldIntS_any A4 n4 c4 1 w10 w3.heap.size hM10.out (by omega) hl4).mono ?_
    rintro e w11 ⟨rfl, rfl⟩
    go_wp2_with fail
    refine (toOptionS_any A n c l w10 w.heap.size (H1.out.below hB10.out (Nat.le_refl _)) (by omega)).mono ?_
    rintro e w12 ⟨g12, rfl, hb12, ho12⟩
    have hO12 := Lib.hid (opts_of_own ho12 H1.out)
    have hB12 := Lib.hid (hB10.out.trans (hb12.mono (by omega)))
    have hI012 := Lib.hid (hI010.out.below hb12)
    have hM12 := Lib.hid (hM10.out.below hb12)
    have hs12 := hb12.size
    clear hb12 ho12 hI010 hM10
    go_wp2_with fail
    refine (scheduleSplit_any _ n n l x w12 _ hO12.out (Nat.le_refl _)).mono ?_
    rintro e w13 ⟨A13, n13, c13, rfl, hb13, hI13, -⟩
    have hB13 := Lib.hid (hB12.out.trans (hb13.mono (by omega)))
    have hI013 := Lib.hid (hI012.out.below hb13)
    have hM13 := Lib.hid (hM12.out.below hb13)
    have hI13' := Lib.hid hI13
    clear hb13 hI13 hI012 hM12 hO12
    go_wp2_with fail
    refine (eqIntS_same A13 A0 n13 c13 n0 c0 (splI l x) w13 _ hI13'.out.read hI013.out.read).mono ?_
    rintro e w14 ⟨rfl, q14, rfl⟩
    go_wp2_with fail
    refine (heldIntS_any A4 n4 c4 1 _ w3.heap.size (hM13.out.below (below_drewN (Below.refl _ w13) q14)) (by omega) hl4).mono ?_
    rintro e w15 ⟨rfl, rfl⟩
    have hB15 := Lib.hid (below_drewN hB13.out q14)
    clear hB1 hB2 hB3 hB4 hB6 hB7 hB8 hB10 hB12 hB13
    go_wp2
    go_ret
    exact ⟨rfl, hB15.out⟩
  · go_enter Try.func7, Try.ntmps7
    go_wp2_with fail
    refine (szOptionS_any A n c w h.2.1).mono ?_
    rintro e w0 ⟨rfl, rfl⟩
    rw [if_neg hn]
    go_wp2
    go_ret
    exact ⟨rfl, Below.refl _ _⟩
end Go.Proofs.Ytjnplihkagegdaa
