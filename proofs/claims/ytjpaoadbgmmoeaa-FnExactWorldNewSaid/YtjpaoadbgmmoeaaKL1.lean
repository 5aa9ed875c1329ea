/- The walk of the law FnExactWorldNew: it returns true on every input. No condition. -/
import Derived.Test.YtjpaoadbgmmoeaaKM3
import Derived.Test.YtjpaoadbgmmoeaaWL1
import Derived.Test.YtjpaoadbgmmoeaaWK4
namespace Go.Proofs.Ytjpaoadbgmmoeaa
open Go.RowKit

theorem wdh_zero (w : World) : WdH w (Old w) hd0 wdZero :=
  ⟨by unfold I64 wdZero; simp only; omega, SliceR.nil_, SliceR.nil_, SliceR.nil_, SliceR.nil_, SliceR.nil_, SliceR.nil_, SliceR.nil_, SliceR.nil_, SliceR.nil_⟩
set_option maxRecDepth 10000 in
set_option maxHeartbeats 4000000 in
theorem fnExactWorldNew_walk (x : Int) (w : World) :
    Calls Try.prog 4 #[.int .i64 x] w fun e w' => e = .returned (.bool true) ∧ Below w.heap.size w w' := by
  by_cases hl : inB x 0 30 = true
  · go_enter Try.func4, Try.ntmps4
    go_wp2_with fail
    refine (sWorldNew_yes x hl w).mono ?_
    rintro e w1 ⟨⟨s, ros, rfl, hos⟩, hb1⟩
    unfold Hd.agg
    have hs1 := hos.wdh (by unfold I64 wdNew; simp only; omega)
    clear hos
    go_wp2_with fail
    obtain ⟨V1, hV1⟩ : ∃ V1 : World, V1 = w1.alloc (.cells #[.int .i64 0, .slice s.A1 s.n1 s.c1, .slice s.A2 s.n2 s.c2, .slice s.A3 s.n3 s.c3, .slice s.A4 s.n4 s.c4, .slice s.A5 s.n5 s.c5, .slice s.A6 s.n6 s.c6, .slice s.A7 s.n7 s.c7, .slice s.A8 s.n8 s.c8, .slice s.A9 s.n9 s.c9] 34) := ⟨_, rfl⟩
    have hbv1 : Below w1.heap.size w1 V1 := by rw [hV1]; exact b_alloc _ _
    have at1 : AtP V1 w1.heap.size s 0 := by rw [hV1]; exact atP_alloc w1 s 0 _
    rw [← hV1]
    clear hV1
    refine (worldNew_yes x hl V1).mono ?_
    rintro e w3 ⟨⟨h0, ro, rfl, ho⟩, hb3⟩
    have hw3 := ho.wdh (by unfold I64 wdNew; simp only; omega)
    obtain ⟨g1, g2, g3, g4, g5, g6, g7, A8, A9, c1, c2, c3, c4, c5, c6, c7, c8, c9, rfl, hG, hap, hrow⟩ := own_new ho
    clear ho
    unfold Hd.agg hdG
    simp only
    obtain ⟨V2, hV2⟩ : ∃ V2 : World, V2 = w3.alloc (.cells #[.int .i64 0, .slice (some ⟨g1, 0, none⟩) 3 c1, .slice (some ⟨g2, 0, none⟩) 3 c2, .slice (some ⟨g3, 0, none⟩) 3 c3, .slice (some ⟨g4, 0, none⟩) 4 c4, .slice (some ⟨g5, 0, none⟩) 4 c5, .slice (some ⟨g6, 0, none⟩) 4 c6, .slice (some ⟨g7, 0, none⟩) 4 c7, .slice A8 0 c8, .slice A9 0 c9] 34) := ⟨_, rfl⟩
    have hbv2 : Below w3.heap.size w3 V2 := by rw [hV2]; exact b_alloc _ _
    have at2 : AtP V2 w3.heap.size (hdG g1 g2 g3 g4 g5 g6 g7 A8 A9 c1 c2 c3 c4 c5 c6 c7 c8 c9) 0 := by rw [hV2]; exact atP_alloc w3 (hdG g1 g2 g3 g4 g5 g6 g7 A8 A9 c1 c2 c3 c4 c5 c6 c7 c8 c9) 0 _
    have hb13 : Below V1.heap.size V1 V2 := hb3.trans (hbv2.mono hb3.size)
    have hb12 : Below w1.heap.size w1 V2 := hbv1.trans (hb13.mono hbv1.size)
    have at1' := at1.below hb13
    have ks := hs1.car (Car.below (Sub.refl _) hb12)
    have kg := hw3.car (Car.below (Sub.refl _) hbv2)
    have os : Sub (Old w1) (Old V2) := Sub.old (Sub.refl _) hb12.size
    have og : Sub (Old w3) (Old V2) := Sub.old (Sub.refl _) hbv2.size
    have hrow2 := hrow.below hbv2
    have hG2 : ∀ b, InG g1 g2 g3 g4 g5 g6 g7 b → V1.heap.size ≤ b := fun b hb => (hG b hb).1
    have hbx : ¬ InG g1 g2 g3 g4 g5 g6 g7 w3.heap.size := fun hb => by have := (hG _ hb).2; omega
    have hb5 : ¬ InG g1 g2 g3 g4 g5 g6 g7 w1.heap.size := fun hb => by have := hG2 _ hb; have := at1.1; omega
    have Hw2 := Lib.hid (hb1.trans (hb12.mono hb1.size))
    have Hs1 := Lib.hid hs1
    have HB1 := Lib.hid hbv1
    have HB13 := Lib.hid hb13
    have HB12 := Lib.hid hb12
    have hbw := hb1.size
    have u0 := at2.2 0 _ rfl
    have u1 := at2.2 1 _ rfl
    have u2 := at2.2 2 _ rfl
    have u3 := at2.2 3 _ rfl
    have u4 := at2.2 4 _ rfl
    have u5 := at2.2 5 _ rfl
    have u6 := at2.2 6 _ rfl
    have u7 := at2.2 7 _ rfl
    have u8 := at2.2 8 _ rfl
    have u9 := at2.2 9 _ rfl
    have v0 := at1'.2 0 _ rfl
    have v1 := at1'.2 1 _ rfl
    have v2 := at1'.2 2 _ rfl
    have v3 := at1'.2 3 _ rfl
    have v4 := at1'.2 4 _ rfl
    have v5 := at1'.2 5 _ rfl
    have v6 := at1'.2 6 _ rfl
    have v7 := at1'.2 7 _ rfl
    have v8 := at1'.2 8 _ rfl
    have v9 := at1'.2 9 _ rfl
    unfold hdG at u0 u1 u2 u3 u4 u5 u6 u7 u8 u9
    simp only at u0 u1 u2 u3 u4 u5 u6 u7 u8 u9
    rw [hV2] at u0 u1 u2 u3 u4 u5 u6 u7 u8 u9 v0 v1 v2 v3 v4 v5 v6 v7 v8 v9
    clear at1 hb1 hbv1 hb3 hbv2 hw3 hrow hb13 hs1 hb12
    have HA1 := Lib.hid at1'
    have HA2 := Lib.hid at2
    clear at1' at2
    go_wp2_with fail
    rw [← hV2]
    rw [← hV2] at u0 u1 u2 u3 u4 u5 u6 u7 u8 u9 v0 v1 v2 v3 v4 v5 v6 v7 v8 v9
    clear hV2
    refine (eqWorld_t (hdG g1 g2 g3 g4 g5 g6 g7 A8 A9 c1 c2 c3 c4 c5 c6 c7 c8 c9) s (wdNew x) V2 _ _ kg ks og os).mono ?_
    rintro e V3 ⟨rfl, hb⟩
    have Hw3 := Lib.hid (Hw2.out.trans (hb.mono Hw2.out.size))
    have HC := Lib.hid (HB13.out.trans (hb.mono HB13.out.size))
    have HA1b := Lib.hid (HA1.out.below hb)
    have HA2b := Lib.hid (HA2.out.below hb)
    have hr3 := hrow2.below hb
    clear u0 u1 u2 u3 u4 u5 u6 u7 u8 u9 v0 v1 v2 v3 v4 v5 v6 v7 v8 v9 HA1 HA2 Hw2 HB13 hrow2 hb kg ks og os
    have at2 := HA2b.out
    have u0 := at2.2 0 _ rfl
    have u1 := at2.2 1 _ rfl
    have u2 := at2.2 2 _ rfl
    have u3 := at2.2 3 _ rfl
    have u4 := at2.2 4 _ rfl
    have u5 := at2.2 5 _ rfl
    have u6 := at2.2 6 _ rfl
    have u7 := at2.2 7 _ rfl
    have u8 := at2.2 8 _ rfl
    have u9 := at2.2 9 _ rfl
    unfold hdG at u0 u1 u2 u3 u4 u5 u6 u7 u8 u9
    simp only at u0 u1 u2 u3 u4 u5 u6 u7 u8 u9
    clear at2
    go_wp2_with fail
    refine (markWorld_new g1 g2 g3 g4 g5 g6 g7 A8 A9 c1 c2 c3 c4 c5 c6 c7 c8 c9 V3 hr3 hap).mono ?_
    rintro e V4 ⟨rfl, ho, hr4⟩
    have HD4 := Lib.hid (HC.out.trans (ho.below hG2 HC.out.size))
    have Hw4 := Lib.hid (Hw3.out.trans (ho.below (fun b hb => Nat.le_trans (Nat.le_trans hbw HB1.out.size) (hG2 b hb)) Hw3.out.size))
    have at1 := HA1b.out.only ho hb5
    have at2 := HA2b.out.only ho hbx
    clear u0 u1 u2 u3 u4 u5 u6 u7 u8 u9 ho HA1b HA2b HC Hw3 hr3 hap
    have HA1 := Lib.hid at1
    have HA2 := Lib.hid at2
    clear at1
    have u0 := at2.2 0 _ rfl
    have u1 := at2.2 1 _ rfl
    have u2 := at2.2 2 _ rfl
    have u3 := at2.2 3 _ rfl
    have u4 := at2.2 4 _ rfl
    have u5 := at2.2 5 _ rfl
    have u6 := at2.2 6 _ rfl
    have u7 := at2.2 7 _ rfl
    have u8 := at2.2 8 _ rfl
    have u9 := at2.2 9 _ rfl
    unfold hdG at u0 u1 u2 u3 u4 u5 u6 u7 u8 u9
    simp only at u0 u1 u2 u3 u4 u5 u6 u7 u8 u9
    clear at2
    go_wp2_with fail
    refine (heldWorld_new g1 g2 g3 g4 g5 g6 g7 A8 A9 c1 c2 c3 c4 c5 c6 c7 c8 c9 V4 hr4).mono ?_
    rintro e V5 ⟨rfl, hb⟩
    have HD5 := Lib.hid (HD4.out.trans (hb.mono HD4.out.size))
    have Hw5 := Lib.hid (Hw4.out.trans (hb.mono Hw4.out.size))
    have hr5 := hr4.below hb
    have HA1b := Lib.hid (HA1.out.below hb)
    have HA2b := Lib.hid (HA2.out.below hb)
    clear u0 u1 u2 u3 u4 u5 u6 u7 u8 u9 HA1 HA2 HD4 Hw4 hr4 hb
    go_wp2_with fail
    refine (worldNew_yes x hl V5).mono ?_
    rintro e w6 ⟨⟨h6, ro6, rfl, ho⟩, hb6⟩
    have hw6 := ho.wdh (by unfold I64 wdNew; simp only; omega)
    clear ho
    unfold Hd.agg
    obtain ⟨V6, hV6⟩ : ∃ V6 : World, V6 = w6.alloc (.cells #[.int .i64 0, .slice h6.A1 h6.n1 h6.c1, .slice h6.A2 h6.n2 h6.c2, .slice h6.A3 h6.n3 h6.c3, .slice h6.A4 h6.n4 h6.c4, .slice h6.A5 h6.n5 h6.c5, .slice h6.A6 h6.n6 h6.c6, .slice h6.A7 h6.n7 h6.c7, .slice h6.A8 h6.n8 h6.c8, .slice h6.A9 h6.n9 h6.c9] 34) := ⟨_, rfl⟩
    have hbv6 : Below w6.heap.size w6 V6 := by rw [hV6]; exact b_alloc _ _
    have at6 : AtP V6 w6.heap.size h6 0 := by rw [hV6]; exact atP_alloc w6 h6 0 _
    have hb56 : Below V5.heap.size V5 V6 := hb6.trans (hbv6.mono hb6.size)
    have HD6 := Lib.hid (HD5.out.trans (hb56.mono HD5.out.size))
    have Hw6 := Lib.hid (Hw5.out.trans (hb56.mono Hw5.out.size))
    have hr6 := hr5.below hb56
    have at1 := HA1b.out.below hb56
    have at2 := HA2b.out.below hb56
    have hb16 : Below w1.heap.size w1 V6 := HB1.out.trans (HD6.out.mono HB1.out.size)
    have ks := Hs1.out.car (Car.below (Sub.refl _) hb16)
    have kg := hw6.car (Car.below (Sub.refl _) hbv6)
    have os : Sub (Old w1) (Old V6) := Sub.old (Sub.refl _) hb16.size
    have og : Sub (Old w6) (Old V6) := Sub.old (Sub.refl _) hbv6.size
    clear HD5 Hw5 hr5 HA1b HA2b hb6 hbv6 hb56 hb16 hw6
    have u0 := at6.2 0 _ rfl
    have u1 := at6.2 1 _ rfl
    have u2 := at6.2 2 _ rfl
    have u3 := at6.2 3 _ rfl
    have u4 := at6.2 4 _ rfl
    have u5 := at6.2 5 _ rfl
    have u6 := at6.2 6 _ rfl
    have u7 := at6.2 7 _ rfl
    have u8 := at6.2 8 _ rfl
    have u9 := at6.2 9 _ rfl
    have v0 := at1.2 0 _ rfl
    have v1 := at1.2 1 _ rfl
    have v2 := at1.2 2 _ rfl
    have v3 := at1.2 3 _ rfl
    have v4 := at1.2 4 _ rfl
    have v5 := at1.2 5 _ rfl
    have v6 := at1.2 6 _ rfl
    have v7 := at1.2 7 _ rfl
    have v8 := at1.2 8 _ rfl
    have v9 := at1.2 9 _ rfl
    rw [hV6] at u0 u1 u2 u3 u4 u5 u6 u7 u8 u9 v0 v1 v2 v3 v4 v5 v6 v7 v8 v9
    have HA2 := Lib.hid at2
    clear at1 at2 at6
    go_wp2_with fail
    rw [← hV6]
    rw [← hV6] at u0 u1 u2 u3 u4 u5 u6 u7 u8 u9 v0 v1 v2 v3 v4 v5 v6 v7 v8 v9
    clear hV6
    refine (eqWorld_t h6 s (wdNew x) V6 _ _ kg ks og os).mono ?_
    rintro e V7 ⟨rfl, hb⟩
    have Hw7 := Lib.hid (Hw6.out.trans (hb.mono Hw6.out.size))
    have at2 := HA2.out.below hb
    have hr7 := hr6.below hb
    clear u0 u1 u2 u3 u4 u5 u6 u7 u8 u9 v0 v1 v2 v3 v4 v5 v6 v7 v8 v9 HA2 Hw6 hr6 hb kg ks og os HD6
    have u0 := at2.2 0 _ rfl
    have u1 := at2.2 1 _ rfl
    have u2 := at2.2 2 _ rfl
    have u3 := at2.2 3 _ rfl
    have u4 := at2.2 4 _ rfl
    have u5 := at2.2 5 _ rfl
    have u6 := at2.2 6 _ rfl
    have u7 := at2.2 7 _ rfl
    have u8 := at2.2 8 _ rfl
    have u9 := at2.2 9 _ rfl
    unfold hdG at u0 u1 u2 u3 u4 u5 u6 u7 u8 u9
    simp only at u0 u1 u2 u3 u4 u5 u6 u7 u8 u9
    clear at2
    go_wp2_with fail
    refine (heldWorld_new g1 g2 g3 g4 g5 g6 g7 A8 A9 c1 c2 c3 c4 c5 c6 c7 c8 c9 V7 hr7).mono ?_
    rintro e V8 ⟨rfl, hb⟩
    have Hw8 := Lib.hid (Hw7.out.trans (hb.mono Hw7.out.size))
    clear u0 u1 u2 u3 u4 u5 u6 u7 u8 u9 hb hr7 Hw7
    go_wp2
    go_ret
    exact ⟨rfl, Hw8.out⟩
  · have hl' : inB x 0 30 = false := by simpa using hl
    clear hl
    go_enter Try.func4, Try.ntmps4
    go_wp2_with fail
    refine (sWorldNew_no x hl' w).mono ?_
    rintro e w1 ⟨rfl, hb1⟩
    unfold Hd.agg hd0
    go_wp2_with fail
    obtain ⟨V1, hV1⟩ : ∃ V1 : World, V1 = w1.alloc (.cells #[.int .i64 0, .slice none 0 0, .slice none 0 0, .slice none 0 0, .slice none 0 0, .slice none 0 0, .slice none 0 0, .slice none 0 0, .slice none 0 0, .slice none 0 0] 34) := ⟨_, rfl⟩
    have hbv1 : Below w1.heap.size w1 V1 := by rw [hV1]; exact b_alloc _ _
    have at1 : AtP V1 w1.heap.size hd0 0 := by rw [hV1]; exact atP_alloc w1 hd0 0 _
    rw [← hV1]
    clear hV1
    refine (worldNew_no x hl' V1).mono ?_
    rintro e w3 ⟨rfl, hb3⟩
    unfold Hd.agg hd0
    obtain ⟨V2, hV2⟩ : ∃ V2 : World, V2 = w3.alloc (.cells #[.int .i64 0, .slice none 0 0, .slice none 0 0, .slice none 0 0, .slice none 0 0, .slice none 0 0, .slice none 0 0, .slice none 0 0, .slice none 0 0, .slice none 0 0] 34) := ⟨_, rfl⟩
    have hbv2 : Below w3.heap.size w3 V2 := by rw [hV2]; exact b_alloc _ _
    have at2 : AtP V2 w3.heap.size hd0 0 := by rw [hV2]; exact atP_alloc w3 hd0 0 _
    have hb13 : Below V1.heap.size V1 V2 := hb3.trans (hbv2.mono hb3.size)
    have at1' := at1.below hb13
    have Hw2 := Lib.hid (hb1.trans ((hbv1.trans (hb13.mono hbv1.size)).mono hb1.size))
    have u0 := at2.2 0 _ rfl
    have u1 := at2.2 1 _ rfl
    have u2 := at2.2 2 _ rfl
    have u3 := at2.2 3 _ rfl
    have u4 := at2.2 4 _ rfl
    have u5 := at2.2 5 _ rfl
    have u6 := at2.2 6 _ rfl
    have u7 := at2.2 7 _ rfl
    have u8 := at2.2 8 _ rfl
    have u9 := at2.2 9 _ rfl
    have v0 := at1'.2 0 _ rfl
    have v1 := at1'.2 1 _ rfl
    have v2 := at1'.2 2 _ rfl
    have v3 := at1'.2 3 _ rfl
    have v4 := at1'.2 4 _ rfl
    have v5 := at1'.2 5 _ rfl
    have v6 := at1'.2 6 _ rfl
    have v7 := at1'.2 7 _ rfl
    have v8 := at1'.2 8 _ rfl
    have v9 := at1'.2 9 _ rfl
    rw [hV2] at u0 u1 u2 u3 u4 u5 u6 u7 u8 u9 v0 v1 v2 v3 v4 v5 v6 v7 v8 v9
    have HA1 := Lib.hid at1'
    have HA2 := Lib.hid at2
    clear at1 at2 at1' hb1 hbv1 hb3 hbv2 hb13
    go_wp2_with fail
    rw [← hV2]
    clear hV2 u0 u1 u2 u3 u4 u5 u6 u7 u8 u9 v0 v1 v2 v3 v4 v5 v6 v7 v8 v9
    refine (eqWorld_t hd0 hd0 wdZero V2 _ _ (wdh_zero V2) (wdh_zero V2) (Sub.refl _) (Sub.refl _)).mono ?_
    rintro e V3 ⟨rfl, hb⟩
    have Hw3 := Lib.hid (Hw2.out.trans (hb.mono Hw2.out.size))
    have HA1b := Lib.hid (HA1.out.below hb)
    have at2 := HA2.out.below hb
    clear hb HA1 HA2 Hw2
    have u0 := at2.2 0 _ rfl
    have u1 := at2.2 1 _ rfl
    have u2 := at2.2 2 _ rfl
    have u3 := at2.2 3 _ rfl
    have u4 := at2.2 4 _ rfl
    have u5 := at2.2 5 _ rfl
    have u6 := at2.2 6 _ rfl
    have u7 := at2.2 7 _ rfl
    have u8 := at2.2 8 _ rfl
    have u9 := at2.2 9 _ rfl
    have HA2 := Lib.hid at2
    clear at2
    go_wp2_with fail
    refine (markWorld_0 V3).mono ?_
    rintro e V4 ⟨rfl, hb⟩
    have Hw4 := Lib.hid (Hw3.out.trans (hb.mono Hw3.out.size))
    have HA1c := Lib.hid (HA1b.out.below hb)
    have at2 := HA2.out.below hb
    clear u0 u1 u2 u3 u4 u5 u6 u7 u8 u9 hb Hw3 HA1b HA2
    have u0 := at2.2 0 _ rfl
    have u1 := at2.2 1 _ rfl
    have u2 := at2.2 2 _ rfl
    have u3 := at2.2 3 _ rfl
    have u4 := at2.2 4 _ rfl
    have u5 := at2.2 5 _ rfl
    have u6 := at2.2 6 _ rfl
    have u7 := at2.2 7 _ rfl
    have u8 := at2.2 8 _ rfl
    have u9 := at2.2 9 _ rfl
    have HA2 := Lib.hid at2
    clear at2
    go_wp2_with fail
    refine (heldWorld_0 V4).mono ?_
    rintro e V5 ⟨rfl, hb⟩
    have Hw5 := Lib.hid (Hw4.out.trans (hb.mono Hw4.out.size))
    have HA1d := Lib.hid (HA1c.out.below hb)
    have at2 := HA2.out.below hb
    clear u0 u1 u2 u3 u4 u5 u6 u7 u8 u9 hb Hw4 HA1c HA2
    have HA2 := Lib.hid at2
    clear at2
    go_wp2_with fail
    refine (worldNew_no x hl' V5).mono ?_
    rintro e w6 ⟨rfl, hb6⟩
    unfold Hd.agg hd0
    obtain ⟨V6, hV6⟩ : ∃ V6 : World, V6 = w6.alloc (.cells #[.int .i64 0, .slice none 0 0, .slice none 0 0, .slice none 0 0, .slice none 0 0, .slice none 0 0, .slice none 0 0, .slice none 0 0, .slice none 0 0, .slice none 0 0] 34) := ⟨_, rfl⟩
    have hbv6 : Below w6.heap.size w6 V6 := by rw [hV6]; exact b_alloc _ _
    have at6 : AtP V6 w6.heap.size hd0 0 := by rw [hV6]; exact atP_alloc w6 hd0 0 _
    have hb56 : Below V5.heap.size V5 V6 := hb6.trans (hbv6.mono hb6.size)
    have Hw6 := Lib.hid (Hw5.out.trans (hb56.mono Hw5.out.size))
    have at1 := HA1d.out.below hb56
    have at2 := HA2.out.below hb56
    clear Hw5 HA1d HA2 hb6 hbv6 hb56
    have u0 := at6.2 0 _ rfl
    have u1 := at6.2 1 _ rfl
    have u2 := at6.2 2 _ rfl
    have u3 := at6.2 3 _ rfl
    have u4 := at6.2 4 _ rfl
    have u5 := at6.2 5 _ rfl
    have u6 := at6.2 6 _ rfl
    have u7 := at6.2 7 _ rfl
    have u8 := at6.2 8 _ rfl
    have u9 := at6.2 9 _ rfl
    have v0 := at1.2 0 _ rfl
    have v1 := at1.2 1 _ rfl
    have v2 := at1.2 2 _ rfl
    have v3 := at1.2 3 _ rfl
    have v4 := at1.2 4 _ rfl
    have v5 := at1.2 5 _ rfl
    have v6 := at1.2 6 _ rfl
    have v7 := at1.2 7 _ rfl
    have v8 := at1.2 8 _ rfl
    have v9 := at1.2 9 _ rfl
    rw [hV6] at u0 u1 u2 u3 u4 u5 u6 u7 u8 u9 v0 v1 v2 v3 v4 v5 v6 v7 v8 v9
    have HA2 := Lib.hid at2
    clear at1 at2 at6
    go_wp2_with fail
    rw [← hV6]
    clear hV6 u0 u1 u2 u3 u4 u5 u6 u7 u8 u9 v0 v1 v2 v3 v4 v5 v6 v7 v8 v9
    refine (eqWorld_t hd0 hd0 wdZero V6 _ _ (wdh_zero V6) (wdh_zero V6) (Sub.refl _) (Sub.refl _)).mono ?_
    rintro e V7 ⟨rfl, hb⟩
    have Hw7 := Lib.hid (Hw6.out.trans (hb.mono Hw6.out.size))
    have at2 := HA2.out.below hb
    clear hb HA2 Hw6
    have u0 := at2.2 0 _ rfl
    have u1 := at2.2 1 _ rfl
    have u2 := at2.2 2 _ rfl
    have u3 := at2.2 3 _ rfl
    have u4 := at2.2 4 _ rfl
    have u5 := at2.2 5 _ rfl
    have u6 := at2.2 6 _ rfl
    have u7 := at2.2 7 _ rfl
    have u8 := at2.2 8 _ rfl
    have u9 := at2.2 9 _ rfl
    clear at2
    go_wp2_with fail
    refine (heldWorld_0 V7).mono ?_
    rintro e V8 ⟨rfl, hb⟩
    have Hw8 := Lib.hid (Hw7.out.trans (hb.mono Hw7.out.size))
    clear hb Hw7 u0 u1 u2 u3 u4 u5 u6 u7 u8 u9
    go_wp2
    go_ret
    exact ⟨rfl, Hw8.out⟩
end Go.Proofs.Ytjpaoadbgmmoeaa
