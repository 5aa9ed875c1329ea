/- The walk of the law FnWorldNew: it returns true on every input. No condition. -/
import Derived.Test.YtjpaoadbgmmoeaaWL1
import Derived.Test.YtjpaoadbgmmoeaaWB16
import Derived.Test.YtjpaoadbgmmoeaaWK3
namespace Go.Proofs.Ytjpaoadbgmmoeaa
open Go.RowKit



theorem wdh_zero (w : World) : WdH w (Old w) hd0 wdZero :=
  ⟨by unfold I64 wdZero; simp only; omega, SliceR.nil_, SliceR.nil_, SliceR.nil_, SliceR.nil_, SliceR.nil_, SliceR.nil_, SliceR.nil_, SliceR.nil_, SliceR.nil_⟩
set_option maxRecDepth 10000 in
set_option maxHeartbeats 2000000 in
theorem fnWorldNew_walk (A : Option Addr) (n c : Nat) (bs : List UInt8) (w : World) (h : Byts w w.heap.size A n c bs) :
    Calls Try.prog 3 #[.slice A n c] w fun e w' => e = .returned (.bool true) ∧ Below w.heap.size w w' := by
  have hnc := h.2.1
  have hcm := h.2.2
  unfold maxLen at hcm
  by_cases hn : n ≤ 1048576
  · have H := Lib.hid (drawWorldNew_any A n c bs w _ h (Nat.le_refl _))
    clear h
    go_enter Try.func3, Try.ntmps3
    go_wp2_with fail
    refine H.out.mono ?_
    rintro e w1 ⟨x, rfl, hx, hb1⟩
    by_cases hl : inB x 0 30 = true
    · go_wp2_with fail
      refine (worldNew_yes x hl w1).mono ?_
      rintro e w2 ⟨⟨h, ro, rfl, ho⟩, hb2⟩
      unfold Hd.agg
      have hw1 := ho.wdh (by unfold I64 wdNew; simp only; omega)
      have e1 : h.n1 = 3 := by rw [← ho.sends.len]; rfl
      have e4 : h.n4 = 4 := by rw [← ho.paths.len]; rfl
      have e8 : h.n8 = 0 := by rw [← ho.carried.len]; rfl
      have e9 : h.n9 = 0 := by rw [← ho.net.len]; rfl
      clear ho
      have E1 := Lib.hid e1
      have E4 := Lib.hid e4
      have E8 := Lib.hid e8
      have E9 := Lib.hid e9
      clear e1 e4 e8 e9
      go_wp2_with fail
      obtain ⟨V1, hV1⟩ : ∃ V1 : World, V1 = w2.alloc (.cells #[.int .i64 0, .slice h.A1 h.n1 h.c1, .slice h.A2 h.n2 h.c2, .slice h.A3 h.n3 h.c3, .slice h.A4 h.n4 h.c4, .slice h.A5 h.n5 h.c5, .slice h.A6 h.n6 h.c6, .slice h.A7 h.n7 h.c7, .slice h.A8 h.n8 h.c8, .slice h.A9 h.n9 h.c9] 34) := ⟨_, rfl⟩
      have hbv1 : Below w2.heap.size w2 V1 := by rw [hV1]; exact b_alloc _ _
      have at1 : AtP V1 w2.heap.size h 0 := by rw [hV1]; exact atP_alloc w2 h 0 _
      rw [← hV1]
      clear hV1
      refine (sWorldNew_yes x hl V1).mono ?_
      rintro e w4 ⟨⟨g, ro', rfl, ho'⟩, hb4⟩
      unfold Hd.agg
      have hw2 := ho'.wdh (by unfold I64 wdNew; simp only; omega)
      clear ho'
      obtain ⟨V2, hV2⟩ : ∃ V2 : World, V2 = w4.alloc (.cells #[.int .i64 0, .slice g.A1 g.n1 g.c1, .slice g.A2 g.n2 g.c2, .slice g.A3 g.n3 g.c3, .slice g.A4 g.n4 g.c4, .slice g.A5 g.n5 g.c5, .slice g.A6 g.n6 g.c6, .slice g.A7 g.n7 g.c7, .slice g.A8 g.n8 g.c8, .slice g.A9 g.n9 g.c9] 34) := ⟨_, rfl⟩
      have hbv2 : Below w4.heap.size w4 V2 := by rw [hV2]; exact b_alloc _ _
      have at2 : AtP V2 w4.heap.size g 0 := by rw [hV2]; exact atP_alloc w4 g 0 _
      have at1' := at1.below (hb4.trans (hbv2.mono hb4.size))
      have k1 := hw1.car (Car.below (Sub.refl _) (hbv1.trans ((hb4.trans (hbv2.mono hb4.size)).mono hbv1.size)))
      have k2 := hw2.car (Car.below (Sub.refl _) hbv2)
      have Hb := Lib.hid ((hb1.trans (hb2.mono hb1.size)).trans ((hbv1.trans ((hb4.trans (hbv2.mono hb4.size)).mono hbv1.size)).mono (Nat.le_trans hb1.size hb2.size)))
      have o1 : Sub (Old w2) (Old V2) := Sub.old (Sub.refl _) (Nat.le_trans hbv1.size (Nat.le_trans hb4.size hbv2.size))
      have o2 : Sub (Old w4) (Old V2) := Sub.old (Sub.refl _) hbv2.size
      have HA1 := Lib.hid at1'
      have HA2 := Lib.hid at2
      have m1 : w2.heap.size < V2.heap.size := at1'.1
      have u0 := at1'.2 0 _ rfl
      have u1 := at1'.2 1 _ rfl
      have u2 := at1'.2 2 _ rfl
      have u3 := at1'.2 3 _ rfl
      have u4 := at1'.2 4 _ rfl
      have u5 := at1'.2 5 _ rfl
      have u6 := at1'.2 6 _ rfl
      have u7 := at1'.2 7 _ rfl
      have u8 := at1'.2 8 _ rfl
      have u9 := at1'.2 9 _ rfl
      have v0 := at2.2 0 _ rfl
      have v1 := at2.2 1 _ rfl
      have v2 := at2.2 2 _ rfl
      have v3 := at2.2 3 _ rfl
      have v4 := at2.2 4 _ rfl
      have v5 := at2.2 5 _ rfl
      have v6 := at2.2 6 _ rfl
      have v7 := at2.2 7 _ rfl
      have v8 := at2.2 8 _ rfl
      have v9 := at2.2 9 _ rfl
      clear hb1 hb2 hbv1 hb4 hbv2 hw1 hw2 at1 at2 at1'
      rw [hV2] at u0 u1 u2 u3 u4 u5 u6 u7 u8 u9 v0 v1 v2 v3 v4 v5 v6 v7 v8 v9
      go_wp2_with fail
      rw [← hV2]
      rw [← hV2] at u0 u1 u2 u3 u4 u5 u6 u7 u8 u9 v0 v1 v2 v3 v4 v5 v6 v7 v8 v9
      clear hV2
      refine (sameWorld_t h g (wdNew x) V2 _ _ k1 k2 o1 o2).mono ?_
      rintro e V3 ⟨rfl, hb3⟩
      have Hb3 := Lib.hid (Hb.out.trans (hb3.mono Hb.out.size))
      have at3 := HA1.out.below hb3
      have k3 := k1.car (Car.below o1 hb3)
      have o3 := o1.old hb3.size
      clear HA2 k1 k2 o1 o2 u0 u1 u2 u3 u4 u5 u6 u7 u8 u9 v0 v1 v2 v3 v4 v5 v6 v7 v8 v9 m1 Hb hb3
      have HA3 := Lib.hid at3
      have m3 : w2.heap.size < V3.heap.size := at3.1
      have r0 := at3.2 0 _ rfl
      have r1 := at3.2 1 _ rfl
      have r2 := at3.2 2 _ rfl
      have r3 := at3.2 3 _ rfl
      have r4 := at3.2 4 _ rfl
      have r5 := at3.2 5 _ rfl
      have r6 := at3.2 6 _ rfl
      have r7 := at3.2 7 _ rfl
      have r8 := at3.2 8 _ rfl
      have r9 := at3.2 9 _ rfl
      clear at3
      have hval : wdValid (wdNew x) = true := (wd_iff _).2 (wd_new (by have := inB_iff.1 hl; exact this))
      have Hval := Lib.hid hval
      clear hval
      go_wp2_with fail
      refine (worldValid_any h (wdNew x) V3 _ k3 o3).mono ?_
      rintro e V4 ⟨rfl, hb5⟩
      rw [Hval.out]
      have Hb4 := Lib.hid (Hb3.out.trans (hb5.mono Hb3.out.size))
      have at4 := HA3.out.below hb5
      clear k3 o3 r0 r1 r2 r3 r4 r5 r6 r7 r8 r9 m3 Hb3 hb5
      have t0 := at4.2 0 _ rfl
      have t1 := at4.2 1 _ rfl
      have t2 := at4.2 2 _ rfl
      have t3 := at4.2 3 _ rfl
      have t4 := at4.2 4 _ rfl
      have t5 := at4.2 5 _ rfl
      have t6 := at4.2 6 _ rfl
      have t7 := at4.2 7 _ rfl
      have t8 := at4.2 8 _ rfl
      have t9 := at4.2 9 _ rfl
      clear at4
      have e1 := E1.out
      have e4 := E4.out
      have e8 := E8.out
      have e9 := E9.out
      go_wp2
      go_ret
      exact ⟨by simp [e1, e4, e8, e9], Hb4.out⟩
    · have hl' : inB x 0 30 = false := by simpa using hl
      clear hl
      go_wp2_with fail
      refine (worldNew_no x hl' w1).mono ?_
      rintro e w2 ⟨rfl, hb2⟩
      unfold Hd.agg hd0
      go_wp2_with fail
      obtain ⟨V1, hV1⟩ : ∃ V1 : World, V1 = w2.alloc (.cells #[.int .i64 0, .slice none 0 0, .slice none 0 0, .slice none 0 0, .slice none 0 0, .slice none 0 0, .slice none 0 0, .slice none 0 0, .slice none 0 0, .slice none 0 0] 34) := ⟨_, rfl⟩
      have hbv1 : Below w2.heap.size w2 V1 := by rw [hV1]; exact b_alloc _ _
      have at1 : AtP V1 w2.heap.size hd0 0 := by rw [hV1]; exact atP_alloc w2 hd0 0 _
      rw [← hV1]
      clear hV1
      refine (sWorldNew_no x hl' V1).mono ?_
      rintro e w4 ⟨rfl, hb4⟩
      unfold Hd.agg hd0
      obtain ⟨V2, hV2⟩ : ∃ V2 : World, V2 = w4.alloc (.cells #[.int .i64 0, .slice none 0 0, .slice none 0 0, .slice none 0 0, .slice none 0 0, .slice none 0 0, .slice none 0 0, .slice none 0 0, .slice none 0 0, .slice none 0 0] 34) := ⟨_, rfl⟩
      have hbv2 : Below w4.heap.size w4 V2 := by rw [hV2]; exact b_alloc _ _
      have at2 : AtP V2 w4.heap.size hd0 0 := by rw [hV2]; exact atP_alloc w4 hd0 0 _
      have at1' := at1.below (hb4.trans (hbv2.mono hb4.size))
      have Hb := Lib.hid ((hb1.trans (hb2.mono hb1.size)).trans ((hbv1.trans ((hb4.trans (hbv2.mono hb4.size)).mono hbv1.size)).mono (Nat.le_trans hb1.size hb2.size)))
      have k1 := wdh_zero V2
      have HA1 := Lib.hid at1'
      have HA2 := Lib.hid at2
      have u0 := at1'.2 0 _ rfl
      have u1 := at1'.2 1 _ rfl
      have u2 := at1'.2 2 _ rfl
      have u3 := at1'.2 3 _ rfl
      have u4 := at1'.2 4 _ rfl
      have u5 := at1'.2 5 _ rfl
      have u6 := at1'.2 6 _ rfl
      have u7 := at1'.2 7 _ rfl
      have u8 := at1'.2 8 _ rfl
      have u9 := at1'.2 9 _ rfl
      have v0 := at2.2 0 _ rfl
      have v1 := at2.2 1 _ rfl
      have v2 := at2.2 2 _ rfl
      have v3 := at2.2 3 _ rfl
      have v4 := at2.2 4 _ rfl
      have v5 := at2.2 5 _ rfl
      have v6 := at2.2 6 _ rfl
      have v7 := at2.2 7 _ rfl
      have v8 := at2.2 8 _ rfl
      have v9 := at2.2 9 _ rfl
      clear hb1 hb2 hbv1 hb4 hbv2 at1 at2 at1'
      rw [hV2] at u0 u1 u2 u3 u4 u5 u6 u7 u8 u9 v0 v1 v2 v3 v4 v5 v6 v7 v8 v9
      go_wp2_with fail
      rw [← hV2]
      rw [← hV2] at u0 u1 u2 u3 u4 u5 u6 u7 u8 u9 v0 v1 v2 v3 v4 v5 v6 v7 v8 v9
      clear hV2
      refine (sameWorld_t hd0 hd0 wdZero V2 _ _ k1 k1 (Sub.refl _) (Sub.refl _)).mono ?_
      rintro e V3 ⟨rfl, hb3⟩
      have Hb3 := Lib.hid (Hb.out.trans (hb3.mono Hb.out.size))
      have at3 := HA1.out.below hb3
      have at4 := HA2.out.below hb3
      have k3 := wdh_zero V3
      clear k1 u0 u1 u2 u3 u4 u5 u6 u7 u8 u9 v0 v1 v2 v3 v4 v5 v6 v7 v8 v9 Hb hb3
      have r0 := at3.2 0 _ rfl
      have r1 := at3.2 1 _ rfl
      have r2 := at3.2 2 _ rfl
      have r3 := at3.2 3 _ rfl
      have r4 := at3.2 4 _ rfl
      have r5 := at3.2 5 _ rfl
      have r6 := at3.2 6 _ rfl
      have r7 := at3.2 7 _ rfl
      have r8 := at3.2 8 _ rfl
      have r9 := at3.2 9 _ rfl
      have t0 := at4.2 0 _ rfl
      have t1 := at4.2 1 _ rfl
      have t2 := at4.2 2 _ rfl
      have t3 := at4.2 3 _ rfl
      have t4 := at4.2 4 _ rfl
      have t5 := at4.2 5 _ rfl
      have t6 := at4.2 6 _ rfl
      have t7 := at4.2 7 _ rfl
      have t8 := at4.2 8 _ rfl
      have t9 := at4.2 9 _ rfl
      clear at3 at4
      go_wp2_with fail
      refine (sameWorld_t hd0 hd0 wdZero V3 _ _ k3 k3 (Sub.refl _) (Sub.refl _)).mono ?_
      rintro e V4 ⟨rfl, hb5⟩
      have Hb4 := Lib.hid (Hb3.out.trans (hb5.mono Hb3.out.size))
      clear hb5
      go_wp2
      go_ret
      exact ⟨rfl, Hb4.out⟩
  · go_enter Try.func3, Try.ntmps3
    go_wp2
    go_ret
    exact ⟨rfl, Below.refl _ _⟩
end Go.Proofs.Ytjpaoadbgmmoeaa
