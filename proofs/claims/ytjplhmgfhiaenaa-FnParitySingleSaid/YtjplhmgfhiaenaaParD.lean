/- Contracts of the draws of parity groups. Condition: the reader's place is bounded. -/
import Derived.Test.YtjplhmgfhiaenaaParC
import Derived.Test.YtjplhmgfhiaenaaDraw
namespace Go.Proofs.Ytjplhmgfhiaenaa
open Go.RowKit

theorem alloc_below (w : World) (o : Obj) : Below w.heap.size w (w.alloc o) := (Below.refl _ _).alloc (Nat.le_refl _) o

set_option maxHeartbeats 400000 in
theorem l93Payload_any (g p : Nat) (w : World) (h : Rdr w g p) (hp : p ≤ 900000) :
    Calls Try.prog 41 #[.pointer (some ⟨g, 0, none⟩)] w fun e w' => ∃ s, s.length ≤ 20 ∧ e = .returned (.string (S s)) ∧ Drew w w' g p 40 := by
  have kc := fun W n => run_byteStr (P := Try.prog) W 28 5 9 n Try.underlying28 Try.underlying5 Try.underlying9
  go_enter Try.func41, Try.ntmps41
  go_wp2
  go_loopg [3, 4] 13 (fun m out i wr => ∃ k : Nat, k + m = 13 ∧ i = .int .i64 k ∧ ∃ s : Bs, out = .string (S s) ∧ s.length = k ∧ Drew w wr g p (2 * k))
  case atStart => exact ⟨0, by omega, rfl, [], rfl, rfl, Drew.refl h⟩
  case round =>
    obtain ⟨k, hk, rfl, s, rfl, hs, ho, p', hp', hr⟩ := hrel
    have Hs := Lib.hid hs
    have hs13 : s.length ≤ 13 := by omega
    clear hs
    go_wp2_with fail
    refine (pick_any g p' 13 _ hr (by omega) (by omega) (by omega)).mono ?_
    rintro e w1 ⟨v, rfl, hv, -, hd1⟩
    have hv13 := hv (by omega)
    obtain ⟨ho1, p1, hp1, hr1⟩ := Drew.then ho hp' hd1
    clear hv hd1 hr ho
    by_cases hkv : k < v
    · go_wp2_with fail
      refine (pick_any g p1 256 _ hr1 (by omega) (by omega) (by omega)).mono ?_
      rintro e w2 ⟨x, rfl, hx, -, hd2⟩
      have hx256 := hx (by omega)
      have hd3 := (Drew.then ho1 hp1 hd2).below (alloc_below w2 (.cells #[.int .u8 (x : Int)] 5))
      have Hd3 := Lib.hid hd3
      clear hx hd2 hd3 hr1 ho1
      go_wp2
      go_roundg (13 - (k + 1))
      case measure => omega
      case rel => exact ⟨k + 1, by omega, by go_num, s ++ [UInt8.ofNat x], rfl, by have := Hs.out; simp; omega, Hd3.out.more (by omega)⟩
    · go_wp2_with fail
      refine (pick_any g p1 30 _ hr1 (by omega) (by omega) (by omega)).mono ?_
      rintro e w2 ⟨x, rfl, hx, -, hd2⟩
      obtain ⟨ho2, p2, hp2, hr2⟩ := Drew.then ho1 hp1 hd2
      clear hx hd2 hr1 ho1
      by_cases hx0 : ((x : Int) == 0) = true
      · go_wp2_with fail
        refine (pick_any g p2 8 _ hr2 (by omega) (by omega) (by omega)).mono ?_
        rintro e w3 ⟨y, rfl, hy, -, hd3⟩
        have hy8 := hy (by omega)
        have hd4 := Drew.then ho2 hp2 hd3
        have Hd4 := Lib.hid hd4
        clear hy hd3 hd4 ho2 hr2
        go_wp2_with fail
        refine (l6Many_any [120] y w3 (by simp) (by omega)).mono ?_
        rintro e w4 ⟨t, ht, rfl, rfl⟩
        have ht8 : t.length ≤ 7 := by simp at ht; omega
        clear ht
        go_wp2
        go_ret
        exact ⟨s ++ t, by have := Hs.out; simp; omega, rfl, Hd4.out.more (by omega)⟩
      · have hx0' : ((x : Int) == 0) = false := by simpa using hx0
        clear hx0
        go_wp2
        go_ret
        exact ⟨s, by have := Hs.out; omega, rfl, ho2, p2, by omega, hr2⟩

set_option maxHeartbeats 600000 in
theorem l93Group_any (g p : Nat) (w : World) (h : Rdr w g p) (hp : p ≤ 800000) :
    Calls Try.prog 36 #[.pointer (some ⟨g, 0, none⟩)] w fun e w' => ∃ v ss, ss.length ≤ 5 ∧ (∀ s ∈ ss, s.length ≤ 20) ∧ e = .returned v ∧ w'.ownsRow w.heap.size 9 1 v ss.length (strV ss) ∧ Drew w w' g p 300 := by
  obtain ⟨i0, hi, hz0, hz1, hz2⟩ := info_parts infoStr
  go_enter Try.func36, Try.ntmps36
  go_wp2_with fail
  obtain ⟨B1, HB1⟩ : ∃ B1, Hid (B1 = w.heap.size) := ⟨_, rfl⟩
  have hown0 : (w.alloc (.cells #[] 9)).ownsRow B1 9 1 (.slice (some ⟨w.heap.size, 0, none⟩) 0 0) 0 (strV []) := by
    rw [HB1.out]; exact World.ownsRow_lit w #[] 0 (Nat.le_refl _) (by omega) rfl
  have hgB : g < B1 := by rw [HB1.out]; exact h.lt
  have hd0 : Drew w (w.alloc (.cells #[] 9)) g p 0 := (Drew.refl h).below (alloc_below w _)
  obtain ⟨v0, hv0⟩ : ∃ v0 : Value, v0 = .slice (some ⟨w.heap.size, 0, none⟩) 0 0 := ⟨_, rfl⟩
  rw [← hv0] at hown0 ⊢
  generalize w.alloc (.cells #[] 9) = w0 at hown0 hd0 ⊢
  clear hv0
  obtain ⟨ho0, p0, hp0, hr0⟩ := hd0
  refine (pick_any g p0 4 _ hr0 (by omega) (by omega) (by omega)).mono ?_
  rintro e w1 ⟨x, rfl, hx, -, hd1⟩
  have hx4 := hx (by omega)
  have hown1 := hd1.own hown0 (fun k hk => by have := (hown0.lt k hk).1; omega)
  obtain ⟨ho1, p1, hp1, hr1⟩ := Drew.then ho0 hp0 hd1
  clear hx hd1 hr0 ho0 hown0
  go_wp2_with fail
  refine (pick_any g p1 14 _ hr1 (by omega) (by omega) (by omega)).mono ?_
  rintro e w2 ⟨y, rfl, hy, -, hd2⟩
  have hown2 := hd2.own hown1 (fun k hk => by have := (hown1.lt k hk).1; omega)
  obtain ⟨ho2, p2, hp2, hr2⟩ := Drew.then ho1 hp1 hd2
  clear hy hd2 hr1 ho1 hown1
  by_cases hy0 : ((y : Int) == 0) = true
  · go_wp2_with fail
    refine (pick_any g p2 2 _ hr2 (by omega) (by omega) (by omega)).mono ?_
    rintro e w3 ⟨z, rfl, hz, -, hd3⟩
    have hzz := hz (by omega)
    have hown3 := hd3.own hown2 (fun k hk => by have := (hown2.lt k hk).1; omega)
    have hd3' := Drew.then ho2 hp2 hd3
    clear hz hd3 hr2 ho2 hown2
    go_wp2_with fail
    obtain ⟨nn, hnn⟩ : ∃ nn : Nat, (nn : Int) = (z : Int) * 5 := ⟨z * 5, by simp⟩
    rw [← hnn]
    have hn5 : nn ≤ 5 := by omega
    have hownl := hown3
    have hdl : Drew w w3 g p 3 := hd3'
    clear hown3 hd3' hnn
    go_loopg [3, 5] nn (fun m out i wr => ∃ k : Nat, k + m = nn ∧ i = .int .i64 k ∧ ∃ ss : List Bs, ss.length = k ∧ Hid (∀ s ∈ ss, s.length ≤ 20) ∧ wr.ownsRow B1 9 1 out k (strV ss) ∧ Drew w wr g p (3 + 41 * k))
    case atStart => exact ⟨0, by omega, rfl, [], rfl, by simp [Hid], hownl, hdl⟩
    case round =>
      clear hownl hdl
      obtain ⟨k, hk, rfl, ss, hss, Hss, hown, ho, p', hp', hr⟩ := hrel
      by_cases hkn : k < nn
      · go_wp2_with fail
        refine (pick_any g p' 3 _ hr (by omega) (by omega) (by omega)).mono ?_
        rintro e w3 ⟨q, rfl, hq, -, hd4⟩
        have hq3 := hq (by omega)
        have hown4 := hd4.own hown (fun k hk => by have := (hown.lt k hk).1; omega)
        obtain ⟨ho4, p4, hp4, hr4⟩ := Drew.then ho hp' hd4
        clear hq hd4 hr ho hown
        by_cases hq0 : ((q : Int) == 0) = true
        · go_wp2_with fail
          refine (l91Data_any g p4 _ hr4 (by omega)).mono ?_
          rintro e w5 ⟨s, hs, rfl, hd5⟩
          have hown5 := hd5.own hown4 (fun k hk => by have := (hown4.lt k hk).1; omega)
          have hd6 := Drew.then ho4 hp4 hd5
          have hsz := hd6.1.size
          clear hd5 ho4 hr4 hown4
          go_wp2_with (at_builtin; go_must (refine wpList_app1 _ rfl _ _ 22 rfl B1 9 i0 (.string (S [])) 16 Try.underlying22 hi hz0 hz1 hz2 rfl _ rfl _ _ _ hown5 rfl rfl (by unfold maxLen; omega) (by omega) ?hb ?_))
          case hb => rw [HB1.out]; exact hsz
          intro v' w' hown' hbl
          have hd7 : Drew w w' g p (3 + 41 * (k + 1)) := (hd6.belowB (by rw [← HB1.out]; exact hgB) (by rw [← HB1.out]; exact hbl)).more (by omega)
          clear hd6 hbl hown5
          have Hd7 := Lib.hid hd7
          clear hd7
          go_wp2
          go_roundg (nn - (k + 1))
          case measure => omega
          case rel =>
            refine ⟨k + 1, by omega, by go_num, ss ++ [s], by simp [hss], ?_, by simpa [strV] using hown', Hd7.out⟩
            intro t ht
            rcases List.mem_append.1 ht with ht | ht
            · exact Hss.out t ht
            · have : t = s := by simpa using ht
              subst this; omega
        · have hq0' : ((q : Int) == 0) = false := by simpa using hq0
          clear hq0
          go_wp2_with fail
          refine (l93Payload_any g p4 _ hr4 (by omega)).mono ?_
          rintro e w5 ⟨s, hs, rfl, hd5⟩
          have hown5 := hd5.own hown4 (fun k hk => by have := (hown4.lt k hk).1; omega)
          have hd6 := Drew.then ho4 hp4 hd5
          have hsz := hd6.1.size
          clear hd5 ho4 hr4 hown4
          go_wp2_with (at_builtin; go_must (refine wpList_app1 _ rfl _ _ 22 rfl B1 9 i0 (.string (S [])) 16 Try.underlying22 hi hz0 hz1 hz2 rfl _ rfl _ _ _ hown5 rfl rfl (by unfold maxLen; omega) (by omega) ?hb ?_))
          case hb => rw [HB1.out]; exact hsz
          intro v' w' hown' hbl
          have hd7 : Drew w w' g p (3 + 41 * (k + 1)) := (hd6.belowB (by rw [← HB1.out]; exact hgB) (by rw [← HB1.out]; exact hbl)).more (by omega)
          clear hd6 hbl hown5
          have Hd7 := Lib.hid hd7
          clear hd7
          go_wp2
          go_roundg (nn - (k + 1))
          case measure => omega
          case rel =>
            refine ⟨k + 1, by omega, by go_num, ss ++ [s], by simp [hss], ?_, by simpa [strV] using hown', Hd7.out⟩
            intro t ht
            rcases List.mem_append.1 ht with ht | ht
            · exact Hss.out t ht
            · have : t = s := by simpa using ht
              subst this; omega
      · go_wp2
        go_ret
        exact ⟨_, ss, by omega, Hss.out, rfl, by rw [hss, ← HB1.out]; exact hown, (Drew.more ⟨ho, p', hp', hr⟩ (by omega))⟩
  · have hy0' : ((y : Int) == 0) = false := by simpa using hy0
    clear hy0
    have hd3' : Drew w w2 g p (0 + 1 + 1) := ⟨ho2, p2, hp2, hr2⟩
    clear ho2 hr2 hp2
    go_wp2_with fail
    obtain ⟨nn, hnn⟩ : ∃ nn : Nat, (nn : Int) = 1 + (x : Int) := ⟨1 + x, by simp⟩
    rw [← hnn]
    have hn5 : nn ≤ 5 := by omega
    have hownl := hown2
    have hdl : Drew w w2 g p 3 := hd3'.more (by omega)
    clear hown2 hd3' hnn
    go_loopg [3, 5] nn (fun m out i wr => ∃ k : Nat, k + m = nn ∧ i = .int .i64 k ∧ ∃ ss : List Bs, ss.length = k ∧ Hid (∀ s ∈ ss, s.length ≤ 20) ∧ wr.ownsRow B1 9 1 out k (strV ss) ∧ Drew w wr g p (3 + 41 * k))
    case atStart => exact ⟨0, by omega, rfl, [], rfl, by simp [Hid], hownl, hdl⟩
    case round =>
      clear hownl hdl
      obtain ⟨k, hk, rfl, ss, hss, Hss, hown, ho, p', hp', hr⟩ := hrel
      by_cases hkn : k < nn
      · go_wp2_with fail
        refine (pick_any g p' 3 _ hr (by omega) (by omega) (by omega)).mono ?_
        rintro e w3 ⟨q, rfl, hq, -, hd4⟩
        have hq3 := hq (by omega)
        have hown4 := hd4.own hown (fun k hk => by have := (hown.lt k hk).1; omega)
        obtain ⟨ho4, p4, hp4, hr4⟩ := Drew.then ho hp' hd4
        clear hq hd4 hr ho hown
        by_cases hq0 : ((q : Int) == 0) = true
        · go_wp2_with fail
          refine (l91Data_any g p4 _ hr4 (by omega)).mono ?_
          rintro e w5 ⟨s, hs, rfl, hd5⟩
          have hown5 := hd5.own hown4 (fun k hk => by have := (hown4.lt k hk).1; omega)
          have hd6 := Drew.then ho4 hp4 hd5
          have hsz := hd6.1.size
          clear hd5 ho4 hr4 hown4
          go_wp2_with (at_builtin; go_must (refine wpList_app1 _ rfl _ _ 22 rfl B1 9 i0 (.string (S [])) 16 Try.underlying22 hi hz0 hz1 hz2 rfl _ rfl _ _ _ hown5 rfl rfl (by unfold maxLen; omega) (by omega) ?hb ?_))
          case hb => rw [HB1.out]; exact hsz
          intro v' w' hown' hbl
          have hd7 : Drew w w' g p (3 + 41 * (k + 1)) := (hd6.belowB (by rw [← HB1.out]; exact hgB) (by rw [← HB1.out]; exact hbl)).more (by omega)
          clear hd6 hbl hown5
          have Hd7 := Lib.hid hd7
          clear hd7
          go_wp2
          go_roundg (nn - (k + 1))
          case measure => omega
          case rel =>
            refine ⟨k + 1, by omega, by go_num, ss ++ [s], by simp [hss], ?_, by simpa [strV] using hown', Hd7.out⟩
            intro t ht
            rcases List.mem_append.1 ht with ht | ht
            · exact Hss.out t ht
            · have : t = s := by simpa using ht
              subst this; omega
        · have hq0' : ((q : Int) == 0) = false := by simpa using hq0
          clear hq0
          go_wp2_with fail
          refine (l93Payload_any g p4 _ hr4 (by omega)).mono ?_
          rintro e w5 ⟨s, hs, rfl, hd5⟩
          have hown5 := hd5.own hown4 (fun k hk => by have := (hown4.lt k hk).1; omega)
          have hd6 := Drew.then ho4 hp4 hd5
          have hsz := hd6.1.size
          clear hd5 ho4 hr4 hown4
          go_wp2_with (at_builtin; go_must (refine wpList_app1 _ rfl _ _ 22 rfl B1 9 i0 (.string (S [])) 16 Try.underlying22 hi hz0 hz1 hz2 rfl _ rfl _ _ _ hown5 rfl rfl (by unfold maxLen; omega) (by omega) ?hb ?_))
          case hb => rw [HB1.out]; exact hsz
          intro v' w' hown' hbl
          have hd7 : Drew w w' g p (3 + 41 * (k + 1)) := (hd6.belowB (by rw [← HB1.out]; exact hgB) (by rw [← HB1.out]; exact hbl)).more (by omega)
          clear hd6 hbl hown5
          have Hd7 := Lib.hid hd7
          clear hd7
          go_wp2
          go_roundg (nn - (k + 1))
          case measure => omega
          case rel =>
            refine ⟨k + 1, by omega, by go_num, ss ++ [s], by simp [hss], ?_, by simpa [strV] using hown', Hd7.out⟩
            intro t ht
            rcases List.mem_append.1 ht with ht | ht
            · exact Hss.out t ht
            · have : t = s := by simpa using ht
              subst this; omega
      · go_wp2
        go_ret
        exact ⟨_, ss, by omega, Hss.out, rfl, by rw [hss, ← HB1.out]; exact hown, (Drew.more ⟨ho, p', hp', hr⟩ (by omega))⟩
end Go.Proofs.Ytjplhmgfhiaenaa
