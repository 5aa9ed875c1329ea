/- WorldNew at a limit that is not allowed; the draw of a limit. No condition. -/
import Derived.Test.YtjpaoadbgmmoeaaWN4
import Derived.Test.YtjpaoadbgmmoeaaRdr
namespace Go.Proofs.Ytjpaoadbgmmoeaa
open Go.RowKit

set_option maxHeartbeats 1000000 in
theorem worldNew_no (limit : Int) (hl : inB limit 0 30 = false) (w : World) :
    Calls Try.prog 6 #[.int .i64 limit] w fun e w' => e = .returned (.tuple #[hd0.agg 0, .bool false]) ∧ Below w.heap.size w w' := by
  go_enter Try.func6, Try.ntmps6
  go_wp2_with fail
  obtain ⟨W1, hW1⟩ : ∃ W1 : World, W1 = w.alloc (.cells #[.int .i64 0, .slice none 0 0, .slice none 0 0, .slice none 0 0, .slice none 0 0, .slice none 0 0, .slice none 0 0, .slice none 0 0, .slice none 0 0, .slice none 0 0] 34) := ⟨_, rfl⟩
  have hb1 : Below w.heap.size w W1 := by rw [hW1]; exact b_alloc _ _
  have at1 : AtP W1 w.heap.size hd0 0 := by rw [hW1]; exact atP_alloc w hd0 0 _
  have y1 : ∀ j, W1.frozen? ⟨w.heap.size, j, none⟩ = false := by rw [hW1]; intro j; simp
  rw [← hW1]
  refine (sendNew_no limit hl _).mono ?_
  rintro e W2 ⟨rfl, hb2⟩
  have hb3 : Below W1.heap.size W1 (W2.alloc (.cells #[.string (S []), .bool false, .int .i64 0, .int .i64 0, .slice none 0 0, .slice none 0 0] 47)) := hb2.trans ((b_alloc W2 _).mono hb2.size)
  have A0 := at1.below hb3
  have hfr : ∀ j, (W2.alloc (.cells #[.string (S []), .bool false, .int .i64 0, .int .i64 0, .slice none 0 0, .slice none 0 0] 47)).frozen? ⟨w.heap.size, j, none⟩ = false := fun j => (hb3.frozen (p := ⟨w.heap.size, j, none⟩) at1.1).trans (y1 j)
  have Hb := Lib.hid ((hb1.trans (hb3.mono hb1.size)).trans (below_on (grownBy_puts w.heap.size (hd0.cells 0) 0 (W2.alloc (.cells #[.string (S []), .bool false, .int .i64 0, .int .i64 0, .slice none 0 0, .slice none 0 0] 47))) (Nat.le_refl _) (Nat.le_trans hb1.size hb3.size)))
  have Az := atP_puts (h' := hd0) (now' := 0) A0
  have r0 := A0.2 0 _ rfl
  have f0 := hfr 0
  have c0 := Az.2 0 _ rfl
  have r1 := A0.2 1 _ rfl
  have f1 := hfr 1
  have c1 := Az.2 1 _ rfl
  have r2 := A0.2 2 _ rfl
  have f2 := hfr 2
  have c2 := Az.2 2 _ rfl
  have r3 := A0.2 3 _ rfl
  have f3 := hfr 3
  have c3 := Az.2 3 _ rfl
  have r4 := A0.2 4 _ rfl
  have f4 := hfr 4
  have c4 := Az.2 4 _ rfl
  have r5 := A0.2 5 _ rfl
  have f5 := hfr 5
  have c5 := Az.2 5 _ rfl
  have r6 := A0.2 6 _ rfl
  have f6 := hfr 6
  have c6 := Az.2 6 _ rfl
  have r7 := A0.2 7 _ rfl
  have f7 := hfr 7
  have c7 := Az.2 7 _ rfl
  have r8 := A0.2 8 _ rfl
  have f8 := hfr 8
  have c8 := Az.2 8 _ rfl
  have r9 := A0.2 9 _ rfl
  have f9 := hfr 9
  have c9 := Az.2 9 _ rfl
  clear A0 Az at1 hb1 hb2 hb3 hfr y1 hW1
  obtain ⟨Wz, hWz⟩ : ∃ Wz : World, Wz = (((((((((((W2.alloc (.cells #[.string (S []), .bool false, .int .i64 0, .int .i64 0, .slice none 0 0, .slice none 0 0] 47)).setCell ⟨w.heap.size, 0, none⟩ (.int .i64 0)).setCell ⟨w.heap.size, 1, none⟩ (.slice none 0 0)).setCell ⟨w.heap.size, 2, none⟩ (.slice none 0 0)).setCell ⟨w.heap.size, 3, none⟩ (.slice none 0 0)).setCell ⟨w.heap.size, 4, none⟩ (.slice none 0 0)).setCell ⟨w.heap.size, 5, none⟩ (.slice none 0 0)).setCell ⟨w.heap.size, 6, none⟩ (.slice none 0 0)).setCell ⟨w.heap.size, 7, none⟩ (.slice none 0 0)).setCell ⟨w.heap.size, 8, none⟩ (.slice none 0 0)).setCell ⟨w.heap.size, 9, none⟩ (.slice none 0 0)) := ⟨_, rfl⟩
  have hWz' : (W2.alloc (.cells #[.string (S []), .bool false, .int .i64 0, .int .i64 0, .slice none 0 0, .slice none 0 0] 47)).setCells w.heap.size 0 (hd0.cells 0) = Wz := by rw [hWz]; rfl
  rw [hWz'] at Hb c0 c1 c2 c3 c4 c5 c6 c7 c8 c9
  go_wp2
  rw [← hWz]
  clear hWz hWz'
  try simp only [Exit.inBlock, Exit.then]
  refine bodyPost_ret (v := .tuple #[hd0.agg 0, .bool false]) (by simp [results, Try.results6, c0, c1, c2, c3, c4, c5, c6, c7, c8, c9, Hd.agg, hd0, go_sem]) rfl ?_
  exact ⟨rfl, Hb.out⟩
set_option maxHeartbeats 1000000 in
theorem sWorldNew_no (limit : Int) (hl : inB limit 0 30 = false) (w : World) :
    Calls Try.prog 7 #[.int .i64 limit] w fun e w' => e = .returned (.tuple #[hd0.agg 0, .bool false]) ∧ Below w.heap.size w w' := by
  go_enter Try.func7, Try.ntmps7
  go_wp2_with fail
  refine (l6In_dec hl).mono ?_
  rintro e w' ⟨rfl, rfl⟩
  go_wp2
  go_returns
  refine ⟨rfl, ?_⟩
  repeat first | exact Below.refl _ _ | refine Below.setCell ?_ (by simp <;> omega) _ | refine Below.alloc ?_ (by simp <;> omega) _
theorem lit4 (W : World) (x : Nat) (hx : x < 4) : ∃ z : Int, (-1 ≤ z ∧ z ≤ 31) ∧ (W.alloc (.cells #[.int .i64 (-1), .int .i64 0, .int .i64 30, .int .i64 31] 3)).cell? ⟨W.heap.size, x, none⟩ = some (.int .i64 z) := by
  match x, hx with
  | 0, _ => exact ⟨-1, by omega, by simp⟩
  | 1, _ => exact ⟨0, by omega, by simp⟩
  | 2, _ => exact ⟨30, by omega, by simp⟩
  | 3, _ => exact ⟨31, by omega, by simp⟩
set_option maxHeartbeats 1000000 in
theorem l92Limit_any (g p : Nat) (w : World) (h : Rdr w g p) (hp : p ≤ 900000) :
    Calls Try.prog 13 #[.pointer (some ⟨g, 0, none⟩)] w fun e w' => ∃ x : Int, e = .returned (.int .i64 x) ∧ (-1 ≤ x ∧ x ≤ 31) ∧ Drew w w' g p 2 := by
  go_enter Try.func13, Try.ntmps13
  go_wp2_with fail
  refine (pick_any g p 8 _ h (by omega) (by omega) (by omega)).mono ?_
  rintro e w1 ⟨v, rfl, hv, -, ho1, p1, hp1, hr1⟩
  by_cases h0 : v = 0
  · subst h0
    clear hv
    have hr2 : Rdr (w1.alloc (.cells #[.int .i64 (-1), .int .i64 0, .int .i64 30, .int .i64 31] 3)) g p1 := hr1.keep ((Below.refl _ _).alloc hr1.lt _)
    have ho2 : w.grownBy (w1.alloc (.cells #[.int .i64 (-1), .int .i64 0, .int .i64 30, .int .i64 31] 3)) (some g) := only_alloc ho1 _
    go_wp2_with fail
    refine (pick_any g p1 4 _ hr2 (by omega) (by omega) (by omega)).mono ?_
    rintro e w2 ⟨x, rfl, hx, -, ho3, p3, hp3, hr3⟩
    have hx4 : x < 4 := by have := hx (by omega); omega
    obtain ⟨z, hz, hcz⟩ := lit4 w1 x hx4
    have hcz2 := (World.cell?_of_block (ho3.block w1.heap.size (by simp) (by have := hr1.lt; intro e; injection e with e; omega))).trans hcz
    have Hf := Lib.hid (show Drew w w2 g p 2 from ⟨only_trans ho2 ho3, p3, by omega, hr3⟩)
    have hx5 : (x : Int) < 4 := by omega
    clear ho2 ho3 hr3 hcz hx hr2 hr1 ho1 hx4 hp3 hp1
    go_wp2
    go_ret
    exact ⟨z, rfl, hz, Hf.out⟩
  · have hv0 : (v : Int) ≠ 0 := by omega
    clear hv
    go_wp2_with fail
    refine (pick_any g p1 31 _ hr1 (by omega) (by omega) (by omega)).mono ?_
    rintro e w2 ⟨x, rfl, hx, -, ho2, p2, hp2, hr2⟩
    have hx2 := hx (by omega)
    go_wp2
    go_ret
    exact ⟨x, rfl, by omega, only_trans ho1 ho2, p2, by omega, hr2⟩
theorem drawWorldNew_any (A : Option Addr) (n c : Nat) (bs : List UInt8) (w : World) (B : Nat) (h : Byts w B A n c bs) (hB : B ≤ w.heap.size) :
    Calls Try.prog 5 #[.slice A n c] w fun e w' => ∃ x : Int, e = .returned (.int .i64 x) ∧ (-1 ≤ x ∧ x ≤ 31) ∧ Below w.heap.size w w' := by
  have H := Lib.hid (l6Open_any A n c bs w B h hB)
  clear h
  go_enter Try.func5, Try.ntmps5
  go_wp2_with fail
  refine H.out.mono ?_
  rintro e w1 ⟨g, rfl, hg, hb1, hr⟩
  go_wp2_with fail
  refine (l92Limit_any g 0 w1 hr (by omega)).mono ?_
  rintro e w2 ⟨x, rfl, hx, ho, p2, hp2, hr2⟩
  have Hb := Lib.hid (hb1.trans (below_of_only ho hg hb1.size))
  clear hb1 ho hr hr2 H
  go_wp2
  go_ret
  exact ⟨x, rfl, hx, Hb.out⟩
end Go.Proofs.Ytjpaoadbgmmoeaa
