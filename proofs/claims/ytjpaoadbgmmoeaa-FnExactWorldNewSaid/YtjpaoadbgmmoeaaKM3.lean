/- markWorld and heldWorld on a new run. Condition: it is one (arrays of its own, inner rows empty). -/
import Derived.Test.YtjpaoadbgmmoeaaKM2
import Derived.Test.YtjpaoadbgmmoeaaWN3
namespace Go.Proofs.Ytjpaoadbgmmoeaa
open Go.RowKit

/-- The heads of a new run. -/
def hdG (g1 g2 g3 g4 g5 g6 g7 : Nat) (A8 A9 : Option Addr) (c1 c2 c3 c4 c5 c6 c7 c8 c9 : Nat) : Hd := ⟨some ⟨g1, 0, none⟩, some ⟨g2, 0, none⟩, some ⟨g3, 0, none⟩, some ⟨g4, 0, none⟩, some ⟨g5, 0, none⟩, some ⟨g6, 0, none⟩, some ⟨g7, 0, none⟩, A8, A9, 3, 3, 3, 4, 4, 4, 4, 0, 0, c1, c2, c3, c4, c5, c6, c7, c8, c9⟩
structure Rows7 (w : World) (g1 g2 g3 g4 g5 g6 g7 : Nat) (d : Nat → Nat) : Prop where
  r1 : Row w g1 6 3 (d 1) (fun i : Nat => mkSd (1 + 4 * (i : Int))) [4, 5]
  r2 : Row w g2 4 3 (d 2) (fun i : Nat => mkRv (13 + 3 * (i : Int))) [1]
  r3 : Row w g3 1 3 (d 3) (fun i : Nat => mkBs (22 + 1 * (i : Int))) []
  r4 : Row w g4 3 4 (d 4) (fun i : Nat => mkLs (25 + 2 * (i : Int))) [1]
  r5 : Row w g5 4 4 (d 5) (fun i : Nat => mkRt (33 + 4 * (i : Int))) []
  r6 : Row w g6 4 4 (d 6) (fun i : Nat => mkWn (49 + 4 * (i : Int))) []
  r7 : Row w g7 1 4 (d 7) (fun i : Nat => mkSn (65 + 0 * (i : Int))) [0]
def Apart7 (g1 g2 g3 g4 g5 g6 g7 : Nat) : Prop := g1 ≠ g2 ∧ g1 ≠ g3 ∧ g1 ≠ g4 ∧ g1 ≠ g5 ∧ g1 ≠ g6 ∧ g1 ≠ g7 ∧ g2 ≠ g3 ∧ g2 ≠ g4 ∧ g2 ≠ g5 ∧ g2 ≠ g6 ∧ g2 ≠ g7 ∧ g3 ≠ g4 ∧ g3 ≠ g5 ∧ g3 ≠ g6 ∧ g3 ≠ g7 ∧ g4 ≠ g5 ∧ g4 ≠ g6 ∧ g4 ≠ g7 ∧ g5 ≠ g6 ∧ g5 ≠ g7 ∧ g6 ≠ g7
def d0 : Nat → Nat := fun _ => 0
def d1 : Nat → Nat := fun i => if i ≤ 3 then 3 else 4
theorem Rows7.below {w w' : World} {g1 g2 g3 g4 g5 g6 g7 : Nat} {d : Nat → Nat} (x : Rows7 w g1 g2 g3 g4 g5 g6 g7 d) (hb : Below w.heap.size w w') : Rows7 w' g1 g2 g3 g4 g5 g6 g7 d :=
  ⟨x.r1.below hb, x.r2.below hb, x.r3.below hb, x.r4.below hb, x.r5.below hb, x.r6.below hb, x.r7.below hb⟩
/-- Only blocks of G changed. -/
structure Only (G : Nat → Prop) (w w' : World) : Prop where
  os : w'.os = w.os
  tape : w'.tape = w.tape
  output : w'.output = w.output
  size : w.heap.size ≤ w'.heap.size
  block : ∀ b, b < w.heap.size → ¬ G b → w'.heap[b]? = w.heap[b]?
theorem Only.trans {G : Nat → Prop} {a b c : World} (h : Only G a b) (k : Only G b c) : Only G a c := ⟨k.os.trans h.os, k.tape.trans h.tape, k.output.trans h.output, Nat.le_trans h.size k.size, fun i hi hn => (k.block i (Nat.lt_of_lt_of_le hi h.size) hn).trans (h.block i hi hn)⟩
theorem Only.of {G : Nat → Prop} {a b : World} {g : Nat} (h : a.grownBy b (some g)) (hg : G g) : Only G a b := ⟨h.os, h.tape, h.output, h.size, fun i hi hn => h.block i hi (fun e => hn (by injection e with e; rw [e]; exact hg))⟩
theorem Only.ofB {G : Nat → Prop} {a b : World} (h : Below a.heap.size a b) : Only G a b := ⟨h.os, h.tape, h.output, h.size, fun i hi _ => h.block i hi⟩
theorem Only.below {G : Nat → Prop} {a b : World} {B : Nat} (h : Only G a b) (hG : ∀ g, G g → B ≤ g) (hs : B ≤ a.heap.size) : Below B a b := ⟨h.os, h.tape, h.output, h.size, fun i hi => h.block i (by omega) (fun hg => by have := hG i hg; omega)⟩
theorem AtP.only {w w' : World} {bw : Nat} {h : Hd} {now : Int} {G : Nat → Prop} (x : AtP w bw h now) (hb : Only G w w') (hn : ¬ G bw) : AtP w' bw h now :=
  ⟨Nat.lt_of_lt_of_le x.1 hb.size, fun j v hv => (World.cell?_of_block (hb.block bw x.1 hn)).trans (x.2 j v hv)⟩

def InG (g1 g2 g3 g4 g5 g6 g7 : Nat) : Nat → Prop := fun b => b = g1 ∨ b = g2 ∨ b = g3 ∨ b = g4 ∨ b = g5 ∨ b = g6 ∨ b = g7
set_option maxRecDepth 10000 in
set_option maxHeartbeats 2000000 in
theorem markWorld_new (g1 g2 g3 g4 g5 g6 g7 : Nat) (A8 A9 : Option Addr) (c1 c2 c3 c4 c5 c6 c7 c8 c9 : Nat) (w : World) (x : Rows7 w g1 g2 g3 g4 g5 g6 g7 d0) (ha : Apart7 g1 g2 g3 g4 g5 g6 g7) :
    Calls Try.prog 11 #[(hdG g1 g2 g3 g4 g5 g6 g7 A8 A9 c1 c2 c3 c4 c5 c6 c7 c8 c9).agg 0, .int .i64 1] w fun e w' => e = .returned (.int .i64 65) ∧ Only (InG g1 g2 g3 g4 g5 g6 g7) w w' ∧ Rows7 w' g1 g2 g3 g4 g5 g6 g7 d1 := by
  obtain ⟨n12, n13, n14, n15, n16, n17, n23, n24, n25, n26, n27, n34, n35, n36, n37, n45, n46, n47, n56, n57, n67⟩ := ha
  have x1 := x.r1
  have x2 := x.r2
  have x3 := x.r3
  have x4 := x.r4
  have x5 := x.r5
  have x6 := x.r6
  have x7 := x.r7
  unfold Hd.agg hdG
  obtain ⟨V, hV⟩ : ∃ V : World, V = w.alloc (.cells #[.int .i64 0, .slice (some ⟨g1, 0, none⟩) 3 c1, .slice (some ⟨g2, 0, none⟩) 3 c2, .slice (some ⟨g3, 0, none⟩) 3 c3, .slice (some ⟨g4, 0, none⟩) 4 c4, .slice (some ⟨g5, 0, none⟩) 4 c5, .slice (some ⟨g6, 0, none⟩) 4 c6, .slice (some ⟨g7, 0, none⟩) 4 c7, .slice A8 0 c8, .slice A9 0 c9] 34) := ⟨_, rfl⟩
  have hbV : Below w.heap.size w V := by rw [hV]; exact b_alloc _ _
  have a0 : AtP V w.heap.size (hdG g1 g2 g3 g4 g5 g6 g7 A8 A9 c1 c2 c3 c4 c5 c6 c7 c8 c9) 0 := by rw [hV]; exact atP_alloc w (hdG g1 g2 g3 g4 g5 g6 g7 A8 A9 c1 c2 c3 c4 c5 c6 c7 c8 c9) 0 _
  have b1 := x1.blk
  have y1 := x1.below hbV
  have b2 := x2.blk
  have y2 := x2.below hbV
  have b3 := x3.blk
  have y3 := x3.below hbV
  have b4 := x4.blk
  have y4 := x4.below hbV
  have b5 := x5.blk
  have y5 := x5.below hbV
  have b6 := x6.blk
  have y6 := x6.below hbV
  have b7 := x7.blk
  have y7 := x7.below hbV
  have hn0 : ¬ InG g1 g2 g3 g4 g5 g6 g7 w.heap.size := by unfold InG; omega
  have q0 : Only (InG g1 g2 g3 g4 g5 g6 g7) w V := Only.ofB hbV
  clear x x1 x2 x3 x4 x5 x6 x7
  have u1 := a0.2 1 _ rfl
  go_enter Try.func11, Try.ntmps11
  iterate 5 go_step
  rw [← hV]
  clear hV hbV
  go_wp2_with fail
  refine (markSendS_n g1 3 c1 1 _ y1 (by omega) (by omega) (by omega)).mono ?_
  rintro e v1 ⟨rfl, hg, z1⟩
  have o1 := Only.of (G := InG g1 g2 g3 g4 g5 g6 g7) hg (by unfold InG; omega)
  have q1 := q0.trans o1
  have a1 := a0.only o1 hn0
  replace y2 := y2.on hg n12.symm
  replace y3 := y3.on hg n13.symm
  replace y4 := y4.on hg n14.symm
  replace y5 := y5.on hg n15.symm
  replace y6 := y6.on hg n16.symm
  replace y7 := y7.on hg n17.symm
  have u2 := a1.2 2 _ rfl
  clear hg y1 o1 q0 a0 u1
  go_wp2_with fail
  refine (markRecvS_n g2 3 c2 13 _ y2 (by omega) (by omega) (by omega)).mono ?_
  rintro e v2 ⟨rfl, hg, z2⟩
  have o2 := Only.of (G := InG g1 g2 g3 g4 g5 g6 g7) hg (by unfold InG; omega)
  have q2 := q1.trans o2
  have a2 := a1.only o2 hn0
  replace z1 := z1.on hg n12
  replace y3 := y3.on hg n23.symm
  replace y4 := y4.on hg n24.symm
  replace y5 := y5.on hg n25.symm
  replace y6 := y6.on hg n26.symm
  replace y7 := y7.on hg n27.symm
  have u3 := a2.2 3 _ rfl
  clear hg y2 o2 q1 a1 u2
  go_wp2_with fail
  refine (markStringS_n g3 3 c3 22 _ y3 (by omega) (by omega) (by omega)).mono ?_
  rintro e v3 ⟨rfl, hg, z3⟩
  have o3 := Only.of (G := InG g1 g2 g3 g4 g5 g6 g7) hg (by unfold InG; omega)
  have q3 := q2.trans o3
  have a3 := a2.only o3 hn0
  replace z1 := z1.on hg n13
  replace z2 := z2.on hg n23
  replace y4 := y4.on hg n34.symm
  replace y5 := y5.on hg n35.symm
  replace y6 := y6.on hg n36.symm
  replace y7 := y7.on hg n37.symm
  have u4 := a3.2 4 _ rfl
  clear hg y3 o3 q2 a2 u3
  go_wp2_with fail
  refine (markLossS_n g4 4 c4 25 _ y4 (by omega) (by omega) (by omega)).mono ?_
  rintro e v4 ⟨rfl, hg, z4⟩
  have o4 := Only.of (G := InG g1 g2 g3 g4 g5 g6 g7) hg (by unfold InG; omega)
  have q4 := q3.trans o4
  have a4 := a3.only o4 hn0
  replace z1 := z1.on hg n14
  replace z2 := z2.on hg n24
  replace z3 := z3.on hg n34
  replace y5 := y5.on hg n45.symm
  replace y6 := y6.on hg n46.symm
  replace y7 := y7.on hg n47.symm
  have u5 := a4.2 5 _ rfl
  clear hg y4 o4 q3 a3 u4
  go_wp2_with fail
  refine (markRttS_n g5 4 c5 33 _ y5 (by omega) (by omega) (by omega)).mono ?_
  rintro e v5 ⟨rfl, hg, z5⟩
  have o5 := Only.of (G := InG g1 g2 g3 g4 g5 g6 g7) hg (by unfold InG; omega)
  have q5 := q4.trans o5
  have a5 := a4.only o5 hn0
  replace z1 := z1.on hg n15
  replace z2 := z2.on hg n25
  replace z3 := z3.on hg n35
  replace z4 := z4.on hg n45
  replace y6 := y6.on hg n56.symm
  replace y7 := y7.on hg n57.symm
  have u6 := a5.2 6 _ rfl
  clear hg y5 o5 q4 a4 u5
  go_wp2_with fail
  refine (markWindowS_n g6 4 c6 49 _ y6 (by omega) (by omega) (by omega)).mono ?_
  rintro e v6 ⟨rfl, hg, z6⟩
  have o6 := Only.of (G := InG g1 g2 g3 g4 g5 g6 g7) hg (by unfold InG; omega)
  have q6 := q5.trans o6
  have a6 := a5.only o6 hn0
  replace z1 := z1.on hg n16
  replace z2 := z2.on hg n26
  replace z3 := z3.on hg n36
  replace z4 := z4.on hg n46
  replace z5 := z5.on hg n56
  replace y7 := y7.on hg n67.symm
  have u7 := a6.2 7 _ rfl
  clear hg y6 o6 q5 a5 u6
  go_wp2_with fail
  refine (markRangeSS_n g7 4 c7 65 _ y7 (by omega) (by omega) (by omega)).mono ?_
  rintro e v7 ⟨rfl, hg, z7⟩
  have o7 := Only.of (G := InG g1 g2 g3 g4 g5 g6 g7) hg (by unfold InG; omega)
  have q7 := q6.trans o7
  have a7 := a6.only o7 hn0
  replace z1 := z1.on hg n17
  replace z2 := z2.on hg n27
  replace z3 := z3.on hg n37
  replace z4 := z4.on hg n47
  replace z5 := z5.on hg n57
  replace z6 := z6.on hg n67
  have u8 := a7.2 8 _ rfl
  clear hg y7 o7 q6 a6 u7
  go_wp2_with fail
  refine (markCarriedS_0 _ _ _ _).mono ?_
  rintro e w' ⟨rfl, rfl⟩
  have u9 := a7.2 9 _ rfl
  go_wp2_with fail
  refine (markWireS_0 _ _ _ _).mono ?_
  rintro e w' ⟨rfl, rfl⟩
  go_wp2
  go_ret
  exact ⟨rfl, q7, z1, z2, z3, z4, z5, z6, z7⟩
set_option maxRecDepth 10000 in
set_option maxHeartbeats 2000000 in
theorem heldWorld_new (g1 g2 g3 g4 g5 g6 g7 : Nat) (A8 A9 : Option Addr) (c1 c2 c3 c4 c5 c6 c7 c8 c9 : Nat) (w : World) (x : Rows7 w g1 g2 g3 g4 g5 g6 g7 d1) :
    Calls Try.prog 12 #[(hdG g1 g2 g3 g4 g5 g6 g7 A8 A9 c1 c2 c3 c4 c5 c6 c7 c8 c9).agg 0, .int .i64 1] w fun e w' => e = .returned (.int .i64 65) ∧ Below w.heap.size w w' := by
  unfold Hd.agg hdG
  obtain ⟨V, hV⟩ : ∃ V : World, V = w.alloc (.cells #[.int .i64 0, .slice (some ⟨g1, 0, none⟩) 3 c1, .slice (some ⟨g2, 0, none⟩) 3 c2, .slice (some ⟨g3, 0, none⟩) 3 c3, .slice (some ⟨g4, 0, none⟩) 4 c4, .slice (some ⟨g5, 0, none⟩) 4 c5, .slice (some ⟨g6, 0, none⟩) 4 c6, .slice (some ⟨g7, 0, none⟩) 4 c7, .slice A8 0 c8, .slice A9 0 c9] 34) := ⟨_, rfl⟩
  have q0 : Below w.heap.size w V := by rw [hV]; exact b_alloc _ _
  have a0 : AtP V w.heap.size (hdG g1 g2 g3 g4 g5 g6 g7 A8 A9 c1 c2 c3 c4 c5 c6 c7 c8 c9) 0 := by rw [hV]; exact atP_alloc w (hdG g1 g2 g3 g4 g5 g6 g7 A8 A9 c1 c2 c3 c4 c5 c6 c7 c8 c9) 0 _
  have y0 := x.below q0
  clear x
  have u1 := a0.2 1 _ rfl
  go_enter Try.func12, Try.ntmps12
  iterate 5 go_step
  rw [← hV]
  clear hV
  go_wp2_with fail
  refine (heldSendS_n g1 3 c1 1 _ y0.r1 (by omega) (by omega) (by omega)).mono ?_
  rintro e v1 ⟨rfl, hb⟩
  have q1 := q0.trans (hb.mono q0.size)
  have a1 := a0.below hb
  have y1 := y0.below hb
  have u2 := a1.2 2 _ rfl
  clear hb y0 q0 a0 u1
  go_wp2_with fail
  refine (heldRecvS_n g2 3 c2 13 _ y1.r2 (by omega) (by omega) (by omega)).mono ?_
  rintro e v2 ⟨rfl, hb⟩
  have q2 := q1.trans (hb.mono q1.size)
  have a2 := a1.below hb
  have y2 := y1.below hb
  have u3 := a2.2 3 _ rfl
  clear hb y1 q1 a1 u2
  go_wp2_with fail
  refine (heldStringS_n g3 3 c3 22 _ y2.r3 (by omega) (by omega) (by omega)).mono ?_
  rintro e v3 ⟨rfl, hb⟩
  have q3 := q2.trans (hb.mono q2.size)
  have a3 := a2.below hb
  have y3 := y2.below hb
  have u4 := a3.2 4 _ rfl
  clear hb y2 q2 a2 u3
  go_wp2_with fail
  refine (heldLossS_n g4 4 c4 25 _ y3.r4 (by omega) (by omega) (by omega)).mono ?_
  rintro e v4 ⟨rfl, hb⟩
  have q4 := q3.trans (hb.mono q3.size)
  have a4 := a3.below hb
  have y4 := y3.below hb
  have u5 := a4.2 5 _ rfl
  clear hb y3 q3 a3 u4
  go_wp2_with fail
  refine (heldRttS_n g5 4 c5 33 _ y4.r5 (by omega) (by omega) (by omega)).mono ?_
  rintro e v5 ⟨rfl, hb⟩
  have q5 := q4.trans (hb.mono q4.size)
  have a5 := a4.below hb
  have y5 := y4.below hb
  have u6 := a5.2 6 _ rfl
  clear hb y4 q4 a4 u5
  go_wp2_with fail
  refine (heldWindowS_n g6 4 c6 49 _ y5.r6 (by omega) (by omega) (by omega)).mono ?_
  rintro e v6 ⟨rfl, hb⟩
  have q6 := q5.trans (hb.mono q5.size)
  have a6 := a5.below hb
  have y6 := y5.below hb
  have u7 := a6.2 7 _ rfl
  clear hb y5 q5 a5 u6
  go_wp2_with fail
  refine (heldRangeSS_n g7 4 c7 65 _ y6.r7 (by omega) (by omega) (by omega)).mono ?_
  rintro e v7 ⟨rfl, hb⟩
  have q7 := q6.trans (hb.mono q6.size)
  have a7 := a6.below hb
  have y7 := y6.below hb
  have u8 := a7.2 8 _ rfl
  clear hb y6 q6 a6 u7
  go_wp2_with fail
  refine (heldCarriedS_0 _ _ _ _).mono ?_
  rintro e w' ⟨rfl, rfl⟩
  have u9 := a7.2 9 _ rfl
  go_wp2_with fail
  refine (heldWireS_0 _ _ _ _).mono ?_
  rintro e w' ⟨rfl, rfl⟩
  go_wp2
  go_ret
  exact ⟨rfl, q7⟩
set_option maxRecDepth 10000 in
set_option maxHeartbeats 2000000 in
theorem markWorld_0 (w : World) :
    Calls Try.prog 11 #[hd0.agg 0, .int .i64 1] w fun e w' => e = .returned (.int .i64 1) ∧ Below w.heap.size w w' := by
  unfold Hd.agg hd0
  go_enter Try.func11, Try.ntmps11
  go_wp2_with fail
  refine (markSendS_0 _ _ _ _).mono ?_
  rintro e w' ⟨rfl, rfl⟩
  go_wp2_with fail
  refine (markRecvS_0 _ _ _ _).mono ?_
  rintro e w' ⟨rfl, rfl⟩
  go_wp2_with fail
  refine (markStringS_0 _ _ _ _).mono ?_
  rintro e w' ⟨rfl, rfl⟩
  go_wp2_with fail
  refine (markLossS_0 _ _ _ _).mono ?_
  rintro e w' ⟨rfl, rfl⟩
  go_wp2_with fail
  refine (markRttS_0 _ _ _ _).mono ?_
  rintro e w' ⟨rfl, rfl⟩
  go_wp2_with fail
  refine (markWindowS_0 _ _ _ _).mono ?_
  rintro e w' ⟨rfl, rfl⟩
  go_wp2_with fail
  refine (markRangeSS_0 _ _ _ _).mono ?_
  rintro e w' ⟨rfl, rfl⟩
  go_wp2_with fail
  refine (markCarriedS_0 _ _ _ _).mono ?_
  rintro e w' ⟨rfl, rfl⟩
  go_wp2_with fail
  refine (markWireS_0 _ _ _ _).mono ?_
  rintro e w' ⟨rfl, rfl⟩
  go_wp2
  go_ret
  exact ⟨rfl, b_alloc _ _⟩
set_option maxRecDepth 10000 in
set_option maxHeartbeats 2000000 in
theorem heldWorld_0 (w : World) :
    Calls Try.prog 12 #[hd0.agg 0, .int .i64 1] w fun e w' => e = .returned (.int .i64 1) ∧ Below w.heap.size w w' := by
  unfold Hd.agg hd0
  go_enter Try.func12, Try.ntmps12
  go_wp2_with fail
  refine (heldSendS_0 _ _ _ _).mono ?_
  rintro e w' ⟨rfl, rfl⟩
  go_wp2_with fail
  refine (heldRecvS_0 _ _ _ _).mono ?_
  rintro e w' ⟨rfl, rfl⟩
  go_wp2_with fail
  refine (heldStringS_0 _ _ _ _).mono ?_
  rintro e w' ⟨rfl, rfl⟩
  go_wp2_with fail
  refine (heldLossS_0 _ _ _ _).mono ?_
  rintro e w' ⟨rfl, rfl⟩
  go_wp2_with fail
  refine (heldRttS_0 _ _ _ _).mono ?_
  rintro e w' ⟨rfl, rfl⟩
  go_wp2_with fail
  refine (heldWindowS_0 _ _ _ _).mono ?_
  rintro e w' ⟨rfl, rfl⟩
  go_wp2_with fail
  refine (heldRangeSS_0 _ _ _ _).mono ?_
  rintro e w' ⟨rfl, rfl⟩
  go_wp2_with fail
  refine (heldCarriedS_0 _ _ _ _).mono ?_
  rintro e w' ⟨rfl, rfl⟩
  go_wp2_with fail
  refine (heldWireS_0 _ _ _ _).mono ?_
  rintro e w' ⟨rfl, rfl⟩
  go_wp2
  go_ret
  exact ⟨rfl, b_alloc _ _⟩
theorem row_of_out {α : Type} {R : World → (Nat → Prop) → List Value → α → Prop} {size t base i n c : Nat} {ro : Nat → Nat} {w : World} {A : Option Addr} {l : List α} (h : OutS R size t w base ro i A n c l) (hn : 0 < n) (mk : Nat → List (Nat × Value)) (zs : List Nat)
    (hz : ∀ cs x, R w (Inn ro w) cs x → x ∈ l → ∀ j ∈ zs, ∃ A c, cs[j]? = some (.slice A 0 c)) : ∃ g, A = some ⟨g, 0, none⟩ ∧ base ≤ g ∧ ro g = i ∧ Row w g size n 0 mk zs := by
  obtain ⟨g, cs0, x0, rfl, hb, hg, hr, -, -, -, -, hf⟩ := h.at_ hn
  refine ⟨g, rfl, hb, hr, hg, fun i hi => by omega, fun k hk j hj => ?_, fun k hk j hj => ?_, hf⟩
  · obtain ⟨g', cs, x, e, -, -, -, -, hl, -, hc, -⟩ := h.at_ hk
    obtain rfl : g = g' := by injection e with e; injection e
    rw [hc j _ (List.getElem?_eq_getElem (by omega))]; rfl
  · obtain ⟨g', cs, x, e, -, -, -, hx, -, hR, hc, -⟩ := h.at_ hk
    obtain rfl : g = g' := by injection e with e; injection e
    obtain ⟨A, c, hj'⟩ := hz cs x hR (List.mem_of_getElem? hx) j hj
    exact ⟨A, c, hc j _ hj'⟩
theorem SliceR.empty_len {α : Type} {R : World → (Nat → Prop) → List Value → α → Prop} {size : Nat} {w : World} {ok : Nat → Prop} {A : Option Addr} {n c : Nat} (h : SliceR R size w ok A n c []) : n = 0 := h.len.symm
set_option maxHeartbeats 1000000 in
theorem own_new {w : World} {base : Nat} {ro : Nat → Nat} {h : Hd} {limit : Int} (x : OwnH w base ro h (wdNew limit)) :
    ∃ g1 g2 g3 g4 g5 g6 g7 A8 A9 c1 c2 c3 c4 c5 c6 c7 c8 c9, h = hdG g1 g2 g3 g4 g5 g6 g7 A8 A9 c1 c2 c3 c4 c5 c6 c7 c8 c9 ∧ (∀ b, InG g1 g2 g3 g4 g5 g6 g7 b → base ≤ b ∧ b < w.heap.size) ∧ Apart7 g1 g2 g3 g4 g5 g6 g7 ∧ Rows7 w g1 g2 g3 g4 g5 g6 g7 d0 := by
  have l1 : h.n1 = 3 := by rw [← x.sends.len]; rfl
  have l2 : h.n2 = 3 := by rw [← x.recvs.len]; rfl
  have l3 : h.n3 = 3 := by rw [← x.got.len]; rfl
  have l4 : h.n4 = 4 := by rw [← x.paths.len]; rfl
  have l5 : h.n5 = 4 := by rw [← x.rtts.len]; rfl
  have l6 : h.n6 = 4 := by rw [← x.windows.len]; rfl
  have l7 : h.n7 = 4 := by rw [← x.seen.len]; rfl
  have l8 : h.n8 = 0 := by rw [← x.carried.len]; rfl
  have l9 : h.n9 = 0 := by rw [← x.net.len]; rfl
  obtain ⟨g1, e1, b1, r1, w1⟩ := row_of_out x.sends (by omega) (fun i : Nat => mkSd (1 + 4 * (i : Int))) [4, 5] (fun cs y ⟨A, n, c, A', n', c', e, _, _, _, h1, h2⟩ hm j hj => by
      obtain ⟨_, rfl⟩ := List.mem_replicate.1 hm
      obtain rfl := SliceR.empty_len h1
      obtain rfl := SliceR.empty_len h2
      subst e
      simp at hj
      rcases hj with rfl | rfl
      · exact ⟨A, c, rfl⟩
      · exact ⟨A', c', rfl⟩)
  rw [l1] at w1
  obtain ⟨g2, e2, b2, r2, w2⟩ := row_of_out x.recvs (by omega) (fun i : Nat => mkRv (13 + 3 * (i : Int))) [1] (fun cs y ⟨A, n, c, e, _, _, _, h1⟩ hm j hj => by
      obtain ⟨_, rfl⟩ := List.mem_replicate.1 hm
      obtain rfl := SliceR.empty_len h1
      subst e
      simp at hj
      subst hj
      exact ⟨A, c, rfl⟩)
  rw [l2] at w2
  obtain ⟨g3, e3, b3, r3, w3⟩ := row_of_out x.got (by omega) (fun i : Nat => mkBs (22 + 1 * (i : Int))) [] (fun cs y _ _ j hj => by simp at hj)
  rw [l3] at w3
  obtain ⟨g4, e4, b4, r4, w4⟩ := row_of_out x.paths (by omega) (fun i : Nat => mkLs (25 + 2 * (i : Int))) [1] (fun cs y ⟨A, n, c, e, _, _, h1⟩ hm j hj => by
      obtain ⟨_, rfl⟩ := List.mem_replicate.1 hm
      obtain rfl := SliceR.empty_len h1
      subst e
      simp at hj
      subst hj
      exact ⟨A, c, rfl⟩)
  rw [l4] at w4
  obtain ⟨g5, e5, b5, r5, w5⟩ := row_of_out x.rtts (by omega) (fun i : Nat => mkRt (33 + 4 * (i : Int))) [] (fun cs y _ _ j hj => by simp at hj)
  rw [l5] at w5
  obtain ⟨g6, e6, b6, r6, w6⟩ := row_of_out x.windows (by omega) (fun i : Nat => mkWn (49 + 4 * (i : Int))) [] (fun cs y _ _ j hj => by simp at hj)
  rw [l6] at w6
  obtain ⟨g7, e7, b7, r7, w7⟩ := row_of_out x.seen (by omega) (fun i : Nat => mkSn (65 + 0 * (i : Int))) [0] (fun cs y ⟨A, n, c, e, h1⟩ hm j hj => by
      obtain ⟨_, rfl⟩ := List.mem_replicate.1 hm
      obtain rfl := SliceR.empty_len h1
      subst e
      simp at hj
      subst hj
      exact ⟨A, c, rfl⟩)
  rw [l7] at w7
  clear x
  obtain ⟨A1, A2, A3, A4, A5, A6, A7, A8, A9, m1, m2, m3, m4, m5, m6, m7, m8, m9, c1, c2, c3, c4, c5, c6, c7, c8, c9⟩ := h
  simp only at l1 l2 l3 l4 l5 l6 l7 l8 l9 e1 e2 e3 e4 e5 e6 e7
  subst l1 l2 l3 l4 l5 l6 l7 l8 l9 e1 e2 e3 e4 e5 e6 e7
  refine ⟨g1, g2, g3, g4, g5, g6, g7, A8, A9, c1, c2, c3, c4, c5, c6, c7, c8, c9, rfl, fun b hb => ?_, ?_, w1, w2, w3, w4, w5, w6, w7⟩
  · rcases hb with rfl | rfl | rfl | rfl | rfl | rfl | rfl
    · exact ⟨b1, w1.blk⟩
    · exact ⟨b2, w2.blk⟩
    · exact ⟨b3, w3.blk⟩
    · exact ⟨b4, w4.blk⟩
    · exact ⟨b5, w5.blk⟩
    · exact ⟨b6, w6.blk⟩
    · exact ⟨b7, w7.blk⟩
  · refine ⟨?_, ?_, ?_, ?_, ?_, ?_, ?_, ?_, ?_, ?_, ?_, ?_, ?_, ?_, ?_, ?_, ?_, ?_, ?_, ?_, ?_⟩ <;> (intro e; subst e; omega)
end Go.Proofs.Ytjpaoadbgmmoeaa
