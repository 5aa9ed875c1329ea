/- What the making of a run keeps: its block, its arrays, what lay there before. No condition. -/
import Derived.Test.YtjpaoadbgmmoeaaWN
import Derived.Test.YtjpaoadbgmmoeaaMix
namespace Go.Proofs.Ytjpaoadbgmmoeaa
open Go.RowKit

/-- A run in the making: 'bw' its block, W0 the world in which its block had been made. -/
structure NewInv (W0 : World) (ro0 : Nat → Nat) (base bw : Nat) (h : Hd) (ro : Nat → Nat) (W : Wd) (wr : World) : Prop where
  keep : W0.grownBy wr (some bw)
  bwl : bw < W0.heap.size
  bas : base ≤ W0.heap.size
  old : ∀ b, b < W0.heap.size → ro b = ro0 b ∧ 8 ≤ ro0 b
  rbw : ro0 bw = 10
  at_ : AtP wr bw h 0
  frz : ∀ j, wr.frozen? ⟨bw, j, none⟩ = false
  own : OwnH wr base ro h W
theorem NewInv.below {W0 : World} {ro0 : Nat → Nat} {base bw : Nat} {h : Hd} {ro : Nat → Nat} {W : Wd} {wr w' : World} (x : NewInv W0 ro0 base bw h ro W wr) (hb : Below wr.heap.size wr w') : ∃ ro', NewInv W0 ro0 base bw h ro' W w' := by
  have hg : wr.grownBy w' none := ⟨hb.os, hb.tape, hb.output, hb.size, fun k hk _ => hb.block k hk⟩
  have hlt : bw < wr.heap.size := Nat.lt_of_lt_of_le x.bwl x.keep.size
  refine ⟨ro, on_trans x.keep (on_below bw hb), x.bwl, x.bas, x.old, x.rbw, x.at_.below hb, fun j => (hb.frozen (p := ⟨bw, j, none⟩) hlt).trans (x.frz j), x.own.keep hg (fun g e => by cases e) (fun _ _ => rfl)⟩
theorem NewInv.cellOld {W0 : World} {ro0 : Nat → Nat} {base bw : Nat} {h : Hd} {ro : Nat → Nat} {W : Wd} {wr : World} (x : NewInv W0 ro0 base bw h ro W wr) {a : Addr} (ha : a.block < W0.heap.size) (hne : a.block ≠ bw) : wr.cell? a = W0.cell? a := on_cell x.keep ha hne
theorem grownBy_puts (b : Nat) : ∀ (vs : List Value) (o : Nat) (w : World), w.grownBy (w.setCells b o vs) (some b)
  | [], _, _ => World.grownBy.refl _ _
  | v :: r, o, w => on_trans (grownBy_put w b o v) (grownBy_puts b r (o + 1) (w.setCell ⟨b, o, none⟩ v))
theorem atP_puts {w : World} {bw : Nat} {h h' : Hd} {now now' : Int} (x : AtP w bw h now) : AtP (w.setCells bw 0 (h'.cells now')) bw h' now' := by
  refine ⟨Nat.lt_of_lt_of_le x.1 (grownBy_puts bw (h'.cells now') 0 w).size, fun j v hv => ?_⟩
  have hj : j < (h'.cells now').length := (List.getElem?_eq_some_iff.1 hv).1
  have := World.cell?_setCells_in bw (h'.cells now') 0 w (fun i hi => by
    have hi' : i < (h.cells now).length := by simpa [Hd.cells] using hi
    rw [Nat.zero_add, x.2 i _ (List.getElem?_eq_getElem hi')]; rfl) j hj
  rw [Nat.zero_add] at this
  rw [this, ← hv, List.getElem?_eq_getElem hj]
theorem keep_row {W0 wr w' : World} {bw : Nat} {o : Option Nat} (h : W0.grownBy wr (some bw)) (hg : wr.grownBy w' o) (ho : ∀ b, o = some b → W0.heap.size ≤ b) (j : Nat) (v : Value) : W0.grownBy (w'.setCell ⟨bw, j, none⟩ v) (some bw) :=
  ⟨hg.os.trans h.os, hg.tape.trans h.tape, hg.output.trans h.output, by simpa [World.setCell] using Nat.le_trans h.size hg.size, fun b hb hn =>
    (Below.heap_setCell w' ⟨bw, j, none⟩ v b (fun e => hn (by rw [e]))).trans ((hg.block b (Nat.lt_of_lt_of_le hb h.size) (fun e => by have := ho b e.symm; omega)).trans (h.block b hb hn))⟩
theorem reRole_keep {ro : Nat → Nat} {B g i : Nat} : ∀ b, b < B → reRole ro B g i b = ro b := fun _ hb => reRole_old hb
theorem NewInv.app1 {W0 : World} {ro0 : Nat → Nat} {base bw : Nat} {h : Hd} {ro : Nat → Nat} {W : Wd} {wr w' : World} (x : NewInv W0 ro0 base bw h ro W wr) {g c' : Nat} {y : Sd}
    (hO : OutS SdR 6 47 w' base (reRole ro wr.heap.size g 1) 1 (some ⟨g, 0, none⟩) (h.n1 + 1) c' (W.sends ++ [y])) (hg : wr.grownBy w' (Value.slice h.A1 h.n1 h.c1).ownBlock) :
    (bw < w'.heap.size ∧ w'.cell? ⟨bw, 1, none⟩ = some (.slice h.A1 h.n1 h.c1) ∧ w'.frozen? ⟨bw, 1, none⟩ = false ∧ w'.heap[bw]? = wr.heap[bw]?) ∧
    ∃ h' ro', NewInv W0 ro0 base bw h' ro' { W with sends := W.sends ++ [y] } (w'.setCell ⟨bw, 1, none⟩ (.slice (some ⟨g, 0, none⟩) (h.n1 + 1) c')) := by
  have hown := x.own.sends.owner
  have hnb : ∀ b, (Value.slice h.A1 h.n1 h.c1).ownBlock = some b → W0.heap.size ≤ b := fun b e => by
    rcases Nat.lt_or_ge b W0.heap.size with h1 | h1
    · have h2 := x.old b h1; have h3 := (hown b e).2.2; omega
    · exact h1
  have hlt : bw < wr.heap.size := Nat.lt_of_lt_of_le x.bwl x.keep.size
  have hne : (Value.slice h.A1 h.n1 h.c1).ownBlock ≠ some bw := fun e => by have := hnb bw e; have := x.bwl; omega
  have hat := x.at_.grown hg hne
  have hfr : ∀ j, w'.frozen? ⟨bw, j, none⟩ = false := fun j => (World.frozen?_of_block (w := wr) (a := ⟨bw, j, none⟩) (hg.block bw hlt (fun e => hne e.symm))).trans (x.frz j)
  refine ⟨⟨hat.1, hat.2 1 _ rfl, hfr _, hg.block bw hlt (fun e => hne e.symm)⟩, { h with A1 := some ⟨g, 0, none⟩, n1 := h.n1 + 1, c1 := c' }, reRole ro wr.heap.size g 1, keep_row x.keep hg hnb 1 _, x.bwl, x.bas, fun b hb => ?_, x.rbw, hat.put (by omega) rfl, fun j => by rw [World.frozen?_setCell]; exact hfr j, ?_⟩
  · rw [reRole_old (Nat.lt_of_lt_of_le hb x.keep.size)]; exact x.old b hb
  · refine (x.own.set1 hg (fun b e _ => (hown b e).2.2) reRole_keep hO).keep (grownBy_put w' bw 1 _) (fun b e _ => ?_) (fun _ _ => rfl)
    obtain rfl : bw = b := Option.some.inj e
    rw [reRole_old hlt, (x.old bw x.bwl).1, x.rbw]
    omega
theorem NewInv.app2 {W0 : World} {ro0 : Nat → Nat} {base bw : Nat} {h : Hd} {ro : Nat → Nat} {W : Wd} {wr w' : World} (x : NewInv W0 ro0 base bw h ro W wr) {g c' : Nat} {y : Rv}
    (hO : OutS RvR 4 52 w' base (reRole ro wr.heap.size g 2) 2 (some ⟨g, 0, none⟩) (h.n2 + 1) c' (W.recvs ++ [y])) (hg : wr.grownBy w' (Value.slice h.A2 h.n2 h.c2).ownBlock) :
    (bw < w'.heap.size ∧ w'.cell? ⟨bw, 2, none⟩ = some (.slice h.A2 h.n2 h.c2) ∧ w'.frozen? ⟨bw, 2, none⟩ = false ∧ w'.heap[bw]? = wr.heap[bw]?) ∧
    ∃ h' ro', NewInv W0 ro0 base bw h' ro' { W with recvs := W.recvs ++ [y] } (w'.setCell ⟨bw, 2, none⟩ (.slice (some ⟨g, 0, none⟩) (h.n2 + 1) c')) := by
  have hown := x.own.recvs.owner
  have hnb : ∀ b, (Value.slice h.A2 h.n2 h.c2).ownBlock = some b → W0.heap.size ≤ b := fun b e => by
    rcases Nat.lt_or_ge b W0.heap.size with h1 | h1
    · have h2 := x.old b h1; have h3 := (hown b e).2.2; omega
    · exact h1
  have hlt : bw < wr.heap.size := Nat.lt_of_lt_of_le x.bwl x.keep.size
  have hne : (Value.slice h.A2 h.n2 h.c2).ownBlock ≠ some bw := fun e => by have := hnb bw e; have := x.bwl; omega
  have hat := x.at_.grown hg hne
  have hfr : ∀ j, w'.frozen? ⟨bw, j, none⟩ = false := fun j => (World.frozen?_of_block (w := wr) (a := ⟨bw, j, none⟩) (hg.block bw hlt (fun e => hne e.symm))).trans (x.frz j)
  refine ⟨⟨hat.1, hat.2 2 _ rfl, hfr _, hg.block bw hlt (fun e => hne e.symm)⟩, { h with A2 := some ⟨g, 0, none⟩, n2 := h.n2 + 1, c2 := c' }, reRole ro wr.heap.size g 2, keep_row x.keep hg hnb 2 _, x.bwl, x.bas, fun b hb => ?_, x.rbw, hat.put (by omega) rfl, fun j => by rw [World.frozen?_setCell]; exact hfr j, ?_⟩
  · rw [reRole_old (Nat.lt_of_lt_of_le hb x.keep.size)]; exact x.old b hb
  · refine (x.own.set2 hg (fun b e _ => (hown b e).2.2) reRole_keep hO).keep (grownBy_put w' bw 2 _) (fun b e _ => ?_) (fun _ _ => rfl)
    obtain rfl : bw = b := Option.some.inj e
    rw [reRole_old hlt, (x.old bw x.bwl).1, x.rbw]
    omega
theorem NewInv.app3 {W0 : World} {ro0 : Nat → Nat} {base bw : Nat} {h : Hd} {ro : Nat → Nat} {W : Wd} {wr w' : World} (x : NewInv W0 ro0 base bw h ro W wr) {g c' : Nat} {y : Bs}
    (hO : OutS BsR 1 9 w' base (reRole ro wr.heap.size g 3) 3 (some ⟨g, 0, none⟩) (h.n3 + 1) c' (W.got ++ [y])) (hg : wr.grownBy w' (Value.slice h.A3 h.n3 h.c3).ownBlock) :
    (bw < w'.heap.size ∧ w'.cell? ⟨bw, 3, none⟩ = some (.slice h.A3 h.n3 h.c3) ∧ w'.frozen? ⟨bw, 3, none⟩ = false ∧ w'.heap[bw]? = wr.heap[bw]?) ∧
    ∃ h' ro', NewInv W0 ro0 base bw h' ro' { W with got := W.got ++ [y] } (w'.setCell ⟨bw, 3, none⟩ (.slice (some ⟨g, 0, none⟩) (h.n3 + 1) c')) := by
  have hown := x.own.got.owner
  have hnb : ∀ b, (Value.slice h.A3 h.n3 h.c3).ownBlock = some b → W0.heap.size ≤ b := fun b e => by
    rcases Nat.lt_or_ge b W0.heap.size with h1 | h1
    · have h2 := x.old b h1; have h3 := (hown b e).2.2; omega
    · exact h1
  have hlt : bw < wr.heap.size := Nat.lt_of_lt_of_le x.bwl x.keep.size
  have hne : (Value.slice h.A3 h.n3 h.c3).ownBlock ≠ some bw := fun e => by have := hnb bw e; have := x.bwl; omega
  have hat := x.at_.grown hg hne
  have hfr : ∀ j, w'.frozen? ⟨bw, j, none⟩ = false := fun j => (World.frozen?_of_block (w := wr) (a := ⟨bw, j, none⟩) (hg.block bw hlt (fun e => hne e.symm))).trans (x.frz j)
  refine ⟨⟨hat.1, hat.2 3 _ rfl, hfr _, hg.block bw hlt (fun e => hne e.symm)⟩, { h with A3 := some ⟨g, 0, none⟩, n3 := h.n3 + 1, c3 := c' }, reRole ro wr.heap.size g 3, keep_row x.keep hg hnb 3 _, x.bwl, x.bas, fun b hb => ?_, x.rbw, hat.put (by omega) rfl, fun j => by rw [World.frozen?_setCell]; exact hfr j, ?_⟩
  · rw [reRole_old (Nat.lt_of_lt_of_le hb x.keep.size)]; exact x.old b hb
  · refine (x.own.set3 hg (fun b e _ => (hown b e).2.2) reRole_keep hO).keep (grownBy_put w' bw 3 _) (fun b e _ => ?_) (fun _ _ => rfl)
    obtain rfl : bw = b := Option.some.inj e
    rw [reRole_old hlt, (x.old bw x.bwl).1, x.rbw]
    omega
theorem NewInv.app4 {W0 : World} {ro0 : Nat → Nat} {base bw : Nat} {h : Hd} {ro : Nat → Nat} {W : Wd} {wr w' : World} (x : NewInv W0 ro0 base bw h ro W wr) {g c' : Nat} {y : Ls}
    (hO : OutS LsR 3 57 w' base (reRole ro wr.heap.size g 4) 4 (some ⟨g, 0, none⟩) (h.n4 + 1) c' (W.paths ++ [y])) (hg : wr.grownBy w' (Value.slice h.A4 h.n4 h.c4).ownBlock) :
    (bw < w'.heap.size ∧ w'.cell? ⟨bw, 4, none⟩ = some (.slice h.A4 h.n4 h.c4) ∧ w'.frozen? ⟨bw, 4, none⟩ = false ∧ w'.heap[bw]? = wr.heap[bw]?) ∧
    ∃ h' ro', NewInv W0 ro0 base bw h' ro' { W with paths := W.paths ++ [y] } (w'.setCell ⟨bw, 4, none⟩ (.slice (some ⟨g, 0, none⟩) (h.n4 + 1) c')) := by
  have hown := x.own.paths.owner
  have hnb : ∀ b, (Value.slice h.A4 h.n4 h.c4).ownBlock = some b → W0.heap.size ≤ b := fun b e => by
    rcases Nat.lt_or_ge b W0.heap.size with h1 | h1
    · have h2 := x.old b h1; have h3 := (hown b e).2.2; omega
    · exact h1
  have hlt : bw < wr.heap.size := Nat.lt_of_lt_of_le x.bwl x.keep.size
  have hne : (Value.slice h.A4 h.n4 h.c4).ownBlock ≠ some bw := fun e => by have := hnb bw e; have := x.bwl; omega
  have hat := x.at_.grown hg hne
  have hfr : ∀ j, w'.frozen? ⟨bw, j, none⟩ = false := fun j => (World.frozen?_of_block (w := wr) (a := ⟨bw, j, none⟩) (hg.block bw hlt (fun e => hne e.symm))).trans (x.frz j)
  refine ⟨⟨hat.1, hat.2 4 _ rfl, hfr _, hg.block bw hlt (fun e => hne e.symm)⟩, { h with A4 := some ⟨g, 0, none⟩, n4 := h.n4 + 1, c4 := c' }, reRole ro wr.heap.size g 4, keep_row x.keep hg hnb 4 _, x.bwl, x.bas, fun b hb => ?_, x.rbw, hat.put (by omega) rfl, fun j => by rw [World.frozen?_setCell]; exact hfr j, ?_⟩
  · rw [reRole_old (Nat.lt_of_lt_of_le hb x.keep.size)]; exact x.old b hb
  · refine (x.own.set4 hg (fun b e _ => (hown b e).2.2) reRole_keep hO).keep (grownBy_put w' bw 4 _) (fun b e _ => ?_) (fun _ _ => rfl)
    obtain rfl : bw = b := Option.some.inj e
    rw [reRole_old hlt, (x.old bw x.bwl).1, x.rbw]
    omega
theorem NewInv.app5 {W0 : World} {ro0 : Nat → Nat} {base bw : Nat} {h : Hd} {ro : Nat → Nat} {W : Wd} {wr w' : World} (x : NewInv W0 ro0 base bw h ro W wr) {g c' : Nat} {y : Rt}
    (hO : OutS RtR 4 60 w' base (reRole ro wr.heap.size g 5) 5 (some ⟨g, 0, none⟩) (h.n5 + 1) c' (W.rtts ++ [y])) (hg : wr.grownBy w' (Value.slice h.A5 h.n5 h.c5).ownBlock) :
    (bw < w'.heap.size ∧ w'.cell? ⟨bw, 5, none⟩ = some (.slice h.A5 h.n5 h.c5) ∧ w'.frozen? ⟨bw, 5, none⟩ = false ∧ w'.heap[bw]? = wr.heap[bw]?) ∧
    ∃ h' ro', NewInv W0 ro0 base bw h' ro' { W with rtts := W.rtts ++ [y] } (w'.setCell ⟨bw, 5, none⟩ (.slice (some ⟨g, 0, none⟩) (h.n5 + 1) c')) := by
  have hown := x.own.rtts.owner
  have hnb : ∀ b, (Value.slice h.A5 h.n5 h.c5).ownBlock = some b → W0.heap.size ≤ b := fun b e => by
    rcases Nat.lt_or_ge b W0.heap.size with h1 | h1
    · have h2 := x.old b h1; have h3 := (hown b e).2.2; omega
    · exact h1
  have hlt : bw < wr.heap.size := Nat.lt_of_lt_of_le x.bwl x.keep.size
  have hne : (Value.slice h.A5 h.n5 h.c5).ownBlock ≠ some bw := fun e => by have := hnb bw e; have := x.bwl; omega
  have hat := x.at_.grown hg hne
  have hfr : ∀ j, w'.frozen? ⟨bw, j, none⟩ = false := fun j => (World.frozen?_of_block (w := wr) (a := ⟨bw, j, none⟩) (hg.block bw hlt (fun e => hne e.symm))).trans (x.frz j)
  refine ⟨⟨hat.1, hat.2 5 _ rfl, hfr _, hg.block bw hlt (fun e => hne e.symm)⟩, { h with A5 := some ⟨g, 0, none⟩, n5 := h.n5 + 1, c5 := c' }, reRole ro wr.heap.size g 5, keep_row x.keep hg hnb 5 _, x.bwl, x.bas, fun b hb => ?_, x.rbw, hat.put (by omega) rfl, fun j => by rw [World.frozen?_setCell]; exact hfr j, ?_⟩
  · rw [reRole_old (Nat.lt_of_lt_of_le hb x.keep.size)]; exact x.old b hb
  · refine (x.own.set5 hg (fun b e _ => (hown b e).2.2) reRole_keep hO).keep (grownBy_put w' bw 5 _) (fun b e _ => ?_) (fun _ _ => rfl)
    obtain rfl : bw = b := Option.some.inj e
    rw [reRole_old hlt, (x.old bw x.bwl).1, x.rbw]
    omega
theorem NewInv.app6 {W0 : World} {ro0 : Nat → Nat} {base bw : Nat} {h : Hd} {ro : Nat → Nat} {W : Wd} {wr w' : World} (x : NewInv W0 ro0 base bw h ro W wr) {g c' : Nat} {y : Wn}
    (hO : OutS WnR 4 62 w' base (reRole ro wr.heap.size g 6) 6 (some ⟨g, 0, none⟩) (h.n6 + 1) c' (W.windows ++ [y])) (hg : wr.grownBy w' (Value.slice h.A6 h.n6 h.c6).ownBlock) :
    (bw < w'.heap.size ∧ w'.cell? ⟨bw, 6, none⟩ = some (.slice h.A6 h.n6 h.c6) ∧ w'.frozen? ⟨bw, 6, none⟩ = false ∧ w'.heap[bw]? = wr.heap[bw]?) ∧
    ∃ h' ro', NewInv W0 ro0 base bw h' ro' { W with windows := W.windows ++ [y] } (w'.setCell ⟨bw, 6, none⟩ (.slice (some ⟨g, 0, none⟩) (h.n6 + 1) c')) := by
  have hown := x.own.windows.owner
  have hnb : ∀ b, (Value.slice h.A6 h.n6 h.c6).ownBlock = some b → W0.heap.size ≤ b := fun b e => by
    rcases Nat.lt_or_ge b W0.heap.size with h1 | h1
    · have h2 := x.old b h1; have h3 := (hown b e).2.2; omega
    · exact h1
  have hlt : bw < wr.heap.size := Nat.lt_of_lt_of_le x.bwl x.keep.size
  have hne : (Value.slice h.A6 h.n6 h.c6).ownBlock ≠ some bw := fun e => by have := hnb bw e; have := x.bwl; omega
  have hat := x.at_.grown hg hne
  have hfr : ∀ j, w'.frozen? ⟨bw, j, none⟩ = false := fun j => (World.frozen?_of_block (w := wr) (a := ⟨bw, j, none⟩) (hg.block bw hlt (fun e => hne e.symm))).trans (x.frz j)
  refine ⟨⟨hat.1, hat.2 6 _ rfl, hfr _, hg.block bw hlt (fun e => hne e.symm)⟩, { h with A6 := some ⟨g, 0, none⟩, n6 := h.n6 + 1, c6 := c' }, reRole ro wr.heap.size g 6, keep_row x.keep hg hnb 6 _, x.bwl, x.bas, fun b hb => ?_, x.rbw, hat.put (by omega) rfl, fun j => by rw [World.frozen?_setCell]; exact hfr j, ?_⟩
  · rw [reRole_old (Nat.lt_of_lt_of_le hb x.keep.size)]; exact x.old b hb
  · refine (x.own.set6 hg (fun b e _ => (hown b e).2.2) reRole_keep hO).keep (grownBy_put w' bw 6 _) (fun b e _ => ?_) (fun _ _ => rfl)
    obtain rfl : bw = b := Option.some.inj e
    rw [reRole_old hlt, (x.old bw x.bwl).1, x.rbw]
    omega
theorem NewInv.app7 {W0 : World} {ro0 : Nat → Nat} {base bw : Nat} {h : Hd} {ro : Nat → Nat} {W : Wd} {wr w' : World} (x : NewInv W0 ro0 base bw h ro W wr) {g c' : Nat} {y : (List Rg)}
    (hO : OutS SnR 1 45 w' base (reRole ro wr.heap.size g 7) 7 (some ⟨g, 0, none⟩) (h.n7 + 1) c' (W.seen ++ [y])) (hg : wr.grownBy w' (Value.slice h.A7 h.n7 h.c7).ownBlock) :
    (bw < w'.heap.size ∧ w'.cell? ⟨bw, 7, none⟩ = some (.slice h.A7 h.n7 h.c7) ∧ w'.frozen? ⟨bw, 7, none⟩ = false ∧ w'.heap[bw]? = wr.heap[bw]?) ∧
    ∃ h' ro', NewInv W0 ro0 base bw h' ro' { W with seen := W.seen ++ [y] } (w'.setCell ⟨bw, 7, none⟩ (.slice (some ⟨g, 0, none⟩) (h.n7 + 1) c')) := by
  have hown := x.own.seen.owner
  have hnb : ∀ b, (Value.slice h.A7 h.n7 h.c7).ownBlock = some b → W0.heap.size ≤ b := fun b e => by
    rcases Nat.lt_or_ge b W0.heap.size with h1 | h1
    · have h2 := x.old b h1; have h3 := (hown b e).2.2; omega
    · exact h1
  have hlt : bw < wr.heap.size := Nat.lt_of_lt_of_le x.bwl x.keep.size
  have hne : (Value.slice h.A7 h.n7 h.c7).ownBlock ≠ some bw := fun e => by have := hnb bw e; have := x.bwl; omega
  have hat := x.at_.grown hg hne
  have hfr : ∀ j, w'.frozen? ⟨bw, j, none⟩ = false := fun j => (World.frozen?_of_block (w := wr) (a := ⟨bw, j, none⟩) (hg.block bw hlt (fun e => hne e.symm))).trans (x.frz j)
  refine ⟨⟨hat.1, hat.2 7 _ rfl, hfr _, hg.block bw hlt (fun e => hne e.symm)⟩, { h with A7 := some ⟨g, 0, none⟩, n7 := h.n7 + 1, c7 := c' }, reRole ro wr.heap.size g 7, keep_row x.keep hg hnb 7 _, x.bwl, x.bas, fun b hb => ?_, x.rbw, hat.put (by omega) rfl, fun j => by rw [World.frozen?_setCell]; exact hfr j, ?_⟩
  · rw [reRole_old (Nat.lt_of_lt_of_le hb x.keep.size)]; exact x.old b hb
  · refine (x.own.set7 hg (fun b e _ => (hown b e).2.2) reRole_keep hO).keep (grownBy_put w' bw 7 _) (fun b e _ => ?_) (fun _ _ => rfl)
    obtain rfl : bw = b := Option.some.inj e
    rw [reRole_old hlt, (x.old bw x.bwl).1, x.rbw]
    omega
end Go.Proofs.Ytjpaoadbgmmoeaa
