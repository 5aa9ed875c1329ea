/- Regions that draw their order, read, and call functions that only make new memory: one walk serves every order. No condition. -/
import Derived.Test.YtjpaoadbgmmoeaaBase
import Derived.Deep.Quiet
import Derived.Deep.QuietTactic
import Derived.BigQuiet
namespace Go.Proofs.Ytjpaoadbgmmoeaa
open Go.RowKit

open Classical in
/-- A world that has grown out of W: x itself if it has, W otherwise. -/
noncomputable def grew (W x : World) : World := if Below W.heap.size W x then x else W
theorem grew_below (W x : World) : Below W.heap.size W (grew W x) := by
  unfold grew
  split
  · assumption
  · exact Below.refl _ _
theorem grew_of {W x : World} (h : Below W.heap.size W x) : x = grew W x := by unfold grew; rw [if_pos h]
theorem grew_cell (W x : World) (a : Addr) (h : (W.cell? a).isSome = true) : (grew W x).cell? a = W.cell? a := by
  refine (grew_below W x).cell ?_
  cases hc : W.cell? a with
  | none => rw [hc] at h; cases h
  | some v => exact World.block_lt_of_cell? W a hc
attribute [go_sem] grew_cell
theorem calm_of {P : Program} {f : FuncId} {args : Array Value} {W x : World} {v : Value}
    (h : Calls P f args (grew W x) fun e w' => e = .returned v ∧ Below (grew W x).heap.size (grew W x) w') : Calls P f args (grew W x) fun e w'' => e = .returned v ∧ ∃ y, w'' = grew W y :=
  h.mono fun _ w'' ⟨he, hb⟩ => ⟨he, w'', grew_of ((grew_below W x).trans (hb.mono (grew_below W x).size))⟩
theorem calm_same {P : Program} {f : FuncId} {args : Array Value} {W x : World} {v : Value}
    (h : Calls P f args (grew W x) fun e w' => e = .returned v ∧ grew W x = w') : Calls P f args (grew W x) fun e w'' => e = .returned v ∧ ∃ y, w'' = grew W y :=
  h.mono fun _ _ ⟨he, hb⟩ => ⟨he, x, hb.symm⟩
theorem wp_region_calm {P : Program} {id : Nat} {Q : Exit → Act → World → Prop} {a : Act} {w : World} {l : List Oper} (hm : P.follows .mixedOrders = true) (hB : Region.lexB .any l.toArray = true)
    (h : wpQuiet P l.toArray (fun w' => ∃ x, w' = grew w x) (fun a' => ∀ w', (∃ x, w' = grew w x) → Q .normal a' w') l a) : (Code.region id l.toArray true).wp P Q a w :=
  wp_region_quiet (C := fun w' => ∃ x, w' = grew w x) hm hB ⟨w.drew, grew_of ((Below.refl _ _).drew)⟩ (by simpa using h)
end Go.Proofs.Ytjpaoadbgmmoeaa
