/- How a law's arguments are opened: slices of bytes and of strings. No condition. -/
import Derived.Test.YtjpaoadbgmmoeaaBase
import Derived.ProofKit
import Derived.OpenShut
import Derived.ShutString
import Derived.ChangeOld
import Derived.SliceStrings
namespace Go.Proofs.Ytjpaoadbgmmoeaa
open Go.ChangeShapes Go.WideShapes Go.ChangeAt Go.RowKit

theorem own : ownKnob Try.prog.godebug = none := by kernel_rfl
theorem laidOut : laidOutB Try.prog = true := by kernel_rfl

section
variable {H : Type} {enc : TypeId × Value → H} {P : Program} {w : World} {base : Nat} {spare : Nat → Bool} {held : Bool}
theorem rd_of {w : World} {a : Addr} {n : Nat} {xs : List Value} (hl : xs.length = n) (hc : ∀ j u, xs[j]? = some u → w.cell? (a.add j) = some u) : Rd w w.heap.size 1 (some a) n xs := by
  refine ⟨by omega, fun hn => ?_⟩
  obtain ⟨b, o, spot⟩ := a
  have h0 : w.cell? ⟨b, o, spot⟩ = some (xs[0]'(by omega)) := by simpa [Addr.add] using hc 0 _ (List.getElem?_eq_getElem (by omega))
  have hspot : spot = none := by simpa using World.cell?_spot h0
  subst hspot
  exact ⟨b, o, rfl, World.block_lt_of_cell? w ⟨b, o, none⟩ h0, fun j u hu => by have := hc j u hu; rwa [add_lit] at this⟩

theorem open_Byts {t e : TypeId} {a : Option Addr} {len cap : Nat} {d : DataW H} {p : List MemPlace} (ht : P.underlying t = some (.slice e)) (he : P.underlying e = some (.int .u8)) (hc : P.cellsOf e = 1)
    (h : DataW.Trod enc P w 0 (fun _ => true) true t (.slice a len cap) d p) : ∃ bs, Byts w w.heap.size a len cap bs := by
  obtain ⟨fuel, hf⟩ := h
  rcases open_ints ht he hc hf with ⟨hcs, _⟩ | ⟨x, l, c, zs, hcs, _, hl, hm, hz, _, hcell, hwz⟩
  · simp [Value.cells] at hcs
    obtain ⟨rfl, rfl, rfl⟩ := hcs
    exact ⟨[], Rd.none_, by omega, by omega⟩
  · simp [Value.cells] at hcs
    obtain ⟨rfl, rfl, rfl⟩ := hcs
    simp only [if_true] at hz
    have hb : ∀ n ∈ zs, 0 ≤ n ∧ n ≤ 255 := by
      intro n hn
      have := hwz n hn
      simp [Lit.wf, IntKind.min, IntKind.max, IntKind.signed, IntKind.bits] at this
      exact this
    refine ⟨(zs.take len).map fun n => UInt8.ofNat n.toNat, rd_of (by simp; omega) (fun j u hu => ?_), hl, hm⟩
    rw [List.map_map, List.getElem?_map] at hu
    have hj : j < len := by
      rcases Nat.lt_or_ge j len with h | h
      · exact h
      · rw [List.getElem?_eq_none (by simp; omega)] at hu; cases hu
    rw [List.getElem?_take, if_pos hj, List.getElem?_eq_getElem (by omega)] at hu
    simp only [Option.map_some, Option.some.injEq, Function.comp] at hu
    rw [hcell j (by omega), ← hu]
    have := hb (zs[j]'(by omega)) (List.getElem_mem _)
    have e1 : zs.getD j 0 = zs[j]'(by omega) := by simp [List.getD_eq_getElem?_getD, List.getElem?_eq_getElem (show j < zs.length by omega)]
    rw [e1]
    simp only [Option.some.injEq, Value.int.injEq, true_and]
    have h2 : (UInt8.ofNat (zs[j]'(by omega)).toNat).toNat = (zs[j]'(by omega)).toNat := by simp; omega
    rw [h2]
    omega

theorem open_Strs {t e : TypeId} {a : Option Addr} {len cap : Nat} {d : DataW H} {p : List MemPlace} (ht : P.underlying t = some (.slice e)) (he : P.underlying e = some .string) (hc : P.cellsOf e = 1)
    (h : DataW.Trod enc P w 0 (fun _ => true) true t (.slice a len cap) d p) : ∃ ss, Strs maxLen w w.heap.size a len ss := by
  obtain ⟨fuel, hf⟩ := h
  rcases open_strings ht he hc hf with ⟨hcs, _⟩ | ⟨x, l, c, zs, hcs, _, hl, hm, hz, _, hcell, hwz⟩
  · simp [Value.cells] at hcs
    obtain ⟨rfl, rfl, rfl⟩ := hcs
    exact ⟨[], Rd.none_, by omega, by simp⟩
  · simp [Value.cells] at hcs
    obtain ⟨rfl, rfl, rfl⟩ := hcs
    simp only [if_true] at hz
    refine ⟨(zs.take len).map fun s => s.data.toList, rd_of (by simp; omega) (fun j u hu => ?_), by omega, ?_⟩
    · rw [List.map_map, List.getElem?_map] at hu
      have hj : j < len := by
        rcases Nat.lt_or_ge j len with h | h
        · exact h
        · rw [List.getElem?_eq_none (by simp; omega)] at hu; cases hu
      rw [List.getElem?_take, if_pos hj, List.getElem?_eq_getElem (by omega)] at hu
      simp only [Option.map_some, Option.some.injEq, Function.comp] at hu
      rw [hcell j (by omega), ← hu]
      have e1 : zs.getD j ByteArray.empty = zs[j]'(by omega) := by simp [List.getD_eq_getElem?_getD, List.getElem?_eq_getElem (show j < zs.length by omega)]
      rw [e1, ← S_eta]
    · intro s hs
      obtain ⟨z, hz', rfl⟩ := List.mem_map.1 hs
      have := hwz z (List.mem_of_mem_take hz')
      rw [Array.length_toList]
      exact this
end
end Go.Proofs.Ytjpaoadbgmmoeaa
