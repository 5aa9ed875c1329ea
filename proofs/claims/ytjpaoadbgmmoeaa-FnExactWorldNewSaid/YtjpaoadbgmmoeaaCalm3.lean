/- The calm law at a world that has grown; two at-lemmas. No condition. -/
import Derived.Test.YtjpaoadbgmmoeaaWB16
namespace Go.Proofs.Ytjpaoadbgmmoeaa
open Go.RowKit

theorem grew_self (W : World) : W = grew W W := grew_of (Below.refl _ _)
theorem grew_of' {W V : World} (h : Below W.heap.size W V) (y : World) : ∃ z, grew V y = grew W z := ⟨grew V y, grew_of (h.trans ((grew_below V y).mono h.size))⟩
theorem wp_region_calmG {P : Program} {id : Nat} {Q : Exit → Act → World → Prop} {a : Act} {W x : World} {l : List Oper} (hm : P.follows .mixedOrders = true) (hB : Region.lexB .any l.toArray = true)
    (h : wpQuiet P l.toArray (fun w' => ∃ y, w' = grew W y) (fun a' => ∀ w', (∃ y, w' = grew W y) → Q .normal a' w') l a) : (Code.region id l.toArray true).wp P Q a (grew W x) :=
  wp_region_quiet (C := fun w' => ∃ y, w' = grew W y) hm hB ⟨(grew W x).drew, grew_of ((grew_below W x).drew)⟩ (by simpa using h)
theorem pc_at2 {w : World} {ok : Nat → Prop} {A : Option Addr} {n c : Nat} {l : List Pc} (h : SliceR PcR 2 w ok A n c l) {k : Nat} (hk : k < n) : ∃ b o x, A = some ⟨b, o, none⟩ ∧ ok b ∧ l[k]? = some x ∧ w.cell? ⟨b, o + k * 2, none⟩ = some (.int .i64 x.off) ∧ w.cell? ⟨b, o + k * 2 + 1, none⟩ = some (.string (S x.data)) := by
  obtain ⟨b, o, cs, x, e, hb, hx, _, ⟨rfl, h1⟩, hc⟩ := h.at_ hk
  exact ⟨b, o, x, e, hb, hx, by have := hc 0 _ rfl; rwa [Nat.add_zero] at this, hc 1 _ rfl⟩
theorem wn_at2 {w : World} {ok : Nat → Prop} {A : Option Addr} {n c : Nat} {l : List Wn} (h : SliceR WnR 4 w ok A n c l) {k : Nat} (hk : k < n) : ∃ b o x, A = some ⟨b, o, none⟩ ∧ ok b ∧ l[k]? = some x ∧ w.cell? ⟨b, o + k * 4, none⟩ = some (.int .i64 x.size) ∧ w.cell? ⟨b, o + k * 4 + 1, none⟩ = some (.int .i64 x.thr) ∧ w.cell? ⟨b, o + k * 4 + 2, none⟩ = some (.int .i64 x.credit) ∧ w.cell? ⟨b, o + k * 4 + 3, none⟩ = some (.int .i64 x.rtt) := by
  obtain ⟨b, o, cs, x, e, hb, hx, _, ⟨rfl, h1⟩, hc⟩ := h.at_ hk
  exact ⟨b, o, x, e, hb, hx, by have := hc 0 _ rfl; rwa [Nat.add_zero] at this, hc 1 _ rfl, hc 2 _ rfl, hc 3 _ rfl⟩
end Go.Proofs.Ytjpaoadbgmmoeaa
