/- Contracts of the copies of groups (slices.Clone, withPayload). Condition: the slice reads as a list of strings of bounded length, not empty. -/
import Derived.Test.YtjplhmgfhiaenaaParG
namespace Go.Proofs.Ytjplhmgfhiaenaa
open Go.RowKit

theorem strV_set (ss : List Bs) (k : Nat) (u : Bs) : (strV ss).set k (.string (S u)) = strV (ss.set k u) := by simp [strV, List.map_set]

set_option maxHeartbeats 400000 in
theorem clone_any (A : Option Addr) (n c : Nat) (ss : List Bs) (w : World) (B : Nat) (h : Strs 1048576 w B A n ss) (hB : B ≤ w.heap.size) (h0 : 0 < n) :
    Calls Try.prog 38 #[.slice A n c] w fun e w' => ∃ g c', e = .returned (.slice (some ⟨g, 0, none⟩) n c') ∧ n ≤ c' ∧ Below w.heap.size w w' ∧
      w'.ownsRow w.heap.size 9 1 (.slice (some ⟨g, 0, none⟩) n c') n (strV ss) := by
  obtain ⟨i0, hi, hz0, hz1, hz2⟩ := info_parts infoStr
  have hn := h.2.1
  obtain ⟨b, o, e, hb, -⟩ := h.1.2 h0
  subst e
  have hnil := fun W => Lib.run_eql_slice_nil (P := Try.prog) W 22 9 (some ⟨b, o, none⟩) n c 0 0 Try.underlying22
  go_enter Try.func38, Try.ntmps38
  go_wp2_with (at_builtin; go_must (refine wpList_clone1 _ rfl _ _ 22 rfl 9 i0 (.string (S [])) 16 Try.underlying22 hi hz0 hz1 hz2 rfl b o n c _ (strV ss) h.1 hB (strV_one ss) rfl rfl (by unfold maxLen; omega) (by omega) ?_))
  intro A2 c2 w4 hown4 hc2 hb4
  have hc2' : n ≤ c2 := by first | exact hc2 h0 | exact hc2
  rcases hown4.2 with ⟨he, h1⟩ | ⟨g, cap, cur, he, -⟩
  · omega
  · injection he with e1 e2 e3
    subst e1; subst e3
    clear hc2
    go_wp2
    go_ret
    exact ⟨g, c2, rfl, hc2', hb4, hown4⟩

def CopySays (n : Nat) (ss : List Bs) (w : World) (e : Ending) (w' : World) : Prop := ∃ A' c', e = .returned (.slice A' n c') ∧ Below w.heap.size w w' ∧ Strs 1048576 w' w'.heap.size A' n ss
set_option maxHeartbeats 400000 in
theorem withPayload_any (A : Option Addr) (n c k : Nat) (ss : List Bs) (u : Bs) (w : World) (B : Nat) (h : Strs 1048576 w B A n ss) (hB : B ≤ w.heap.size) (hk : k < n) (hu : u.length ≤ 1048576) :
    Calls Try.prog 28 #[.slice A n c, .int .i64 k, .string (S u)] w (CopySays n (ss.set k u) w) := by
  obtain ⟨i0, hi, hz0, hz1, hz2⟩ := info_parts infoStr
  have hn := h.2.1
  obtain ⟨b, o, e, hb, -⟩ := h.1.2 (by omega)
  subst e
  go_enter Try.func28, Try.ntmps28
  go_wp2_with (at_builtin; go_must (refine wpList_clone1 _ rfl _ _ 22 rfl 9 i0 (.string (S [])) 16 Try.underlying22 hi hz0 hz1 hz2 rfl b o n c _ (strV ss) h.1 hB (strV_one ss) rfl rfl (by unfold maxLen; omega) (by omega) ?_))
  intro A2 c2 w4 hown4 hc2 hb4
  rcases hown4.2 with ⟨he, h1⟩ | ⟨g, cap, cur, he, hg, -⟩
  · omega
  · injection he with e1 e2 e3
    subst e1; subst e3
    obtain ⟨x, hx⟩ : ∃ x, w4.cell? ⟨g, k, none⟩ = some x := by
      rw [hown4.cellAt k (by omega)]
      exact ⟨_, List.getElem?_eq_getElem (by have := hown4.1; omega)⟩
    have hfr : w4.frozen? ⟨g, k, none⟩ = false := hown4.frozenAt k
    have hst := (hown4.stored k (.string (S u))).1
    rw [strV_set] at hst
    have hs5 := strs_of_own hst hn (fun s hs => by
      rcases List.mem_or_eq_of_mem_set hs with hs | rfl
      · exact h.2.2 s hs
      · exact hu)
    have hb5 := hb4.setCell (p := ⟨g, k, none⟩) hg (.string (S u))
    have Hs5 := Lib.hid hs5
    have Hb5 := Lib.hid hb5
    clear hs5 hb5 hst hc2 hb4 hown4 h
    go_wp2
    go_ret
    exact ⟨_, _, rfl, Hb5.out, Hs5.out⟩
end Go.Proofs.Ytjplhmgfhiaenaa
