/- The walk of the law on the parity of a single payload. No condition. -/
import Derived.Test.YtjplhmgfhiaenaaParO
import Derived.Deep.RegionHeld
namespace Go.Proofs.Ytjplhmgfhiaenaa
open Go.RowKit
/-- 'string(row)' of a row of one byte, in whatever world it stands. -/
theorem byteStr_row {P : Program} (t e d : TypeId) (ht : P.underlying t = some (.slice e)) (he : P.underlying e = some (.int .u8)) (hd : P.underlying d = some .string) (W : World) (g : Nat) (n : Int) (hc : W.cell? ⟨g, 0, none⟩ = some (.int .u8 n)) :
    (convert t d (.slice (some ⟨g, 0, none⟩) 1 1)).run P W = .ok (.string (S [UInt8.ofNat n.toNat])) W := by
  rw [run_convert_bytes_arg (P := P) W t e ht he g 0 1 1 [n] rfl (fun i hi => by
    have h0 : i = 0 := by omega
    subst h0
    exact hc) d hd]
  rfl
abbrev SingS (w1 : World) (b o : Nat) (u : Bs) (w' : World) : Prop := Below w1.heap.size w1 w' ∧ w'.cell? ⟨b, o, none⟩ = some (.string (S u))
theorem SingS.start {w1 : World} {b o : Nat} {u : Bs} (_hb : b < w1.heap.size) (h : w1.cell? ⟨b, o, none⟩ = some (.string (S u))) : SingS w1 b o u w1.drew := ⟨(Below.refl _ _).drew, h⟩
theorem SingS.grow {w1 : World} {b o : Nat} {u : Bs} {w' : World} (h : SingS w1 b o u w') (ob : Obj) : SingS w1 b o u (w'.alloc ob) := by
  refine ⟨h.1.alloc h.1.size _, ?_⟩
  have hb : b < w'.heap.size := by
    have := h.2
    rcases Nat.lt_or_ge b w'.heap.size with h | h
    · exact h
    · simp [World.cell?, Array.getElem?_eq_none h] at this
  exact ((alloc_below w' ob).cell (p := ⟨b, o, none⟩) hb).trans h.2
theorem SingS.after {w1 : World} {b o : Nat} {u : Bs} {w' w'' : World} (h : SingS w1 b o u w') (k : Below w'.heap.size w' w'') : SingS w1 b o u w'' := by
  refine ⟨h.1.trans (k.mono h.1.size), ?_⟩
  have hb : b < w'.heap.size := by
    have := h.2
    rcases Nat.lt_or_ge b w'.heap.size with h | h
    · exact h
    · simp [World.cell?, Array.getElem?_eq_none h] at this
  exact (k.cell (p := ⟨b, o, none⟩) hb).trans h.2
set_option maxHeartbeats 4000000 in
theorem paritySingle_walk (A : Option Addr) (n c : Nat) (bs : List UInt8) (w : World) (h : Byts w w.heap.size A n c bs) :
    Calls Try.prog 5 #[.slice A n c] w fun e w' => e = .returned (.bool true) ∧ Below w.heap.size w w' := by
  have hn := h.2.1
  have hm := h.2.2
  unfold maxLen at hm
  by_cases hbig : n ≤ 1048576
  · have kc := fun W n => run_byteStr (P := Try.prog) W 28 5 9 n Try.underlying28 Try.underlying5 Try.underlying9
    go_enter Try.func5, Try.ntmps5
    go_wp2_with fail
    refine (drawGroupValid_any A n c bs w _ h (Nat.le_refl _)).mono ?_
    rintro e w1 ⟨A', k, c', ss, rfl, hk5, h20, hcc, hown, hs, hb1⟩
    go_wp2_with fail
    refine (groupValid_any A' k c' ss w1 _ hs).mono ?_
    rintro e w' ⟨rfl, rfl⟩
    go_wp2_with fail
    refine (sGroupValid_any A' k c' ss w1 _ hs).mono ?_
    rintro e w' ⟨rfl, rfl⟩
    clear hown
    cases hgv : gvB ss with
    | false =>
      clear hgv
      go_wp2_with fail
      go_ret
      exact ⟨rfl, hb1⟩
    | true =>
      have hk1 := (gvB_len hgv).1
      rw [hs.len] at hk1
      have hcc' := hcc (by omega)
      obtain ⟨b, o, u, rfl, hb, hu, hus, hc⟩ := hs.at_ (show 0 < k by omega)
      rw [Nat.add_zero] at hc
      have hu12 : u.length ≤ 12 := gvB_short hgv u (List.mem_of_getElem? hu)
      have htk : ss.take 1 = [u] := by rw [List.take_add_one, hu]; simp
      have hs1 := strs_take hs hk1
      rw [htk] at hs1
      have hpm := pm_single hu12
      have hc0 : ¬ c' = 0 := by omega
      have hc1 : 1 ≤ c' := by omega
      have hcm := hcc'.2
      unfold maxLen at hcm
      have Hpm := Lib.hid hpm
      clear hgv hu htk hpm hcc hcc' h20
      have hbD : Below w1.heap.size w1 w1.drew := (Below.refl _ _).drew
      have hcD : w1.drew.cell? ⟨b, o, none⟩ = some (.string (S u)) := hc
      have hsD := hs1.below hbD (Nat.le_refl _)
      have kb := byteStr_row (P := Try.prog) 28 5 9 Try.underlying28 Try.underlying5 Try.underlying9
      have hul : u.length ≤ 12 := hu12
      have hc1' : (1 : Int) ≤ (c' : Int) := by omega
      have hk1' : (1 : Int) ≤ (k : Int) := by omega
      have hk0' : (0 : Int) < (k : Int) := by omega
      have hkb : 0 < k := by omega
      have hwr : IntKind.u8.wrap (u.length : Int) = (u.length : Int) := by rw [IntKind.wrap_u8]; omega
      have kcD := fun W n => run_byteStrD (P := Try.prog) W 28 5 9 n Try.underlying28 Try.underlying5 Try.underlying9
      have kc := fun W n => run_byteStr (P := Try.prog) W 28 5 9 n Try.underlying28 Try.underlying5 Try.underlying9
      clear hs hcm hbD hcD hsD
      go_wp2_with fail
      go_region_held (fun w' => Below w1.heap.size w1 w' ∧ w'.cell? ⟨b, o, none⟩ = some (.string (S u))) (first | assumption | exact SingS.start (by assumption) (by assumption) | exact SingS.grow (by assumption) _ | exact SingS.after (by assumption) hb5)
        ((go_at_call 23; refine (parityMake_any _ 1 c' [u] _ w1.heap.size (hs1.below (by first | assumption | exact And.left (by assumption)) (Nat.le_refl _)) (Below.size (by first | assumption | exact And.left (by assumption)))).mono ?_; rintro e w5 ⟨rfl, hb5⟩; rw [Hpm.out]; try (have kd := kb w5 w1.heap.size _ ((hb5.cell (p := ⟨w1.heap.size, 0, none⟩) (by show w1.heap.size < (w1.alloc _).heap.size; simp)).trans (World.cell?_alloc_new _ _ _ _)))))
      all_goals
        go_wp2_with fail
        go_ret
        refine ⟨?_, chain hb1 ?_⟩
        · first | rfl | exact ret_bool (by simp)
        · first | assumption | exact And.left (by assumption)
  · go_enter Try.func5, Try.ntmps5
    go_wp2
    go_ret
    exact ⟨rfl, Below.refl _ _⟩
end Go.Proofs.Ytjplhmgfhiaenaa
