/- The contracts of the program's search in sets of numbers. Condition: the slices read as lists of ranges. -/
import Derived.Test.YtjpaoadbgmmoeaaWA
namespace Go.Proofs.Ytjpaoadbgmmoeaa
open Go.RowKit

def idxI (o : Option Nat) : Int := match o with
  | none => -1
  | some k => (k : Int)
theorem hasCl_any (lo hi x : Int) (bx : Nat) (w : World) (hbx : w.cell? ⟨bx, 0, none⟩ = some (.int .i64 x)) (hbl : bx < w.heap.size) :
    Calls Try.prog 99 #[.agg #[.int .i64 lo, .int .i64 hi], .pointer (some ⟨bx, 0, none⟩)] w fun e w' => e = .returned (.bool (inB x lo hi)) ∧ Below w.heap.size w w' := by
  have hb0 : Below w.heap.size w (w.alloc (.cells #[.int .i64 lo, .int .i64 hi] 108)) := (Below.refl _ _).alloc (Nat.le_refl _) _
  have hbx1 := (hb0.cell (p := ⟨bx, 0, none⟩) hbl).trans hbx
  go_enter Try.func99, Try.ntmps99
  go_wp2_with fail
  refine (within_any _ _ _ _).mono ?_
  rintro e w1 ⟨rfl, rfl⟩
  go_wp2
  go_ret
  exact ⟨rfl, hb0⟩
set_option maxHeartbeats 400000 in
theorem idxRange_any (A : Option Addr) (n c : Nat) (l : List Rg) (x : Int) (bx : Nat) (w : World) (ok : Nat → Prop) (h : RgS w ok A n c l) (hok : Sub ok (Old w)) (hbx : w.cell? ⟨bx, 0, none⟩ = some (.int .i64 x)) (hbl : bx < w.heap.size) :
    Calls Try.prog 110 #[.slice A n c, .func (.func 99) #[] #[.pointer (some ⟨bx, 0, none⟩)]] w
      fun e w' => e = .returned (.int .i64 (idxI (l.findIdx? fun r => inB x r.lo r.hi))) ∧ Below w.heap.size w w' := by
  go_enter Try.func110, Try.ntmps110
  go_wp2
  have hcap := h.cap
  have hlen := Lib.hid h.len
  go_loopg [8] n (fun m i wr => ∃ k : Nat, k + m = n ∧ i = .int .i64 k ∧ Below w.heap.size w wr ∧ Hid (∀ r ∈ l.take k, inB x r.lo r.hi = false))
  case atStart => exact ⟨0, by omega, rfl, Below.refl _ _, by simp [Hid]⟩
  case round =>
    obtain ⟨k, hk, rfl, hbr, HN⟩ := hrel
    by_cases hlt : k < n
    · obtain ⟨b, o, u, rfl, hb, hu, b1, b2, c0, c1⟩ := rg_at (h.below rgCar hok hbr (Nat.le_refl _)) hlt
      have hbx' := (hbr.cell (p := ⟨bx, 0, none⟩) hbl).trans hbx
      have hsz := hbr.size
      have Hu := Lib.hid hu
      have Hlen := hlen
      clear hu
      have hq1 : (0 : Int) ≤ (k : Int) := by omega
      have hq2 : (k : Int) < (n : Int) := by omega
      go_wp2_with fail
      refine (hasCl_any u.lo u.hi x bx wr hbx' (by omega)).mono ?_
      rintro e w1 ⟨rfl, hb1⟩
      have hbr1 := hbr.trans (hb1.mono hsz)
      cases hin : inB x u.lo u.hi with
      | true =>
        have Hres : Hid (idxI (l.findIdx? fun r => inB x r.lo r.hi) = k) := by
          have : l.findIdx? (fun r => inB x r.lo r.hi) = some k := by
            rw [List.findIdx?_eq_some_iff_getElem]
            have hkl := (List.getElem?_eq_some_iff.1 Hu.out).1
            refine ⟨hkl, by rw [(List.getElem?_eq_some_iff.1 Hu.out).2]; exact hin, fun j hj => ?_⟩
            have := HN.out (l[j]'(by omega)) (by rw [List.mem_take_iff_getElem]; exact ⟨j, by omega, rfl⟩)
            simp [this]
          unfold Hid
          rw [this]; rfl
        clear hin HN hb1
        go_wp2
        go_ret
        exact ⟨ret_int Hres.out.symm, hbr1⟩
      | false =>
        have HN' : Hid (∀ r ∈ l.take (k + 1), inB x r.lo r.hi = false) := by
          intro r hr
          rw [List.take_add_one, Hu.out, List.mem_append] at hr
          rcases hr with hr | hr
          · exact HN.out r hr
          · simp at hr; subst hr; exact hin
        clear hin HN hb1
        go_wp2
        go_roundg (n - (k + 1))
        case measure => omega
        case rel => exact ⟨k + 1, by omega, by go_num, hbr1, HN'⟩
    · have hkn : k = n := by omega
      subst hkn
      have Hres : Hid (idxI (l.findIdx? fun r => inB x r.lo r.hi) = -1) := by
        have : l.findIdx? (fun r => inB x r.lo r.hi) = none := by
          rw [List.findIdx?_eq_none_iff]
          intro r hr
          exact HN.out r (by rw [List.take_of_length_le (by rw [hlen.out]; omega)]; exact hr)
        unfold Hid
        rw [this]; rfl
      clear HN
      go_wp2
      go_ret
      exact ⟨ret_int Hres.out.symm, hbr⟩
theorem has_idx (l : List Rg) (x : Int) : decide (idxI (l.findIdx? fun r => inB x r.lo r.hi) ≥ 0) = hasR l x := by
  have e : hasR l x = l.any fun r => inB x r.lo r.hi := by simp [hasR, inB]
  rw [e]
  cases h : l.findIdx? fun r => inB x r.lo r.hi with
  | none =>
    rw [List.findIdx?_eq_none_iff] at h
    have : (l.any fun r => inB x r.lo r.hi) = false := by
      rw [List.any_eq_false]
      intro r hr
      rw [h r hr]; simp
    rw [this]; rfl
  | some k =>
    obtain ⟨hk, h1, _⟩ := List.findIdx?_eq_some_iff_getElem.1 h
    have : (l.any fun r => inB x r.lo r.hi) = true := List.any_eq_true.2 ⟨l[k], List.getElem_mem hk, h1⟩
    rw [this]; simp [idxI]
theorem idxI_bd (o : Option Nat) : -1 ≤ idxI o := by cases o <;> simp [idxI] <;> omega
set_option maxHeartbeats 400000 in
theorem has_any (A : Option Addr) (n c : Nat) (l : List Rg) (x : Int) (w : World) (ok : Nat → Prop) (h : RgS w ok A n c l) (hok : Sub ok (Old w)) :
    Calls Try.prog 68 #[.slice A n c, .int .i64 x] w fun e w' => e = .returned (.bool (hasR l x)) ∧ Below w.heap.size w w' := by
  have hb0 : Below w.heap.size w (w.alloc (.cells #[.int .i64 x] 3)) := (Below.refl _ _).alloc (Nat.le_refl _) _
  have hbx : (w.alloc (.cells #[.int .i64 x] 3)).cell? ⟨w.heap.size, 0, none⟩ = some (.int .i64 x) := by simp [World.cell?_alloc_new]
  have hI := Lib.hid (idxRange_any A n c l x w.heap.size (w.alloc (.cells #[.int .i64 x] 3)) ok (h.below rgCar hok hb0 (Nat.le_refl _)) (hok.old (by simp)) hbx (by simp))
  go_enter Try.func68, Try.ntmps68
  go_wp2_with fail
  go_enter Try.func98, Try.ntmps98
  go_wp2_with fail
  refine hI.out.mono ?_
  rintro e w1 ⟨rfl, hb1⟩
  have hb := hb0.trans (hb1.mono (by simp))
  have hv := has_idx l x
  have hbd := idxI_bd (l.findIdx? fun r => inB x r.lo r.hi)
  generalize idxI (l.findIdx? fun r => inB x r.lo r.hi) = v at hv hbd ⊢
  have Hv := Lib.hid hv
  clear hv hI
  by_cases h0 : 0 ≤ v
  · go_wp2
    go_ret
    exact ⟨ret_bool (by rw [← Hv.out]; simp [h0]), hb⟩
  · go_wp2
    go_ret
    exact ⟨ret_bool (by rw [← Hv.out] <;> simp <;> omega), hb⟩
end Go.Proofs.Ytjpaoadbgmmoeaa
