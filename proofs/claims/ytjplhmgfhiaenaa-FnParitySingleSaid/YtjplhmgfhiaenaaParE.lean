/- Contracts of the drawn groups, and the walks of the laws on ParityMake. No condition. -/
import Derived.Test.YtjplhmgfhiaenaaParD
import Derived.Test.YtjplhmgfhiaenaaParL1
namespace Go.Proofs.Ytjplhmgfhiaenaa
open Go.RowKit

def GroupSays (w : World) (e : Ending) (w' : World) : Prop :=
  ∃ A n c ss, e = .returned (.slice A n c) ∧ n ≤ 5 ∧ (∀ s ∈ ss, s.length ≤ 20) ∧ (0 < n → n ≤ c ∧ c ≤ maxLen) ∧ w'.ownsRow w.heap.size 9 1 (.slice A n c) n (strV ss) ∧ Strs 1048576 w' w'.heap.size A n ss ∧ Below w.heap.size w w'
theorem own_base {w : World} {base base' e size n : Nat} {v : Value} {xs : List Value} (h : w.ownsRow base e size v n xs) (hb : base' ≤ base) : w.ownsRow base' e size v n xs := by
  refine ⟨h.1, ?_⟩
  rcases h.2 with h0 | ⟨g, cap, cur, hv, hg, rest⟩
  · exact .inl h0
  · exact .inr ⟨g, cap, cur, hv, Nat.le_trans hb hg, rest⟩

set_option maxHeartbeats 400000 in
theorem drawGroupValid_any (A : Option Addr) (n c : Nat) (bs : List UInt8) (w : World) (B : Nat) (h : Byts w B A n c bs) (hB : B ≤ w.heap.size) :
    Calls Try.prog 24 #[.slice A n c] w (GroupSays w) := by
  go_enter Try.func24, Try.ntmps24
  go_wp2_with fail
  refine (l6Open_any A n c bs w B h hB).mono ?_
  rintro e w1 ⟨g, rfl, hg, hb1, hr1⟩
  go_wp2_with fail
  refine (l93Group_any g 0 w1 hr1 (by omega)).mono ?_
  rintro e w2 ⟨v, ss, h5, h20, rfl, hown, hd⟩
  obtain ⟨A', c', rfl, hc'⟩ := own_form hown
  have hb2 : Below w.heap.size w1 w2 := below_of_only hd.1 hg hb1.size
  have hfin : GroupSays w (.returned (.slice A' ss.length c')) w2 := ⟨A', ss.length, c', ss, rfl, h5, h20, hc', own_base hown hb1.size, strs_of_own hown (by omega) (fun s hs => by have := h20 s hs; omega), hb1.trans hb2⟩
  have Hfin := Lib.hid hfin
  clear hfin hown hd hb2 hc'
  go_wp2
  go_ret
  exact Hfin.out
set_option maxHeartbeats 400000 in
theorem drawParityMake_any (A : Option Addr) (n c : Nat) (bs : List UInt8) (w : World) (B : Nat) (h : Byts w B A n c bs) (hB : B ≤ w.heap.size) :
    Calls Try.prog 27 #[.slice A n c] w (GroupSays w) := by
  go_enter Try.func27, Try.ntmps27
  go_wp2_with fail
  refine (l6Open_any A n c bs w B h hB).mono ?_
  rintro e w1 ⟨g, rfl, hg, hb1, hr1⟩
  go_wp2_with fail
  refine (l93Group_any g 0 w1 hr1 (by omega)).mono ?_
  rintro e w2 ⟨v, ss, h5, h20, rfl, hown, hd⟩
  obtain ⟨A', c', rfl, hc'⟩ := own_form hown
  have hb2 : Below w.heap.size w1 w2 := below_of_only hd.1 hg hb1.size
  have hfin : GroupSays w (.returned (.slice A' ss.length c')) w2 := ⟨A', ss.length, c', ss, rfl, h5, h20, hc', own_base hown hb1.size, strs_of_own hown (by omega) (fun s hs => by have := h20 s hs; omega), hb1.trans hb2⟩
  have Hfin := Lib.hid hfin
  clear hfin hown hd hb2 hc'
  go_wp2
  go_ret
  exact Hfin.out

set_option maxHeartbeats 400000 in
theorem parityLen_walk (A : Option Addr) (n c : Nat) (bs : List UInt8) (w : World) (h : Byts w w.heap.size A n c bs) :
    Calls Try.prog 8 #[.slice A n c] w fun e w' => e = .returned (.bool true) ∧ Below w.heap.size w w' := by
  have hn := h.2.1
  have hm := h.2.2
  unfold maxLen at hm
  by_cases hbig : n ≤ 1048576
  · go_enter Try.func8, Try.ntmps8
    go_wp2_with fail
    refine (drawParityMake_any A n c bs w _ h (Nat.le_refl _)).mono ?_
    rintro e w1 ⟨A', k, c', ss, rfl, hk5, h20, -, hown, hs, hb1⟩
    go_wp2_with fail
    refine (parityMake_any A' k c' ss w1 _ hs (Nat.le_refl _)).mono ?_
    rintro e w2 ⟨rfl, hb2⟩
    go_wp2_with fail
    refine (sParityMake_any A' k c' ss w2 _ (hs.below hb2 (Nat.le_refl _)) hb2.size).mono ?_
    rintro e w3 ⟨rfl, hb3⟩
    have hb13 := chain (chain hb1 hb2) hb3
    have hs3 := (hs.below hb2 (Nat.le_refl _)).below hb3 hb2.size
    clear hown
    have hpar : gvB ss = true → (pm ss).length = longest ss + 1 := fun hg => by simp [pm, hg, parity]
    have hnil : gvB ss = false → pm ss = [] := fun hg => by simp [pm, hg]
    have Hpar := Lib.hid hpar
    have Hnil := Lib.hid hnil
    have hlen := Lib.hid hs.len
    clear hpar hnil
    obtain ⟨q, hq⟩ : ∃ q, q = pm ss := ⟨_, rfl⟩
    rw [← hq]
    have Hq := Lib.hid hq
    clear hq
    cases q with
    | nil =>
      go_wp2_with fail
      go_ret
      exact ⟨rfl, hb13⟩
    | cons q0 qt =>
      have hl2 : (q0 :: qt).length = longest ss + 1 := by
        rw [Hq.out]
        cases hg : gvB ss with
        | true => exact Hpar.out hg
        | false => have := Hnil.out hg; rw [← Hq.out] at this; cases this
      have hlq : longest ss ≤ 20 := longest_le h20
      have Hl2 := Lib.hid hl2
      have Hlq := Lib.hid hlq
      have H20 := Lib.hid h20
      clear hl2 hlq h20
      go_wp2_with fail
      go_loopg [6, 7] k (fun m z i wr => ∃ j : Nat, j + m = k ∧ i = .int .i64 j ∧ w3 = wr ∧ ∃ x : Nat, x ≤ 20 ∧ z = .int .i64 x ∧ Hid (x = longest (ss.take j)))
      case atStart => exact ⟨0, by omega, rfl, rfl, 0, by omega, rfl, by simp [Hid, longest]⟩
      case round =>
        obtain ⟨j, hj, rfl, rfl, x, hx, rfl, Hx⟩ := hrel
        by_cases hjk : j < k
        · obtain ⟨b, o, u, rfl, hb, hu, hus, hc⟩ := hs3.at_ hjk
          have hu' := Lib.hid hu
          have hu20 : u.length ≤ 20 := H20.out u (List.mem_of_getElem? hu)
          clear hu
          by_cases hxu : x < u.length
          · go_wp2
            go_roundg (k - (j + 1))
            case measure => omega
            case rel => exact ⟨j + 1, by omega, by go_num, rfl, u.length, hu20, rfl, by rw [longest_take_succ _ _ _ hu'.out, ← Hx.out]; show _ = _; omega⟩
          · go_wp2
            go_roundg (k - (j + 1))
            case measure => omega
            case rel => exact ⟨j + 1, by omega, by go_num, rfl, x, hx, rfl, by rw [longest_take_succ _ _ _ hu'.out, ← Hx.out]; show _ = _; omega⟩
        · have hfin : (qt.length : Int) + 1 = (x : Int) + 1 := by
            have h1 := Hx.out
            rw [List.take_of_length_le (by rw [hlen.out]; omega)] at h1
            have h2 := Hl2.out
            simp only [List.length_cons] at h2
            omega
          have hfb : ((qt.length : Int) + 1 == (x : Int) + 1) = true := by simpa using hfin
          clear hfin
          go_wp2
          go_ret
          exact ⟨ret_bool (by simp), hb13⟩
  · go_enter Try.func8, Try.ntmps8
    go_wp2
    go_ret
    exact ⟨rfl, Below.refl _ _⟩
end Go.Proofs.Ytjplhmgfhiaenaa
