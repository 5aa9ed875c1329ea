/- The walks of the laws on ParityMake of one payload, of a further empty payload and of the reverse order. No condition. -/
import Derived.Test.YtjplhmgfhiaenaaParE
namespace Go.Proofs.Ytjplhmgfhiaenaa
open Go.RowKit

theorem pm_single {u : Bs} (h : u.length ≤ 12) : pm [u] = UInt8.ofNat u.length :: u := by
  have hg : gvB [u] = true := by simp [gvB, shortB, withinB, h]
  have hl : longest [u] = u.length := by simp [longest]
  rw [pm, if_pos hg, parity, hl]
  apply List.ext_getElem?
  intro k
  by_cases hk : k < u.length + 1
  · rw [List.getElem?_map, List.getElem?_range hk]
    cases k with
    | zero => simp [parB, psum, byteAt]
    | succ j =>
      have hj : j < u.length := by omega
      simp [parB, psum, byteAt, List.getElem?_eq_getElem hj]
  · rw [List.getElem?_eq_none (by simp; omega), List.getElem?_eq_none (by simp; omega)]

theorem strs_take {M : Nat} {w : World} {B n k : Nat} {A : Option Addr} {ss : List Bs} (h : Strs M w B A n ss) (hk : k ≤ n) : Strs M w B A k (ss.take k) := by
  refine ⟨⟨by have := h.len; simp; omega, fun hp => ?_⟩, by have := h.2.1; omega, fun s hs => h.2.2 s (List.mem_of_mem_take hs)⟩
  obtain ⟨b, o, e, hb, hc⟩ := h.1.2 (by omega)
  refine ⟨b, o, e, hb, fun j u hu => hc j u ?_⟩
  rw [List.map_take, List.getElem?_take] at hu
  split at hu
  · exact hu
  · cases hu

theorem byteAt_nil (k : Nat) : byteAt [] k = 0 := by unfold byteAt; split <;> simp
theorem longest_eq {ss : List Bs} {m : Nat} (h1 : ∀ s ∈ ss, s.length ≤ m) (h2 : m = 0 ∨ ∃ s ∈ ss, m ≤ s.length) : longest ss = m := by
  have a := longest_le h1
  rcases h2 with h2 | ⟨s, hs, h2⟩
  · omega
  · have := le_longest hs; omega
theorem longest_some (ss : List Bs) : longest ss = 0 ∨ ∃ s ∈ ss, longest ss ≤ s.length := by
  rcases Nat.eq_zero_or_pos (longest ss) with h | h
  · exact .inl h
  · refine .inr ?_
    have key : ∀ (l : List Bs) (m : Nat), l.foldl (fun m s => max m s.length) m = m ∨ ∃ s ∈ l, l.foldl (fun m s => max m s.length) m ≤ s.length := by
      intro l
      induction l with
      | nil => intro m; exact .inl rfl
      | cons a l ih =>
        intro m
        simp only [List.foldl_cons]
        rcases ih (max m a.length) with h' | ⟨s, hs, h'⟩
        · rw [h']
          rcases Nat.le_total m a.length with h2 | h2
          · exact .inr ⟨a, by simp, by omega⟩
          · exact .inl (by omega)
        · exact .inr ⟨s, by simp [hs], h'⟩
    rcases key ss 0 with h' | h'
    · unfold longest at h; omega
    · exact h'
theorem pm_empty {ss : List Bs} (hg : gvB ss = true) (h4 : ss.length < 4) : pm (ss ++ [[]]) = pm ss := by
  have hsh := gvB_short hg
  have hg2 : gvB (ss ++ [[]]) = true := by
    have h1 := (gvB_len hg).1
    simp only [gvB, List.all_append, List.length_append, Bool.and_eq_true]
    refine ⟨⟨by simpa [shortB] using hsh, by simp [shortB]⟩, by simp [withinB]; omega⟩
  have hl : longest (ss ++ [[]]) = longest ss := longest_eq (fun s hs => by
    rcases List.mem_append.1 hs with hs | hs
    · exact le_longest hs
    · simp at hs; subst hs; simp) ((longest_some ss).imp id fun ⟨s, hs, h⟩ => ⟨s, by simp [hs], h⟩)
  simp only [pm, hg, hg2, if_true, parity, hl]
  apply List.map_congr_left
  intro k _
  simp [parB, psum, byteAt_nil]
theorem pm_reverse (ss : List Bs) : pm ss.reverse = pm ss := by
  have hg : gvB ss.reverse = gvB ss := by simp [gvB]
  have hl : longest ss.reverse = longest ss := longest_eq (fun s hs => le_longest (List.mem_reverse.1 hs)) ((longest_some ss).imp id fun ⟨s, hs, h⟩ => ⟨s, List.mem_reverse.2 hs, h⟩)
  simp only [pm, hg, parity, hl]
  congr 1
  apply List.map_congr_left
  intro k _
  simp [parB, psum, List.map_reverse, List.sum_reverse]

set_option maxHeartbeats 400000 in
theorem parityEmpty_walk (A : Option Addr) (n c : Nat) (bs : List UInt8) (w : World) (h : Byts w w.heap.size A n c bs) :
    Calls Try.prog 7 #[.slice A n c] w fun e w' => e = .returned (.bool true) ∧ Below w.heap.size w w' := by
  have hn := h.2.1
  have hm := h.2.2
  unfold maxLen at hm
  by_cases hbig : n ≤ 1048576
  · obtain ⟨i0, hi, hz0, hz1, hz2⟩ := info_parts infoStr
    go_enter Try.func7, Try.ntmps7
    go_wp2_with fail
    refine (drawParityMake_any A n c bs w _ h (Nat.le_refl _)).mono ?_
    rintro e w1 ⟨A', k, c', ss, rfl, hk5, h20, -, hown, hs, hb1⟩
    go_wp2_with fail
    refine (parityMake_any A' k c' ss w1 _ hs (Nat.le_refl _)).mono ?_
    rintro e w2 ⟨rfl, hb2⟩
    go_wp2_with fail
    refine (sParityMake_any A' k c' ss w2 _ (hs.below hb2 (Nat.le_refl _)) hb2.size).mono ?_
    rintro e w3 ⟨rfl, hb3⟩
    have hb13 := chain (chain hb1 hb2) hb3
    have hs3 := ((hs.below hb2 (Nat.le_refl _)).below hb3 hb2.size).more (show w1.heap.size ≤ w3.heap.size by have := hb2.size; have := hb3.size; omega)
    have hlen := Lib.hid hs.len
    clear hown hs
    have hnil : gvB ss = false → pm ss = [] := fun hg => by simp [pm, hg]
    have Hnil := Lib.hid hnil
    clear hnil
    obtain ⟨q, hq⟩ : ∃ q, q = pm ss := ⟨_, rfl⟩
    rw [← hq]
    have Hq := Lib.hid hq
    clear hq
    cases q with
    | nil =>
      go_wp2_with fail
      go_ret
      exact ⟨rfl, hb13⟩
    | cons q0 qt =>
      have hg : gvB ss = true := by
        cases hg : gvB ss with
        | true => rfl
        | false => have := Hnil.out hg; rw [← Hq.out] at this; cases this
      by_cases hk4 : k = 4
      · subst hk4
        go_wp2_with fail
        go_ret
        exact ⟨rfl, hb13⟩
      · have hkb : ((k : Int) == 4) = false := by simp; omega
        have hk1 := (gvB_len hg).1
        have hk44 := (gvB_len hg).2
        rw [hlen.out] at hk1 hk44
        have hpm : pm (ss ++ [[]]) = q0 :: qt := by rw [Hq.out]; exact pm_empty hg (by rw [hlen.out]; omega)
        have Hpm := Lib.hid hpm
        have H20 := Lib.hid h20
        clear hpm hg hk4 h20
        obtain ⟨b, o, e, hb, -⟩ := hs3.1.2 (show 0 < k by omega)
        subst e
        go_wp2_with (at_builtin; go_must (refine wpList_clone1 _ rfl _ _ 22 rfl 9 i0 (.string (S [])) 16 Try.underlying22 hi hz0 hz1 hz2 rfl b o k c' _ (strV ss) hs3.1 (Nat.le_refl _) (strV_one ss) rfl rfl (by unfold maxLen; omega) (by omega) ?_))
        intro A2 c2 w4 hown4 _ hb4
        have hb14 := chain hb13 hb4
        go_wp2_with (at_builtin; go_must (refine wpList_app1 _ rfl _ _ 22 rfl w3.heap.size 9 i0 (.string (S [])) 16 Try.underlying22 hi hz0 hz1 hz2 rfl _ rfl _ _ _ hown4 rfl rfl (by unfold maxLen; omega) (by omega) hb4.size ?_))
        intro v5 w5 hown5 hb5
        obtain ⟨A5, c5, rfl, -⟩ := own_form hown5
        have hs5 : Strs 1048576 w5 w5.heap.size A5 (k + 1) (ss ++ [[]]) := strs_of_own (by simpa [strV] using hown5) (by omega) (fun s hs => by
          rcases List.mem_append.1 hs with hs | hs
          · have := H20.out s hs; omega
          · simp at hs; subst hs; simp)
        have hb15 : Below w.heap.size w w5 := hb14.trans (hb5.mono hb13.size)
        clear hown4 hown5 hb4 hb5 hs3
        go_wp2_with fail
        refine (parityMake_any _ _ _ _ w5 _ hs5 (Nat.le_refl _)).mono ?_
        rintro e w6 ⟨rfl, hb6⟩
        rw [Hpm.out]
        go_wp2_with fail
        go_ret
        exact ⟨ret_bool (by simp), chain hb15 hb6⟩
  · go_enter Try.func7, Try.ntmps7
    go_wp2
    go_ret
    exact ⟨rfl, Below.refl _ _⟩

set_option maxHeartbeats 400000 in
theorem parityOrder_walk (A : Option Addr) (n c : Nat) (bs : List UInt8) (w : World) (h : Byts w w.heap.size A n c bs) :
    Calls Try.prog 9 #[.slice A n c] w fun e w' => e = .returned (.bool true) ∧ Below w.heap.size w w' := by
  have hn := h.2.1
  have hm := h.2.2
  unfold maxLen at hm
  by_cases hbig : n ≤ 1048576
  · obtain ⟨i0, hi, hz0, hz1, hz2⟩ := info_parts infoStr
    go_enter Try.func9, Try.ntmps9
    go_wp2_with fail
    refine (drawParityMake_any A n c bs w _ h (Nat.le_refl _)).mono ?_
    rintro e w1 ⟨A', k, c', ss, rfl, hk5, h20, -, hown, hs, hb1⟩
    go_wp2_with fail
    refine (parityMake_any A' k c' ss w1 _ hs (Nat.le_refl _)).mono ?_
    rintro e w2 ⟨rfl, hb2⟩
    go_wp2_with fail
    refine (sParityMake_any A' k c' ss w2 _ (hs.below hb2 (Nat.le_refl _)) hb2.size).mono ?_
    rintro e w3 ⟨rfl, hb3⟩
    have hb13 := chain (chain hb1 hb2) hb3
    have hs3 := ((hs.below hb2 (Nat.le_refl _)).below hb3 hb2.size).more (show w1.heap.size ≤ w3.heap.size by have := hb2.size; have := hb3.size; omega)
    have hlen := Lib.hid hs.len
    have hrev := pm_reverse ss
    have Hrev := Lib.hid hrev
    have H20 := Lib.hid h20
    clear hown hs hrev h20
    obtain ⟨q, hq⟩ : ∃ q, q = pm ss := ⟨_, rfl⟩
    rw [← hq] at Hrev ⊢
    clear hq
    go_wp2_with fail
    obtain ⟨B1, HB1⟩ : ∃ B1, Hid (B1 = w3.heap.size) := ⟨_, rfl⟩
    have hown0 : (w3.alloc (.cells #[] 9)).ownsRow B1 9 1 (.slice (some ⟨w3.heap.size, 0, none⟩) 0 0) 0 (strV (ss.drop k).reverse) := by
      rw [HB1.out, List.drop_of_length_le (by rw [hlen.out]; omega)]; exact World.ownsRow_lit w3 #[] 0 (Nat.le_refl _) (by omega) rfl
    have hbl0 : Below B1 w3 (w3.alloc (.cells #[] 9)) := by rw [HB1.out]; exact alloc_below _ _
    obtain ⟨v0, hv0⟩ : ∃ v0 : Value, v0 = .slice (some ⟨w3.heap.size, 0, none⟩) 0 0 := ⟨_, rfl⟩
    rw [← hv0] at hown0 ⊢
    generalize w3.alloc (.cells #[] 9) = w4 at hown0 hbl0 ⊢
    clear hv0
    go_loopg [6, 7] k (fun m out i wr => m ≤ k ∧ i = .int .i64 ((m : Int) - 1) ∧ ∃ t : Nat, t + m = k ∧ wr.ownsRow B1 9 1 out t (strV (ss.drop m).reverse) ∧ Below B1 w3 wr)
    case atStart => exact ⟨by omega, rfl, 0, by omega, hown0, hbl0⟩
    case round =>
      clear hown0 hbl0
      obtain ⟨hmk, rfl, t, ht, hown, hbl⟩ := hrel
      obtain ⟨m, rfl⟩ : ∃ m, m = gk := ⟨_, rfl⟩
      have hsw := hs3.below (B' := B1) hbl (by rw [HB1.out]; exact Nat.le_refl _)
      cases m with
      | zero =>
        have htk : t = k := by omega
        subst htk
        rw [List.drop_zero] at hown
        obtain ⟨A5, c5, rfl, -⟩ := own_form hown
        have hs5 : Strs 1048576 _ _ A5 t ss.reverse := strs_of_own hown (by omega) (fun s hs => by have := H20.out s (List.mem_reverse.1 hs); omega)
        have hb15 := chain hb13 (by rw [← HB1.out]; exact hbl)
        go_wp2_with fail
        refine (parityMake_any _ _ _ _ _ _ hs5 (Nat.le_refl _)).mono ?_
        rintro e w6 ⟨rfl, hb6⟩
        rw [Hrev.out]
        go_wp2_with fail
        go_ret
        exact ⟨ret_bool (by simp), chain hb15 hb6⟩
      | succ m =>
        obtain ⟨b, o, u, rfl, hb, hu, hus, hc⟩ := hsw.at_ (show m < k by omega)
        have hdr : (ss.drop (m + 1)).reverse ++ [u] = (ss.drop m).reverse := by
          have hl : m < ss.length := by rw [hlen.out]; omega
          rw [List.drop_eq_getElem_cons hl, List.reverse_cons]
          rw [List.getElem?_eq_getElem hl] at hu
          injection hu with hu
          rw [hu]
        have Hdr := Lib.hid hdr
        have hsz : B1 ≤ wr.heap.size := by have := hbl.size; have := HB1.out; omega
        have hmi : ((m + 1 : Nat) : Int) - 1 = (m : Int) := by omega
        clear hu hdr hsw
        rw [hmi]
        clear hmi
        go_wp2_with (at_builtin; go_must (refine wpList_app1 _ rfl _ _ 22 rfl B1 9 i0 (.string (S [])) 16 Try.underlying22 hi hz0 hz1 hz2 rfl _ rfl _ _ _ hown rfl rfl (by unfold maxLen; omega) (by omega) hsz ?_))
        intro v' w' hown' hbl'
        have hown2 : w'.ownsRow B1 9 1 v' (t + 1) (strV (ss.drop m).reverse) := by rw [← Hdr.out]; simpa [strV] using hown'
        have hbl2 := hbl.trans hbl'
        clear hown hown' hbl hbl'
        go_wp2
        go_roundg m
        case measure => omega
        case rel => exact ⟨by omega, rfl, t + 1, by omega, hown2, hbl2⟩
  · go_enter Try.func9, Try.ntmps9
    go_wp2
    go_ret
    exact ⟨rfl, Below.refl _ _⟩
end Go.Proofs.Ytjplhmgfhiaenaa
