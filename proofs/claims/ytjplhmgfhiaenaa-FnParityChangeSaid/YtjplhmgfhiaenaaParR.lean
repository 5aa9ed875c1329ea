/- The walk of the law on a changed payload. No condition. -/
import Derived.Test.YtjplhmgfhiaenaaParO
namespace Go.Proofs.Ytjplhmgfhiaenaa
open Go.RowKit

set_option maxHeartbeats 4000000 in
theorem parityChange_walk (A : Option Addr) (n c : Nat) (bs : Bs) (A2 : Option Addr) (n2 c2 : Nat) (bs2 : Bs) (w : World) (h : Byts w w.heap.size A n c bs) (h2 : Byts w w.heap.size A2 n2 c2 bs2) :
    Calls Try.prog 10 #[.slice A n c, .slice A2 n2 c2] w fun e w' => e = .returned (.bool true) ∧ Below w.heap.size w w' := by
  have hn := h.2.1
  have hm := h.2.2
  have hn2 := h2.2.1
  have hm2 := h2.2.2
  unfold maxLen at hm hm2
  by_cases hbig : n ≤ 1048576
  · by_cases hbig2 : n2 ≤ 1048576
    · go_enter Try.func10, Try.ntmps10
      go_wp2_with fail
      refine (drawParityMake_any A n c bs w _ h (Nat.le_refl _)).mono ?_
      rintro e w1 ⟨A', k, c', ss, rfl, hk5, h20, -, hown, hs, hb1⟩
      go_wp2_with fail
      refine (parityMake_any A' k c' ss w1 _ hs (Nat.le_refl _)).mono ?_
      rintro e w2 ⟨rfl, hb2⟩
      have hs2 := (hs.below hb2 (Nat.le_refl _)).more hb2.size
      go_wp2_with fail
      refine (sParityMake_any A' k c' ss w2 _ hs2 (Nat.le_refl _)).mono ?_
      rintro e w3 ⟨rfl, hb3⟩
      have hs3 := (hs2.below hb3 (Nat.le_refl _)).more hb3.size
      have hb13 := chain (chain hb1 hb2) hb3
      have hlen := Lib.hid hs.len
      clear hown hs hs2 hb1 hb2 hb3 h20
      obtain ⟨q, hq⟩ : ∃ q, q = pm ss := ⟨_, rfl⟩
      rw [← hq]
      have Hq := Lib.hid hq
      have hq13 : q.length ≤ 13 := by rw [hq]; exact pm_length ss
      clear hq
      cases q with
      | nil =>
        go_wp2_with fail
        go_ret
        exact ⟨rfl, hb13⟩
      | cons q0 qt =>
        by_cases h12 : n2 ≤ 12
        · have hg := made_gv Hq.out
          have hk1 := (gvB_len hg).1
          rw [hlen.out] at hk1
          obtain ⟨m, hm⟩ : ∃ m, m = n % k := ⟨_, rfl⟩
          have hmk : m < k := by rw [hm]; exact Nat.mod_lt _ (by omega)
          have hmod : (n : Int).tmod (k : Int) = (m : Int) := by rw [Int.tmod_eq_emod_of_nonneg (by omega), hm]; simp
          have hmod' : (n : Int) % (k : Int) = (m : Int) := by rw [hm]; simp
          have hk0 : ((k : Int) == 0) = false := by simp; omega
          have hs3' := hs3.below ((Below.refl w3.heap.size w3).drew) (Nat.le_refl _)
          obtain ⟨b, o, u, rfl, hb, hu, hus, hc⟩ := hs3.at_ hmk
          have hb13d := hb13.drew
          have hby := h2.below hb13d (Nat.le_refl _)
          have kc := byts_conv (P := Try.prog) hby 28 5 9 Try.underlying28 Try.underlying5 Try.underlying9
          have hbl := h2.len
          by_cases hxu : bs2 = u
          · subst hxu
            clear hm hg hu hs3 hs3' hby
            go_wp2_with fail
            go_region
            go_wp2_with fail
            go_ret
            exact ⟨rfl, hb13d⟩
          · have hch := pm_change hg hu (x := bs2) (by omega) hxu
            rw [← Hq.out] at hch
            have hne : (bs2 == u) = false := by simpa using hxu
            have Hch := Lib.hid hch
            clear hm hg hu hs3 hby hch hxu
            go_wp2_with fail
            go_region_with (first | (go_at_call 28; go_must (refine (withPayload_any _ k c' m ss bs2 w3.drew _ hs3' (Nat.le_refl _) hmk (by omega)).mono ?_; rintro e w4 ⟨A4, c4, rfl, hb4, hs4⟩)) | (go_at_call 23; go_must (refine (parityMake_any A4 k c4 (ss.set m bs2) w4 _ hs4 (Nat.le_refl _)).mono ?_; rintro e w5 ⟨rfl, hb5⟩)))
            all_goals
              have hpn : (pm (ss.set m bs2) == q0 :: qt) = false := by simpa using Hch.out
              generalize pm (ss.set m bs2) = z at hpn ⊢
              go_wp2_with fail
              go_ret
              exact ⟨ret_bool (by simpa using hpn), chain (chain hb13d hb4) hb5⟩
        · clear hs3
          go_wp2_with fail
          go_ret
          exact ⟨rfl, hb13⟩
    · go_enter Try.func10, Try.ntmps10
      go_wp2
      go_ret
      exact ⟨rfl, Below.refl _ _⟩
  · go_enter Try.func10, Try.ntmps10
    go_wp2
    go_ret
    exact ⟨rfl, Below.refl _ _⟩
end Go.Proofs.Ytjplhmgfhiaenaa
