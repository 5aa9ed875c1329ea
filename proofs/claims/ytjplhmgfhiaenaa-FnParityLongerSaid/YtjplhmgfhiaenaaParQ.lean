/- The walk of the law on a longer parity. No condition. -/
import Derived.Test.YtjplhmgfhiaenaaParO
namespace Go.Proofs.Ytjplhmgfhiaenaa
open Go.RowKit

set_option maxHeartbeats 400000 in
theorem parityLonger_walk (A : Option Addr) (n c : Nat) (bs : Bs) (A2 : Option Addr) (n2 c2 : Nat) (bs2 : Bs) (w : World) (h : Byts w w.heap.size A n c bs) (h2 : Byts w w.heap.size A2 n2 c2 bs2) :
    Calls Try.prog 13 #[.slice A n c, .slice A2 n2 c2] w fun e w' => e = .returned (.bool true) ∧ Below w.heap.size w w' := by
  have hn := h.2.1
  have hm := h.2.2
  have hn2 := h2.2.1
  have hm2 := h2.2.2
  unfold maxLen at hm hm2
  by_cases hbig : n ≤ 1048576
  · by_cases hbig2 : n2 ≤ 1048576
    · go_enter Try.func13, Try.ntmps13
      go_wp2_with fail
      refine (drawParityMake_any A n c bs w _ h (Nat.le_refl _)).mono ?_
      rintro e w1 ⟨A', k, c', ss, rfl, hk5, h20, -, hown, hs, hb1⟩
      go_wp2_with fail
      refine (parityMake_any A' k c' ss w1 _ hs (Nat.le_refl _)).mono ?_
      rintro e w2 ⟨rfl, hb2⟩
      have hs2 := (hs.below hb2 (Nat.le_refl _)).more hb2.size
      go_wp2_with fail
      refine (sParityMake_any A' k c' ss w2 _ hs2 (Nat.le_refl _)).mono ?_
      rintro e w3 ⟨rfl, hb3⟩
      have hs3 := (hs2.below hb3 (Nat.le_refl _)).more hb3.size
      have hb13 := chain (chain hb1 hb2) hb3
      have hlen := Lib.hid hs.len
      clear hown hs hs2 hb1 hb2 hb3 h20
      obtain ⟨q, hq⟩ : ∃ q, q = pm ss := ⟨_, rfl⟩
      rw [← hq]
      have Hq := Lib.hid hq
      have hq13 : q.length ≤ 13 := by rw [hq]; exact pm_length ss
      clear hq
      cases q with
      | nil =>
        go_wp2_with fail
        go_ret
        exact ⟨rfl, hb13⟩
      | cons q0 qt =>
        have hg := made_gv Hq.out
        have hk1 := (gvB_len hg).1
        rw [hlen.out] at hk1
        obtain ⟨m, hm⟩ : ∃ m, m = n2 % k := ⟨_, rfl⟩
        have hmk : m < k := by rw [hm]; exact Nat.mod_lt _ (by omega)
        have hmod : (n2 : Int).tmod (k : Int) = (m : Int) := by rw [Int.tmod_eq_emod_of_nonneg (by omega), hm]; simp
        have hmod' : (n2 : Int) % (k : Int) = (m : Int) := by rw [hm]; simp
        have hk0 : ((k : Int) == 0) = false := by simp; omega
        have hr := fun b => rec_more hg (k := m) (by rw [hlen.out]; exact hmk) b
        rw [← Hq.out] at hr
        have Hr := Lib.hid hr
        have kc := fun W n => run_byteStr (P := Try.prog) W 28 5 9 n Try.underlying28 Try.underlying5 Try.underlying9
        clear hm hr hg
        have hqt : qt.length ≤ 12 := by simp at hq13; omega
        go_wp2_with fail
        have hb4 := alloc_below w3 (.cells #[.int .u8 (n2 % 256 : Int)] 5)
        refine (parityRecover_any _ k c' ss m (q0 :: (qt ++ [UInt8.ofNat (n2 % 256)])) _ _ ((hs3.below hb4 (Nat.le_refl _)).more hb4.size) (Nat.le_refl _) (by simp; omega)).mono ?_
        rintro e w5 ⟨rfl, hb5⟩
        have hr := Hr.out (UInt8.ofNat (n2 % 256))
        rw [List.cons_append] at hr
        rw [hr]
        have hb15 := chain (chain hb13 hb4) hb5
        clear hs3 hb4 hb5 hb13 kc hr
        go_wp2_with fail
        go_ret
        exact ⟨rfl, hb15⟩
    · go_enter Try.func13, Try.ntmps13
      go_wp2
      go_ret
      exact ⟨rfl, Below.refl _ _⟩
  · go_enter Try.func13, Try.ntmps13
    go_wp2
    go_ret
    exact ⟨rfl, Below.refl _ _⟩
end Go.Proofs.Ytjplhmgfhiaenaa
