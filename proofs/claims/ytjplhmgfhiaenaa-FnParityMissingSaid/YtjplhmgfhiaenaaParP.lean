/- The walks of the laws on the missing payload and on the recovered group. No condition. -/
import Derived.Test.YtjplhmgfhiaenaaParO
namespace Go.Proofs.Ytjplhmgfhiaenaa
open Go.RowKit

set_option maxHeartbeats 400000 in
theorem parityRecovered_walk (A : Option Addr) (n c : Nat) (bs : Bs) (w : World) (h : Byts w w.heap.size A n c bs) :
    Calls Try.prog 16 #[.slice A n c] w fun e w' => e = .returned (.bool true) ∧ Below w.heap.size w w' := by
  have hn := h.2.1
  have hm := h.2.2
  unfold maxLen at hm
  by_cases hbig : n ≤ 1048576
  · go_enter Try.func16, Try.ntmps16
    go_wp2_with fail
    refine (drawParityRecover_any A n c bs w _ h (Nat.le_refl _)).mono ?_
    rintro e w1 ⟨A', k, c', ss, m, p, rfl, hp, hk5, hs, hb1⟩
    go_wp2_with fail
    refine (parityRecover_any A' k c' ss m p w1 _ hs (Nat.le_refl _) (by omega)).mono ?_
    rintro e w2 ⟨rfl, hb2⟩
    have hs2 := (hs.below hb2 (Nat.le_refl _)).more hb2.size
    obtain ⟨q, hq⟩ : ∃ q, q = recD ss m p := ⟨_, rfl⟩
    obtain ⟨x, hx⟩ : ∃ x, x = recOk ss m p := ⟨_, rfl⟩
    rw [← hq, ← hx]
    have Hq := Lib.hid hq
    have Hx := Lib.hid hx
    clear hq hx
    go_wp2_with fail
    refine (sParityRecover_any A' k c' ss m p w2 _ hs2 (Nat.le_refl _) (by omega)).mono ?_
    rintro e w3 ⟨rfl, hb3⟩
    have hs3 := (hs2.below hb3 (Nat.le_refl _)).more hb3.size
    have hb13 := chain (chain hb1 hb2) hb3
    rw [← Hq.out, ← Hx.out]
    have hlen := Lib.hid hs.len
    clear hs hs2 hb1 hb2 hb3
    cases x with
    | false =>
      go_wp2_with fail
      go_ret
      exact ⟨rfl, hb13⟩
    | true =>
      obtain ⟨hpc, hq12, hm0, hm1⟩ := rec_pc Hx.out.symm
      rw [← Hq.out] at hpc hq12
      rw [hlen.out] at hm1
      obtain ⟨mm, rfl⟩ : ∃ mm : Nat, m = (mm : Int) := ⟨m.toNat, by omega⟩
      rw [Int.toNat_natCast] at hpc
      have Hpc := Lib.hid hpc
      clear hpc
      go_wp2_with fail
      refine (withPayload_any A' k c' mm ss q w3 _ hs3 (Nat.le_refl _) (by omega) (by omega)).mono ?_
      rintro e w4 ⟨A4, c4, rfl, hb4, hs4⟩
      go_wp2_with fail
      refine (parityCheck_any A4 k c4 (ss.set mm q) p w4 _ hs4 (Nat.le_refl _)).mono ?_
      rintro e w5 ⟨rfl, hb5⟩
      rw [Hpc.out]
      have hb15 := chain (chain hb13 hb4) hb5
      clear hs3 hs4 hb4 hb5 hb13
      go_wp2_with fail
      go_ret
      exact ⟨ret_bool (by simp; omega), hb15⟩
  · go_enter Try.func16, Try.ntmps16
    go_wp2
    go_ret
    exact ⟨rfl, Below.refl _ _⟩

set_option maxHeartbeats 400000 in
theorem parityMissing_walk (A : Option Addr) (n c : Nat) (bs : Bs) (A2 : Option Addr) (n2 c2 : Nat) (bs2 : Bs) (w : World) (h : Byts w w.heap.size A n c bs) (h2 : Byts w w.heap.size A2 n2 c2 bs2) :
    Calls Try.prog 15 #[.slice A n c, .slice A2 n2 c2] w fun e w' => e = .returned (.bool true) ∧ Below w.heap.size w w' := by
  have hn := h.2.1
  have hm := h.2.2
  have hn2 := h2.2.1
  have hm2 := h2.2.2
  unfold maxLen at hm hm2
  by_cases hbig : n ≤ 1048576
  · by_cases hbig2 : n2 ≤ 1048576
    · go_enter Try.func15, Try.ntmps15
      go_wp2_with fail
      refine (drawParityRecover_any A n c bs w _ h (Nat.le_refl _)).mono ?_
      rintro e w1 ⟨A', k, c', ss, m, p, rfl, hp, hk5, hs, hb1⟩
      go_wp2_with fail
      refine (parityRecover_any A' k c' ss m p w1 _ hs (Nat.le_refl _) (by omega)).mono ?_
      rintro e w2 ⟨rfl, hb2⟩
      have hs2 := (hs.below hb2 (Nat.le_refl _)).more hb2.size
      obtain ⟨q, hq⟩ : ∃ q, q = recD ss m p := ⟨_, rfl⟩
      obtain ⟨x, hx⟩ : ∃ x, x = recOk ss m p := ⟨_, rfl⟩
      rw [← hq, ← hx]
      have hq255 : q.length ≤ 255 := by
        rw [hq, recD]
        split
        · rw [payl_len]; have := UInt8.toNat_lt (dat ss m.toNat p 0); omega
        · simp
      have Hq := Lib.hid hq
      have Hx := Lib.hid hx
      clear hq hx
      go_wp2_with fail
      refine (sParityRecover_any A' k c' ss m p w2 _ hs2 (Nat.le_refl _) (by omega)).mono ?_
      rintro e w3 ⟨rfl, hb3⟩
      have hs3 := (hs2.below hb3 (Nat.le_refl _)).more hb3.size
      have hb13 := chain (chain hb1 hb2) hb3
      rw [← Hq.out, ← Hx.out]
      have hlen := Lib.hid hs.len
      clear hs hs2 hb1 hb2 hb3
      go_wp2_with fail
      refine (sGroupValid_any A' k c' ss w3 _ hs3).mono ?_
      rintro e w' ⟨rfl, rfl⟩
      cases hgv : gvB ss with
      | false =>
        clear hgv
        go_wp2_with fail
        go_ret
        exact ⟨ret_bool (by simp), hb13⟩
      | true =>
        by_cases hm0 : m < 0
        · clear hgv
          go_wp2_with fail
          go_ret
          exact ⟨ret_bool (by simp), hb13⟩
        · by_cases hmk : (k : Int) ≤ m
          · clear hgv
            go_wp2_with fail
            go_ret
            exact ⟨ret_bool (by simp), hb13⟩
          · by_cases h12 : n2 ≤ 12
            · obtain ⟨mm, rfl⟩ : ∃ mm : Nat, m = (mm : Int) := ⟨m.toNat, by omega⟩
              have hmm : mm < k := by omega
              have hby := h2.below hb13 (Nat.le_refl _)
              have kc := byts_conv (P := Try.prog) hby 28 5 9 Try.underlying28 Try.underlying5 Try.underlying9
              have hbl := h2.len
              obtain ⟨hr1, hr2⟩ := rec_set hgv mm (x := bs2) (by omega) p
              rw [← Hx.out] at hr1
              rw [← Hq.out] at hr2
              have Hr1 := Lib.hid hr1
              have Hr2 := Lib.hid hr2
              clear hgv hr1 hr2 hby
              go_wp2_with fail
              refine (withPayload_any A' k c' mm ss bs2 w3 _ hs3 (Nat.le_refl _) hmm (by omega)).mono ?_
              rintro e w4 ⟨A4, c4, rfl, hb4, hs4⟩
              go_wp2_with fail
              refine (parityRecover_any A4 k c4 (ss.set mm bs2) mm p w4 _ hs4 (Nat.le_refl _) (by omega)).mono ?_
              rintro e w5 ⟨rfl, hb5⟩
              rw [Hr1.out, Hr2.out]
              have hb15 := chain (chain hb13 hb4) hb5
              clear hs3 hs4 hb4 hb5 hb13 kc
              go_wp2_with fail
              go_ret
              exact ⟨ret_bool (by simp), hb15⟩
            · clear hgv
              go_wp2_with fail
              go_ret
              exact ⟨ret_bool (by simp), hb13⟩
    · go_enter Try.func15, Try.ntmps15
      go_wp2
      go_ret
      exact ⟨rfl, Below.refl _ _⟩
  · go_enter Try.func15, Try.ntmps15
    go_wp2
    go_ret
    exact ⟨rfl, Below.refl _ _⟩
end Go.Proofs.Ytjplhmgfhiaenaa
