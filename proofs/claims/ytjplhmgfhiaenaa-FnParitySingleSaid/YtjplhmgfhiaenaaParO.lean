/- The walks of the laws on recovery. No condition. -/
import Derived.Test.YtjplhmgfhiaenaaParN
namespace Go.Proofs.Ytjplhmgfhiaenaa
open Go.RowKit

theorem strOfNums_bytes (bs : Bs) : strOfNums (bs.map fun b => (b.toNat : Int)) = S bs := by
  unfold strOfNums S
  rw [List.map_map]
  congr 2
  conv => rhs; rw [← List.map_id bs]
  apply List.map_congr_left
  intro b _
  simp
/-- 'string(bytes)' of a slice that reads as a list. -/
theorem byts_conv {P : Program} {w : World} {B n c : Nat} {A : Option Addr} {bs : Bs} (h : Byts w B A n c bs) (t e d : TypeId) (ht : P.underlying t = some (.slice e)) (he : P.underlying e = some (.int .u8)) (hd : P.underlying d = some .string) :
    (convert t d (.slice A n c)).run P w = .ok (.string (S bs)) w := by
  have hl := h.len
  rcases Nat.eq_zero_or_pos n with h0 | h0
  · subst h0
    have hb : bs = [] := List.eq_nil_of_length_eq_zero hl
    subst hb
    cases A with
    | none => exact run_convert_bytes_nil w t e ht he 0 c d hd
    | some a =>
      rw [run_convert_bytes_string w t d e _ 0 c ht he hd, run_bytesToString w a 0 c [] (by simpa using run_loadCells_list (P := P) w a [] (fun j v hj => by simp at hj))]
      rfl
  · obtain ⟨b, o, rfl, hb, hc⟩ := h.1.2 h0
    rw [run_convert_bytes_arg w t e ht he b o n c (bs.map fun b => (b.toNat : Int)) (by simpa using hl) (fun i hi => ?_) d hd, strOfNums_bytes]
    have hib : i < bs.length := by omega
    have := hc i (.int .u8 (bs[i].toNat : Int)) (by simp [hib])
    rw [this]
    simp [List.getD_eq_getElem?_getD, hib]

theorem made_gv {ss : List Bs} {q0 : UInt8} {qt : Bs} (h : q0 :: qt = pm ss) : gvB ss = true := by
  cases hg : gvB ss with
  | true => rfl
  | false => simp [pm, hg] at h

set_option maxHeartbeats 400000 in
theorem parityRecoverLaw_walk (A : Option Addr) (n c : Nat) (bs : Bs) (A2 : Option Addr) (n2 c2 : Nat) (bs2 : Bs) (w : World) (h : Byts w w.heap.size A n c bs) (h2 : Byts w w.heap.size A2 n2 c2 bs2) :
    Calls Try.prog 14 #[.slice A n c, .slice A2 n2 c2] w fun e w' => e = .returned (.bool true) ∧ Below w.heap.size w w' := by
  have hn := h.2.1
  have hm := h.2.2
  have hn2 := h2.2.1
  have hm2 := h2.2.2
  unfold maxLen at hm hm2
  by_cases hbig : n ≤ 1048576
  · by_cases hbig2 : n2 ≤ 1048576
    · go_enter Try.func14, Try.ntmps14
      go_wp2_with fail
      refine (drawParityMake_any A n c bs w _ h (Nat.le_refl _)).mono ?_
      rintro e w1 ⟨A', k, c', ss, rfl, hk5, h20, -, hown, hs, hb1⟩
      go_wp2_with fail
      refine (parityMake_any A' k c' ss w1 _ hs (Nat.le_refl _)).mono ?_
      rintro e w2 ⟨rfl, hb2⟩
      have hs2 := (hs.below hb2 (Nat.le_refl _)).more hb2.size
      go_wp2_with fail
      refine (sParityMake_any A' k c' ss w2 _ hs2 (Nat.le_refl _)).mono ?_
      rintro e w3 ⟨rfl, hb3⟩
      have hs3 := (hs2.below hb3 (Nat.le_refl _)).more hb3.size
      have hb13 := chain (chain hb1 hb2) hb3
      have hlen := Lib.hid hs.len
      clear hown hs hs2 hb1 hb2 hb3 h20
      obtain ⟨q, hq⟩ : ∃ q, q = pm ss := ⟨_, rfl⟩
      rw [← hq]
      have Hq := Lib.hid hq
      have hq13 : q.length ≤ 13 := by rw [hq]; exact pm_length ss
      clear hq
      cases q with
      | nil =>
        go_wp2_with fail
        go_ret
        exact ⟨rfl, hb13⟩
      | cons q0 qt =>
        have hg := made_gv Hq.out
        have hk1 := (gvB_len hg).1
        rw [hlen.out] at hk1
        obtain ⟨m, hm⟩ : ∃ m, m = n2 % k := ⟨_, rfl⟩
        have hmk : m < k := by rw [hm]; exact Nat.mod_lt _ (by omega)
        have hmod : (n2 : Int).tmod (k : Int) = (m : Int) := by rw [Int.tmod_eq_emod_of_nonneg (by omega), hm]; simp
        have hmod' : (n2 : Int) % (k : Int) = (m : Int) := by rw [hm]; simp
        have hk0 : ((k : Int) == 0) = false := by simp; omega
        obtain ⟨b, o, u, rfl, hb, hu, hus, hc⟩ := hs3.at_ hmk
        have hr := rec_full hg hu
        rw [← Hq.out] at hr
        have Hr := Lib.hid hr
        clear hm hu hr hg
        go_wp2_with fail
        refine (parityRecover_any _ k c' ss m (q0 :: qt) w3 _ hs3 (Nat.le_refl _) (by omega)).mono ?_
        rintro e w4 ⟨rfl, hb4⟩
        rw [Hr.out.1, Hr.out.2]
        have hc4 := (hb4.cell (p := ⟨b, o + m, none⟩) hb).trans hc
        have hb14 := chain hb13 hb4
        clear hs3 hb4 hb13 hc
        go_wp2_with fail
        go_ret
        exact ⟨rfl, hb14⟩
    · go_enter Try.func14, Try.ntmps14
      go_wp2
      go_ret
      exact ⟨rfl, Below.refl _ _⟩
  · go_enter Try.func14, Try.ntmps14
    go_wp2
    go_ret
    exact ⟨rfl, Below.refl _ _⟩
end Go.Proofs.Ytjplhmgfhiaenaa
