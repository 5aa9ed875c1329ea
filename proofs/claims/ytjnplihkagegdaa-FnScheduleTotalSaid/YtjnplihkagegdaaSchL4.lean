/- The walks of the laws on what a split assigns. Condition: the slice reads as bytes. -/
import Derived.Test.YtjnplihkagegdaaSplQ
import Derived.Test.YtjnplihkagegdaaDrawS
namespace Go.Proofs.Ytjnplihkagegdaa
open Go.RowKit

theorem opts_row {w : World} {base g c : Nat} {l : List Opt} (h : OptRow w base g c l) (hb : AllBd l) (hl : l.length ≤ 8) : Opts 1048576 w w.heap.size (some ⟨g, 0, none⟩) l.length l := ⟨Rd.of_own h, by omega, hb⟩
theorem getD_some {L : List Int} {k : Nat} {u : Int} (h : L[k]? = some u) : L.getD k 0 = u := by rw [List.getD_eq_getElem?_getD, h]; rfl
set_option maxHeartbeats 1000000 in
theorem fnScheduleWindow_walk (A : Option Addr) (n c : Nat) (bs : List UInt8) (w : World) (h : Byts w w.heap.size A n c bs) :
    Calls Try.prog 4 #[.slice A n c] w fun e w' => e = .returned (.bool true) ∧ Below w.heap.size w w' := by
  have hnc := h.2.1
  have hcm := h.2.2
  unfold maxLen at hcm
  by_cases hn : n ≤ 1048576
  · have H := Lib.hid (drawScheduleSplit_any A n c bs w _ h (Nat.le_refl _))
    clear h
    go_enter Try.func4, Try.ntmps4
    go_wp2_with fail
    refine H.out.mono ?_
    rintro e w1 ⟨g, cl, l, x, rfl, hl8, hbd, hlc, hro, hb1⟩
    have Hb1 := Lib.hid hb1
    have hs1 := hb1.size
    have Hbd := Lib.hid hbd
    have Hro := Lib.hid hro
    have hO1 := Lib.hid (opts_row hro hbd hl8)
    clear hb1 hbd hro H
    go_wp2_with fail
    refine (scheduleSplit_any g l.length cl l x w1 _ hO1.out (Nat.le_refl _)).mono ?_
    rintro e w2 ⟨A2, n2, c2, rfl, hb2, hI2, -⟩
    have Hb2 := Lib.hid (Hb1.out.trans (hb2.mono hs1))
    have hs2 := hb2.size
    have hO2 := Lib.hid ((hO1.out.below hb2 (Nat.le_refl _)).more hb2.size)
    have HI2 := Lib.hid hI2
    clear hb2 hI2 hO1 Hro
    go_wp2_with fail
    refine (sScheduleSplit_any _ l.length cl l x w2 _ hO2.out (Nat.le_refl _)).mono ?_
    rintro e w3 ⟨A3, n3, c3, rfl, hb3, hI3, -⟩
    have Hb3 := Lib.hid (Hb2.out.trans (hb3.mono (by omega)))
    have hs3 := hb3.size
    have hO3 := Lib.hid ((hO2.out.below hb3 (Nat.le_refl _)).more hb3.size)
    have HI23 := Lib.hid (HI2.out.below hb3)
    have HI3 := Lib.hid hI3
    clear hb3 hI3 hO2 HI2
    go_wp2_with fail
    refine (sameInts_same A2 A3 n2 c2 n3 c3 (splI l x) w3 _ HI23.out.read HI3.out.read).mono ?_
    rintro e w4 ⟨rfl, q4, rfl⟩
    have hn2 : n2 ≤ l.length := by
      have h1 := HI23.out.1
      rw [← h1]
      unfold splI
      split
      · rw [takeG_len, zerosI, List.length_replicate]; exact Nat.le_refl _
      · simp
    have hc2 := HI23.out.2.1
    have hm2 := HI23.out.2.2.1
    unfold maxLen at hm2
    go_wp2_with fail
    go_loopg [7] n2 (fun m i wr => ∃ k : Nat, k + m = n2 ∧ i = .int .i64 k ∧ ∃ q, wr = w3.drewN q)
    case atStart => exact ⟨0, by omega, rfl, _, rfl⟩
    case round =>
      obtain ⟨k, hk, rfl, q, rfl⟩ := hrel
      by_cases hlt : k < n2
      · obtain ⟨b, o, y, rfl, -, hb, hy, hcy, -⟩ := HI23.out.cellAt hlt
        obtain ⟨b2, o2, u, e2, hb2, hu, hub, c0, -, c2', c3'⟩ := hO3.out.at_ (show k < l.length by omega)
        obtain ⟨rfl, rfl⟩ : b2 = g ∧ o2 = 0 := by simp at e2; omega
        clear e2
        rw [Nat.zero_add] at c0 c2' c3'
        have hbn := splI_bound (l := l) (x := x) k
        rw [getD_some hy] at hbn
        unfold capOf at hbn
        rw [getD_of hu] at hbn
        have hy0 := hbn.1
        have q1 : (0 : Int) ≤ (k : Int) := by omega
        have q2 : (k : Int) < (n2 : Int) := by omega
        have q3 : (k : Int) < (l.length : Int) := by omega
        have hvld : ovB l = true := by
          cases hv : ovB l with
          | true => rfl
          | false =>
            have hz : splI l x = [] := by unfold splI; rw [hv]; rfl
            rw [hz] at hy
            simp at hy
        have hub' := bd_of_ok hvld hu
        have r1 : IntKind.i64.wrap (u.win - u.fl) = u.win - u.fl := IntWalk.i64_in _ (by omega)
        clear hub hu hy hvld
        cases ha : u.act with
        | false =>
          rw [ha] at c0 hbn
          have hy1 : y ≤ 0 := by simpa using hbn.2
          clear hbn ha
          by_cases hd : 0 ≤ u.win - u.fl
          · go_wp2_with fail
            go_quiet (fail)
            go_wp2
            go_roundg (n2 - (k + 1))
            case measure => omega
            case rel => exact ⟨k + 1, by omega, by go_num, _, rfl⟩
          · go_wp2_with fail
            go_quiet (fail)
            go_wp2
            go_roundg (n2 - (k + 1))
            case measure => omega
            case rel => exact ⟨k + 1, by omega, by go_num, _, rfl⟩
        | true =>
          rw [ha] at c0 hbn
          have hy1 : y ≤ max (u.win - u.fl) 0 := by simpa using hbn.2
          clear hbn ha
          by_cases hd : 0 ≤ u.win - u.fl
          · have hy2 : y ≤ u.win - u.fl := by omega
            clear hy1
            go_wp2_with fail
            go_quiet (fail)
            go_wp2
            go_roundg (n2 - (k + 1))
            case measure => omega
            case rel => exact ⟨k + 1, by omega, by go_num, _, rfl⟩
          · have hy2 : y ≤ 0 := by omega
            clear hy1
            go_wp2_with fail
            go_quiet (fail)
            go_wp2
            go_roundg (n2 - (k + 1))
            case measure => omega
            case rel => exact ⟨k + 1, by omega, by go_num, _, rfl⟩
      · go_wp2
        go_ret
        exact ⟨rfl, below_drewN Hb3.out _⟩
  · go_enter Try.func4, Try.ntmps4
    go_wp2
    go_ret
    exact ⟨rfl, Below.refl _ _⟩
end Go.Proofs.Ytjnplihkagegdaa
