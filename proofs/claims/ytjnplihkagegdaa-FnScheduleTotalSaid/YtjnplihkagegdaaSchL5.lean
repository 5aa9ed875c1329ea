/- The walk of the law on the sum of what a split assigns. Condition: the slice reads as bytes. -/
import Derived.Test.YtjnplihkagegdaaSchL4
namespace Go.Proofs.Ytjnplihkagegdaa
open Go.RowKit

theorem sums_bound {l : List Opt} (hv : ovB l = true) (N : Nat) : ∀ k, 0 ≤ sumTo (splI l (N : Int)) k ∧ sumTo (splI l (N : Int)) k ≤ capTo l k ∧ (k ≤ l.length → capTo l k ≤ 64 * k)
  | 0 => ⟨Int.le_refl _, Int.le_refl _, fun _ => Int.le_refl _⟩
  | k + 1 => by
    have ih := sums_bound hv N k
    have hb := splI_bound (l := l) (x := (N : Int)) k
    rw [sumTo_succ, capTo_succ]
    refine ⟨by omega, by omega, fun hk => ?_⟩
    have h1 := ih.2.2 (by omega)
    obtain ⟨u, hu⟩ : ∃ u, l[k]? = some u := ⟨_, List.getElem?_eq_getElem (by omega)⟩
    have hub := bd_of_ok hv hu
    have hc : capOf l k ≤ 64 := by
      unfold capOf
      rw [getD_of hu]
      split <;> omega
    omega
set_option maxHeartbeats 1000000 in
theorem fnScheduleTotal_walk (A : Option Addr) (n c : Nat) (bs : List UInt8) (w : World) (h : Byts w w.heap.size A n c bs) :
    Calls Try.prog 3 #[.slice A n c] w fun e w' => e = .returned (.bool true) ∧ Below w.heap.size w w' := by
  have hnc := h.2.1
  have hcm := h.2.2
  unfold maxLen at hcm
  by_cases hn : n ≤ 1048576
  · have H := Lib.hid (drawScheduleSplit_any A n c bs w _ h (Nat.le_refl _))
    clear h
    go_enter Try.func3, Try.ntmps3
    go_wp2_with fail
    refine H.out.mono ?_
    rintro e w1 ⟨g, cl, l, x, rfl, hl8, hbd, hlc, hro, hb1⟩
    have Hb1 := Lib.hid hb1
    have hs1 := hb1.size
    have Hbd := Lib.hid hbd
    have Hro := Lib.hid hro
    have hO1 := Lib.hid (opts_row hro hbd hl8)
    clear hb1 hbd hro H
    go_wp2_with fail
    refine (scheduleSplit_any g l.length cl l x w1 _ hO1.out (Nat.le_refl _)).mono ?_
    rintro e w2 ⟨A2, n2, c2, rfl, hb2, hI2, -⟩
    have Hb2 := Lib.hid (Hb1.out.trans (hb2.mono hs1))
    have hs2 := hb2.size
    have hO2 := Lib.hid ((hO1.out.below hb2 (Nat.le_refl _)).more hb2.size)
    have HI2 := Lib.hid hI2
    clear hb2 hI2 hO1 Hro
    go_wp2_with fail
    refine (sScheduleSplit_any _ l.length cl l x w2 _ hO2.out (Nat.le_refl _)).mono ?_
    rintro e w3 ⟨A3, n3, c3, rfl, hb3, hI3, -⟩
    have Hb3 := Lib.hid (Hb2.out.trans (hb3.mono (by omega)))
    have hs3 := hb3.size
    have hO3 := Lib.hid ((hO2.out.below hb3 (Nat.le_refl _)).more hb3.size)
    have HI23 := Lib.hid (HI2.out.below hb3)
    have HI3 := Lib.hid hI3
    clear hb3 hI3 hO2 HI2
    go_wp2_with fail
    refine (sameInts_same A2 A3 n2 c2 n3 c3 (splI l x) w3 _ HI23.out.read HI3.out.read).mono ?_
    rintro e w4 ⟨rfl, q4, rfl⟩
    have hc2 := HI23.out.2.1
    have hm2 := HI23.out.2.2.1
    unfold maxLen at hm2
    cases hv : ovB l with
    | false =>
      have hov := Lib.hid (sOptionsValid_any (some ⟨g, 0, none⟩) l.length cl l (w3.drewN q4) _ (hO3.out.below (below_drewN (Below.refl w3.heap.size w3) q4) (Nat.le_refl _)) (Nat.le_refl _))
      rw [hv] at hov
      clear hv
      go_wp2_with fail
      refine hov.out.mono ?_
      rintro e w5 ⟨rfl, hb5⟩
      have Hb5 := Lib.hid (Hb3.out.trans (((below_drewN (Below.refl w3.heap.size w3) q4).trans hb5).mono (by omega)))
      have HI25 := Lib.hid (HI23.out.below ((below_drewN (Below.refl w3.heap.size w3) q4).trans hb5))
      have HI35 := Lib.hid (HI3.out.below ((below_drewN (Below.refl w3.heap.size w3) q4).trans hb5))
      clear hb5 hov HI23 HI3 hO3
      go_wp2_with fail
      refine (sameInts_same A2 A3 n2 c2 n3 c3 (splI l x) w5 _ HI25.out.read HI35.out.read).mono ?_
      rintro e w6 ⟨rfl, q6, rfl⟩
      go_wp2
      go_ret
      exact ⟨rfl, below_drewN Hb5.out _⟩
    | true =>
      have hov := Lib.hid (sOptionsValid_any (some ⟨g, 0, none⟩) l.length cl l (w3.drewN q4) _ (hO3.out.below (below_drewN (Below.refl w3.heap.size w3) q4) (Nat.le_refl _)) (Nat.le_refl _))
      rw [hv] at hov
      have Hv := Lib.hid hv
      clear hv
      go_wp2_with fail
      refine hov.out.mono ?_
      rintro e w5 ⟨rfl, hb5⟩
      have hb35 : Below w3.heap.size w3 w5 := (below_drewN (Below.refl w3.heap.size w3) q4).trans hb5
      have Hb5 := Lib.hid (Hb3.out.trans (hb35.mono (by omega)))
      have HI25 := Lib.hid (HI23.out.below hb35)
      have HI35 := Lib.hid (HI3.out.below hb35)
      have hO5 := Lib.hid (hO3.out.below hb35 (Nat.le_refl _))
      clear hb5 hb35 hov HI23 HI3 hO3
      by_cases hx0 : 0 ≤ x
      · by_cases hx1 : x ≤ 256
        · obtain ⟨N, rfl⟩ : ∃ N : Nat, x = (N : Int) := ⟨x.toNat, by omega⟩
          have htot := splI_total Hv.out (N := N) (by omega)
          have hl2 : n2 = l.length := by rw [← HI25.out.1]; exact htot.1
          have Htot := Lib.hid htot.2
          have hbnd : Hid (∀ k, 0 ≤ sumTo (splI l (N : Int)) k ∧ sumTo (splI l (N : Int)) k ≤ capTo l k ∧ (k ≤ l.length → capTo l k ≤ 64 * k)) := fun k => sums_bound Hv.out N k
          subst hl2
          clear htot
          go_wp2_with fail
          go_loopg [7, 8, 9] l.length (fun m a b i wr => ∃ k : Nat, k + m = l.length ∧ i = .int .i64 k ∧ a = .int .i64 (sumTo (splI l (N : Int)) k) ∧ b = .int .i64 (capTo l k) ∧ ∃ q, wr = w5.drewN q)
          case atStart => exact ⟨0, by omega, rfl, rfl, rfl, 0, rfl⟩
          case round =>
            obtain ⟨k, hk, rfl, rfl, rfl, q, rfl⟩ := hrel
            have hbk := hbnd.out k
            by_cases hlt : k < l.length
            · obtain ⟨b, o, y, rfl, -, hb, hy, hcy, -⟩ := HI25.out.cellAt hlt
              obtain ⟨b2, o2, u, e2, hb2, hu, hub, c0, -, c2', c3'⟩ := hO5.out.at_ hlt
              obtain ⟨rfl, rfl⟩ : b2 = g ∧ o2 = 0 := by simp at e2; omega
              clear e2
              rw [Nat.zero_add] at c0 c2' c3'
              have hbn := splI_bound (l := l) (x := (N : Int)) k
              rw [getD_some hy] at hbn
              have hub' := bd_of_ok Hv.out hu
              have hs1' := sumTo_succ (splI l (N : Int)) k
              rw [getD_some hy] at hs1'
              have hcs := capTo_succ l k
              have hcap : capOf l k = if u.act then max (u.win - u.fl) 0 else 0 := by unfold capOf; rw [getD_of hu]
              have hbk2 := hbk.2.2 (by omega)
              have q1 : (0 : Int) ≤ (k : Int) := by omega
              have q3 : (k : Int) < (l.length : Int) := by omega
              have r1 : IntKind.i64.wrap (u.win - u.fl) = u.win - u.fl := IntWalk.i64_in _ (by omega)
              cases ha : u.act with
              | false =>
                rw [ha] at c0 hcap
                have hc0 : capTo l (k + 1) = capTo l k := by rw [hcs, hcap]; simp
                have H1 := Lib.hid hs1'
                have H2 := Lib.hid hc0
                have hy1 : y ≤ 64 := by rw [hcap] at hbn; simp at hbn; omega
                have hy0 := hbn.1
                generalize sumTo (splI l (N : Int)) k = sk at *
                generalize capTo l k = ck at *
                obtain ⟨hk1, hk2, -⟩ := hbk
                clear hbn hcap hs1' hcs hc0 ha hu hy hub
                go_wp2
                go_roundg (l.length - (k + 1))
                case measure => omega
                case rel => exact ⟨k + 1, by omega, by go_num, by rw [H1.out], by rw [H2.out], _, rfl⟩
              | true =>
                rw [ha] at c0 hcap
                have hy0 := hbn.1
                by_cases hd : 0 ≤ u.win - u.fl
                · have hc0 : capTo l (k + 1) = capTo l k + (u.win - u.fl) := by rw [hcs, hcap, if_pos rfl]; omega
                  have hy1 : y ≤ 64 := by rw [hcap, if_pos rfl] at hbn; omega
                  have H1 := Lib.hid hs1'
                  have H2 := Lib.hid hc0
                  generalize sumTo (splI l (N : Int)) k = sk at *
                  generalize capTo l k = ck at *
                  obtain ⟨hk1, hk2, -⟩ := hbk
                  clear hbn hcap hs1' hcs hc0 ha hu hy hub
                  go_wp2_with fail
                  go_quiet (fail)
                  go_wp2
                  go_roundg (l.length - (k + 1))
                  case measure => omega
                  case rel => exact ⟨k + 1, by omega, by go_num, by rw [H1.out], by rw [H2.out], _, rfl⟩
                · have hc0 : capTo l (k + 1) = capTo l k := by rw [hcs, hcap, if_pos rfl]; omega
                  have hy1 : y ≤ 64 := by rw [hcap, if_pos rfl] at hbn; omega
                  have H1 := Lib.hid hs1'
                  have H2 := Lib.hid hc0
                  generalize sumTo (splI l (N : Int)) k = sk at *
                  generalize capTo l k = ck at *
                  obtain ⟨hk1, hk2, -⟩ := hbk
                  clear hbn hcap hs1' hcs hc0 ha hu hy hub
                  go_wp2_with fail
                  go_quiet (fail)
                  go_wp2
                  go_roundg (l.length - (k + 1))
                  case measure => omega
                  case rel => exact ⟨k + 1, by omega, by go_num, by rw [H1.out], by rw [H2.out], _, rfl⟩
            · have hk' : k = l.length := by omega
              subst hk'
              have htt := Htot.out
              generalize sumTo (splI l (N : Int)) l.length = sk at *
              generalize capTo l l.length = ck at *
              by_cases hle : (N : Int) ≤ ck
              · obtain rfl : sk = (N : Int) := by omega
                clear hbk htt
                go_wp2
                go_ret
                exact ⟨ret_bool (by simp), below_drewN Hb5.out _⟩
              · obtain rfl : sk = ck := by omega
                clear hbk htt
                go_wp2
                go_ret
                exact ⟨ret_bool (by simp), below_drewN Hb5.out _⟩
        · have hx2 : 256 < x := by omega
          clear hx1
          go_wp2_with fail
          refine (sameInts_same A2 A3 n2 c2 n3 c3 (splI l x) w5 _ HI25.out.read HI35.out.read).mono ?_
          rintro e w6 ⟨rfl, q6, rfl⟩
          go_wp2
          go_ret
          exact ⟨rfl, below_drewN Hb5.out _⟩
      · have hx2 : x < 0 := by omega
        clear hx0
        go_wp2_with fail
        refine (sameInts_same A2 A3 n2 c2 n3 c3 (splI l x) w5 _ HI25.out.read HI35.out.read).mono ?_
        rintro e w6 ⟨rfl, q6, rfl⟩
        go_wp2
        go_ret
        exact ⟨rfl, below_drewN Hb5.out _⟩
  · go_enter Try.func3, Try.ntmps3
    go_wp2
    go_ret
    exact ⟨rfl, Below.refl _ _⟩
end Go.Proofs.Ytjnplihkagegdaa
