/- Contracts of both texts of ParityMake. Condition: the slice reads as a list of strings of bounded length. -/
import Derived.Test.YtjplhmgfhiaenaaParA
namespace Go.Proofs.Ytjplhmgfhiaenaa
open Go.RowKit

theorem sumTo_all (ss : List Bs) (k : Nat) : sumTo ss (-1) ss.length k = psum ss k := by
  unfold sumTo psum
  rw [List.take_of_length_le (Nat.le_refl _)]
  have h : (ss.zipIdx.map fun (s, t) => if (t : Int) = -1 then 0 else byteAt s k) = ss.map fun s => byteAt s k := by
    apply List.ext_getElem?
    intro i
    simp only [List.getElem?_map, List.getElem?_zipIdx]
    cases ss[i]? with
    | none => rfl
    | some u => simp
  rw [h]

theorem info5 : (Try.prog.info? 5).map (fun i => (i.zero, i.size, i.bytes)) = some (some (.int .u8 0), 1, 1) := by kernel_rfl
theorem made_all {ss : List Bs} {n size j : Nat} (hn : ss.length = n) (hj : j < size) : (made ss (-1) size n 0)[j]? = some (.int .i64 ((psum ss j % 256 : Nat) : Int)) := by
  subst hn
  simp [made, hj, sumTo_all]
theorem ofNat_mod (n : Nat) : UInt8.ofNat (n % 256) = UInt8.ofNat n := by
  apply UInt8.toNat_inj.1
  simp
theorem par_next {ss : List Bs} {j q : Nat} (hj : j < longest ss + 1) (hq : q = psum ss j % 256) : (parity ss).take j ++ [UInt8.ofNat q] = (parity ss).take (j + 1) := by
  have h1 : (parity ss)[j]? = some (parB ss j) := by simp [parity, hj]
  rw [List.take_add_one, h1, hq]
  simp only [parB, Option.toList_some]
  rw [ofNat_mod]
theorem parity_length (ss : List Bs) : (parity ss).length = longest ss + 1 := by simp [parity]

set_option maxHeartbeats 400000 in
theorem sParityMake_any (A : Option Addr) (n c : Nat) (ss : List Bs) (w : World) (B : Nat) (h : Strs 1048576 w B A n ss) (hB : B ≤ w.heap.size) :
    Calls Try.prog 22 #[.slice A n c] w fun e w' => e = .returned (.string (S (pm ss))) ∧ Below w.heap.size w w' := by
  have hn := h.2.1
  have hlen := Lib.hid h.len
  cases hgv : gvB ss with
  | false =>
    have Hgv := Lib.hid hgv
    have hg := sGroupValid_any A n c ss w B h
    rw [hgv] at hg
    have hfin : pm ss = [] := by simp [pm, hgv]
    have Hg := Lib.hid hg
    have Hfin := Lib.hid hfin
    clear hgv hg hfin
    go_enter Try.func22, Try.ntmps22
    go_wp2_with (go_at_call 18; refine Hg.out.mono ?_; rintro e w' ⟨rfl, rfl⟩)
    go_ret
    exact ⟨ret_str Hfin.out.symm, Below.refl _ _⟩
  | true =>
    have hg := sGroupValid_any A n c ss w B h
    rw [hgv] at hg
    have hfin : pm ss = parity ss := by simp [pm, hgv]
    have hsh := gvB_short hgv
    have hn4 := (gvB_len hgv).2
    rw [h.len] at hn4
    have Hg := Lib.hid hg
    have Hfin := Lib.hid hfin
    have Hsh := Lib.hid hsh
    clear hgv hg hfin hsh
    go_enter Try.func22, Try.ntmps22
    go_wp2_with (go_at_call 18; refine Hg.out.mono ?_; rintro e w' ⟨rfl, rfl⟩)
    go_loopg [3, 4] n (fun m z i wr => ∃ k : Nat, k + m = n ∧ i = .int .i64 k ∧ w = wr ∧ ∃ q : Nat, q ≤ 12 ∧ z = .int .i64 ((q : Int) + 1) ∧ Hid (q = longest (ss.take k)))
    case atStart => exact ⟨0, by omega, rfl, rfl, 0, by omega, rfl, by simp [Hid, longest]⟩
    case round =>
      obtain ⟨k, hk, rfl, rfl, q, hq, rfl, Hq⟩ := hrel
      by_cases hlt : k < n
      · obtain ⟨b, o, u, rfl, hb, hu, hus, hc⟩ := h.at_ hlt
        have hu' := Lib.hid hu
        have hu12 : u.length ≤ 12 := Hsh.out u (List.mem_of_getElem? hu)
        clear hu
        by_cases hqu : q < u.length
        · go_wp2
          go_roundg (n - (k + 1))
          case measure => omega
          case rel => exact ⟨k + 1, by omega, by go_num, rfl, u.length, hu12, rfl, by rw [longest_take_succ _ _ _ hu'.out, ← Hq.out]; show _ = _; omega⟩
        · go_wp2
          go_roundg (n - (k + 1))
          case measure => omega
          case rel => exact ⟨k + 1, by omega, by go_num, rfl, q, hq, rfl, by rw [longest_take_succ _ _ _ hu'.out, ← Hq.out]; show _ = _; omega⟩
      · have hq' : q = longest ss := by rw [Hq.out, List.take_of_length_le (by rw [hlen.out]; omega)]
        have Hq' := Lib.hid hq'
        clear hq' Hq
        have hmk := l44Make_any A n c ss (q + 1) (-1) w B h hB Hsh.out (by omega) (by omega) (by omega)
        have Hmk := Lib.hid hmk
        clear hmk
        have kc := fun W n => run_byteStr (P := Try.prog) W 28 5 9 n Try.underlying28 Try.underlying5 Try.underlying9
        go_wp2_with (go_at_call 35; refine Hmk.out.mono ?_; rintro e w1 ⟨g, rfl, hb1, hown⟩)
        obtain ⟨hB1, HB1⟩ : ∃ B1, Hid (B1 = w.heap.size) := ⟨_, rfl⟩
        rw [← HB1.out] at hb1 hown
        go_loopg [5, 7] (q + 1) (fun m z i wr => ∃ j : Nat, j + m = q + 1 ∧ i = .int .i64 j ∧ z = .string (S ((parity ss).take j)) ∧ Below hB1 w wr ∧ wr.ownsRow hB1 3 1 (.slice (some ⟨g, 0, none⟩) (q + 1) (q + 1)) (q + 1) (made ss (-1) (q + 1) n 0))
        case atStart => exact ⟨0, by omega, rfl, rfl, hb1, hown⟩
        case round =>
          obtain ⟨j, hj, rfl, rfl, hbj, hoj⟩ := hrel
          by_cases hjl : j < q + 1
          · obtain ⟨x, hx⟩ : ∃ x, x = psum ss j % 256 := ⟨_, rfl⟩
            have hcell : wr.cell? ⟨g, j, none⟩ = some (.int .i64 (x : Int)) := by
              rw [hoj.cellAt j (by omega), made_all hlen.out hjl, hx]
            have hx256 : x < 256 := by omega
            have Hx := Lib.hid hx
            have htl : ((parity ss).take j).length ≤ 1048576 := by rw [List.length_take]; omega
            clear hx
            go_wp2
            go_roundg (q + 1 - (j + 1))
            case measure => omega
            case rel =>
              exact ⟨j + 1, by omega, by go_num, by rw [par_next (by have := Hq'.out; omega) Hx.out], hbj.alloc (by have := hbj.size; have := HB1.out; omega) _, hoj.alloc _⟩
          · have hjq : j = longest ss + 1 := by have := Hq'.out; omega
            have hfin2 : (parity ss).take j = pm ss := by rw [Hfin.out, List.take_of_length_le (by rw [parity_length]; omega)]
            have Hfin2 := Lib.hid hfin2
            clear hfin2 hjq
            go_wp2
            go_ret
            exact ⟨ret_str Hfin2.out, by rw [← HB1.out]; exact hbj⟩
/-- The row of sums behind k payloads, and of payload k the first j sums. -/
def rowP (ss : List Bs) (size k j : Nat) : List Value :=
  (List.range size).map fun t => Value.int .u8 (((psum (ss.take k) t + if t < j then byteAt (ss.getD k []) t else 0) % 256 : Nat) : Int)
theorem row_start (ss : List Bs) {size : Nat} : List.replicate size (Value.int .u8 0) = rowP ss size 0 0 := by
  apply List.ext_getElem?
  intro t
  by_cases ht : t < size <;> simp [rowP, psum, ht]
theorem row_get {ss : List Bs} {size k j : Nat} (hj : j < size) : (rowP ss size k j)[j]? = some (.int .u8 ((psum (ss.take k) j % 256 : Nat) : Int)) := by
  simp [rowP, hj]
theorem row_set {ss : List Bs} {size k j q : Nat} {u : Bs} (hu : ss[k]? = some u) (hq : q = psum (ss.take k) j % 256) :
    (rowP ss size k j).set j (.int .u8 (((q : Int) + (byteAt u j : Int)) % 256)) = rowP ss size k (j + 1) := by
  apply List.ext_getElem?
  intro t
  rw [List.getElem?_set]
  have hk : ss.getD k [] = u := by simp [hu]
  by_cases ht : t < size
  · by_cases e : j = t
    · subst e
      simp [rowP, ht, hu]
      omega
    · have h2 : (t < j + 1) ↔ (t < j) := by omega
      simp [rowP, ht, e, h2]
  · simp [rowP, ht]
    omega
theorem row_next {ss : List Bs} {size k : Nat} {u : Bs} (hu : ss[k]? = some u) : rowP ss size k (u.length + 1) = rowP ss size (k + 1) 0 := by
  unfold rowP
  apply List.map_congr_left
  intro t _
  rw [psum_take_succ ss k u hu]
  have hk : ss.getD k [] = u := by simp [hu]
  rw [hk]
  by_cases ht : t < u.length + 1
  · simp [ht]
  · have : byteAt u t = 0 := by
      unfold byteAt
      rw [if_neg (by omega), List.getD_eq_getElem?_getD, List.getElem?_eq_none (by omega)]
      rfl
    simp [ht, this]

def numsP (ss : List Bs) (size k j : Nat) : List Int := (List.range size).map fun t => (((psum (ss.take k) t + if t < j then byteAt (ss.getD k []) t else 0) % 256 : Nat) : Int)
theorem row_nums (ss : List Bs) (size k j : Nat) : rowP ss size k j = (numsP ss size k j).map (Value.int .u8) := by simp [rowP, numsP]
theorem row_str (ss : List Bs) : strOfNums (numsP ss (longest ss + 1) ss.length 0) = S (parity ss) := by
  unfold strOfNums numsP S parity parB
  simp only [List.take_of_length_le (Nat.le_refl _), Nat.not_lt_zero, if_false, Nat.add_zero, List.map_map]
  congr 1
  apply congrArg List.toArray
  apply List.map_congr_left
  intro t _
  show UInt8.ofNat ((psum ss t % 256 : Nat) : Int).toNat = _
  rw [Int.toNat_natCast, ofNat_mod]
theorem rowP_conv {P : Program} {w : World} (t e d : TypeId) (ht : P.underlying t = some (.slice e)) (he : P.underlying e = some (.int .u8)) (hd : P.underlying d = some .string) {B1 g n k j : Nat} {ss : List Bs}
    (h : w.ownsRow B1 e 1 (.slice (some ⟨g, 0, none⟩) n n) n (rowP ss n k j)) : (convert t d (.slice (some ⟨g, 0, none⟩) n n)).run P w = .ok (.string (strOfNums (numsP ss n k j))) w := by
  have hl : (numsP ss n k j).length = n := by simp [numsP]
  refine run_convert_bytes_arg w t e ht he g 0 n n (numsP ss n k j) hl (fun i hi => ?_) d hd
  have h1 := h.cellAt i (by omega)
  rw [row_nums, List.getElem?_map, List.getElem?_eq_getElem (by omega)] at h1
  rw [Nat.zero_add, h1]
  simp [List.getD_eq_getElem?_getD, List.getElem?_eq_getElem (show i < (numsP ss n k j).length by omega)]

set_option maxHeartbeats 400000 in
theorem parityMake_any (A : Option Addr) (n c : Nat) (ss : List Bs) (w : World) (B : Nat) (h : Strs 1048576 w B A n ss) (hB : B ≤ w.heap.size) :
    Calls Try.prog 23 #[.slice A n c] w fun e w' => e = .returned (.string (S (pm ss))) ∧ Below w.heap.size w w' := by
  have hn := h.2.1
  have hlen := Lib.hid h.len
  cases hgv : gvB ss with
  | false =>
    have Hgv := Lib.hid hgv
    have hg := groupValid_any A n c ss w B h
    rw [hgv] at hg
    have hfin : pm ss = [] := by simp [pm, hgv]
    have Hg := Lib.hid hg
    have Hfin := Lib.hid hfin
    clear hgv hg hfin
    go_enter Try.func23, Try.ntmps23
    go_wp2_with (go_at_call 20; refine Hg.out.mono ?_; rintro e w' ⟨rfl, rfl⟩)
    go_ret
    exact ⟨ret_str Hfin.out.symm, Below.refl _ _⟩
  | true =>
    have hg := groupValid_any A n c ss w B h
    rw [hgv] at hg
    have hfin : pm ss = parity ss := by simp [pm, hgv]
    have hsh := gvB_short hgv
    have hn4 := (gvB_len hgv).2
    rw [h.len] at hn4
    have Hg := Lib.hid hg
    have Hfin := Lib.hid hfin
    have Hsh := Lib.hid hsh
    clear hgv hg hfin hsh
    go_enter Try.func23, Try.ntmps23
    go_wp2_with (go_at_call 20; refine Hg.out.mono ?_; rintro e w' ⟨rfl, rfl⟩)
    go_loopg [3, 15] n (fun m z i wr => ∃ k : Nat, k + m = n ∧ i = .int .i64 k ∧ w = wr ∧ ∃ q : Nat, q ≤ 12 ∧ z = .int .i64 q ∧ Hid (q = longest (ss.take k)))
    case atStart => exact ⟨0, by omega, rfl, rfl, 0, by omega, rfl, by simp [Hid, longest]⟩
    case round =>
      obtain ⟨k, hk, rfl, rfl, q, hq, rfl, Hq⟩ := hrel
      by_cases hlt : k < n
      · obtain ⟨b, o, u, rfl, hb, hu, hus, hc⟩ := h.at_ hlt
        have hu' := Lib.hid hu
        have hu12 : u.length ≤ 12 := Hsh.out u (List.mem_of_getElem? hu)
        clear hu
        by_cases hqu : q < u.length
        · go_wp2
          go_roundg (n - (k + 1))
          case measure => omega
          case rel => exact ⟨k + 1, by omega, by go_num, rfl, u.length, hu12, rfl, by rw [longest_take_succ _ _ _ hu'.out, ← Hq.out]; show _ = _; omega⟩
        · go_wp2
          go_roundg (n - (k + 1))
          case measure => omega
          case rel => exact ⟨k + 1, by omega, by go_num, rfl, q, hq, rfl, by rw [longest_take_succ _ _ _ hu'.out, ← Hq.out]; show _ = _; omega⟩
      · have hq' : q = longest ss := by rw [Hq.out, List.take_of_length_le (by rw [hlen.out]; omega)]
        have Hq' := Lib.hid hq'
        clear hq' Hq
        obtain ⟨i0, hi, hz0, hz1, hz2⟩ := info_parts info5
        go_wp2_with (at_make; refine wpList_mk1 _ rfl _ _ 28 rfl 5 i0 _ Try.underlying28 hi hz0 hz1 rfl _ _ _ _ (q + 1) rfl rfl rfl rfl (by rw [hz2]; omega) (by unfold maxLen; omega) ?_)
        intro g w1 hb1 hg0 hown
        obtain ⟨B1, HB1⟩ : ∃ B1, Hid (B1 = w.heap.size) := ⟨_, rfl⟩
        rw [← HB1.out] at hb1 hown hg0
        have hBB : B ≤ B1 := by rw [HB1.out]; exact hB
        rw [row_start ss] at hown
        go_wp2
        go_loopg [29] n (fun m i wr => ∃ k : Nat, k + m = n ∧ i = .int .i64 k ∧ Below B1 w wr ∧ wr.ownsRow B1 5 1 (.slice (some ⟨g, 0, none⟩) (q + 1) (q + 1)) (q + 1) (rowP ss (q + 1) k 0))
        case atStart => exact ⟨0, by omega, rfl, hb1, hown⟩
        case round =>
          obtain ⟨k, hk, rfl, hbr, hor⟩ := hrel
          clear hown hb1
          by_cases hlt : k < n
          · obtain ⟨b, o, u, rfl, hb, hu, hus, hc⟩ := (h.below hbr hBB).at_ hlt
            have hu' := Lib.hid hu
            have hu12 : u.length ≤ 12 := Hsh.out u (List.mem_of_getElem? hu)
            have huq : u.length ≤ q := by rw [Hq'.out]; exact le_longest (List.mem_of_getElem? hu)
            clear hu
            obtain ⟨x, hx⟩ : ∃ x, x = psum (ss.take k) 0 % 256 := ⟨_, rfl⟩
            have hcell : wr.cell? ⟨g, 0, none⟩ = some (.int .u8 (x : Int)) := by
              rw [hor.cellAt 0 (by omega), row_get (by omega), hx]
            have hx256 : x < 256 := by omega
            have hfr : wr.frozen? ⟨g, 0, none⟩ = false := hor.frozenAt 0
            have Hx := Lib.hid hx
            clear hx
            go_wp2
            have hst := hor.stored 0 (.int .u8 (((x : Int) + (u.length : Int)) % 256))
            rw [show (u.length : Int) = ((byteAt u 0 : Nat) : Int) from by simp [byteAt], row_set hu'.out Hx.out, show ((byteAt u 0 : Nat) : Int) = (u.length : Int) from by simp [byteAt]] at hst
            have hb2 : Below B1 w (wr.setCell ⟨g, 0, none⟩ (.int .u8 (((x : Int) + (u.length : Int)) % 256))) := hbr.setCell (p := ⟨g, 0, none⟩) hg0 _
            generalize wr.setCell ⟨g, 0, none⟩ (.int .u8 (((x : Int) + (u.length : Int)) % 256)) = w2 at hst hb2 ⊢
            obtain ⟨hst, -⟩ := hst
            clear hfr hcell hor hbr
            go_loopg [43] u.length (fun m i wr => ∃ j : Nat, j + m = u.length ∧ i = .int .i64 j ∧ Below B1 w wr ∧ wr.ownsRow B1 5 1 (.slice (some ⟨g, 0, none⟩) (q + 1) (q + 1)) (q + 1) (rowP ss (q + 1) k (j + 1)))
            case atStart => exact ⟨0, by omega, rfl, hb2, hst⟩
            case round =>
              obtain ⟨j, hj, rfl, hbj, hoj⟩ := hrel
              clear hst hb2 hc
              by_cases hjl : j < u.length
              · obtain ⟨y, hy⟩ : ∃ y, y = psum (ss.take k) (j + 1) % 256 := ⟨_, rfl⟩
                have hcell : wr.cell? ⟨g, j + 1, none⟩ = some (.int .u8 (y : Int)) := by
                  rw [hoj.cellAt (j + 1) (by omega), row_get (by omega), hy]
                have hy256 : y < 256 := by omega
                have hfr : wr.frozen? ⟨g, j + 1, none⟩ = false := hoj.frozenAt (j + 1)
                have Hy := Lib.hid hy
                have hz256 := UInt8.toNat_lt (u[j]?.getD 0)
                clear hy
                go_wp2_with fail
                go_region
                go_wp2
                go_roundg (u.length - (j + 1))
                case measure => omega
                case rel =>
                  have hst := hoj.stored (j + 1) (.int .u8 (((y : Int) + (u[j].toNat : Int)) % 256))
                  rw [show (u[j].toNat : Int) = ((byteAt u (j + 1) : Nat) : Int) from by simp [byteAt, hjl], row_set hu'.out Hy.out, show ((byteAt u (j + 1) : Nat) : Int) = (u[j].toNat : Int) from by simp [byteAt, hjl]] at hst
                  exact ⟨j + 1, by omega, by go_num, (hbj.setCell (p := ⟨g, j + 1, none⟩) hg0 _).drew, hst.1.drew⟩
              · go_wp2
                go_roundg (n - (k + 1))
                case measure => omega
                case rel =>
                  have hjn : j = u.length := by omega
                  subst hjn
                  exact ⟨k + 1, by omega, by go_num, hbj, by rw [← row_next hu'.out]; exact hoj⟩
          · have hkn : k = n := by omega
            have hkc := rowP_conv (w := wr) (P := Try.prog) 28 5 9 Try.underlying28 Try.underlying5 Try.underlying9 hor
            have hstr : strOfNums (numsP ss (q + 1) k 0) = S (pm ss) := by rw [hkn, ← hlen.out, Hq'.out, row_str, Hfin.out]
            rw [hstr] at hkc
            have hB' : Below w.heap.size w wr := by rw [← HB1.out]; exact hbr
            clear hkn hstr
            go_wp2
            go_ret
            exact ⟨rfl, hB'⟩
end Go.Proofs.Ytjplhmgfhiaenaa
