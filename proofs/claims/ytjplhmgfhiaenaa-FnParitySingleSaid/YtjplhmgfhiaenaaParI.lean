/- The contract of the program's ParityRecover. Condition: the slice reads as a list of strings of bounded length. -/
import Derived.Test.YtjplhmgfhiaenaaParH
namespace Go.Proofs.Ytjplhmgfhiaenaa
open Go.RowKit

/-- Cell t of the rest, behind k payloads, and of payload k the first j cells. -/
def cv (p : Bs) (ss : List Bs) (wo : Int) (k j t : Nat) : Int :=
  (((p.getD t 0).toNat : Int) - ((sumTo ss wo k t + if t < j then byteAt (ss.getD k []) t else 0 : Nat) : Int)) % 256
def RecRow (w : World) (g cap : Nat) (p : Bs) (ss : List Bs) (wo : Int) (k j : Nat) : Prop :=
  ∃ cur, w.heap[g]? = some (.cells cur 5 (cap, cap + 1)) ∧ cur.size = cap ∧ p.length ≤ cap ∧ ∀ t, t < p.length → cur[t]? = some (.int .u8 (cv p ss wo k j t))

section
variable {w : World} {g cap k j : Nat} {p : Bs} {ss : List Bs} {wo : Int}
theorem cv_bd {t : Nat} : 0 ≤ cv p ss wo k j t ∧ cv p ss wo k j t < 256 := by unfold cv; omega
theorem RecRow.cell (h : RecRow w g cap p ss wo k j) {t : Nat} (ht : t < p.length) : w.cell? ⟨g, t, none⟩ = some (.int .u8 (cv p ss wo k j t)) := by
  obtain ⟨cur, hh, hs, hp, hc⟩ := h
  simp [World.cell?, hh, hc t ht]
theorem RecRow.frozen (h : RecRow w g cap p ss wo k j) {t : Nat} (ht : t < p.length) : w.frozen? ⟨g, t, none⟩ = false := by
  obtain ⟨cur, hh, hs, hp, hc⟩ := h
  simp [World.frozen?, hh]
  omega
theorem RecRow.below {w' : World} (h : RecRow w g cap p ss wo k j) (hb : Below (g + 1) w w') : RecRow w' g cap p ss wo k j := by
  obtain ⟨cur, hh, r⟩ := h
  exact ⟨cur, (hb.block g (by omega)).trans hh, r⟩
theorem RecRow.lt (h : RecRow w g cap p ss wo k j) : g < w.heap.size := by
  obtain ⟨cur, hh, r⟩ := h
  exact (Array.getElem?_eq_some_iff.1 hh).1
theorem RecRow.drew (h : RecRow w g cap p ss wo k j) : RecRow w.drew g cap p ss wo k j := h
theorem RecRow.set_ (h : RecRow w g cap p ss wo k j) {u : Bs} (hu : ss[k]? = some u) (hj : j < p.length) {x : Int} (hx : x = cv p ss wo k j j) :
    RecRow (w.setCell ⟨g, j, none⟩ (.int .u8 ((x - (byteAt u j : Int)) % 256))) g cap p ss wo k (j + 1) := by
  obtain ⟨cur, hh, hs, hp, hc⟩ := h
  refine ⟨cur.setIfInBounds j (.int .u8 ((x - (byteAt u j : Int)) % 256)), ?_, by simpa using hs, hp, fun t ht => ?_⟩
  · simp [World.setCell, Array.getElem?_modify, hh]
  · rw [Array.getElem?_setIfInBounds]
    have hk : ss.getD k [] = u := by simp [hu]
    by_cases e : j = t
    · subst e
      rw [if_pos rfl, if_pos (by omega), hx]
      congr 2
      unfold cv
      rw [hk]
      simp only [Nat.lt_irrefl, if_false, Nat.lt_succ_self, if_true]
      omega
    · rw [if_neg e, hc t ht]
      have h2 : (t < j + 1) ↔ (t < j) := by omega
      simp [cv, h2]
theorem RecRow.next (h : RecRow w g cap p ss wo k j) {u : Bs} (hu : ss[k]? = some u) (hwo : ¬ (k : Int) = wo) (hj : j = min (u.length + 1) p.length) : RecRow w g cap p ss wo (k + 1) 0 := by
  obtain ⟨cur, hh, hs, hp, hc⟩ := h
  refine ⟨cur, hh, hs, hp, fun t ht => ?_⟩
  rw [hc t ht]
  congr 2
  unfold cv
  have hk : ss.getD k [] = u := by simp [hu]
  have h1 := sumTo_succ (wo := wo) hu t
  rw [if_neg hwo] at h1
  rw [hk, h1]
  by_cases htj : t < j
  · simp [htj]
  · have : byteAt u t = 0 := by
      unfold byteAt
      rw [if_neg (by omega), List.getD_eq_getElem?_getD, List.getElem?_eq_none (by omega)]
      rfl
    simp [htj, this]
theorem RecRow.skip (h : RecRow w g cap p ss wo k 0) {u : Bs} (hu : ss[k]? = some u) (hwo : (k : Int) = wo) : RecRow w g cap p ss wo (k + 1) 0 := by
  obtain ⟨cur, hh, hs, hp, hc⟩ := h
  refine ⟨cur, hh, hs, hp, fun t ht => ?_⟩
  rw [hc t ht]
  congr 2
  have h1 := sumTo_succ (wo := wo) hu t
  rw [if_pos hwo, Nat.add_zero] at h1
  simp [cv, h1]
theorem rec_start (w : World) (p : Bs) (ss : List Bs) (wo : Int) (cap : Nat) (hc : p.length ≤ cap) :
    RecRow (w.drew.alloc (.cells (bytesRow (S p) cap) 5 ((bytesRow (S p) cap).size, (bytesRow (S p) cap).size + 1))) w.heap.size cap p ss wo 0 0 := by
  have hz : (bytesRow (S p) cap).size = cap := by simp [bytesRow, ByteArray.size, S]; omega
  rw [hz]
  refine ⟨bytesRow (S p) cap, heap_alloc_new w.drew _, hz, hc, fun t ht => ?_⟩
  have h1 : (bytesRow (S p) cap)[t]? = some (.int .u8 ((p.getD t 0).toNat : Int)) := by
    unfold bytesRow
    rw [Array.getElem?_append_left (by simp [S]; exact ht)]
    simp [S, ht]
  rw [h1]
  have := UInt8.toNat_lt (p.getD t 0)
  have h2 : sumTo ss wo 0 t = 0 := by simp [sumTo]
  simp only [cv, h2, Nat.not_lt_zero, if_false, Nat.zero_add, Option.some.injEq, Value.int.injEq, true_and]
  omega
end

theorem sumTo_others (ss : List Bs) (m t : Nat) (hm : m < ss.length) : sumTo ss (m : Int) ss.length t = psum (others ss m) t := by
  unfold sumTo psum others
  rw [List.take_of_length_le (Nat.le_refl _)]
  have h : (ss.zipIdx.map fun (s, i) => if (i : Int) = (m : Int) then 0 else byteAt s t) = (ss.set m []).map fun s => byteAt s t := by
    apply List.ext_getElem?
    intro i
    simp only [List.getElem?_map, List.getElem?_zipIdx, List.getElem?_set]
    by_cases e : m = i
    · subst e
      simp [hm, byteAt_nil]
    · have e' : ¬ ((i : Int) = (m : Int)) := by omega
      rw [if_neg e]
      cases ss[i]? with
      | none => rfl
      | some u => simp; intro h; omega
  rw [h]
theorem cv_dat (p : Bs) (ss : List Bs) (m t : Nat) (hm : m < ss.length) : cv p ss (m : Int) ss.length 0 t = ((dat ss m p t).toNat : Int) := by
  unfold cv dat parB
  rw [sumTo_others ss m t hm]
  have h1 := UInt8.toNat_lt (p.getD t 0)
  simp only [Nat.not_lt_zero, if_false, Nat.add_zero]
  rw [UInt8.toNat_sub]
  simp only [UInt8.toNat_ofNat']
  omega
def datI (ss : List Bs) (m : Nat) (p : Bs) : List Int := (List.range (dat ss m p 0).toNat).map fun t => ((dat ss m p (t + 1)).toNat : Int)
theorem datI_str (ss : List Bs) (m : Nat) (p : Bs) : strOfNums (datI ss m p) = S (payl ss m p) := by
  unfold strOfNums datI payl S
  rw [List.map_map]
  congr 2
  apply List.map_congr_left
  intro t _
  show UInt8.ofNat ((dat ss m p (t + 1)).toNat : Int).toNat = _
  simp
theorem rec_conv {P : Program} {w : World} (t e d : TypeId) (ht : P.underlying t = some (.slice e)) (he : P.underlying e = some (.int .u8)) (hd : P.underlying d = some .string) {g cap n m D : Nat} {p : Bs} {ss : List Bs}
    (h : RecRow w g cap p ss m n 0) (hn : ss.length = n) (hm : m < n) (hD : D = (dat ss m p 0).toNat) (hDp : D + 1 ≤ p.length) (c : Nat) :
    (convert t d (.slice (some ⟨g, 1, none⟩) D c)).run P w = .ok (.string (S (payl ss m p))) w := by
  have hl : (datI ss m p).length = D := by simp [datI, hD]
  rw [run_convert_bytes_arg w t e ht he g 1 D c (datI ss m p) hl (fun i hi => ?_) d hd, datI_str]
  rw [Nat.add_comm 1 i, h.cell (by omega), ← hn, cv_dat _ _ _ _ (by rw [hn]; exact hm)]
  have h2 : i < (dat ss m p 0).toNat := by omega
  simp [datI, List.getD_eq_getElem?_getD, h2]

def RecSays (ss : List Bs) (m : Int) (p : Bs) (w : World) (e : Ending) (w' : World) : Prop :=
  e = .returned (.tuple #[.string (S (recD ss m p)), .bool (recOk ss m p)]) ∧ Below w.heap.size w w'
theorem rec_no {ss : List Bs} {m : Int} {p : Bs} {w w' : World} (h : recOk ss m p = false) (hb : Below w.heap.size w w') : RecSays ss m p w (.returned (.tuple #[.string (S []), .bool false])) w' := by
  refine ⟨?_, hb⟩
  rw [recD, h]
  rfl
theorem rec_yes {ss : List Bs} {m : Int} {p : Bs} {w w' : World} (h : recOk ss m p = true) (hb : Below w.heap.size w w') : RecSays ss m p w (.returned (.tuple #[.string (S (payl ss m.toNat p)), .bool true])) w' := by
  refine ⟨?_, hb⟩
  rw [recD, h]
  rfl

set_option maxHeartbeats 1000000 in
theorem parityRecover_any (A : Option Addr) (n c : Nat) (ss : List Bs) (m : Int) (p : Bs) (w : World) (B : Nat) (h : Strs 1048576 w B A n ss) (hB : B ≤ w.heap.size) (hp : p.length ≤ 1048576) :
    Calls Try.prog 30 #[.slice A n c, .int .i64 m, .string (S p)] w (RecSays ss m p w) := by
  have hn := h.2.1
  have hlen := Lib.hid h.len
  have hg := groupValid_any A n c ss w B h
  have hw := within_any m 0 ((n : Int) - 1) w
  cases hgv : gvB ss with
  | false =>
    rw [hgv] at hg
    have hno : recOk ss m p = false := by simp [recOk, hgv]
    have Hno := Lib.hid hno
    have Hg := Lib.hid hg
    clear hgv hg hno hw
    go_enter Try.func30, Try.ntmps30
    go_wp2_with (go_at_call 20; refine Hg.out.mono ?_; rintro e w' ⟨rfl, rfl⟩)
    go_ret2
    exact rec_no Hno.out (Below.refl _ _)
  | true =>
    rw [hgv] at hg
    have Hg := Lib.hid hg
    clear hg
    cases hwv : withinB m 0 ((n : Int) - 1) with
    | false =>
      rw [hwv] at hw
      have hno : recOk ss m p = false := by simp [recOk, h.len, hwv]
      have Hno := Lib.hid hno
      have Hw := Lib.hid hw
      clear hw hwv hno hgv
      go_enter Try.func30, Try.ntmps30
      go_wp2_with (first | (go_at_call 20; refine Hg.out.mono ?_; rintro e w' ⟨rfl, rfl⟩) | (go_at_call 34; refine Hw.out.mono ?_; rintro e w' ⟨rfl, rfl⟩))
      go_ret2
      exact rec_no Hno.out (Below.refl _ _)
    | true =>
      rw [hwv] at hw
      have Hw := Lib.hid hw
      have hm0 : 0 ≤ m ∧ m ≤ (n : Int) - 1 := by simpa [withinB] using hwv
      obtain ⟨mm, rfl⟩ : ∃ mm : Nat, m = (mm : Int) := ⟨m.toNat, by omega⟩
      have hmn : mm < n := by omega
      cases p with
      | nil =>
        have hno : recOk ss mm [] = false := by simp [recOk]
        have Hno := Lib.hid hno
        clear hw hwv hno hgv hm0
        go_enter Try.func30, Try.ntmps30
        go_wp2_with (first | (go_at_call 20; refine Hg.out.mono ?_; rintro e w' ⟨rfl, rfl⟩) | (go_at_call 34; refine Hw.out.mono ?_; rintro e w' ⟨rfl, rfl⟩))
        go_ret2
        exact rec_no Hno.out (Below.refl _ _)
      | cons b0 pt =>
        obtain ⟨p, hpp⟩ : ∃ p, p = b0 :: pt := ⟨_, rfl⟩
        have hpl : p.length = pt.length + 1 := by rw [hpp]; rfl
        have Hpp := Lib.hid hpp
        have hgv' := Lib.hid hgv
        have hwv' := Lib.hid hwv
        have kb := fun W s => run_bytes_of_string (P := Try.prog) W 9 28 5 s Try.underlying9 Try.underlying28 Try.underlying5
        clear hw hwv hgv hm0 hpp
        go_enter Try.func30, Try.ntmps30
        go_wp2_with (first | (go_at_call 20; refine Hg.out.mono ?_; rintro e w' ⟨rfl, rfl⟩) | (go_at_call 34; refine Hw.out.mono ?_; rintro e w' ⟨rfl, rfl⟩))
        obtain ⟨cap, hcap⟩ : ∃ cap, cap = grownCap w (pt.length + 1) 0 5 := ⟨_, rfl⟩
        have hcg : pt.length + 1 ≤ cap := by rw [hcap]; exact grownCap_ge _ _ _ _
        have hst := rec_start w (b0 :: pt) ss mm cap (by simpa using hcg)
        obtain ⟨g, hg⟩ : ∃ g, g = w.heap.size := ⟨_, rfl⟩
        rw [← hcap, ← hg]
        rw [← hg] at hst
        have Hg1 := Lib.hid hg
        clear hcap hg kb
        go_loopg [33] n (fun m i wr => ∃ k : Nat, k + m = n ∧ i = .int .i64 k ∧ Below g w wr ∧ RecRow wr g cap (b0 :: pt) ss mm k 0)
        case atStart => exact ⟨0, by omega, rfl, by rw [Hg1.out]; exact ((Below.refl _ _).alloc (Nat.le_refl _) _).drew, hst⟩
        case round =>
          clear hst
          obtain ⟨k, hk, rfl, hbr, hor⟩ := hrel
          by_cases hlt : k < n
          · obtain ⟨b, o, u, rfl, hb, hu, hus, hc⟩ := (h.below hbr (by rw [Hg1.out]; exact hB)).at_ hlt
            have hu12 : u.length ≤ 12 := gvB_short hgv'.out u (List.mem_of_getElem? hu)
            have hu' := Lib.hid hu
            clear hu
            by_cases hkm : (k : Int) = (mm : Int)
            · have hkb : ((k : Int) == (mm : Int)) = true := by simpa using hkm
              have Hkm := Lib.hid hkm
              clear hkm
              go_wp2
              go_roundg (n - (k + 1))
              case measure => omega
              case rel => exact ⟨k + 1, by omega, by go_num, hbr, hor.skip hu'.out Hkm.out⟩
            · have hkb : ((k : Int) == (mm : Int)) = false := by simpa using hkm
              have Hkm := Lib.hid hkm
              clear hkm
              obtain ⟨x, hx⟩ : ∃ x, x = cv (b0 :: pt) ss mm k 0 0 := ⟨_, rfl⟩
              have hcell : wr.cell? ⟨g, 0, none⟩ = some (.int .u8 x) := by rw [hor.cell (by simp), hx]
              have hxb : 0 ≤ x ∧ x < 256 := by rw [hx]; exact cv_bd
              have hfr : wr.frozen? ⟨g, 0, none⟩ = false := hor.frozen (by simp)
              have hst0 := hor.set_ hu'.out (by simp) hx
              rw [show ((byteAt u 0 : Nat) : Int) = (u.length : Int) from by simp [byteAt]] at hst0
              have hb0 : Below g w (wr.setCell ⟨g, 0, none⟩ (.int .u8 ((x - (u.length : Int)) % 256))) := hbr.setCell (p := ⟨g, 0, none⟩) (Nat.le_refl _) _
              obtain ⟨hx0, hx1⟩ := hxb
              clear hx
              obtain ⟨w0, rfl⟩ : ∃ w0 : World, w0 = wr := ⟨_, rfl⟩
              go_wp2
              generalize w0.setCell ⟨g, 0, none⟩ (.int .u8 ((x - (u.length : Int)) % 256)) = w2 at hst0 hb0 ⊢
              clear hfr hcell hor hbr hc
              go_loopg [11] u.length (fun m i wr => ∃ j : Nat, j + m = u.length ∧ j ≤ pt.length ∧ i = .int .i64 j ∧ Below g w wr ∧ RecRow wr g cap (b0 :: pt) ss mm k (j + 1))
              case atStart => exact ⟨0, by omega, by omega, rfl, hb0, hst0⟩
              case round =>
                clear hst0 hb0
                obtain ⟨j, hj, hjp, rfl, hbj, hoj⟩ := hrel
                by_cases hjl : j < u.length
                · by_cases hjq : j < pt.length
                  · obtain ⟨y, hy⟩ : ∃ y, y = cv (b0 :: pt) ss mm k (j + 1) (j + 1) := ⟨_, rfl⟩
                    have hcell : wr.cell? ⟨g, j + 1, none⟩ = some (.int .u8 y) := by rw [hoj.cell (by simp; omega), hy]
                    have hyb : 0 ≤ y ∧ y < 256 := by rw [hy]; exact cv_bd
                    have hfr : wr.frozen? ⟨g, j + 1, none⟩ = false := hoj.frozen (by simp; omega)
                    have hst1 := hoj.set_ hu'.out (by simp; omega) hy
                    rw [show ((byteAt u (j + 1) : Nat) : Int) = (u[j].toNat : Int) from by simp [byteAt, hjl]] at hst1
                    have Hst1 := Lib.hid hst1
                    have hz256 := UInt8.toNat_lt u[j]
                    obtain ⟨hy0, hy1⟩ := hyb
                    clear hy hst1
                    go_wp2_with fail
                    go_region
                    go_wp2
                    go_roundg (u.length - (j + 1))
                    case measure => omega
                    case rel => exact ⟨j + 1, by omega, by omega, by go_num, (hbj.setCell (p := ⟨g, j + 1, none⟩) (Nat.le_refl _) _).drew, Hst1.out.drew⟩
                  · have hnx := hoj.next hu'.out Hkm.out (by simp; omega)
                    have Hnx := Lib.hid hnx
                    clear hnx hoj
                    go_wp2
                    go_roundg (n - (k + 1))
                    case measure => omega
                    case rel => exact ⟨k + 1, by omega, by go_num, hbj, Hnx.out⟩
                · have hnx := hoj.next hu'.out Hkm.out (by simp; omega)
                  have Hnx := Lib.hid hnx
                  clear hnx hoj
                  go_wp2
                  go_roundg (n - (k + 1))
                  case measure => omega
                  case rel => exact ⟨k + 1, by omega, by go_num, hbj, Hnx.out⟩
          · have hkn : k = n := by omega
            subst hkn
            obtain ⟨D, hD⟩ : ∃ D, D = (dat ss mm (b0 :: pt) 0).toNat := ⟨_, rfl⟩
            have hcell : wr.cell? ⟨g, 0, none⟩ = some (.int .u8 (D : Int)) := by
              have := cv_dat (b0 :: pt) ss mm 0 (by rw [hlen.out]; omega)
              rw [hlen.out] at this
              rw [hor.cell (by simp), this, hD]
            have hD256 : D < 256 := by rw [hD]; exact UInt8.toNat_lt _
            have HD := Lib.hid hD
            have hbr' : Below w.heap.size w wr := by rw [← Hg1.out]; exact hbr
            clear hD hlt
            by_cases hD12 : D ≤ 12
            · by_cases hDp : D ≤ pt.length
              · have hsw := h.below hbr (by rw [Hg1.out]; exact hB)
                go_wp2_with fail
                refine (clone_any A k c ss wr B hsw (by have := hbr'.size; omega) (by omega)).mono ?_
                rintro e w5 ⟨gc, c', rfl, hcc, hb5, hown5⟩
                have hrow5 := hor.below (hb5.mono hor.lt)
                have hgc := (hown5.lt gc rfl).1
                have hkc := rec_conv (P := Try.prog) 28 5 9 Try.underlying28 Try.underlying5 Try.underlying9 hrow5 hlen.out hmn HD.out (by simp; omega) (cap - 1)
                have hpay : (payl ss mm (b0 :: pt)).length ≤ 12 := by simp [payl, ← HD.out, hD12]
                have Hpay := Lib.hid hpay
                have hok : recOk ss mm (b0 :: pt) = (pm (ss.set mm (payl ss mm (b0 :: pt))) == (b0 :: pt)) := by
                  have h1 := hgv'.out
                  have h2 := hwv'.out
                  have h3 : (dat ss mm (b0 :: pt) 0).toNat ≤ 12 := by rw [← HD.out]; exact hD12
                  have h4 : (dat ss mm (b0 :: pt) 0).toNat + 1 ≤ (b0 :: pt).length := by rw [← HD.out]; simp; omega
                  simp only [recOk, Int.toNat_natCast, hlen.out, h1, h2, h3, h4, decide_true, Bool.and_true, Bool.true_and, List.isEmpty_cons, Bool.not_false]
                have Hok := Lib.hid hok
                have hcap1 : ¬ cap = 1 ∨ D = 0 := by omega
                obtain ⟨q, hq⟩ : ∃ q, q = payl ss mm (b0 :: pt) := ⟨_, rfl⟩
                rw [← hq] at hkc
                have Hq := Lib.hid hq
                have hbA := hbr'.trans (hb5.mono hbr'.size)
                clear hq hpay hok hcell hsw hor hbr hb5
                obtain ⟨x, hx⟩ : ∃ x, w5.cell? ⟨gc, mm, none⟩ = some x := by
                  rw [hown5.cellAt mm (by omega)]
                  exact ⟨_, List.getElem?_eq_getElem (by have := hown5.1; omega)⟩
                have hfr : w5.frozen? ⟨gc, mm, none⟩ = false := hown5.frozenAt mm
                by_cases hc1 : cap = 1
                · obtain rfl : D = 0 := by omega
                  have hq0 : q = [] := by rw [Hq.out, payl, ← HD.out]; rfl
                  have hk0 := run_convert_bytes_arg (P := Try.prog) w5 28 5 Try.underlying28 Try.underlying5 g 0 0 0 [] rfl (fun i hi => absurd hi (by omega)) 9 Try.underlying9
                  rw [show strOfNums [] = S q from by rw [hq0]; rfl] at hk0
                  clear hq0
                  subst hc1
                  clear hkc
                  have hkc := True.intro
                  go_wp2_with fail
                  have hst := (hown5.stored mm (.string (S q))).1
                  rw [strV_set] at hst
                  have hs6 := strs_of_own hst hn (fun s hs => by
                    rcases List.mem_or_eq_of_mem_set hs with hs | rfl
                    · exact h.2.2 s hs
                    · rw [Hq.out]; have := Hpay.out; omega)
                  have hgw : w.heap.size ≤ gc := by have := hbr'.size; omega
                  have hbB := hbA.setCell (p := ⟨gc, mm, none⟩) hgw (.string (S q))
                  have hcl : (w5.setCell ⟨gc, mm, none⟩ (.string (S q))).cell? ⟨gc, mm, none⟩ = some (.string (S q)) := by
                    rw [hst.cellAt mm (by omega), strV, List.getElem?_map, List.getElem?_set_self (by rw [hlen.out]; omega)]
                    rfl
                  have hlt5 : gc < (w5.setCell ⟨gc, mm, none⟩ (.string (S q))).heap.size := (hst.lt gc rfl).2
                  generalize w5.setCell ⟨gc, mm, none⟩ (.string (S q)) = w6 at hst hs6 hbB hcl hlt5 ⊢
                  clear hst hown5 hrow5 hkc hfr hx hbA
                  refine (parityMake_any _ _ _ (ss.set mm q) w6 _ hs6 (Nat.le_refl _)).mono ?_
                  rintro e w7 ⟨rfl, hb7⟩
                  have hcl7 : w7.cell? ⟨gc, mm, none⟩ = some (.string (S q)) := (hb7.cell (p := ⟨gc, mm, none⟩) hlt5).trans hcl
                  have hbC := hbB.trans (hb7.mono hbB.size)
                  have hok2 : recOk ss mm (b0 :: pt) = (pm (ss.set mm q) == (b0 :: pt)) := by rw [Hq.out]; exact Hok.out
                  have Hok2 := Lib.hid hok2
                  clear hok2 hs6 hbB hb7 hcl hlt5
                  generalize pm (ss.set mm q) = z at Hok2 ⊢
                  by_cases hz : z = b0 :: pt
                  · subst hz
                    have hyes : recOk ss mm (b0 :: pt) = true := by rw [Hok2.out]; simp
                    have Hyes := Lib.hid hyes
                    clear hyes
                    go_wp2
                    go_ret2
                    have hr := rec_yes Hyes.out hbC
                    rw [Int.toNat_natCast, ← Hq.out] at hr
                    exact hr
                  · have hzb : (z == b0 :: pt) = false := by simpa using hz
                    have hno : recOk ss mm (b0 :: pt) = false := by rw [Hok2.out, hzb]
                    have Hno := Lib.hid hno
                    clear hno hz
                    go_wp2
                    go_ret2
                    exact rec_no Hno.out hbC
                · go_wp2_with fail
                  have hst := (hown5.stored mm (.string (S q))).1
                  rw [strV_set] at hst
                  have hs6 := strs_of_own hst hn (fun s hs => by
                    rcases List.mem_or_eq_of_mem_set hs with hs | rfl
                    · exact h.2.2 s hs
                    · rw [Hq.out]; have := Hpay.out; omega)
                  have hgw : w.heap.size ≤ gc := by have := hbr'.size; omega
                  have hbB := hbA.setCell (p := ⟨gc, mm, none⟩) hgw (.string (S q))
                  have hcl : (w5.setCell ⟨gc, mm, none⟩ (.string (S q))).cell? ⟨gc, mm, none⟩ = some (.string (S q)) := by
                    rw [hst.cellAt mm (by omega), strV, List.getElem?_map, List.getElem?_set_self (by rw [hlen.out]; omega)]
                    rfl
                  have hlt5 : gc < (w5.setCell ⟨gc, mm, none⟩ (.string (S q))).heap.size := (hst.lt gc rfl).2
                  generalize w5.setCell ⟨gc, mm, none⟩ (.string (S q)) = w6 at hst hs6 hbB hcl hlt5 ⊢
                  clear hst hown5 hrow5 hkc hfr hx hbA
                  refine (parityMake_any _ _ _ (ss.set mm q) w6 _ hs6 (Nat.le_refl _)).mono ?_
                  rintro e w7 ⟨rfl, hb7⟩
                  have hcl7 : w7.cell? ⟨gc, mm, none⟩ = some (.string (S q)) := (hb7.cell (p := ⟨gc, mm, none⟩) hlt5).trans hcl
                  have hbC := hbB.trans (hb7.mono hbB.size)
                  have hok2 : recOk ss mm (b0 :: pt) = (pm (ss.set mm q) == (b0 :: pt)) := by rw [Hq.out]; exact Hok.out
                  have Hok2 := Lib.hid hok2
                  clear hok2 hs6 hbB hb7 hcl hlt5
                  generalize pm (ss.set mm q) = z at Hok2 ⊢
                  by_cases hz : z = b0 :: pt
                  · subst hz
                    have hyes : recOk ss mm (b0 :: pt) = true := by rw [Hok2.out]; simp
                    have Hyes := Lib.hid hyes
                    clear hyes
                    go_wp2
                    go_ret2
                    have hr := rec_yes Hyes.out hbC
                    rw [Int.toNat_natCast, ← Hq.out] at hr
                    exact hr
                  · have hzb : (z == b0 :: pt) = false := by simpa using hz
                    have hno : recOk ss mm (b0 :: pt) = false := by rw [Hok2.out, hzb]
                    have Hno := Lib.hid hno
                    clear hno hz
                    go_wp2
                    go_ret2
                    exact rec_no Hno.out hbC
              · have hno : recOk ss mm (b0 :: pt) = false := by
                  have : ¬ ((dat ss mm (b0 :: pt) 0).toNat + 1 ≤ (b0 :: pt).length) := by rw [← HD.out]; simp; omega
                  simp only [recOk, Int.toNat_natCast, this, decide_false, Bool.and_false, Bool.false_and]
                have Hno := Lib.hid hno
                clear hno
                go_wp2
                go_ret2
                exact rec_no Hno.out hbr'
            · have hno : recOk ss mm (b0 :: pt) = false := by
                have : ¬ ((dat ss mm (b0 :: pt) 0).toNat ≤ 12) := by rw [← HD.out]; omega
                simp only [recOk, Int.toNat_natCast, this, decide_false, Bool.and_false, Bool.false_and]
              have Hno := Lib.hid hno
              clear hno
              go_wp2
              go_ret2
              exact rec_no Hno.out hbr'
end Go.Proofs.Ytjplhmgfhiaenaa
