/- The contracts of ScheduleOrder and ScheduleTwice, of the program and of the reference. Condition: the slice reads as a list of options. -/
import Derived.Test.YtjnplihkagegdaaSchD
namespace Go.Proofs.Ytjnplihkagegdaa
open Go.RowKit

def toI (L : List Nat) : List Int := L.map fun (x : Nat) => (x : Int)
theorem toI_len (L : List Nat) : (toI L).length = L.length := by simp [toI]
def ordI (l : List Opt) : List Int := if ovB l then toI (order l) else []
theorem filt_succ (l : List Opt) (k : Nat) : foldI l ((List.range (k + 1)).filter fun i => (l.getD i default).openB) = stepI l (foldI l ((List.range k).filter fun i => (l.getD i default).openB)) k := by
  rw [List.range_succ, List.filter_append]
  unfold stepI
  by_cases h : (l.getD k default).openB = true
  · simp only [List.filter_cons, h, if_true, List.filter_nil]
    rw [foldI_snoc]
  · rw [if_neg h]
    simp only [List.filter_cons, h, List.filter_nil, List.append_nil, Bool.false_eq_true, if_false]
theorem filt_order (l : List Opt) (k : Nat) : foldI l ((List.range k).filter fun i => (l.getD i default).openB) = orderTo l k := by
  induction k with
  | zero => rfl
  | succ k ih => rw [filt_succ, ih, orderTo_succ]
def openTo (l : List Opt) (k : Nat) : List Nat := (List.range k).filter fun i => (l.getD i default).openB
theorem openTo_yes {l : List Opt} {k : Nat} {u : Opt} (hu : l[k]? = some u) (h : u.openB = true) : openTo l (k + 1) = openTo l k ++ [k] := by
  unfold openTo
  rw [List.range_succ, List.filter_append]
  have : (l.getD k default).openB = true := by rw [getD_of hu, h]
  simp only [List.filter_cons, this, if_true, List.filter_nil]
theorem openTo_no {l : List Opt} {k : Nat} {u : Opt} (hu : l[k]? = some u) (h : u.openB = false) : openTo l (k + 1) = openTo l k := by
  unfold openTo
  rw [List.range_succ, List.filter_append]
  have : (l.getD k default).openB = false := by rw [getD_of hu, h]
  simp only [List.filter_cons, this, List.filter_nil, Bool.false_eq_true, if_false, List.append_nil]
theorem openTo_lt (l : List Opt) (k : Nat) : ∀ x ∈ openTo l k, x < k := fun x hx => by
  simp only [openTo, List.mem_filter, List.mem_range] at hx
  exact hx.1
theorem openTo_len (l : List Opt) (k : Nat) : (openTo l k).length ≤ k := by
  have := List.length_filter_le (fun i => (l.getD i default).openB) (List.range k)
  simpa [openTo] using this

theorem insertion_nil (f : Value) (w : World) :
    Calls Try.prog 37 #[.slice none 0 0, .int .i64 0, .int .i64 0, f] w fun e w' => e = .returned (.tuple #[]) ∧ w = w' := by
  go_enter Try.func37, Try.ntmps37
  go_wp2
  go_loop [8] (fun a => a = .int .i64 1) (fun _ => 0)
  case atStart => rfl
  case round =>
    obtain rfl := hrel
    go_wp2
    go_end0
    exact ⟨rfl, rfl⟩
theorem stable_nil (f : Value) (w : World) :
    Calls Try.prog 36 #[.slice none 0 0, .int .i64 0, f] w fun e w' => e = .returned (.tuple #[]) ∧ w = w' := by
  go_enter Try.func36, Try.ntmps36
  go_wp2
  go_loop [7, 8] (fun a b => a = .int .i64 0 ∧ b = .int .i64 20) (fun _ _ => 0)
  case atStart => exact ⟨rfl, rfl⟩
  case round =>
    obtain ⟨rfl, rfl⟩ := hrel
    go_wp2_with fail
    refine (insertion_nil _ _).mono ?_
    rintro e w' ⟨rfl, rfl⟩
    go_wp2
    go_loop [6] (fun a => a = .int .i64 20) (fun _ => 0)
    case atStart => rfl
    case round =>
      obtain rfl := hrel
      go_wp2
      go_end0
      exact ⟨rfl, rfl⟩
theorem sortStable_nil (f : Value) (w : World) :
    Calls Try.prog 32 #[.slice none 0 0, f] w fun e w' => e = .returned (.tuple #[]) ∧ w = w' := by
  go_enter Try.func32, Try.ntmps32
  go_wp2_with fail
  refine (stable_nil _ _).mono ?_
  rintro e w' ⟨rfl, rfl⟩
  go_wp2
  go_end0
  exact ⟨rfl, rfl⟩

/-- A result: a new slice of integers. -/
def NewInts (L : List Int) (w : World) (e : Ending) (w' : World) : Prop := ∃ A n c, e = .returned (.slice A n c) ∧ Below w.heap.size w w' ∧ IntsO w' w.heap.size A n c L ∧ (A = none → c = 0)
theorem IntsO.nil_ (w : World) (base : Nat) : IntsO w base none 0 0 [] := ⟨rfl, Nat.le_refl _, Nat.zero_le _, fun h => absurd h (by omega)⟩
theorem IntsO.low {w : World} {base base' n c : Nat} {A : Option Addr} {L : List Int} (h : IntsO w base A n c L) (hb : base' ≤ base) : IntsO w base' A n c L :=
  ⟨h.1, h.2.1, h.2.2.1, fun hn => by obtain ⟨b, o, cur, e, hb', r⟩ := h.2.2.2 hn; exact ⟨b, o, cur, e, by omega, r⟩⟩
theorem ownI {w : World} {base m c n : Nat} {A : Option Addr} {L : List Nat} (h : w.ownsRow base 3 1 (.slice A m c) n (intV L)) : IntsO w base A m c (toI L) := by
  rw [intV_iV] at h
  have := IntsO.of_own h
  obtain ⟨h1, h2⟩ := this
  subst h2
  exact h1

set_option maxHeartbeats 400000 in
theorem sScheduleOrder_any (A : Option Addr) (n c : Nat) (l : List Opt) (w : World) (B : Nat) (h : Opts 1048576 w B A n l) (hB : B ≤ w.heap.size) :
    Calls Try.prog 14 #[.slice A n c] w (NewInts (ordI l) w) := by
  have hov := Lib.hid (sOptionsValid_any A n c l w B h hB)
  have hlen := Lib.hid h.len
  cases hv : ovB l with
  | false =>
    have Hv := Lib.hid hv
    clear hv
    go_enter Try.func14, Try.ntmps14
    go_wp2_with fail
    refine hov.out.mono ?_
    rintro e w1 ⟨rfl, hb⟩
    rw [Hv.out]
    have Hb := Lib.hid (hb.alloc hb.size (.cells #[] 3))
    clear hb hov
    go_wp2
    go_ret
    exact ⟨_, _, _, rfl, Hb.out, by rw [ordI, if_neg (by rw [Hv.out]; simp)]; exact ⟨rfl, Nat.le_refl _, by simp, fun hn => absurd hn (by omega)⟩, fun hh => by cases hh⟩
  | true =>
    have Hv := Lib.hid hv
    have hn4 : n ≤ 4 := by rw [← hlen.out]; exact len_of_ok hv
    clear hv
    go_enter Try.func14, Try.ntmps14
    go_wp2_with fail
    refine hov.out.mono ?_
    rintro e w1 ⟨rfl, hb⟩
    rw [Hv.out]
    have hs := hb.size
    have hO := Lib.hid (l43Order_any A n c l w1 B (h.below hb hB) (by omega) hn4)
    clear hov
    go_wp2_with fail
    refine hO.out.mono ?_
    rintro e w2 ⟨g, c', rfl, hc, hb2, hown⟩
    have Hres : Hid (NewInts (ordI l) w (.returned (.slice (some ⟨g, 0, none⟩) (order l).length c')) w2) :=
      ⟨_, _, _, rfl, chain hb hb2, by rw [ordI, if_pos Hv.out]; exact (ownI hown).low hs, fun hh => by cases hh⟩
    clear hO hb hb2 hown
    go_wp2
    go_ret
    exact Hres.out

set_option maxHeartbeats 1000000 in
theorem scheduleOrder_any (A : Option Addr) (n c : Nat) (l : List Opt) (w : World) (B : Nat) (h : Opts 1048576 w B A n l) (hB : B ≤ w.heap.size) :
    Calls Try.prog 16 #[.slice A n c] w (NewInts (ordI l) w) := by
  have hlen := Lib.hid h.len
  obtain ⟨i0, hi, hz0, hz1, hz2⟩ := info_parts infoInt
  have hb0 : Below w.heap.size w (w.alloc (.cells #[.slice A n c] 23)) := alloc_below w _
  have hov := Lib.hid (optionsValid_any A n c l (w.alloc (.cells #[.slice A n c] 23)) B (h.below hb0 hB) (by simp; omega))
  have hbx0 : (w.alloc (.cells #[.slice A n c] 23)).cell? ⟨w.heap.size, 0, none⟩ = some (.slice A n c) := by simp [World.cell?_alloc_new]
  have Hbx := Lib.hid hbx0
  clear hbx0
  cases hv : ovB l with
  | false =>
    have Hv := Lib.hid hv
    clear hv
    go_enter Try.func16, Try.ntmps16
    go_wp2_with fail
    refine hov.out.mono ?_
    rintro e w1 ⟨rfl, hb⟩
    rw [Hv.out]
    have Hb := Lib.hid (hb0.trans (hb.mono (by simp)))
    clear hb hov hb0
    go_wp2
    go_ret
    exact ⟨_, _, _, rfl, Hb.out, by rw [ordI, if_neg (by rw [Hv.out]; simp)]; exact IntsO.nil_ _ _, fun _ => rfl⟩
  | true =>
    have Hv := Lib.hid hv
    have hn4 : n ≤ 4 := by rw [← hlen.out]; exact len_of_ok hv
    clear hv
    go_enter Try.func16, Try.ntmps16
    go_wp2_with fail
    refine hov.out.mono ?_
    rintro e w1 ⟨rfl, hb⟩
    rw [Hv.out]
    obtain ⟨bx, HBX⟩ : ∃ bx, Hid (bx = w.heap.size) := ⟨_, rfl⟩
    have hb1 : Below (bx + 1) (w.alloc (.cells #[.slice A n c] 23)) w1 := hb.mono (by rw [HBX.out]; simp)
    have hbase : bx + 1 ≤ w1.heap.size := by have := hb.size; rw [HBX.out]; simpa using this
    have hbx1 : w1.cell? ⟨bx, 0, none⟩ = some (.slice A n c) := by
      rw [hb1.cell (p := ⟨bx, 0, none⟩) (by show bx < bx + 1; omega), HBX.out]; exact Hbx.out
    have hb2 : Below bx w w1 := by rw [HBX.out]; exact hb0.trans (hb.mono (by simp))
    have hBb : B ≤ bx := by rw [HBX.out]; exact hB
    rw [← HBX.out]
    have HO := Lib.hid (h.below hb2 hBb)
    clear hov hb hb0 hb1
    go_wp2_with fail
    go_loopg [3, 11] n (fun m v i wr => ∃ k : Nat, k + m = n ∧ i = .int .i64 k ∧ Below (bx + 1) w1 wr ∧ wr.ownsRow (bx + 1) 3 1 v (openTo l k).length (intV (openTo l k)))
    case atStart => exact ⟨0, by omega, rfl, Below.refl _ _, World.ownsRow_nil _ _ _ _⟩
    case round =>
      obtain ⟨k, hk, rfl, hbr, hown⟩ := hrel
      have hszr := hbr.size
      by_cases hlt : k < n
      · obtain ⟨b, o, u, rfl, hb, hu, hbd, c0, c1, c2, c3⟩ := (HO.out.below hbr (by omega)).at_ hlt
        have hkl := openTo_len l k
        have hs1 := (hbr.alloc (show bx + 1 ≤ wr.heap.size by omega) (.cells #[.bool u.act, .int .i64 u.rtt, .int .i64 u.win, .int .i64 u.fl] 31))
        cases hopen : u.openB with
        | true =>
          have hyes := openTo_yes hu hopen
          have Hyes := Lib.hid hyes
          have ha : u.act = true := by simp [Opt.openB] at hopen; exact hopen.1
          have hf : u.fl < u.win := by simp [Opt.openB] at hopen; exact hopen.2
          rw [ha] at c0 hs1
          clear hu hyes hopen ha
          go_wp2_with (at_builtin; go_must (refine wpList_app1 _ rfl _ _ 26 rfl (bx + 1) 3 i0 (.int .i64 0) 8 Try.underlying26 hi hz0 hz1 hz2 rfl _ rfl _ _ _ (hown.alloc _) rfl (by rw [World.size_alloc]; rfl) (by unfold maxLen; omega) (by omega) ?hb ?_))
          case hb => simp; omega
          intro v' w' hown' hbl
          have hb' := hs1.trans (hbl.mono (by omega))
          have hl' : (openTo l (k + 1)).length = (openTo l k).length + 1 := by rw [Hyes.out]; simp
          have hv' : intV (openTo l (k + 1)) = intV (openTo l k) ++ [.int .i64 (k : Int)] := by rw [Hyes.out]; simp [intV]
          rw [← hl', ← hv'] at hown'
          have Hown' := Lib.hid hown'
          have Hb' := Lib.hid hb'
          clear hown' hb' hl' hv' hbl hs1 hown hbr c0 c1 c2 c3
          go_wp2
          go_roundg (n - (k + 1))
          case measure => omega
          case rel => exact ⟨k + 1, by omega, by go_num, Hb'.out, Hown'.out⟩
        | false =>
          have hno := openTo_no hu hopen
          have Hno := Lib.hid hno
          have hown2 := Lib.hid hown
          have Hs1 := Lib.hid hs1
          have hcase : u.act = false ∨ (u.act = true ∧ u.win ≤ u.fl) := by
            cases ha : u.act with
            | false => exact .inl rfl
            | true => right; simp [Opt.openB, ha] at hopen; exact ⟨rfl, hopen⟩
          clear hno hu hopen hown hs1
          rcases hcase with ha | ⟨ha, hf⟩
          · rw [ha] at c0 Hs1
            go_wp2
            go_roundg (n - (k + 1))
            case measure => omega
            case rel => exact ⟨k + 1, by omega, by go_num, Hs1.out, by rw [Hno.out]; exact hown2.out.alloc _⟩
          · rw [ha] at c0 Hs1
            go_wp2
            go_roundg (n - (k + 1))
            case measure => omega
            case rel => exact ⟨k + 1, by omega, by go_num, Hs1.out, by rw [Hno.out]; exact hown2.out.alloc _⟩
      · obtain rfl : k = n := by omega
        have hO2 := HO.out.below hbr (by omega)
        have hbx2 : wr.cell? ⟨bx, 0, none⟩ = some (.slice A k c) := (hbr.cell (p := ⟨bx, 0, none⟩) (by show bx < bx + 1; omega)).trans hbx1
        have hford : foldI l (openTo l k) = order l := by rw [openTo, filt_order, order, hlen.out]
        have hd := openTo_lt l k
        have hd4 := openTo_len l k
        have hfl := foldI_len l (openTo l k)
        rw [hford] at hfl
        have Hfl := Lib.hid hfl
        rcases hown.2 with ⟨rfl, h0⟩ | ⟨g, cap, cur, rfl, _⟩
        · have hnil : order l = [] := List.length_eq_zero_iff.1 (by rw [Hfl.out, h0])
          have Hb := Lib.hid (hb2.trans (hbr.mono (by omega)))
          have Hnil := Lib.hid hnil
          clear hfl h0 hford hnil hd hd4 hO2 hbx2 hown hbx1
          go_wp2_with fail
          refine (sortStable_nil _ _).mono ?_
          rintro e w' ⟨rfl, rfl⟩
          go_wp2
          go_ret
          exact ⟨_, _, _, rfl, by rw [← HBX.out]; exact Hb.out, by rw [ordI, if_pos Hv.out, Hnil.out]; exact IntsO.nil_ _ _, fun _ => rfl⟩
        · have H := Lib.hid (sortStable_any A k c l bx (openTo l k) g cap wr B hO2 hBb hbx2 Hv.out hd (by omega) hown)
          have Hford := Lib.hid hford
          have Hb := Lib.hid (hb2.trans (hbr.mono (by omega)))
          clear hfl hford hd hO2 hbx2 hown hbx1
          go_wp2_with fail
          refine H.out.mono ?_
          rintro e w' ⟨rfl, hb', hr'⟩
          have Hres : Hid (NewInts (ordI l) w (.returned (.slice (some ⟨g, 0, none⟩) (openTo l k).length cap)) w') := by
            refine ⟨_, _, _, rfl, ?_, ?_, fun hh => by cases hh⟩
            · rw [← HBX.out]; exact Hb.out.trans (hb'.mono (by omega))
            · rw [ordI, if_pos Hv.out, ← HBX.out]
              rw [Hford.out] at hr'
              unfold RowI at hr'
              rw [Hfl.out] at hr'
              exact (ownI hr').low (by omega)
          clear H hb' hr'
          go_wp2
          go_ret
          exact Hres.out
end Go.Proofs.Ytjnplihkagegdaa
