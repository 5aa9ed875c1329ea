/- The contracts of the sort of the standard library as ScheduleOrder calls it, and of ScheduleOrder. Condition: the slice reads as a list of options. -/
import Derived.Test.YtjnplihkagegdaaSchB
import Derived.RegionTactic
namespace Go.Proofs.Ytjnplihkagegdaa
open Go.RowKit

theorem bd_of_ok {l : List Opt} (h : ovB l = true) {k : Nat} {u : Opt} (hu : l[k]? = some u) : 1 ≤ u.rtt ∧ u.rtt ≤ 99 ∧ 1 ≤ u.win ∧ u.win ≤ 64 ∧ 0 ≤ u.fl ∧ u.fl ≤ 64 := by
  simp only [ovB, Bool.and_eq_true, List.all_eq_true] at h
  have := h.1 u (List.mem_of_getElem? hu)
  simp [Opt.okB, withinB] at this
  omega
theorem len_of_ok {l : List Opt} (h : ovB l = true) : l.length ≤ 4 := by
  simp only [ovB, Bool.and_eq_true, decide_eq_true_eq] at h
  exact h.2

set_option maxHeartbeats 400000 in
theorem less_any (A : Option Addr) (n c : Nat) (l : List Opt) (bx : Nat) (i j : Nat) (w : World) (B : Nat) (h : Opts 1048576 w B A n l) (hbx : w.cell? ⟨bx, 0, none⟩ = some (.slice A n c)) (hok : ovB l = true) (hi : i < n) (hj : j < n) :
    Calls Try.prog 33 #[.int .i64 (i : Int), .int .i64 (j : Int), .pointer (some ⟨bx, 0, none⟩)] w fun e w' => e = .returned (.int .i64 (rttOf l i - rttOf l j)) ∧ ∃ m, w' = w.drewN m := by
  have hn := h.2.1
  obtain ⟨b, o, u, e1, hb, hu, hbd, -, c1, -, -⟩ := h.at_ hi
  obtain ⟨b2, o2, v, e2, hb2, hv, hvd, -, d1, -, -⟩ := h.at_ hj
  subst e1
  obtain ⟨rfl, rfl⟩ : b = b2 ∧ o = o2 := by simpa using e2
  have hub := bd_of_ok hok hu
  have hvb := bd_of_ok hok hv
  have Hu := Lib.hid (rtt_of hu)
  have Hv := Lib.hid (rtt_of hv)
  clear hu hv hbd hvd e2 hok h
  have q1 : (0 : Int) ≤ (i : Int) := by omega
  have q2 : (i : Int) < (n : Int) := by omega
  have q3 : (0 : Int) ≤ (j : Int) := by omega
  have q4 : (j : Int) < (n : Int) := by omega
  have r1 : IntKind.i64.wrap (u.rtt - v.rtt) = u.rtt - v.rtt := IntWalk.i64_in _ (by omega)
  go_enter Try.func33, Try.ntmps33
  go_wp2
  go_quiet (fail)
  go_wp2
  go_ret
  exact ⟨ret_int (by rw [Hu.out, Hv.out]), _, rfl⟩

theorem bd_rtt {M : Nat} {w : World} {B n : Nat} {A : Option Addr} {l : List Opt} (h : Opts M w B A n l) (hok : ovB l = true) {i : Nat} (hi : i < n) : 1 ≤ rttOf l i ∧ rttOf l i ≤ 99 := by
  obtain ⟨b, o, u, e1, hb, hu, hbd, -, c1, -, -⟩ := h.at_ hi
  rw [rtt_of hu]
  have := bd_of_ok hok hu
  omega
theorem swap_row {P R : List Nat} {x y : Nat} {j : Nat} (h0 : 0 < j) (hy : P[j - 1]? = some y) :
    ((P.take j ++ x :: P.drop j ++ R).set j y).set (j - 1) x = P.take (j - 1) ++ x :: P.drop (j - 1) ++ R := by
  have hl : j - 1 < P.length := (List.getElem?_eq_some_iff.1 hy).1
  have e1 : P.take j = P.take (j - 1) ++ [y] := by
    have := List.take_succ_eq_append_getElem hl
    rw [show j - 1 + 1 = j by omega] at this
    rw [this, (List.getElem?_eq_some_iff.1 hy).2]
  have e2 : P.drop (j - 1) = y :: P.drop j := by
    rw [List.drop_eq_getElem_cons hl, (List.getElem?_eq_some_iff.1 hy).2, show j - 1 + 1 = j by omega]
  have hlen : (P.take (j - 1)).length = j - 1 := by rw [List.length_take]; omega
  rw [e1, e2]
  simp only [List.append_assoc, List.cons_append, List.nil_append]
  rw [List.set_append_right _ _ (by omega), hlen, show j - (j - 1) = 1 by omega, List.set_append_right _ _ (by omega), hlen, Nat.sub_self]
  rfl
theorem mid_at {P R : List Nat} {x : Nat} {j : Nat} (h : j ≤ P.length) : (P.take j ++ x :: P.drop j ++ R)[j]? = some x := by
  have hlen : (P.take j).length = j := by rw [List.length_take]; omega
  rw [List.append_assoc, List.getElem?_append_right (by omega), hlen, Nat.sub_self]; rfl
theorem mid_before {P R : List Nat} {x : Nat} {j : Nat} (h : j ≤ P.length) (h0 : 0 < j) : (P.take j ++ x :: P.drop j ++ R)[j - 1]? = P[j - 1]? := by
  have hlen : (P.take j).length = j := by rw [List.length_take]; omega
  rw [List.append_assoc, List.getElem?_append_left (by omega), List.getElem?_take, if_pos (by omega)]
theorem intV_set (L : List Nat) (j y : Nat) : (intV L).set j (.int .i64 (y : Int)) = intV (L.set j y) := by simp [intV, List.map_set]
theorem intV_at {L : List Nat} {j y : Nat} (h : L[j]? = some y) : (intV L)[j]? = some (.int .i64 (y : Int)) := by simp [intV, h]
def foldI (l : List Opt) (D : List Nat) : List Nat := D.foldl (insI l) []
theorem foldI_len (l : List Opt) (D : List Nat) : (foldI l D).length = D.length := by
  have : ∀ (D o : List Nat), (D.foldl (insI l) o).length = o.length + D.length := by
    intro D
    induction D with
    | nil => intro o; rfl
    | cons x xs ih => intro o; rw [List.foldl_cons, ih, insI_len, List.length_cons]; omega
  simpa [foldI] using this D []
theorem foldI_snoc (l : List Opt) (D : List Nat) (x : Nat) : foldI l (D ++ [x]) = insI l (foldI l D) x := by simp [foldI]
theorem foldI_lt (l : List Opt) (D : List Nat) (n : Nat) (h : ∀ x ∈ D, x < n) : ∀ x ∈ foldI l D, x < n := by
  have : ∀ (D o : List Nat), (∀ x ∈ D, x < n) → (∀ x ∈ o, x < n) → ∀ x ∈ D.foldl (insI l) o, x < n := by
    intro D
    induction D with
    | nil => intro o _ ho; exact ho
    | cons y ys ih => intro o hd ho; exact ih _ (fun x hx => hd x (List.mem_cons_of_mem _ hx)) (insI_lt l o y n ho (hd y List.mem_cons_self))
  exact this D [] h (by simp)

def RowI (w : World) (base g cap : Nat) (D : List Nat) : Prop := w.ownsRow base 3 1 (.slice (some ⟨g, 0, none⟩) D.length cap) D.length (intV D)
theorem RowI.at_ {w : World} {base g cap j y : Nat} {D : List Nat} (h : RowI w base g cap D) (hy : D[j]? = some y) : w.cell? ⟨g, j, none⟩ = some (.int .i64 (y : Int)) := by
  have := h.cellAt j (by have := (List.getElem?_eq_some_iff.1 hy).1; omega)
  rw [this]; exact intV_at hy
theorem RowI.fr {w : World} {base g cap : Nat} {D : List Nat} (h : RowI w base g cap D) (j : Nat) : w.frozen? ⟨g, j, none⟩ = false := h.frozenAt j
theorem RowI.set {w : World} {base g cap : Nat} {D : List Nat} (h : RowI w base g cap D) (j y : Nat) : RowI (w.setCell ⟨g, j, none⟩ (.int .i64 (y : Int))) base g cap (D.set j y) := by
  have := (World.ownsRow.stored h j (.int .i64 (y : Int))).1
  rw [intV_set] at this
  unfold RowI
  rw [List.length_set]
  exact this
theorem RowI.base {w : World} {base g cap : Nat} {D : List Nat} (h : RowI w base g cap D) : base ≤ g ∧ g < w.heap.size := h.lt g rfl

set_option maxHeartbeats 1000000 in
theorem insertion_any (A : Option Addr) (n c : Nat) (l : List Opt) (bx : Nat) (D : List Nat) (g cap : Nat) (w : World) (B : Nat) (h : Opts 1048576 w B A n l) (hB : B ≤ bx) (hbx : w.cell? ⟨bx, 0, none⟩ = some (.slice A n c)) (hok : ovB l = true)
    (hD : ∀ x ∈ D, x < n) (hd4 : D.length ≤ 4) (hrow : RowI w (bx + 1) g cap D) :
    Calls Try.prog 37 #[.slice (some ⟨g, 0, none⟩) D.length cap, .int .i64 0, .int .i64 (D.length : Int), .func (.func 33) #[] #[.pointer (some ⟨bx, 0, none⟩)]] w
      fun e w' => e = .returned (.tuple #[]) ∧ Below (bx + 1) w w' ∧ RowI w' (bx + 1) g cap (foldI l D) := by
  have hcap := row_cap hrow
  have hcap2 := row_le hrow
  unfold maxLen at hcap
  have hn := h.2.1
  have Hok := Lib.hid hok
  clear hok
  have HD := Lib.hid hD
  clear hD
  have hg := hrow.base.1
  go_enter Try.func37, Try.ntmps37
  go_wp2
  go_loopg [8] D.length (fun m i wr => ∃ k : Nat, 1 ≤ k ∧ k + m = D.length + 1 ∧ i = .int .i64 k ∧ Below (bx + 1) w wr ∧ RowI wr (bx + 1) g cap (foldI l (D.take k) ++ D.drop k))
  case atStart =>
    refine ⟨1, Nat.le_refl _, by omega, rfl, Below.refl _ _, ?_⟩
    cases D with
    | nil => exact hrow
    | cons x xs => exact hrow
  case round =>
    obtain ⟨k, hk1, hk, rfl, hbr, hr⟩ := hrel
    by_cases hlt : k < D.length
    · obtain ⟨x, hx⟩ : ∃ x, D[k]? = some x := ⟨_, List.getElem?_eq_getElem hlt⟩
      have hdr : D.drop k = x :: D.drop (k + 1) := by rw [List.drop_eq_getElem_cons hlt, (List.getElem?_eq_some_iff.1 hx).2]
      have hxn : x < n := HD.out x (List.mem_of_getElem? hx)
      have hsn : D.take (k + 1) = D.take k ++ [x] := by rw [List.take_add_one, hx]; rfl
      obtain ⟨P, hP⟩ : ∃ P, P = foldI l (D.take k) := ⟨_, rfl⟩
      have hPl : P.length = k := by rw [hP, foldI_len, List.length_take]; omega
      have hPn : ∀ y ∈ P, y < n := by rw [hP]; exact foldI_lt l _ n fun y hy => HD.out y (List.mem_of_mem_take hy)
      have hnext : foldI l (D.take (k + 1)) = insI l P x := by rw [hsn, foldI_snoc, ← hP]
      obtain ⟨R, hR⟩ : ∃ R, R = D.drop (k + 1) := ⟨_, rfl⟩
      have hRl : R.length = D.length - (k + 1) := by rw [hR, List.length_drop]
      rw [← hP, hdr, ← hR] at hr
      have hr1 : RowI wr (bx + 1) g cap (P.take k ++ x :: P.drop k ++ R) := by
        rw [List.take_of_length_le (by omega), List.drop_eq_nil_of_le (by omega)]
        simpa using hr
      have hall : ∀ j, j ≤ k → (P.take j ++ x :: P.drop j ++ R).length = D.length := by intro j hj; simp; omega
      have Hall := Lib.hid hall
      have HPl := Lib.hid hPl
      have HPn := Lib.hid hPn
      have Hnext := Lib.hid hnext
      have HR := Lib.hid hR
      clear hall hPl hPn hnext hR hRl hP hdr hsn hx hr
      go_wp2_with fail
      go_loopg [9] k (fun m i wr => m ≤ k ∧ i = .int .i64 m ∧ Below (bx + 1) w wr ∧ RowI wr (bx + 1) g cap (P.take m ++ x :: P.drop m ++ R) ∧ Hid (posI l P x m = posI l P x k))
      case atStart => exact ⟨Nat.le_refl _, rfl, hbr, hr1, rfl⟩
      case round =>
        clear hbr hr1
        obtain ⟨j, rfl⟩ : ∃ j, j = gk := ⟨_, rfl⟩
        obtain ⟨hjk, rfl, hbj, hrj, Hpos⟩ := hrel
        by_cases h0 : 0 < j
        · obtain ⟨y, hy⟩ : ∃ y, P[j - 1]? = some y := ⟨_, List.getElem?_eq_getElem (by rw [HPl.out]; omega)⟩
          have hyn : y < n := HPn.out y (List.mem_of_getElem? hy)
          have hcx : wr.cell? ⟨g, j, none⟩ = some (.int .i64 (x : Int)) := hrj.at_ (mid_at (by rw [HPl.out]; omega))
          have hcy : wr.cell? ⟨g, j - 1, none⟩ = some (.int .i64 (y : Int)) := hrj.at_ ((mid_before (by rw [HPl.out]; omega) h0).trans hy)
          have hOj := h.below hbj (by omega)
          have hbj0 : wr.cell? ⟨bx, 0, none⟩ = some (.slice A n c) := (hbj.cell (p := ⟨bx, 0, none⟩) (by show bx < bx + 1; omega)).trans hbx
          have hrx := Lib.hid (bd_rtt h Hok.out hxn)
          have hry := Lib.hid (bd_rtt h Hok.out hyn)
          have hsw := swap_row (P := P) (R := R) (x := x) h0 hy
          have hposj := posI_eq l P x j
          rw [List.getD_eq_getElem?_getD, hy, Option.getD_some] at hposj
          have Hsw := Lib.hid hsw
          have Hposj := Lib.hid hposj
          have HO := Lib.hid hOj
          have q1 : (0 : Int) ≤ (j : Int) := by omega
          have q2 : (j : Int) < (D.length : Int) := by omega
          have q3 : (0 : Int) ≤ (j : Int) - 1 := by omega
          have q4 : (j : Int) - 1 < (D.length : Int) := by omega
          have q5 : IntKind.i64.wrap ((j : Int) - 1) = (j : Int) - 1 := IntWalk.i64_in _ (by omega)
          have q6 : ((j : Int) - 1).toNat = j - 1 := by omega
          clear hsw hposj hy hOj hbx
          by_cases hgt : rttOf l x < rttOf l y
          · go_wp2_with fail
            go_quiet ((go_at_call 33; exact Calls.quiet_of (less_any A n c l bx x y _ B HO.out hbj0 Hok.out hxn hyn)))
            go_wp2_with fail
            have f1 := hrj.fr j
            have f2 := hrj.fr (j - 1)
            have hrn : RowI (wr.drewN (nq + 1)) (bx + 1) g cap (P.take j ++ x :: P.drop j ++ R) := hrj
            have hset := (hrn.set j y).set (j - 1) x
            rw [Hsw.out] at hset
            have hbs : Below (bx + 1) w (((wr.drewN (nq + 1)).setCell ⟨g, j, none⟩ (.int .i64 (y : Int))).setCell ⟨g, j - 1, none⟩ (.int .i64 (x : Int))) := ((below_drewN hbj (nq + 1)).setCell (p := ⟨g, j, none⟩) hg _).setCell (p := ⟨g, j - 1, none⟩) hg _
            have Hset := Lib.hid hset
            have Hbs := Lib.hid hbs
            clear hset hbs hrn
            have Hpj : Hid (posI l P x (j - 1) = posI l P x k) := by
              have := Hpos.out
              rw [Hposj.out, if_pos ⟨h0, hgt⟩] at this
              exact this
            go_region
            go_wp2_with fail
            go_roundg (j - 1)
            case measure => omega
            case rel => exact ⟨by omega, by simp; omega, Hbs.out, Hset.out, Hpj.out⟩
          · go_wp2_with fail
            go_quiet ((go_at_call 33; exact Calls.quiet_of (less_any A n c l bx x y _ B HO.out hbj0 Hok.out hxn hyn)))
            go_wp2_with fail
            have hfin : foldI l (D.take (k + 1)) ++ D.drop (k + 1) = P.take j ++ x :: P.drop j ++ R := by
              rw [Hnext.out, ← HR.out, insI, HPl.out, ← Hpos.out, Hposj.out, if_neg (fun hh => by omega)]
            go_roundg (D.length - k)
            case measure => omega
            case rel => exact ⟨k + 1, by omega, by omega, by go_num, below_drewN hbj _, by rw [hfin]; exact hrj⟩
        · have hfin : foldI l (D.take (k + 1)) ++ D.drop (k + 1) = P.take j ++ x :: P.drop j ++ R := by
            rw [Hnext.out, ← HR.out, insI, HPl.out, ← Hpos.out, posI_eq l P x j, if_neg (fun hh => h0 hh.1)]
          have Hfin := Lib.hid hfin
          clear hfin
          go_wp2_with fail
          go_quiet (fail)
          go_wp2
          go_roundg (D.length - k)
          case measure => omega
          case rel => exact ⟨k + 1, by omega, by omega, by go_num, below_drewN hbj _, by rw [Hfin.out]; exact hrj⟩
    · have hfin : foldI l D = foldI l (D.take k) ++ D.drop k := by rw [List.take_of_length_le (by omega), List.drop_eq_nil_of_le (by omega), List.append_nil]
      have Hfin := Lib.hid hfin
      clear hfin
      go_wp2
      go_end0
      exact ⟨rfl, hbr, by rw [Hfin.out]; exact hr⟩

set_option maxHeartbeats 400000 in
theorem stable_any (A : Option Addr) (n c : Nat) (l : List Opt) (bx : Nat) (D : List Nat) (g cap : Nat) (w : World) (B : Nat) (h : Opts 1048576 w B A n l) (hB : B ≤ bx) (hbx : w.cell? ⟨bx, 0, none⟩ = some (.slice A n c)) (hok : ovB l = true)
    (hD : ∀ x ∈ D, x < n) (hd4 : D.length ≤ 4) (hrow : RowI w (bx + 1) g cap D) :
    Calls Try.prog 36 #[.slice (some ⟨g, 0, none⟩) D.length cap, .int .i64 (D.length : Int), .func (.func 33) #[] #[.pointer (some ⟨bx, 0, none⟩)]] w
      fun e w' => e = .returned (.tuple #[]) ∧ Below (bx + 1) w w' ∧ RowI w' (bx + 1) g cap (foldI l D) := by
  have H := Lib.hid (insertion_any A n c l bx D g cap w B h hB hbx hok hD hd4 hrow)
  clear h hbx hok hD hrow
  go_enter Try.func36, Try.ntmps36
  go_wp2
  go_loop [7, 8] (fun a b => a = .int .i64 0 ∧ b = .int .i64 20) (fun _ _ => 0)
  case atStart => exact ⟨rfl, rfl⟩
  case round =>
    obtain ⟨rfl, rfl⟩ := hrel
    go_wp2_with fail
    refine H.out.mono ?_
    rintro e w' ⟨rfl, hb, hr⟩
    have Hb := Lib.hid hb
    have Hr := Lib.hid hr
    clear hb hr
    go_wp2
    go_loop [6] (fun a => a = .int .i64 20) (fun _ => 0)
    case atStart => rfl
    case round =>
      obtain rfl := hrel
      go_wp2
      go_end0
      exact ⟨rfl, Hb.out, Hr.out⟩
theorem sortStable_any (A : Option Addr) (n c : Nat) (l : List Opt) (bx : Nat) (D : List Nat) (g cap : Nat) (w : World) (B : Nat) (h : Opts 1048576 w B A n l) (hB : B ≤ bx) (hbx : w.cell? ⟨bx, 0, none⟩ = some (.slice A n c)) (hok : ovB l = true)
    (hD : ∀ x ∈ D, x < n) (hd4 : D.length ≤ 4) (hrow : RowI w (bx + 1) g cap D) :
    Calls Try.prog 32 #[.slice (some ⟨g, 0, none⟩) D.length cap, .func (.func 33) #[] #[.pointer (some ⟨bx, 0, none⟩)]] w
      fun e w' => e = .returned (.tuple #[]) ∧ Below (bx + 1) w w' ∧ RowI w' (bx + 1) g cap (foldI l D) := by
  have H := Lib.hid (stable_any A n c l bx D g cap w B h hB hbx hok hD hd4 hrow)
  clear h hbx hok hD hrow
  go_enter Try.func32, Try.ntmps32
  go_wp2_with fail
  refine H.out.mono ?_
  rintro e w' ⟨rfl, hb, hr⟩
  have Hb := Lib.hid hb
  have Hr := Lib.hid hr
  clear hb hr
  go_wp2
  go_end0
  exact ⟨rfl, Hb.out, Hr.out⟩
end Go.Proofs.Ytjnplihkagegdaa
