/- The contract of the program's RecvValid. Condition: the slice reads as a list of pieces. -/
import Derived.Test.YtjpaoadbgmmoeaaWB3
namespace Go.Proofs.Ytjpaoadbgmmoeaa
open Go.RowKit

theorem rvLast_bd {r : Rv} (hl : 0 ≤ r.limit ∧ r.limit ≤ 30) (hr : 0 ≤ r.read ∧ r.read ≤ r.limit) {k : Nat} (h : rvTo r k = true) : -1 ≤ rvLast r k ∧ rvLast r k ≤ 30 := by
  cases k with
  | zero => unfold rvLast; rw [if_pos rfl]; omega
  | succ k =>
    unfold rvLast
    rw [if_neg (by omega), Nat.add_sub_cancel]
    have hall : ∀ i, i ≤ k → rvAt r i = true := by
      simp only [rvTo, List.all_eq_true, List.mem_range] at h
      exact fun i hi => h i (by omega)
    have key : ∀ i, i ≤ k → 0 ≤ (r.pieces.getD i default).off ∧ (r.pieces.getD i default).off + bl (r.pieces.getD i default).data ≤ r.limit := by
      intro i
      induction i with
      | zero =>
        intro h0
        have := hall 0 h0
        simp only [rvAt, Bool.and_eq_true, decide_eq_true_eq] at this
        have h2 : rvLast r 0 = r.read - 1 := by simp [rvLast]
        omega
      | succ i ih =>
        intro h0
        have h1 := ih (by omega)
        have := hall (i + 1) h0
        simp only [rvAt, Bool.and_eq_true, decide_eq_true_eq] at this
        have h2 : rvLast r (i + 1) = (r.pieces.getD i default).off + bl (r.pieces.getD i default).data := by simp [rvLast, Pc.fin]
        have := bl_nonneg (r.pieces.getD i default).data
        omega
    have := key k (Nat.le_refl _)
    have := bl_nonneg (r.pieces.getD k default).data
    unfold Pc.fin
    omega
theorem rvTo_succ (r : Rv) (k : Nat) : rvTo r (k + 1) = (rvTo r k && rvAt r k) := by simp [rvTo, List.range_succ]
theorem rvTo_no {r : Rv} {k n : Nat} (h : rvAt r k = false) (hk : k < n) : rvTo r n = false := by
  cases hn : rvTo r n with
  | false => rfl
  | true =>
    simp only [rvTo, List.all_eq_true, List.mem_range] at hn
    rw [hn k hk] at h; cases h
set_option maxHeartbeats 1000000 in
theorem recvValid_any (x : Rv) (A : Option Addr) (n c : Nat) (w : World) (ok : Nat → Prop) (h : SliceR PcR 2 w ok A n c x.pieces) (hok : Sub ok (Old w)) (_hr1 : I64 x.read) (_hf1 : I64 x.final) (_hl1 : I64 x.limit) :
    Calls Try.prog 64 #[x.agg A n c] w fun e w' => e = .returned (.bool (rvValid x)) ∧ Below w.heap.size w w' := by
  have hlen := Lib.hid h.len
  have hcap := h.cap
  have hb0 := b_alloc w (.cells #[.int .i64 x.read, .slice A n c, .int .i64 x.final, .int .i64 x.limit] 52)
  cases hL : inB x.limit 0 30 && inB x.read 0 x.limit with
  | false =>
    have Hno := Lib.hid (show rvValid x = false by rw [rvValid, hL, Bool.false_and])
    unfold Rv.agg
    go_enter Try.func64, Try.ntmps64
    go_wp2_with (go_at_call 29; refine (within_any _ _ _ _).mono ?_; rintro e w' ⟨rfl, rfl⟩)
    all_goals first
      | (go_ret
         exact ⟨ret_bool Hno.out.symm, hb0⟩)
      | (exfalso; simp_all)
  | true =>
    have hL' := hL
    rw [Bool.and_eq_true, inB_iff, inB_iff] at hL'
    obtain ⟨q1, q2⟩ := hL'
    rw [Bool.and_eq_true] at hL
    have e1 := hL.1
    have e2 := hL.2
    unfold Rv.agg
    go_enter Try.func64, Try.ntmps64
    go_wp2_with (go_at_call 29; refine (within_any _ _ _ _).mono ?_; rintro e w' ⟨rfl, rfl⟩)
    obtain ⟨W0, hW0⟩ : ∃ W0 : World, W0 = w.alloc (.cells #[.int .i64 x.read, .slice A n c, .int .i64 x.final, .int .i64 x.limit] 52) := ⟨_, rfl⟩
    have hs0 : w.heap.size < W0.heap.size := by rw [hW0]; simp
    have d0 : W0.cell? ⟨w.heap.size, 0, none⟩ = some (.int .i64 x.read) := by rw [hW0]; simp [World.cell?_alloc_new]
    have d1 : W0.cell? ⟨w.heap.size, 1, none⟩ = some (.slice A n c) := by rw [hW0]; simp [World.cell?_alloc_new]
    have d2 : W0.cell? ⟨w.heap.size, 2, none⟩ = some (.int .i64 x.final) := by rw [hW0]; simp [World.cell?_alloc_new]
    have d3 : W0.cell? ⟨w.heap.size, 3, none⟩ = some (.int .i64 x.limit) := by rw [hW0]; simp [World.cell?_alloc_new]
    rw [← hW0] at hb0 ⊢
    have h0 := h.below pcCar hok hb0 (Nat.le_refl _)
    have hok0 : Sub ok (Old W0) := hok.old (by omega)
    go_loopg [3, 24] n (fun m last i wr => ∃ k : Nat, k + m = n ∧ i = .int .i64 k ∧ last = .int .i64 (rvLast x k) ∧ Below W0.heap.size W0 wr ∧ Hid (rvTo x k = true))
    case atStart => exact ⟨0, by omega, rfl, by go_num, Below.refl _ _, rfl⟩
    case round =>
      obtain ⟨k, hk, rfl, rfl, hbr, HT⟩ := hrel
      have hsz := hbr.size
      by_cases hlt : k < n
      · obtain ⟨b, o, p, rfl, hbl, hp, p1, p2, c0, c1⟩ := pc_at (h0.below pcCar hok0 hbr (Nat.le_refl _)) hlt
        have hbd := rvLast_bd q1 q2 HT.out
        have hg := getD_of? hp
        have hn1 : k < x.pieces.length := by rw [hlen.out]; exact hlt
        unfold I64 at p1
        have hb1 := hbr.alloc hsz (.cells #[.int .i64 p.off, .string (S p.data)] 104)
        have hd3 := (hb1.cell (p := ⟨w.heap.size, 3, none⟩) hs0).trans d3
        cases hat : rvAt x k with
        | true =>
          have HT' : Hid (rvTo x (k + 1) = true) := by unfold Hid; rw [rvTo_succ, HT.out, hat]; rfl
          have HL' : Hid (rvLast x (k + 1) = p.fin) := by unfold Hid rvLast; rw [if_neg (by omega), Nat.add_sub_cancel, hg]
          simp only [rvAt, hg, Bool.and_eq_true, decide_eq_true_eq, Bool.not_eq_true', List.isEmpty_eq_false_iff] at hat
          obtain ⟨t1, t2, t3⟩ := hat
          have t4 : (p.data.length : Int) ≤ x.limit - p.off := t3
          have t5 : 0 < p.data.length := List.length_pos_iff.2 t1
          have hI : I64 p.fin := by unfold I64 Pc.fin bl; omega
          generalize rvLast x k = last at hbd t2 ⊢
          clear hp hg HT t3
          go_wp2_with (go_at_call 67; refine (pieceEnd_any p _ (by omega) (by unfold I64; omega) hI).mono ?_; rintro e w5 ⟨rfl, hb5⟩)
          all_goals first
            | (have Hb := Lib.hid (b_then hb1 hb5)
               clear hb5 hb1 hbr
               go_wp2
               go_roundg (n - (k + 1))
               case measure => omega
               case rel => exact ⟨k + 1, by omega, by go_num, by rw [HL'.out], Hb.out, HT'⟩)
            | (exfalso
               rename_i hh
               simp [t1] at hh
               omega)
        | false =>
          have Hno := Lib.hid (show rvValid x = false by rw [rvValid, rvTo_no hat hn1, Bool.false_and, Bool.and_false])
          have hd : p.data.isEmpty = true ∨ (p.data.isEmpty = false ∧ p.off ≤ rvLast x k) ∨ (p.data.isEmpty = false ∧ rvLast x k < p.off ∧ x.limit - p.off < (p.data.length : Int)) := by
            simp only [rvAt, hg, Bool.and_eq_false_iff, decide_eq_false_iff_not, Bool.not_eq_false'] at hat
            unfold bl at hat
            cases he : p.data.isEmpty with
            | true => exact .inl rfl
            | false =>
              rw [he] at hat
              right
              rcases hat with hat | hat | hat
              · cases hat
              · exact .inl ⟨rfl, by omega⟩
              · by_cases hle : p.off ≤ rvLast x k
                · exact .inl ⟨rfl, hle⟩
                · exact .inr ⟨rfl, by omega, by omega⟩
          have Hb := Lib.hid (hb0.trans (hb1.mono hb0.size))
          generalize rvLast x k = last at hbd hd ⊢
          clear hp hg HT hat
          rcases hd with t1 | ⟨t1, t2⟩ | ⟨t1, t2, t3⟩
          all_goals
            go_wp2_with (go_at_call 67; exfalso; first | omega | (simp_all; done) | (simp_all; omega))
            all_goals first
              | (go_ret
                 exact ⟨ret_bool Hno.out.symm, Hb.out⟩)
              | (exfalso; first | omega | (simp_all; done) | (simp_all; omega))
      · obtain rfl : k = n := by omega
        have hT : rvTo x x.pieces.length = true := by rw [hlen.out]; exact HT.out
        have hpc := (rvTo_iff x).1 hT
        have hpb : ∀ p, x.pieces.getLast? = some p → I64 p.fin := by
          intro p hp
          have h1 := fin_last hpc (by intro e; rw [e] at hp; simp at hp)
          obtain ⟨q, e1, e2, _, _⟩ := h1
          rw [hp] at e1
          injection e1 with e1
          subst e1
          have h2 := (fin_bd q2.2 hpc).2.1
          unfold Rv.fin at h2
          rw [hp] at h2
          simp only at h2
          unfold I64
          omega
        have hval : Hid (rvValid x = (decide (x.final = -1) || inB x.final x.fin x.limit)) := by
          unfold Hid
          rw [rvValid, hL.1, hL.2, hT]; rfl
        have HPB := Lib.hid hpb
        have HB0 := Lib.hid hb0
        have r0 := (hbr.cell (p := ⟨w.heap.size, 0, none⟩) hs0).trans d0
        have r1 := (hbr.cell (p := ⟨w.heap.size, 1, none⟩) hs0).trans d1
        have r2 := (hbr.cell (p := ⟨w.heap.size, 2, none⟩) hs0).trans d2
        have r3 := (hbr.cell (p := ⟨w.heap.size, 3, none⟩) hs0).trans d3
        clear hT hpc hpb HT
        by_cases hfin : x.final = -1
        · have t0 : (x.final == -1) = true := by rw [hfin]; rfl
          rw [hfin] at r2
          have Hv : Hid (rvValid x = true) := by unfold Hid; rw [hval.out, hfin]; rfl
          go_wp2_with fail
          go_quiet (fail)
          have Hb := Lib.hid (HB0.out.trans ((b_drewN hbr nq).mono (by omega)))
          go_wp2
          go_ret
          exact ⟨ret_bool Hv.out.symm, Hb.out⟩
        · have t0 : (x.final == -1) = false := beq_eq_false_iff_ne.2 hfin
          have HS : Hid (∀ w', Below W0.heap.size W0 w' → Below W0.heap.size W0 w' ∧ w'.cell? ⟨w.heap.size, 0, none⟩ = some (.int .i64 x.read) ∧ w'.cell? ⟨w.heap.size, 1, none⟩ = some (.slice A k c) ∧ w'.cell? ⟨w.heap.size, 2, none⟩ = some (.int .i64 x.final) ∧ w'.cell? ⟨w.heap.size, 3, none⟩ = some (.int .i64 x.limit)) := fun w' hb' =>
            ⟨hb', (hb'.cell (p := ⟨w.heap.size, 0, none⟩) hs0).trans d0, (hb'.cell (p := ⟨w.heap.size, 1, none⟩) hs0).trans d1, (hb'.cell (p := ⟨w.heap.size, 2, none⟩) hs0).trans d2, (hb'.cell (p := ⟨w.heap.size, 3, none⟩) hs0).trans d3⟩
          clear r0 r1 r2 r3 d0 d1 d2 d3
          go_wp2_with fail
          go_region_held (fun w' => Below W0.heap.size W0 w' ∧ w'.cell? ⟨w.heap.size, 0, none⟩ = some (.int .i64 x.read) ∧ w'.cell? ⟨w.heap.size, 1, none⟩ = some (.slice A k c) ∧ w'.cell? ⟨w.heap.size, 2, none⟩ = some (.int .i64 x.final) ∧ w'.cell? ⟨w.heap.size, 3, none⟩ = some (.int .i64 x.limit))
            (first | assumption | exact HS.out _ hbr | exact HS.out _ (Below.drew hbr) | exact HS.out _ (b_grow (And.left (by assumption)) _) | exact HS.out _ (b_then (And.left (by assumption)) hb5))
            (first
              | (go_at_call 66; refine (recvEnd_any x A k c _ ok (h0.below pcCar hok0 (And.left (by assumption)) (Nat.le_refl _)) (hok0.old (Below.size (And.left (by assumption)))) HPB.out).mono ?_; rintro e w5 ⟨rfl, hb5⟩)
              | (go_at_call 29; refine (within_any _ _ _ _).mono ?_; rintro e w6 ⟨rfl, rfl⟩))
          rename_i hS
          have Hb := Lib.hid (HB0.out.trans (hS.1.mono (by omega)))
          clear hS HS
          go_wp2
          all_goals
            go_ret
            exact ⟨ret_bool (by rw [hval.out]; simp_all), Hb.out⟩
end Go.Proofs.Ytjpaoadbgmmoeaa
