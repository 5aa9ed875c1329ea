/- The contract of the spec's ParityRecover. Condition: the slice reads as a list of strings of bounded length. -/
import Derived.Test.YtjplhmgfhiaenaaParI
namespace Go.Proofs.Ytjplhmgfhiaenaa
open Go.RowKit

theorem made_oth {ss : List Bs} {n m size j : Nat} (hn : ss.length = n) (hm : m < n) (hj : j < size) : (made ss (m : Int) size n 0)[j]? = some (.int .i64 ((psum (others ss m) j % 256 : Nat) : Int)) := by
  subst hn
  simp [made, hj, sumTo_others ss m j hm]
theorem dat_int (ss : List Bs) (m j q : Nat) (p : Bs) (hq : q = psum (others ss m) j % 256) : (((p.getD j 0).toNat : Int) - (q : Int) + 256) % 256 = ((dat ss m p j).toNat : Int) := by
  unfold dat parB
  have h1 := UInt8.toNat_lt (p.getD j 0)
  rw [UInt8.toNat_sub]
  simp only [UInt8.toNat_ofNat']
  omega
theorem getD_at {p : Bs} {k : Nat} (h : k < p.length) : p.getD k 0 = p[k] := by simp [List.getD_eq_getElem?_getD, h]
theorem run_byteStrD {P : Program} (W : World) (t e d : TypeId) (n : Int) (ht : P.underlying t = some (.slice e)) (he : P.underlying e = some (.int .u8)) (hd : P.underlying d = some .string) :
    (convert t d (.slice (some ⟨W.heap.size, 0, none⟩) 1 1)).run P (W.alloc (.cells #[.int .u8 n] e)).drew = .ok (.string (S [UInt8.ofNat n.toNat])) (W.alloc (.cells #[.int .u8 n] e)).drew := by
  have := run_convert_bytes_arg (P := P) (W.alloc (.cells #[.int .u8 n] e)).drew t e ht he W.heap.size 0 1 1 [n] rfl (fun i hi => by
    have h0 : i = 0 := by omega
    subst h0
    exact World.cell?_alloc_new _ _ _ _) d hd
  rw [this]
  rfl
theorem payl_next (ss : List Bs) (m j : Nat) (p : Bs) (hj : j < (dat ss m p 0).toNat) : (payl ss m p).take j ++ [dat ss m p (j + 1)] = (payl ss m p).take (j + 1) := by
  rw [List.take_add_one]
  congr 1
  simp [payl, hj]
theorem payl_len (ss : List Bs) (m : Nat) (p : Bs) : (payl ss m p).length = (dat ss m p 0).toNat := by simp [payl]
theorem rec_long {ss : List Bs} {m : Int} {p : Bs} (h : 13 < p.length) : recOk ss m p = false := by
  cases hr : recOk ss m p with
  | false => rfl
  | true =>
    simp only [recOk, Bool.and_eq_true, beq_iff_eq] at hr
    have := pm_length (ss.set m.toNat (payl ss m.toNat p))
    have := congrArg List.length hr.2
    omega

set_option maxHeartbeats 1000000 in
theorem sParityRecover_any (A : Option Addr) (n c : Nat) (ss : List Bs) (m : Int) (p : Bs) (w : World) (B : Nat) (h : Strs 1048576 w B A n ss) (hB : B ≤ w.heap.size) (hp : p.length ≤ 1048576) :
    Calls Try.prog 29 #[.slice A n c, .int .i64 m, .string (S p)] w (RecSays ss m p w) := by
  have hn := h.2.1
  have hlen := Lib.hid h.len
  have hg := sGroupValid_any A n c ss w B h
  have hw := l6In_any m 0 ((n : Int) - 1) w
  have hw2 := l6In_any p.length 1 13 w
  have hbad : recOk ss m p = true → gvB ss = true ∧ withinB m 0 ((n : Int) - 1) = true ∧ withinB p.length 1 13 = true := by
    intro hr
    have hl : ¬ 13 < p.length := fun h => by rw [rec_long h] at hr; cases hr
    have h0 : 1 ≤ p.length := by
      cases p with
      | nil => simp [recOk] at hr
      | cons _ _ => simp
    refine ⟨?_, ?_, by simp [withinB]; omega⟩
    · simp only [recOk, Bool.and_eq_true] at hr; exact hr.1.1.1.1.1
    · simp only [recOk, Bool.and_eq_true, h.len] at hr; exact hr.1.1.1.1.2
  cases hgv : gvB ss with
  | false =>
    rw [hgv] at hg
    have hno : recOk ss m p = false := by cases hr : recOk ss m p with | false => rfl | true => rw [(hbad hr).1] at hgv; cases hgv
    have Hno := Lib.hid hno
    have Hg := Lib.hid hg
    clear hgv hg hno hw hw2 hbad
    go_enter Try.func29, Try.ntmps29
    go_wp2_with (go_at_call 18; refine Hg.out.mono ?_; rintro e w' ⟨rfl, rfl⟩)
    go_ret2
    exact rec_no Hno.out (Below.refl _ _)
  | true =>
    rw [hgv] at hg
    have Hg := Lib.hid hg
    clear hg
    cases hwv : withinB m 0 ((n : Int) - 1) with
    | false =>
      rw [hwv] at hw
      have hno : recOk ss m p = false := by cases hr : recOk ss m p with | false => rfl | true => rw [(hbad hr).2.1] at hwv; cases hwv
      have Hno := Lib.hid hno
      have Hw := Lib.hid hw
      clear hw hwv hno hgv hbad hw2
      go_enter Try.func29, Try.ntmps29
      go_wp2_with (first | (go_at_call 18; refine Hg.out.mono ?_; rintro e w' ⟨rfl, rfl⟩) | (go_at_call 33; refine Hw.out.mono ?_; rintro e w' ⟨rfl, rfl⟩))
      go_ret2
      exact rec_no Hno.out (Below.refl _ _)
    | true =>
      rw [hwv] at hw
      have Hw := Lib.hid hw
      cases hpv : withinB p.length 1 13 with
      | false =>
        rw [hpv] at hw2
        have hno : recOk ss m p = false := by cases hr : recOk ss m p with | false => rfl | true => rw [(hbad hr).2.2] at hpv; cases hpv
        have Hno := Lib.hid hno
        have Hw2 := Lib.hid hw2
        clear hw hw2 hwv hno hgv hbad hpv
        go_enter Try.func29, Try.ntmps29
        go_wp2_with fail
        refine Hg.out.mono ?_
        rintro e w' ⟨rfl, rfl⟩
        go_wp2_with fail
        refine Hw.out.mono ?_
        rintro e w' ⟨rfl, rfl⟩
        go_wp2_with fail
        refine Hw2.out.mono ?_
        rintro e w' ⟨rfl, rfl⟩
        go_wp2_with fail
        go_ret2
        exact rec_no Hno.out (Below.refl _ _)
      | true =>
        rw [hpv] at hw2
        have Hw2 := Lib.hid hw2
        have hm0 : 0 ≤ m ∧ m ≤ (n : Int) - 1 := by simpa [withinB] using hwv
        obtain ⟨mm, rfl⟩ : ∃ mm : Nat, m = (mm : Int) := ⟨m.toNat, by omega⟩
        have hmn : mm < n := by omega
        have hp1 : 1 ≤ p.length ∧ p.length ≤ 13 := by simp [withinB] at hpv; omega
        have hgv' := Lib.hid hgv
        have hwv' := Lib.hid hwv
        have hmk := l44Make_any A n c ss p.length mm w B h hB (gvB_short hgv) hp (by omega) (by omega)
        have Hmk := Lib.hid hmk
        clear hw hw2 hwv hgv hbad hpv hm0 hmk
        go_enter Try.func29, Try.ntmps29
        go_wp2_with fail
        refine Hg.out.mono ?_
        rintro e w' ⟨rfl, rfl⟩
        go_wp2_with fail
        refine Hw.out.mono ?_
        rintro e w' ⟨rfl, rfl⟩
        go_wp2_with fail
        refine Hw2.out.mono ?_
        rintro e w' ⟨rfl, rfl⟩
        go_wp2_with fail
        refine Hmk.out.mono ?_
        rintro e w1 ⟨g, rfl, hb1, hown⟩
        obtain ⟨q0, hq0⟩ : ∃ q, q = psum (others ss mm) 0 % 256 := ⟨_, rfl⟩
        have hd0 := dat_int ss mm 0 q0 p hq0
        have hcell : w1.cell? ⟨g, 0, none⟩ = some (.int .i64 (q0 : Int)) := by
          rw [hown.cellAt 0 (by omega), made_oth hlen.out hmn (by omega), hq0]
        have hp0 : 0 < p.length := hp1.1
        have hpg : p.getD 0 0 = p[0] := getD_at hp0
        rw [hpg] at hd0
        obtain ⟨D, hD⟩ : ∃ D, D = (dat ss mm p 0).toNat := ⟨_, rfl⟩
        rw [← hD] at hd0
        have hx256 := UInt8.toNat_lt p[0]
        have hq256 : q0 < 256 := by omega
        have hD256 : D < 256 := by rw [hD]; exact UInt8.toNat_lt _
        have r1 : IntKind.i64.wrap ((p[0].toNat : Int) - (q0 : Int)) = (p[0].toNat : Int) - (q0 : Int) := IntWalk.i64_in _ (by omega)
        have r2 : IntKind.i64.wrap ((p[0].toNat : Int) - (q0 : Int) + 256) = (p[0].toNat : Int) - (q0 : Int) + 256 := IntWalk.i64_in _ (by omega)
        have r3 : ((p[0].toNat : Int) - (q0 : Int) + 256).tmod 256 = (D : Int) := by rw [Int.tmod_eq_emod_of_nonneg (by omega), hd0]
        have HD := Lib.hid hD
        have hdl : ¬ D < p.length → recOk ss mm p = false := by
          intro hDp
          cases hr : recOk ss mm p with
          | false => rfl
          | true =>
            simp only [recOk, Bool.and_eq_true, decide_eq_true_eq] at hr
            have := hr.1.2
            rw [Int.toNat_natCast, ← HD.out] at this
            omega
        have Hdl := Lib.hid hdl
        clear hq0 hd0 hpg hD hdl
        go_wp2_with fail
        go_quiet (fail)
        clear r1 r2 r3
        by_cases hDp : D < p.length
        · clear hx256 hq256 hcell
          have kc := fun W n => run_byteStrD (P := Try.prog) W 28 5 9 n Try.underlying28 Try.underlying5 Try.underlying9
          obtain ⟨hB1, HB1⟩ : ∃ B1, Hid (B1 = w.heap.size) := ⟨_, rfl⟩
          rw [← HB1.out] at hb1 hown
          have hb1' : Below hB1 w (w1.drewN nq) := below_drewN hb1 _
          have hown' : (w1.drewN nq).ownsRow hB1 3 1 (.slice (some ⟨g, 0, none⟩) p.length p.length) p.length (made ss mm p.length n 0) := hown
          generalize w1.drewN nq = w2 at hb1' hown' ⊢
          clear hb1 hown
          go_wp2
          go_loopg [10, 11] D (fun m z i wr => ∃ j : Nat, j + m = D ∧ i = .int .i64 ((j : Int) + 1) ∧ z = .string (S ((payl ss mm p).take j)) ∧ Below hB1 w wr ∧ wr.ownsRow hB1 3 1 (.slice (some ⟨g, 0, none⟩) p.length p.length) p.length (made ss mm p.length n 0))
          case atStart => exact ⟨0, by omega, rfl, rfl, hb1', hown'⟩
          case round =>
            clear hb1' hown'
            obtain ⟨j, hj, rfl, rfl, hbj, hoj⟩ := hrel
            by_cases hjl : j < D
            · obtain ⟨q, hq⟩ : ∃ q, q = psum (others ss mm) (j + 1) % 256 := ⟨_, rfl⟩
              have hd0 := dat_int ss mm (j + 1) q p hq
              have hcell : wr.cell? ⟨g, j + 1, none⟩ = some (.int .i64 (q : Int)) := by
                rw [hoj.cellAt (j + 1) (by omega), made_oth hlen.out hmn (by omega), hq]
              have hpj : j + 1 < p.length := by omega
              rw [getD_at hpj] at hd0
              obtain ⟨x, hx⟩ : ∃ x, x = (dat ss mm p (j + 1)).toNat := ⟨_, rfl⟩
              rw [← hx] at hd0
              have hy256 := UInt8.toNat_lt p[j + 1]
              have hq256 : q < 256 := by omega
              have hx256 : x < 256 := by rw [hx]; exact UInt8.toNat_lt _
              have r1 : IntKind.i64.wrap ((p[j + 1].toNat : Int) - (q : Int)) = (p[j + 1].toNat : Int) - (q : Int) := IntWalk.i64_in _ (by omega)
              have r2 : IntKind.i64.wrap ((p[j + 1].toNat : Int) - (q : Int) + 256) = (p[j + 1].toNat : Int) - (q : Int) + 256 := IntWalk.i64_in _ (by omega)
              have r3 : ((p[j + 1].toNat : Int) - (q : Int) + 256).tmod 256 = (x : Int) := by rw [Int.tmod_eq_emod_of_nonneg (by omega), hd0]
              have htl : ((payl ss mm p).take j).length ≤ 1048576 := by rw [List.length_take]; omega
              have hnx : (payl ss mm p).take j ++ [UInt8.ofNat x] = (payl ss mm p).take (j + 1) := by
                rw [← payl_next ss mm j p (by rw [← HD.out]; exact hjl), hx]; simp
              have Hnx := Lib.hid hnx
              clear hq hx hd0 hnx
              go_wp2_with fail
              go_region
              go_wp2
              go_roundg (D - (j + 1))
              case measure => omega
              case rel => exact ⟨j + 1, by omega, by go_num, by rw [Hnx.out], (hbj.alloc (by have := hbj.size; have := HB1.out; omega) _).drew, hoj.alloc (.cells #[.int .u8 x] 5)⟩
            · have hfin : (payl ss mm p).take j = payl ss mm p := List.take_of_length_le (by rw [payl_len, ← HD.out]; omega)
              rw [hfin]
              clear hfin
              obtain ⟨q, hq⟩ : ∃ q, q = payl ss mm p := ⟨_, rfl⟩
              rw [← hq]
              have Hq := Lib.hid hq
              have hql : q.length ≤ 1048576 := by rw [hq, payl_len, ← HD.out]; omega
              clear hq hoj
              rw [HB1.out] at hbj
              obtain ⟨i0, hi, hz0, hz1, hz2⟩ := info_parts infoStr
              have hr := h.below hbj hB
              obtain ⟨b, o, e, hb, -⟩ := h.1.2 (by omega)
              subst e
              go_wp2_with (at_builtin; go_must (refine wpList_clone1 _ rfl _ _ 22 rfl 9 i0 (.string (S [])) 16 Try.underlying22 hi hz0 hz1 hz2 rfl b o n c _ (strV ss) hr.1 (Nat.le_trans hB hbj.size) (strV_one ss) rfl rfl (by unfold maxLen; omega) (by omega) ?_))
              intro A2 c2 w4 hown4 hc2 hb4
              rcases hown4.2 with ⟨he, h1⟩ | ⟨gc, cap, cur, he, hgc, -⟩
              · omega
              · injection he with e1 e2 e3
                subst e1; subst e3
                obtain ⟨x, hx⟩ : ∃ x, w4.cell? ⟨gc, mm, none⟩ = some x := by
                  rw [hown4.cellAt mm (by omega)]
                  exact ⟨_, List.getElem?_eq_getElem (by have := hown4.1; omega)⟩
                have hfr : w4.frozen? ⟨gc, mm, none⟩ = false := hown4.frozenAt mm
                have hst := (hown4.stored mm (.string (S q))).1
                rw [strV_set] at hst
                have hs5 := strs_of_own hst hn (fun s hs => by
                  rcases List.mem_or_eq_of_mem_set hs with hs | rfl
                  · exact h.2.2 s hs
                  · exact hql)
                have hb4' := chain hbj hb4
                have hb5 := hb4'.setCell (p := ⟨gc, mm, none⟩) (Nat.le_trans hbj.size hgc) (.string (S q))
                clear hst hc2 hb4 hb4' hown4 hr hbj
                go_wp2_with fail
                generalize w4.setCell ⟨gc, mm, none⟩ (.string (S q)) = w5 at hs5 hb5 ⊢
                clear hx hfr
                refine (sParityMake_any _ _ _ (ss.set mm q) w5 _ hs5 (Nat.le_refl _)).mono ?_
                rintro e w6 ⟨rfl, hb6⟩
                have hb7 := hb5.trans (hb6.mono hb5.size)
                have hok : recOk ss mm p = (pm (ss.set mm q) == p) := by
                  have h0 : D ≤ 12 := by omega
                  have h1 : D + 1 ≤ p.length := by omega
                  have h2 : p.isEmpty = false := by cases p with | nil => simp at hp1 | cons _ _ => rfl
                  simp only [recOk, hgv'.out, hlen.out, hwv'.out, h2, Int.toNat_natCast, ← HD.out, h0, h1, ← Hq.out]
                  simp
                have Hok := Lib.hid hok
                clear hok hs5 hb5 hb6
                generalize pm (ss.set mm q) = z at Hok ⊢
                by_cases hz : z = p
                · subst hz
                  have hyes : recOk ss mm z = true := by rw [Hok.out]; simp
                  have Hyes := Lib.hid hyes
                  clear hyes
                  go_wp2
                  go_ret2
                  have hr := rec_yes Hyes.out hb7
                  rw [Int.toNat_natCast, ← Hq.out] at hr
                  exact hr
                · have hzb : (z == p) = false := by simpa using hz
                  have hno : recOk ss mm p = false := by rw [Hok.out, hzb]
                  have Hno := Lib.hid hno
                  clear hno hz
                  go_wp2
                  go_ret2
                  exact rec_no Hno.out hb7
        · have hno := Hdl.out hDp
          have Hno := Lib.hid hno
          clear hno hown
          go_wp2
          go_ret2
          exact rec_no Hno.out (below_drewN hb1 _)
end Go.Proofs.Ytjplhmgfhiaenaa
