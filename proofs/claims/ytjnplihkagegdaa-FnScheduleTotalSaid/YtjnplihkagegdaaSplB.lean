/- The contract of the program's ScheduleSplit. Condition: the slice reads as a list of options. -/
import Derived.Test.YtjnplihkagegdaaSplA
namespace Go.Proofs.Ytjnplihkagegdaa
open Go.RowKit

theorem takeG_cons {l : List Opt} {i : Nat} {t : List Nat} {n tk : Nat} {out : List Int} (h0 : out.getD i 0 = 0) (ht : tk = min n (spaceOf l i).toNat) :
    takeG l (i :: t) n out = takeG l t (n - tk) (out.set i (tk : Int)) := by
  rw [takeG, h0, ht]
  simp
set_option maxHeartbeats 1000000 in
theorem scheduleSplit_any (b0 : Nat) (n c : Nat) (l : List Opt) (x : Int) (w : World) (B : Nat) (h : Opts 1048576 w B (some ⟨b0, 0, none⟩) n l) (hB : B ≤ w.heap.size) :
    Calls Try.prog 9 #[.slice (some ⟨b0, 0, none⟩) n c, .int .i64 x] w (NewInts (splI l x) w) := by
  obtain ⟨i0, hi, hz0, hz1, hz2⟩ := info_parts infoInt
  have hn := h.2.1
  have hlen := Lib.hid h.len
  have hov := Lib.hid (optionsValid_any (some ⟨b0, 0, none⟩) n c l w B h hB)
  go_enter Try.func9, Try.ntmps9
  go_wp2_with fail
  refine hov.out.mono ?_
  rintro e w1 ⟨rfl, hb1⟩
  have Hb1 := Lib.hid hb1
  have hs1 := hb1.size
  cases hv : ovB l with
  | false =>
    have he := Lib.hid (show splI l x = [] by unfold splI; rw [hv]; rfl)
    clear hv hb1 hov
    go_wp2
    go_ret
    exact ⟨_, _, _, rfl, Hb1.out, by rw [he.out]; exact IntsO.nil_ _ _, fun _ => rfl⟩
  | true =>
    have hn4 : n ≤ 4 := by rw [← hlen.out]; exact len_of_ok hv
    have Hv := Lib.hid hv
    clear hv hov
    go_wp2_with fail
    refine (within_any x 0 256 w1).mono ?_
    rintro e w3 ⟨rfl, rfl⟩
    cases hx : withinB x 0 256 with
    | false =>
      have he := Lib.hid (show splI l x = [] by unfold splI; rw [Hv.out, hx]; rfl)
      clear hx hb1
      go_wp2
      go_ret
      exact ⟨_, _, _, rfl, Hb1.out, by rw [he.out]; exact IntsO.nil_ _ _, fun _ => rfl⟩
    | true =>
      have hx' : 0 ≤ x ∧ x ≤ 256 := by simpa [withinB] using hx
      obtain ⟨N, rfl⟩ : ∃ N : Nat, x = (N : Int) := ⟨x.toNat, by omega⟩
      have hN : N ≤ 256 := by omega
      have Hx := Lib.hid hx
      clear hx hx' hb1
      go_wp2_with (at_make; refine wpList_mk1 _ rfl _ _ 26 rfl 3 i0 _ Try.underlying26 hi hz0 hz1 rfl _ _ _ _ n rfl rfl rfl rfl (by rw [hz2]; omega) (by unfold maxLen; omega) ?_)
      intro g w2 hb2 hg hown
      have hs2 := hb2.size
      have hgl := (hown.lt g rfl).2
      have Hb2 := Lib.hid (Hb1.out.trans (hb2.mono hs1))
      have hO2 := Lib.hid (h.below Hb2.out hB)
      have hso := Lib.hid (scheduleOrder_any (some ⟨b0, 0, none⟩) n c l w2 B hO2.out (by omega))
      have Hown := Lib.hid (own_low hown hs1)
      clear hb2 hown
      go_wp2_with fail
      refine hso.out.mono ?_
      rintro e w4 ⟨A4, m, c4, rfl, hb4, hI, -⟩
      have hs4 := hb4.size
      have Hb4 := Lib.hid (Hb2.out.trans (hb4.mono (by omega)))
      have hord : ordI l = toI (order l) := by unfold ordI; rw [if_pos Hv.out]
      rw [hord] at hI
      have Hown4 := Lib.hid (Hown.out.kept (only_of_below hb4 none) (.inr (by simp [Value.ownBlock])))
      have hml : (order l).length = m := by have := hI.1; rw [toI_len] at this; exact this
      have HI := Lib.hid hI
      have hIc := hI.2.1
      have hIm := hI.2.2.1
      unfold maxLen at hIm
      have Hml := Lib.hid hml
      clear hb4 hI hso Hown Hb2 hO2 hord hml
      go_wp2_with fail
      go_loopg [1, 22] m (fun r v i wr => ∃ k nk : Nat, k + r = m ∧ i = .int .i64 k ∧ v = .int .i64 nk ∧ nk ≤ 256 ∧ Below w.heap.size w wr ∧ w4.grownBy wr (some g) ∧ ∃ (ok : List Int), Hid (takeG l ((order l).drop k) nk ok = takeG l (order l) N (zerosI n)) ∧ Hid (∀ j ∈ (order l).drop k, ok.getD j 0 = 0) ∧ Hid (ok.length = n) ∧
        wr.ownsRow w.heap.size 3 1 (.slice (some ⟨g, 0, none⟩) n n) n (iV ok))
      case atStart => exact ⟨0, N, by omega, rfl, rfl, hN, Hb4.out, World.grownBy.refl _ _, zerosI n, rfl, by intro j _; simp only [zerosI, List.getD_eq_getElem?_getD, List.getElem?_replicate]; split <;> rfl, by simp [Hid, zerosI], by have := Hown4.out; simpa [iV, zerosI] using this⟩
      case round =>
        clear Hb4 Hown4
        obtain ⟨k, nk, hk, rfl, rfl, hnk, hbr, hb4r, ok, Heq, Hz, Hol, hro⟩ := hrel
        by_cases hlt : k < m
        · have hIr := HI.out.kept hb4r (fun hh a' ha e => by
            obtain ⟨b, o, cur, e1, hb, hh', _⟩ := HI.out.2.2.2 hh
            rw [ha] at e1
            injection e1 with e1
            subst e1
            injection e with e
            simp only at e
            omega)
          obtain ⟨b, o, ui, rfl, hbw, hbs, hui, hcO, hfO⟩ := hIr.cellAt hlt
          obtain ⟨i, hord⟩ : ∃ i, (order l)[k]? = some i := ⟨_, List.getElem?_eq_getElem (by rw [Hml.out]; exact hlt)⟩
          have hui' : ui = (i : Int) := by
            rw [toI, List.getElem?_map, hord] at hui
            simp at hui; omega
          subst hui'
          have him : i ∈ order l := List.mem_of_getElem? hord
          have hin : i < n := by rw [← hlen.out]; exact (order_mem.1 him).1
          obtain ⟨b2, o2, u, e2, hb2, hu, hbd, -, -, d2, d3⟩ := (h.below hbr hB).at_ hin
          obtain ⟨rfl, rfl⟩ : b2 = b0 ∧ o2 = 0 := by simp at e2; omega
          rw [Nat.zero_add] at d2 d3
          clear e2
          have hub := bd_of_ok Hv.out hu
          have hdrop : (order l).drop k = i :: (order l).drop (k + 1) := by
            rw [List.drop_eq_getElem_cons (by rw [Hml.out]; exact hlt), (List.getElem?_eq_some_iff.1 hord).2]
          have hz0' : ok.getD i 0 = 0 := Hz.out i (by rw [hdrop]; exact List.mem_cons_self)
          have hoki : ok[i]? = some 0 := by
            have := Hol.out
            rw [List.getD_eq_getElem?_getD, List.getElem?_eq_getElem (by omega)] at hz0'
            rw [List.getElem?_eq_getElem (by omega)]
            simpa using hz0'
          have hsp : spaceOf l i = u.win - u.fl := by unfold spaceOf; rw [getD_of hu]
          have hop : u.fl < u.win := by
            have := (order_mem.1 him).2
            rw [getD_of hu, Opt.openB, Bool.and_eq_true, decide_eq_true_eq] at this
            exact this.2
          have hcell : wr.cell? ⟨g, i, none⟩ = some (.int .i64 0) := by rw [hro.cellAt i (by omega)]; exact iV_at hoki
          have hfr := hro.frozenAt i
          have hnd := order_nodup l
          have hnext : ∀ tk : Nat, tk = min nk (spaceOf l i).toNat → takeG l ((order l).drop (k + 1)) (nk - tk) (ok.set i (tk : Int)) = takeG l (order l) N (zerosI n) := fun tk ht => by
            rw [← Heq.out, hdrop, takeG_cons hz0' ht]
          have hznext : ∀ tk : Nat, ∀ j ∈ (order l).drop (k + 1), (ok.set i (tk : Int)).getD j 0 = 0 := fun tk j hj => by
            have hji : i ≠ j := by
              rintro rfl
              have h1 := List.drop_sublist k (order l)
              rw [hdrop] at h1
              have h2 := h1.nodup hnd
              rw [List.nodup_cons] at h2
              exact h2.1 hj
            rw [List.getD_eq_getElem?_getD, List.getElem?_set_ne hji, ← List.getD_eq_getElem?_getD]
            exact Hz.out j (by rw [hdrop]; exact List.mem_cons_of_mem _ hj)
          have Hnext := Lib.hid hnext
          have Hznext := Lib.hid hznext
          have Hrown := Lib.hid (fun tk : Nat => hro.stored i (.int .i64 (tk : Int)))
          have Hsp := Lib.hid hsp
          have hgne : b ≠ g := by omega
          have hg4 : w4.heap.size ≤ wr.heap.size := hb4r.size
          have q1 : (0 : Int) ≤ (i : Int) := by omega
          have q2 : (i : Int) < (n : Int) := by omega
          have q3 : (0 : Int) ≤ (k : Int) := by omega
          have q4 : (k : Int) < (m : Int) := by omega
          have q5 : IntKind.i64.wrap (u.win - u.fl) = u.win - u.fl := IntWalk.i64_in _ (by omega)
          clear hnext hznext hro hsp hoki hz0' hdrop him hord hui hIr hu hbd hnd
          have hend : Hid (∀ (tk : Nat) (q : Nat), tk = min nk (spaceOf l i).toNat → nk - tk ≤ 256 ∧ Below w.heap.size w ((wr.drewN q).setCell ⟨g, i, none⟩ (.int .i64 (tk : Int))) ∧ w4.grownBy ((wr.drewN q).setCell ⟨g, i, none⟩ (.int .i64 (tk : Int))) (some g) ∧ ∃ (ok : List Int), Hid (takeG l ((order l).drop (k + 1)) (nk - tk) ok = takeG l (order l) N (zerosI n)) ∧ Hid (∀ j ∈ (order l).drop (k + 1), ok.getD j 0 = 0) ∧ Hid (ok.length = n) ∧
              ((wr.drewN q).setCell ⟨g, i, none⟩ (.int .i64 (tk : Int))).ownsRow w.heap.size 3 1 (.slice (some ⟨g, 0, none⟩) n n) n (iV ok)) := by
            intro tk q ht
            refine ⟨by omega, (below_drewN hbr q).setCell (p := ⟨g, i, none⟩) (by show w.heap.size ≤ g; omega) _, only_setCell (g := g) (only_drewN hb4r q) (p := ⟨g, i, none⟩) (.inl rfl) _, ok.set i (tk : Int), Hnext.out tk ht, Hznext.out tk, by unfold Hid; rw [List.length_set]; exact Hol.out, ?_⟩
            have := (Hrown.out tk).1
            rw [iV_set] at this
            exact this
          clear Hnext Hznext Hrown hbr hb4r Heq Hz Hol
          by_cases hle : (nk : Int) ≤ u.win - u.fl
          · have ht : nk = min nk (spaceOf l i).toNat := by rw [Hsp.out]; omega
            have He := Lib.hid (hend.out nk 1 ht)
            clear ht hend
            go_wp2_with fail
            go_still_tail 16, (by kernel_rfl)
            change wpList _ _ _ _ _ wr.drew
            go_wp2
            go_roundg (m - (k + 1))
            case measure => omega
            case rel => exact ⟨k + 1, nk - nk, by omega, by go_num, by simp, He.out⟩
          · obtain ⟨tk, htk⟩ : ∃ tk : Nat, (tk : Int) = u.win - u.fl := ⟨(u.win - u.fl).toNat, by omega⟩
            have ht : tk = min nk (spaceOf l i).toNat := by rw [Hsp.out]; omega
            have he := hend.out tk 1 ht
            have hv1 : Value.int .i64 ((nk : Int) - (u.win - u.fl)) = .int .i64 ((nk - tk : Nat) : Int) := by congr 1; omega
            rw [htk] at he
            have He := Lib.hid he
            have Hv1 := Lib.hid hv1
            clear ht hend he htk hv1
            go_wp2_with fail
            go_still_tail 16, (by kernel_rfl)
            change wpList _ _ _ _ _ wr.drew
            go_wp2
            go_roundg (m - (k + 1))
            case measure => omega
            case rel => exact ⟨k + 1, nk - tk, by omega, by go_num, Hv1.out, He.out⟩
        · have hkm : k = m := by omega
          subst hkm
          have hfin : splI l (N : Int) = ok := by
            have h1 := Heq.out
            rw [List.drop_eq_nil_of_le (by rw [Hml.out]; exact Nat.le_refl _)] at h1
            have h2 : ok = takeG l (order l) N (zerosI n) := h1
            unfold splI
            rw [Hv.out, Hx.out, Bool.and_self, if_pos rfl, h2, hlen.out]
            rfl
          have Hres : Hid (NewInts (splI l (N : Int)) w (.returned (.slice (some ⟨g, 0, none⟩) n n)) wr) :=
            ⟨_, _, _, rfl, hbr, by rw [hfin]; exact (IntsO.of_own hro).1, fun hh => by cases hh⟩
          clear hfin hro
          go_wp2
          go_ret
          exact Hres.out
end Go.Proofs.Ytjnplihkagegdaa
