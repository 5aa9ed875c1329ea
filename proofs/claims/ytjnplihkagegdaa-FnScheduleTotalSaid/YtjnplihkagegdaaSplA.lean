/- The contract of the reference's ScheduleSplit. Condition: the slice reads as a list of options. -/
import Derived.Test.YtjnplihkagegdaaSplP
import Derived.Test.YtjnplihkagegdaaSchG
namespace Go.Proofs.Ytjnplihkagegdaa
open Go.RowKit

def zerosI (n : Nat) : List Int := List.replicate n 0
def splI (l : List Opt) (x : Int) : List Int := if ovB l && withinB x 0 256 then takeG l (order l) x.toNat (zerosI l.length) else []
theorem takeG_len (l : List Opt) : ∀ (os : List Nat) (n : Nat) (out : List Int), (takeG l os n out).length = out.length
  | [], _, _ => rfl
  | i :: t, n, out => by rw [takeG, takeG_len l t, List.length_set]
theorem splI_len (l : List Opt) (x : Int) : (splI l x).length ≤ 1000 := by
  unfold splI
  split
  · rename_i h
    rw [Bool.and_eq_true] at h
    have := len_of_ok h.1
    rw [takeG_len, zerosI, List.length_replicate]; omega
  · simp
theorem ok_bump {l : List Opt} {i : Nat} (h : ovB l = true) (hi : i ∈ order l) : ovB (bump l i) = true := by
  obtain ⟨hl, ho⟩ := order_mem.1 hi
  simp only [ovB, Bool.and_eq_true, List.all_eq_true, decide_eq_true_eq] at h ⊢
  refine ⟨fun u hu => ?_, by rw [bump_len]; exact h.2⟩
  unfold bump at hu
  rcases List.mem_or_eq_of_mem_set hu with hu | hu
  · exact h.1 u hu
  · have hg : l.getD i default = l[i] := by rw [List.getD_eq_getElem?_getD, List.getElem?_eq_getElem hl]; rfl
    have hk := h.1 _ (List.getElem_mem hl)
    rw [hg] at hu ho
    subst hu
    simp only [Opt.openB, Bool.and_eq_true, decide_eq_true_eq] at ho
    simp only [Opt.okB, withinB, Bool.and_eq_true, decide_eq_true_eq] at hk ⊢
    omega
theorem opts_own {w : World} {base g n c : Nat} {l : List Opt} (h : w.ownsRow base 31 4 (.slice (some ⟨g, 0, none⟩) n c) n (flat Opt.cells l)) (hn : n ≤ 1048576) (hok : ovB l = true) : Opts 1048576 w w.heap.size (some ⟨g, 0, none⟩) n l :=
  ⟨Rd.of_own h, hn, fun o ho => by
    simp only [ovB, Bool.and_eq_true, List.all_eq_true] at hok
    have := hok.1 o ho
    simp [Opt.okB, withinB] at this
    exact ⟨by omega, by omega, by omega⟩⟩
theorem set_same {L : List Value} {j : Nat} {v : Value} (h : L[j]? = some v) : L.set j v = L := by
  have hj := (List.getElem?_eq_some_iff.1 h).1
  apply List.ext_getElem?
  intro i
  rw [List.getElem?_set]
  by_cases e : j = i
  · subst e; rw [if_pos rfl, if_pos hj, h]
  · rw [if_neg e]
theorem flat_set1 {l : List Opt} {i : Nat} {u : Opt} (hu : l[i]? = some u) (f : Int) : (flat Opt.cells l).set (i * 4 + 3) (.int .i64 f) = flat Opt.cells (l.set i { u with fl := f }) := by
  have hi := (List.getElem?_eq_some_iff.1 hu).1
  have e := flat_set (enc := Opt.cells) (s := 4) (fun _ => rfl) l i { u with fl := f } hi
  rw [← e]
  have g := fun j hj => flat_get (enc := Opt.cells) (s := 4) (fun _ => rfl) l i j u hu hj
  have g0 := g 0 (by omega)
  have g1 := g 1 (by omega)
  have g2 := g 2 (by omega)
  rw [Nat.add_zero] at g0
  have hlen := flat_len (enc := Opt.cells) (s := 4) (fun _ => rfl) l
  show _ = ((((flat Opt.cells l).set (i * 4) (.bool u.act)).set (i * 4 + 1) (.int .i64 u.rtt)).set (i * 4 + 2) (.int .i64 u.win)).set (i * 4 + 3) (.int .i64 f)
  have s0 : (flat Opt.cells l).set (i * 4) (.bool u.act) = flat Opt.cells l := set_same g0
  have s1 : (flat Opt.cells l).set (i * 4 + 1) (.int .i64 u.rtt) = flat Opt.cells l := set_same g1
  have s2 : (flat Opt.cells l).set (i * 4 + 2) (.int .i64 u.win) = flat Opt.cells l := set_same g2
  rw [s0, s1, s2]
theorem bump_eq {l : List Opt} {i : Nat} {u : Opt} (hu : l[i]? = some u) : bump l i = l.set i { u with fl := u.fl + 1 } := by unfold bump; rw [getD_of hu]
theorem iV_set (L : List Int) (j : Nat) (x : Int) : (iV L).set j (.int .i64 x) = iV (L.set j x) := by simp [iV, List.map_set]
theorem iV_at {L : List Int} {j : Nat} {y : Int} (h : L[j]? = some y) : (iV L)[j]? = some (.int .i64 y) := by simp [iV, h]
theorem cells_one (l : List Opt) : ∀ u ∈ flat Opt.cells l, u.oneCell' = true := fun u hu => by
  obtain ⟨o, _, ho⟩ := List.mem_flatMap.1 hu
  simp only [Opt.cells, List.mem_cons, List.not_mem_nil, or_false] at ho
  rcases ho with rfl | rfl | rfl | rfl <;> rfl
/-- No count in the list exceeds k. -/
def UpTo (k : Nat) (L : List Int) : Prop := ∀ y ∈ L, 0 ≤ y ∧ y ≤ k
theorem UpTo.set {k : Nat} {L : List Int} (h : UpTo k L) {i : Nat} {y : Int} (hy : L[i]? = some y) : UpTo (k + 1) (L.set i (y + 1)) := fun z hz => by
  rcases List.mem_or_eq_of_mem_set hz with hz | hz
  · have := h z hz; omega
  · have := h y (List.mem_of_getElem? hy); omega

set_option maxHeartbeats 1000000 in
theorem sScheduleSplit_any (a : Addr) (n c : Nat) (l : List Opt) (x : Int) (w : World) (B : Nat) (h : Opts 1048576 w B (some a) n l) (hB : B ≤ w.heap.size) :
    Calls Try.prog 10 #[.slice (some a) n c, .int .i64 x] w (NewInts (splI l x) w) := by
  obtain ⟨i0, hi, hz0, hz1, hz2⟩ := info_parts infoInt
  obtain ⟨i1, hi1, hy0, hy1, hy2⟩ := info_parts infoOpt
  have hn := h.2.1
  have hlen := Lib.hid h.len
  go_enter Try.func10, Try.ntmps10
  go_wp2_with (at_make; refine wpList_mk1 _ rfl _ _ 26 rfl 3 i0 _ Try.underlying26 hi hz0 hz1 rfl _ _ _ _ n rfl rfl rfl rfl (by rw [hz2]; omega) (by unfold maxLen; omega) ?_)
  intro g w1 hb1 hg hown
  have hs1 := hb1.size
  have hgl := (hown.lt g rfl).2
  have hov := Lib.hid (sOptionsValid_any (some a) n c l w1 B (h.below hb1 hB) (by omega))
  have Hb1 := Lib.hid hb1
  have Hown := Lib.hid hown
  clear hb1 hown
  go_wp2_with fail
  refine hov.out.mono ?_
  rintro e w2 ⟨rfl, hb2⟩
  have hs2 := hb2.size
  have Hb2 := Lib.hid (Hb1.out.trans (hb2.mono hs1))
  have Hown2 := Lib.hid (Hown.out.kept (only_of_below hb2 none) (.inr (by simp [Value.ownBlock])))
  have hempty : Hid (∀ w0 : World, Below w.heap.size w w0 → splI l x = [] → NewInts (splI l x) w (.returned (.slice (some ⟨w0.heap.size, 0, none⟩) 0 0)) (w0.alloc (.cells #[] 3))) := by
    intro w0 hb0 he
    refine ⟨_, _, _, rfl, hb0.alloc hb0.size _, ?_, fun hh => by cases hh⟩
    rw [he]
    exact ⟨rfl, Nat.le_refl _, Nat.zero_le _, fun hh => absurd hh (by omega)⟩
  cases hv : ovB l with
  | false =>
    have he := Lib.hid (show splI l x = [] by unfold splI; rw [hv]; rfl)
    clear hv hb2 Hown Hown2 Hb1 hov
    go_wp2
    go_ret
    exact hempty.out w2 Hb2.out he.out
  | true =>
    have hn4 : n ≤ 4 := by rw [← hlen.out]; exact len_of_ok hv
    have Hv := Lib.hid hv
    clear hv hov Hb1 Hown
    go_wp2_with fail
    refine (l6In_any x 0 256 w2).mono ?_
    rintro e w3 ⟨rfl, rfl⟩
    cases hx : withinB x 0 256 with
    | false =>
      have he := Lib.hid (show splI l x = [] by unfold splI; rw [Hv.out, hx]; rfl)
      clear hx hb2 Hown2
      go_wp2
      go_ret
      exact hempty.out w2 Hb2.out he.out
    | true =>
      have hx' : 0 ≤ x ∧ x ≤ 256 := by simpa [withinB] using hx
      obtain ⟨N, rfl⟩ : ∃ N : Nat, x = (N : Int) := ⟨x.toNat, by omega⟩
      have hN : N ≤ 256 := by omega
      have Hx := Lib.hid hx
      have hrd2 := Lib.hid ((h.below Hb2.out hB).1)
      clear hx hempty hb2 hx'
      go_wp2_with (at_builtin; go_must (refine wpList_clone _ rfl _ _ 23 rfl 31 i1 _ 4 32 Try.underlying23 hi1 hy0 hy1 hy2 rfl (by omega) (some a) n c B _ hrd2.out (fun hh => by cases hh) (by omega) (cells_one l) rfl rfl (by unfold maxLen; omega) (by omega) ?_))
      intro gl cl w4 hownl hgl2 hncl hcml hb4
      have hs4 := hb4.size
      have Hb4 := Lib.hid (Hb2.out.trans (hb4.mono (by omega)))
      have Hown4 := Lib.hid (Hown2.out.kept (only_of_below hb4 none) (.inr (by simp [Value.ownBlock])))
      have Hownl := Lib.hid (own_low hownl (show w.heap.size ≤ w2.heap.size by omega))
      have hne : g ≠ gl := by omega
      clear hb4 hownl Hown2 hrd2 Hb2
      unfold maxLen at hcml
      go_wp2_with fail
      go_loopg [7] N (fun m i wr => ∃ k : Nat, k + m = N ∧ i = .int .i64 k ∧ Below w.heap.size w wr ∧ ∃ (lk : List Opt) (ok : List Int), Hid ((lk, ok) = iterS k (l, zerosI n)) ∧ Hid (ovB lk = true) ∧ Hid (lk.length = n) ∧ Hid (UpTo k ok) ∧
        wr.ownsRow w.heap.size 31 4 (.slice (some ⟨gl, 0, none⟩) n cl) n (flat Opt.cells lk) ∧ wr.ownsRow w.heap.size 3 1 (.slice (some ⟨g, 0, none⟩) n n) n (iV ok))
      case atStart => exact ⟨0, by omega, rfl, Hb4.out, l, zerosI n, rfl, Hv.out, hlen.out, fun y hy => by have := List.eq_of_mem_replicate hy; omega, Hownl.out, by have := Hown4.out; simpa [iV, zerosI] using this⟩
      case round =>
        clear Hb4 Hownl Hown4
        obtain ⟨k, hk, rfl, hbr, lk, ok, Hit, Hok, Hll, Hup, hrl, hro⟩ := hrel
        by_cases hlt : k < N
        · have hsr := hbr.size
          have hO := Lib.hid (l43Order_any (some ⟨gl, 0, none⟩) n cl lk wr wr.heap.size (opts_own hrl hn Hok.out) (Nat.le_refl _) hn4)
          have Hrl := Lib.hid hrl
          have Hro := Lib.hid hro
          clear hrl hro
          go_wp2_with fail
          refine hO.out.mono ?_
          rintro e w5 ⟨go, co, rfl, hoc, hb5, hownO⟩
          have hrl5 := Hrl.out.kept (only_of_below hb5 none) (.inr (by simp [Value.ownBlock]))
          have hro5 := Hro.out.kept (only_of_below hb5 none) (.inr (by simp [Value.ownBlock]))
          have Hb5 := Lib.hid (hbr.trans (hb5.mono hsr))
          have hgo := hownO.lt go rfl
          have hgll := (Hrl.out.lt gl rfl).2
          have hggl := (Hro.out.lt g rfl).2
          clear hO Hrl Hro hbr
          cases ho : order lk with
          | nil =>
            have hst : stepS (lk, ok) = (lk, ok) := by simp only [stepS, ho]
            have hnext : (lk, ok) = iterS (k + 1) (l, zerosI n) := by rw [iterS_succ, ← Hit.out, hst]
            have Hnext := Lib.hid hnext
            have Hrl5 := Lib.hid hrl5
            have Hro5 := Lib.hid hro5
            clear hst hnext hrl5 hro5 hownO hb5 ho
            go_wp2
            go_roundg (N - (k + 1))
            case measure => omega
            case rel => exact ⟨k + 1, by omega, by go_num, Hb5.out, lk, ok, Hnext, Hok, Hll, fun y hy => by have := Hup.out y hy; omega, Hrl5.out, Hro5.out⟩
          | cons i t =>
            have him : i ∈ order lk := by rw [ho]; exact List.mem_cons_self
            have hil := (order_mem.1 him).1
            have hin : i < n := by rw [← Hll.out]; exact hil
            have hst : stepS (lk, ok) = (bump lk i, ok.set i (ok.getD i 0 + 1)) := by simp only [stepS, ho]
            have hnext : (bump lk i, ok.set i (ok.getD i 0 + 1)) = iterS (k + 1) (l, zerosI n) := by rw [iterS_succ, ← Hit.out, hst]
            have Hnext := Lib.hid hnext
            have Hok' := Lib.hid (ok_bump Hok.out him)
            obtain ⟨u, hu⟩ : ∃ u, lk[i]? = some u := ⟨_, List.getElem?_eq_getElem hil⟩
            have hub := bd_of_ok Hok.out hu
            have hol : ok.length = n := by have := hro5.1; rw [iV_len] at this; omega
            obtain ⟨y, hy⟩ : ∃ y, ok[i]? = some y := ⟨_, List.getElem?_eq_getElem (by omega)⟩
            have hyb := Hup.out y (List.mem_of_getElem? hy)
            have Hup' := Lib.hid (Hup.out.set hy)
            have hgd : ok.getD i 0 = y := by rw [List.getD_eq_getElem?_getD, hy]; rfl
            rw [hgd] at Hnext
            have hc0 : w5.cell? ⟨go, 0, none⟩ = some (.int .i64 (i : Int)) := by
              rw [hownO.cellAt 0 (by rw [ho]; simp), ho]; rfl
            have hcl := (own_cell (enc := Opt.cells) (fun _ => rfl) hrl5 (j := 3) hu rfl).1
            have hfl := hrl5.frozenAt (i * 4 + 3)
            have hco : w5.cell? ⟨g, i, none⟩ = some (.int .i64 y) := by rw [hro5.cellAt i (by omega)]; exact iV_at hy
            have hfo := hro5.frozenAt i
            have hst1 := hrl5.stored (i * 4 + 3) (.int .i64 (u.fl + 1))
            rw [flat_set1 hu, ← bump_eq hu] at hst1
            have hro6 := hro5.kept hst1.2 (.inr (by simp [Value.ownBlock]; exact hne))
            have hst2 := hro6.stored i (.int .i64 (y + 1))
            rw [iV_set] at hst2
            have hrl6 := hst1.1.kept hst2.2 (.inr (by simp [Value.ownBlock]; exact Ne.symm hne))
            have Hrl7 := Lib.hid hrl6
            have Hro7 := Lib.hid hst2.1
            have Hb7 := Lib.hid ((Hb5.out.setCell (p := ⟨gl, i * 4 + 3, none⟩) (by show w.heap.size ≤ gl; omega) (.int .i64 (u.fl + 1))).setCell (p := ⟨g, i, none⟩) hg (.int .i64 (y + 1)))
            have hol1 : 1 ≤ (order lk).length := by rw [ho]; simp
            have hgo1 : go ≠ gl := by omega
            have hgo2 : go ≠ g := by omega
            have ne1 : ∀ o1 o2, (⟨gl, o2, none⟩ : Addr) ≠ ⟨go, o1, none⟩ := fun o1 o2 e => by injection e with e; omega
            have ne2 : ∀ o1 o2, (⟨gl, o2, none⟩ : Addr) ≠ ⟨g, o1, none⟩ := fun o1 o2 e => by injection e with e; omega
            have hc0' : (w5.setCell ⟨gl, i * 4 + 3, none⟩ (.int .i64 (u.fl + 1))).cell? ⟨go, 0, none⟩ = some (.int .i64 (i : Int)) := by rw [World.cell?_setCell_other _ _ _ _ (ne1 _ _)]; exact hc0
            have hco' : (w5.setCell ⟨gl, i * 4 + 3, none⟩ (.int .i64 (u.fl + 1))).cell? ⟨g, i, none⟩ = some (.int .i64 y) := by rw [World.cell?_setCell_other _ _ _ _ (ne2 _ _)]; exact hco
            have hfo' : (w5.setCell ⟨gl, i * 4 + 3, none⟩ (.int .i64 (u.fl + 1))).frozen? ⟨g, i, none⟩ = false := by simpa using hfo
            clear ne1 ne2
            have HC := Lib.hid hc0'
            have HCO := Lib.hid hco'
            have HFO := Lib.hid hfo'
            clear hc0' hco' hfo'
            have q1 : (0 : Int) ≤ (i : Int) := by omega
            have q2 : (i : Int) < (n : Int) := by omega
            have q3 : (0 : Int) < ((order lk).length : Int) := by omega
            have Ho := Lib.hid ho
            clear hst hnext ho him hil hrl5 hro5 hu hy hgd hst1 hro6 hst2 hrl6 hownO hb5
            generalize (order lk).length = m at hoc hol1 q3 ⊢
            go_wp2_with fail
            go_still_tail 14, (by kernel_rfl)
            change wpList _ _ _ _ _ w5.drew
            go_wp2_with fail
            generalize w5.setCell ⟨gl, i * 4 + 3, none⟩ (.int .i64 (u.fl + 1)) = w6 at HC HCO HFO Hrl7 Hro7 Hb7 ⊢
            have hc0' : w6.drew.cell? ⟨go, 0, none⟩ = some (.int .i64 (i : Int)) := HC.out
            have hco' : w6.drew.cell? ⟨g, i, none⟩ = some (.int .i64 y) := HCO.out
            have hfo' : w6.drew.frozen? ⟨g, i, none⟩ = false := HFO.out
            have Hrl8 := Lib.hid (World.ownsRow.drew Hrl7.out)
            have Hro8 := Lib.hid (World.ownsRow.drew Hro7.out)
            have Hb8 := Lib.hid (Below.drew Hb7.out)
            change Hid ((w6.drew.setCell ⟨g, i, none⟩ (.int .i64 (y + 1))).ownsRow _ _ _ _ _ _) at Hrl8 Hro8
            change Hid (Below _ _ (w6.drew.setCell ⟨g, i, none⟩ (.int .i64 (y + 1)))) at Hb8
            clear Hrl7 Hro7 Hb7 HC HCO HFO
            generalize w6.drew = w7 at hc0' hco' hfo' Hrl8 Hro8 Hb8 ⊢
            clear hc0 hcl hfl hco hfo
            go_still_tail 12, (by kernel_rfl)
            change wpList _ _ _ _ _ w7.drew
            go_wp2
            go_roundg (N - (k + 1))
            case measure => omega
            case rel => exact ⟨k + 1, by omega, by go_num, below_drewN Hb8.out 1, _, _, Hnext, Hok'.out, by have := Hll.out; unfold Hid; rw [bump_len]; exact this, Hup'.out, Hrl8.out, Hro8.out⟩
        · have hkN : k = N := by omega
          subst hkN
          have hfin : splI l (k : Int) = ok := by
            have h1 := iter_take k l (zerosI n) (by rw [zerosI, List.length_replicate, hlen.out])
            rw [← Hit.out] at h1
            have h2 : ok = takeG l (order l) k (zerosI n) := h1
            unfold splI
            rw [Hv.out, Hx.out, Bool.and_self, if_pos rfl, h2, hlen.out]
            rfl
          have Hres : Hid (NewInts (splI l (k : Int)) w (.returned (.slice (some ⟨g, 0, none⟩) n n)) wr) :=
            ⟨_, _, _, rfl, hbr, by rw [hfin]; exact (IntsO.of_own hro).1, fun hh => by cases hh⟩
          clear hfin hrl hro
          go_wp2
          go_ret
          exact Hres.out
end Go.Proofs.Ytjnplihkagegdaa
