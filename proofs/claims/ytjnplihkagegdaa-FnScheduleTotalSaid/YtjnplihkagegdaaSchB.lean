/- Orders as plain data, and the contract of the spec's l43Order. Condition: the slice reads as a list of options. -/
import Derived.Test.YtjnplihkagegdaaSchA
import Derived.Test.YtjnplihkagegdaaStep
namespace Go.Proofs.Ytjnplihkagegdaa
open Go.RowKit

def Opt.openB (o : Opt) : Bool := o.act && decide (o.fl < o.win)
def rttOf (l : List Opt) (i : Nat) : Int := (l.getD i default).rtt
/-- Where i goes among the first k of out: behind all that are not slower. -/
def posI (l : List Opt) (out : List Nat) (i : Nat) : Nat → Nat
  | 0 => 0
  | k + 1 => if rttOf l (out.getD k 0) > rttOf l i then posI l out i k else k + 1
def insI (l : List Opt) (out : List Nat) (i : Nat) : List Nat := out.take (posI l out i out.length) ++ i :: out.drop (posI l out i out.length)
def stepI (l : List Opt) (out : List Nat) (i : Nat) : List Nat := if (l.getD i default).openB then insI l out i else out
def orderTo (l : List Opt) (k : Nat) : List Nat := (List.range k).foldl (stepI l) []
def order (l : List Opt) : List Nat := orderTo l l.length
theorem alloc_below (w : World) (o : Obj) : Below w.heap.size w (w.alloc o) := (Below.refl _ _).alloc (Nat.le_refl _) o
theorem posI_le (l : List Opt) (out : List Nat) (i : Nat) : ∀ k, posI l out i k ≤ k
  | 0 => Nat.le_refl _
  | k + 1 => by
    unfold posI
    split
    · have := posI_le l out i k; omega
    · omega
theorem insI_len (l : List Opt) (out : List Nat) (i : Nat) : (insI l out i).length = out.length + 1 := by
  have := posI_le l out i out.length
  simp [insI]; omega
theorem orderTo_succ (l : List Opt) (k : Nat) : orderTo l (k + 1) = stepI l (orderTo l k) k := by simp [orderTo, List.range_succ]
theorem stepI_len (l : List Opt) (out : List Nat) (i : Nat) : (stepI l out i).length ≤ out.length + 1 := by
  unfold stepI
  split
  · rw [insI_len]; omega
  · omega
theorem orderTo_len (l : List Opt) : ∀ k, (orderTo l k).length ≤ k
  | 0 => by simp [orderTo]
  | k + 1 => by rw [orderTo_succ]; have := stepI_len l (orderTo l k) k; have := orderTo_len l k; omega
theorem insI_lt (l : List Opt) (out : List Nat) (i n : Nat) (h : ∀ x ∈ out, x < n) (hi : i < n) : ∀ x ∈ insI l out i, x < n := by
  intro x hx
  simp only [insI, List.mem_append, List.mem_cons] at hx
  rcases hx with hx | rfl | hx
  · exact h x (List.mem_of_mem_take hx)
  · exact hi
  · exact h x (List.mem_of_mem_drop hx)
theorem orderTo_lt (l : List Opt) : ∀ k, ∀ x ∈ orderTo l k, x < k
  | 0 => by simp [orderTo]
  | k + 1 => by
    rw [orderTo_succ]
    unfold stepI
    split
    · exact insI_lt l _ k (k + 1) (fun x hx => by have := orderTo_lt l k x hx; omega) (by omega)
    · intro x hx; have := orderTo_lt l k x hx; omega
def intV (l : List Nat) : List Value := l.map fun (i : Nat) => Value.int .i64 (i : Int)
theorem intV_take {os : List Nat} {p j : Nat} {u : Value} (h : (intV (os.take p))[j]? = some u) : (intV os)[j]? = some u := by
  rw [intV, List.map_take, List.getElem?_take] at h
  split at h
  · exact h
  · cases h
theorem intV_drop {os : List Nat} {p j : Nat} {u : Value} (h : (intV (os.drop p))[j]? = some u) : (intV os)[p + j]? = some u := by
  rw [intV, List.map_drop, List.getElem?_drop] at h
  exact h
theorem intV_one (xs : List Nat) : ∀ u ∈ intV xs, u.oneCell' = true := fun u hu => by
  simp only [intV, List.mem_map] at hu
  obtain ⟨_, _, rfl⟩ := hu
  rfl
theorem intV_len (xs : List Nat) : (intV xs).length = xs.length := by simp [intV]
theorem infoInt : (Try.prog.info? 3).map (fun i => (i.zero, i.size, i.bytes)) = some (some (.int .i64 0), 1, 8) := by kernel_rfl

theorem getD_of {l : List Opt} {k : Nat} {u : Opt} (h : l[k]? = some u) : l.getD k default = u := by rw [List.getD_eq_getElem?_getD, h]; rfl
theorem rtt_of {l : List Opt} {k : Nat} {u : Opt} (h : l[k]? = some u) : rttOf l k = u.rtt := by rw [rttOf, getD_of h]
theorem posI_eq (l : List Opt) (out : List Nat) (i j : Nat) : posI l out i j = if 0 < j ∧ rttOf l i < rttOf l (out.getD (j - 1) 0) then posI l out i (j - 1) else j := by
  cases j with
  | zero => rfl
  | succ k => simp only [posI, Nat.succ_pos, true_and, Nat.add_sub_cancel, gt_iff_lt]
theorem intV_drop0 {os : List Nat} {p j : Nat} {u : Value} (hp : os.length ≤ p) (h : (intV (os.drop p))[j]? = some u) : (intV os)[j]? = some u := by
  rw [List.drop_eq_nil_of_le hp] at h
  simp [intV] at h
theorem row_cap {w : World} {base e size n m c : Nat} {g : Nat} {xs : List Value} (h : w.ownsRow base e size (.slice (some ⟨g, 0, none⟩) m c) n xs) : c ≤ maxLen := by
  rcases h.2 with ⟨h0, _⟩ | ⟨g', cap, cur, hv, _, _, _, hm, _⟩
  · cases h0
  · injection hv with _ _ e; subst e; exact hm
theorem row_le {w : World} {base e size n m c : Nat} {g : Nat} {xs : List Value} (h : w.ownsRow base e size (.slice (some ⟨g, 0, none⟩) m c) n xs) : n ≤ c := by
  rcases h.2 with ⟨h0, _⟩ | ⟨g', cap, cur, hv, _, _, hm, _, _⟩
  · cases h0
  · injection hv with _ _ e; subst e; exact hm
theorem own_low {w : World} {base base' e size n : Nat} {v : Value} {xs : List Value} (h : w.ownsRow base e size v n xs) (hb : base' ≤ base) : w.ownsRow base' e size v n xs := by
  refine ⟨h.1, ?_⟩
  rcases h.2 with h0 | ⟨g, cap, cur, hv, hg, r⟩
  · exact .inl h0
  · exact .inr ⟨g, cap, cur, hv, Nat.le_trans hb hg, r⟩

set_option maxHeartbeats 1000000 in
theorem l43Order_any (A : Option Addr) (n c : Nat) (l : List Opt) (w : World) (B : Nat) (h : Opts 1048576 w B A n l) (hB : B ≤ w.heap.size) (hn4 : n ≤ 4) :
    Calls Try.prog 30 #[.slice A n c] w fun e w' => ∃ g c', e = .returned (.slice (some ⟨g, 0, none⟩) (order l).length c') ∧ (order l).length ≤ c' ∧ Below w.heap.size w w' ∧
      w'.ownsRow w.heap.size 3 1 (.slice (some ⟨g, 0, none⟩) (order l).length c') (order l).length (intV (order l)) := by
  have hlen := Lib.hid h.len
  obtain ⟨i0, hi, hz0, hz1, hz2⟩ := info_parts infoInt
  have hown0 : (w.alloc (.cells #[] 3)).ownsRow w.heap.size 3 1 (.slice (some ⟨w.heap.size, 0, none⟩) 0 0) 0 [] := World.ownsRow_lit (base := w.heap.size) (e := 3) (size := 1) w #[] 0 (Nat.le_refl _) (by omega) rfl
  have hb0 : Below w.heap.size w (w.alloc (.cells #[] 3)) := alloc_below w _
  go_enter Try.func30, Try.ntmps30
  go_wp2
  go_loopg [3, 4] n (fun m out i wr => ∃ k : Nat, k + m = n ∧ i = .int .i64 k ∧ Below w.heap.size w wr ∧ ∃ os : List Nat, Hid (os = orderTo l k) ∧ os.length ≤ k ∧ ∃ g c', out = .slice (some ⟨g, 0, none⟩) os.length c' ∧ os.length ≤ c' ∧ wr.ownsRow w.heap.size 3 1 (.slice (some ⟨g, 0, none⟩) os.length c') os.length (intV os))
  case atStart => exact ⟨0, by omega, rfl, hb0, [], by simp [Hid, orderTo], by simp, w.heap.size, 0, rfl, by simp, hown0⟩
  case round =>
    clear hown0 hb0
    obtain ⟨k, hk, rfl, hbr, os, Hos, hosk, g, c', rfl, hoc, hown⟩ := hrel
    by_cases hlt : k < n
    · obtain ⟨b, o, u, rfl, hb, hu, hbd, c0, c1, c2, c3⟩ := (h.below hbr hB).at_ hlt
      have Hu := Lib.hid hu
      by_cases hopen : u.openB = true
      · have hyes : orderTo l (k + 1) = insI l os k := by rw [orderTo_succ, ← Hos.out, stepI, getD_of hu, if_pos hopen]
        have Hyes := Lib.hid hyes
        have ha : u.act = true := by simp [Opt.openB] at hopen; exact hopen.1
        have hf : u.fl < u.win := by simp [Opt.openB] at hopen; exact hopen.2
        have hosl : ∀ x ∈ os, x < k := by rw [Hos.out]; exact orderTo_lt l k
        have Hosl := Lib.hid hosl
        have hrk := rtt_of hu
        have Hrk := Lib.hid hrk
        rw [ha] at c0
        clear hu hopen hyes hosl hrk ha
        go_wp2_with fail
        go_quiet (fail)
        have hbr2 : Below w.heap.size w (wr.drewN nq) := below_drewN hbr _
        have hown2 : (wr.drewN nq).ownsRow w.heap.size 3 1 (.slice (some ⟨g, 0, none⟩) os.length c') os.length (intV os) := hown
        generalize wr.drewN nq = w1 at hbr2 hown2 ⊢
        clear hbr hown c0 c1 c2 c3
        go_wp2_with fail
        go_loopg [5] os.length (fun m i wr => m ≤ os.length ∧ i = .int .i64 m ∧ Below w.heap.size w wr ∧ wr.ownsRow w.heap.size 3 1 (.slice (some ⟨g, 0, none⟩) os.length c') os.length (intV os) ∧ Hid (posI l os k m = posI l os k os.length))
        case atStart => exact ⟨Nat.le_refl _, rfl, hbr2, hown2, rfl⟩
        case round =>
          clear hbr2 hown2
          obtain ⟨j, rfl⟩ : ∃ j, j = gk := ⟨_, rfl⟩
          obtain ⟨hjl, rfl, hbj, hoj, Hpos⟩ := hrel
          by_cases hgt : 0 < j ∧ rttOf l k < rttOf l (os.getD (j - 1) 0)
          · obtain ⟨h0, hgt⟩ := hgt
            obtain ⟨x, hx⟩ : ∃ x, os[j - 1]? = some x := ⟨_, List.getElem?_eq_getElem (by omega)⟩
            have hxk : x < k := Hosl.out x (List.mem_of_getElem? hx)
            have hcx : wr.cell? ⟨g, j - 1, none⟩ = some (.int .i64 (x : Int)) := by
              rw [hoj.cellAt (j - 1) (by omega)]
              simp [intV, hx]
            obtain ⟨b2, o2, v, e2, hb2, hv, hvd, -, d1, -, -⟩ := (h.below hbj hB).at_ (show x < n by omega)
            obtain ⟨b3, o3, u', e3, hb3, hu', hud, -, f1, -, -⟩ := (h.below hbj hB).at_ hlt
            obtain ⟨rfl, rfl⟩ : b = b2 ∧ o = o2 := by simpa using e2
            obtain ⟨rfl, rfl⟩ : b = b3 ∧ o = o3 := by simpa using e3
            have hpj : posI l os k (j - 1) = posI l os k os.length := by rw [← Hpos.out, posI_eq l os k j, if_pos ⟨h0, hgt⟩]
            have Hpj := Lib.hid hpj
            rw [List.getD_eq_getElem?_getD, hx, Option.getD_some, rtt_of hv, rtt_of hu'] at hgt
            clear hx hv hu' e2 e3 hvd hud hpj
            go_wp2_with fail
            go_quiet (fail)
            go_wp2_with fail
            go_roundg (j - 1)
            case measure => omega
            case rel => exact ⟨by omega, by simp; omega, below_drewN hbj _, hoj, Hpj.out⟩
          · have hins : insI l os k = os.take j ++ k :: os.drop j := by rw [insI, ← Hpos.out, posI_eq l os k j, if_neg hgt]
            have Hins := Lib.hid hins
            clear hins
            by_cases h0 : 0 < j
            · obtain ⟨x, hx⟩ : ∃ x, os[j - 1]? = some x := ⟨_, List.getElem?_eq_getElem (by omega)⟩
              have hxk : x < k := Hosl.out x (List.mem_of_getElem? hx)
              have hcx : wr.cell? ⟨g, j - 1, none⟩ = some (.int .i64 (x : Int)) := by
                rw [hoj.cellAt (j - 1) (by omega)]
                simp [intV, hx]
              obtain ⟨b2, o2, v, e2, hb2, hv, hvd, -, d1, -, -⟩ := (h.below hbj hB).at_ (show x < n by omega)
              obtain ⟨b3, o3, u', e3, hb3, hu', hud, -, f1, -, -⟩ := (h.below hbj hB).at_ hlt
              obtain ⟨rfl, rfl⟩ : b = b2 ∧ o = o2 := by simpa using e2
              obtain ⟨rfl, rfl⟩ : b = b3 ∧ o = o3 := by simpa using e3
              have hngt : v.rtt ≤ u'.rtt := by
                have : ¬ rttOf l k < rttOf l (os.getD (j - 1) 0) := fun hh => hgt ⟨h0, hh⟩
                rw [List.getD_eq_getElem?_getD, hx, Option.getD_some, rtt_of hv, rtt_of hu'] at this
                omega
              clear hx hv hu' e2 e3 hvd hud hgt
              go_wp2_with fail
              go_quiet (fail)
              go_wp2_with fail
              clear hcx d1 f1 hngt hxk h0
              have hbr2 : Below w.heap.size w (wr.drewN nq) := below_drewN hbj _
              have hown2 : (wr.drewN nq).ownsRow w.heap.size 3 1 (.slice (some ⟨g, 0, none⟩) os.length c') os.length (intV os) := hoj
              generalize wr.drewN nq = w2 at hbr2 hown2 ⊢
              have hg2 : g < w2.heap.size := (hown2.lt g rfl).2
              have hc' : c' ≤ maxLen := row_cap hown2
              unfold maxLen at hc'
              have hw2 := hbr2.size
              have hcell2 : ∀ j u, (intV os)[j]? = some u → w2.cell? ⟨g, j, none⟩ = some u := fun j u hu => by
                rw [hown2.cellAt j (by have := (List.getElem?_eq_some_iff.1 hu).1; simpa [intV] using this), hu]
              have own0 : (w2.drew.alloc (.cells #[] 3)).ownsRow w2.heap.size 3 1 (.slice (some ⟨w2.heap.size, 0, none⟩) 0 0) 0 [] := World.ownsRow_lit (base := w2.heap.size) (e := 3) (size := 1) w2.drew #[] 0 (Nat.le_refl _) (by omega) rfl
              have own0' : ((w2.drew.alloc (.cells #[.int .i64 (k : Int)] 3)).alloc (.cells #[] 3)).ownsRow w2.heap.size 3 1 (.slice (some ⟨w2.heap.size + 1, 0, none⟩) 0 0) 0 [] := by
                have := World.ownsRow_lit (base := w2.heap.size) (e := 3) (size := 1) (w2.drew.alloc (.cells #[.int .i64 (k : Int)] 3)) #[] 0 (by simp) (by omega) rfl
                simpa using this
              have bel0 : Below w2.heap.size w2 (w2.drew.alloc (.cells #[] 3)) := (Below.refl _ _).drew.alloc (Nat.le_refl _) _
              have bel1 : Below w2.heap.size w2 ((w2.drew.alloc (.cells #[] 3)).alloc (.cells #[.int .i64 (k : Int)] 3)) := bel0.alloc bel0.size _
              have bel2 : Below w2.heap.size w2 ((w2.drew.alloc (.cells #[.int .i64 (k : Int)] 3)).alloc (.cells #[] 3)) := ((Below.refl _ _).drew.alloc (Nat.le_refl _) _).alloc (by simp) _
              have onec : ∀ u ∈ [Value.int .i64 (k : Int)], u.oneCell' = true := fun u hu => by simp at hu; subst hu; rfl
              have one1 : ∀ W' : World, ∀ j u, [Value.int .i64 (k : Int)][j]? = some u → (W'.alloc (.cells #[.int .i64 (k : Int)] 3)).cell? ((⟨W'.heap.size, 0, none⟩ : Addr).add j) = some u := fun W' j u hu => by
                have hj : j = 0 := by
                  rcases Nat.eq_zero_or_pos j with h0 | h0
                  · exact h0
                  · rw [List.getElem?_eq_none (by simp; omega)] at hu; cases hu
                subst hj
                rw [add_lit, World.cell?_alloc_new]
                simpa using hu
              have oneA : ∀ j u, [Value.int .i64 (k : Int)][j]? = some u → ((w2.drew.alloc (.cells #[] 3)).alloc (.cells #[.int .i64 (k : Int)] 3)).cell? ((⟨w2.heap.size + 1, 0, none⟩ : Addr).add j) = some u := fun j u hu => by
                have := one1 (w2.drew.alloc (.cells #[] 3)) j u hu
                simpa using this
              have oneC : ∀ j u, [Value.int .i64 (k : Int)][j]? = some u → ((w2.drew.alloc (.cells #[.int .i64 (k : Int)] 3)).alloc (.cells #[] 3)).cell? ((⟨w2.heap.size, 0, none⟩ : Addr).add j) = some u := fun j u hu => by
                have h1 := one1 w2.drew j u hu
                rw [← h1, add_lit, add_lit]
                exact (alloc_below (w2.drew.alloc (.cells #[.int .i64 (k : Int)] 3)) _).cell (p := ⟨w2.heap.size, 0 + j, none⟩) (by simp)
              have htl : (intV (os.take j)).length = j := by rw [intV_len, List.length_take]; omega
              have hdl : (intV (os.drop j)).length = os.length - j := by rw [intV_len, List.length_drop]
              have q1 : (0 : Int) ≤ (j : Int) := by omega
              have q2 : (j : Int) ≤ (c' : Int) := by omega
              have q3 : (j : Int) ≤ (os.length : Int) := by omega
              have q4 : (os.length : Int) ≤ (c' : Int) := by omega
              obtain ⟨adj, hadj, hcadj⟩ : ∃ adj, (if c' = j then (some ⟨g, 0, none⟩ : Option Addr) else some ⟨g, j, none⟩) = some ⟨g, adj, none⟩ ∧ ∀ i u, (intV (os.drop j))[i]? = some u → w2.cell? ⟨g, adj + i, none⟩ = some u := by
                by_cases hjc : c' = j
                · exact ⟨0, by rw [if_pos hjc], fun i u hu => by rw [Nat.zero_add]; exact hcell2 i u (intV_drop0 (by omega) hu)⟩
                · exact ⟨j, by rw [if_neg hjc], fun i u hu => hcell2 (j + i) u (intV_drop hu)⟩
              have HADJ := Lib.hid hadj
              clear hadj
              go_region_law (first
                  | (refine step_app rfl (.tmp 55) (.tmp 58) 26 rfl w2.heap.size 3 i0 (.int .i64 0) 8 Try.underlying26 hi hz0 hz1 hz2 rfl _ 0 [] rfl (by first | exact own0 | exact own0.alloc _ | exact own0') ⟨g, 0, none⟩ j c' (intV (os.take j)) rfl htl (fun j u hu => by rw [add_lit, Nat.zero_add]; first | exact (bel0.cell (p := ⟨g, j, none⟩) hg2).trans (hcell2 j u (intV_take hu)) | exact (bel1.cell (p := ⟨g, j, none⟩) hg2).trans (hcell2 j u (intV_take hu)) | exact (bel2.cell (p := ⟨g, j, none⟩) hg2).trans (hcell2 j u (intV_take hu))) (intV_one _) (by unfold maxLen; omega) (by omega) (by first | exact bel0.size | exact bel1.size | exact bel2.size) ?_; intro v1 w3 own1 gr1; have bel3 : Below w2.heap.size w2 w3 := (by first | exact bel0.grown gr1 bel0.size (fun k hk => (own0.lt k hk).1) | exact bel1.grown gr1 bel1.size (fun k hk => (own0.lt k hk).1) | exact bel2.grown gr1 bel2.size (fun k hk => (own0'.lt k hk).1)))
                  | (refine step_app rfl (.tmp 59) (.tmp 61) 26 rfl w2.heap.size 3 i0 (.int .i64 0) 8 Try.underlying26 hi hz0 hz1 hz2 rfl v1 (0 + j) _ rfl (own1.alloc _) ⟨w3.heap.size, 0, none⟩ 1 1 [.int .i64 (k : Int)] rfl rfl (one1 w3) onec (by unfold maxLen; omega) (by omega) (bel3.alloc bel3.size _).size ?_; intro v2 w4 own2 gr2; have bel4 : Below w2.heap.size w2 w4 := (bel3.alloc bel3.size _).grown gr2 (bel3.alloc bel3.size _).size (fun k hk => (own1.lt k hk).1))
                  | (refine step_app rfl (.tmp 59) (.tmp 61) 26 rfl w2.heap.size 3 i0 (.int .i64 0) 8 Try.underlying26 hi hz0 hz1 hz2 rfl v1 (0 + j) _ rfl own1 ⟨w2.heap.size, 0, none⟩ 1 1 [.int .i64 (k : Int)] rfl rfl (fun j u hu => by have hq := oneC j u hu; rw [add_lit] at hq ⊢; exact (World.cell?_of_block (gr1.block w2.heap.size (by simp; omega) (show some w2.heap.size ≠ some (w2.heap.size + 1) from by simp))).trans hq) onec (by unfold maxLen; omega) (by omega) bel3.size ?_; intro v2 w4 own2 gr2; have bel4 : Below w2.heap.size w2 w4 := bel3.grown gr2 bel3.size (fun k hk => (own1.lt k hk).1))
                  | (refine step_app rfl (.tmp 62) (.tmp 65) 26 rfl w2.heap.size 3 i0 (.int .i64 0) 8 Try.underlying26 hi hz0 hz1 hz2 rfl v2 (0 + j + 1) _ rfl own2 ⟨g, adj, none⟩ (os.length - j) (c' - j) (intV (os.drop j)) (by show Value.slice (if c' = j then _ else _) _ _ = _; rw [HADJ.out]) hdl (fun i u hu => by rw [add_lit]; exact (bel4.cell (p := ⟨g, adj + i, none⟩) hg2).trans (hcadj i u hu)) (intV_one _) (by unfold maxLen; omega) (by omega) bel4.size ?_; intro v3 w5 own3 gr3; have bel5 : Below w2.heap.size w2 w5 := bel4.grown gr3 bel4.size (fun k hk => (own2.lt k hk).1))
                  | (refine step_app rfl (.tmp 59) (.tmp 61) 26 rfl w2.heap.size 3 i0 (.int .i64 0) 8 Try.underlying26 hi hz0 hz1 hz2 rfl v1 (0 + j) _ rfl own1 ⟨w2.heap.size + 1, 0, none⟩ 1 1 [.int .i64 (k : Int)] rfl rfl (fun j u hu => by have hq := oneA j u hu; rw [add_lit] at hq ⊢; exact (World.cell?_of_block (gr1.block (w2.heap.size + 1) (by simp) (show some (w2.heap.size + 1) ≠ some w2.heap.size from by simp))).trans hq) onec (by unfold maxLen; omega) (by omega) bel3.size ?_; intro v2 w4 own2 gr2; have bel4 : Below w2.heap.size w2 w4 := bel3.grown gr2 bel3.size (fun k hk => (own1.lt k hk).1)))
              · have hnn : 0 + j + 1 + (os.length - j) = (insI l os k).length := by rw [insI_len]; omega
                have hxx : [] ++ intV (os.take j) ++ [Value.int .i64 (k : Int)] ++ intV (os.drop j) = intV (insI l os k) := by rw [Hins.out]; simp [intV]
                rw [hnn, hxx] at own3
                obtain ⟨g3, c3, rfl, -, -⟩ := own3.form (by rw [insI_len]; omega)
                have hc3 := row_le own3
                have Hown3 := Lib.hid (own_low own3 hw2)
                have Hb3 := Lib.hid (hbr2.trans (bel5.mono hw2))
                have Hil := Lib.hid (insI_len l os k)
                clear hnn hxx own3 own2 own1 bel5 bel4 bel3 gr3 gr2 gr1 own0 own0' bel0 bel1 bel2 onec one1 oneA oneC htl hdl hcell2
                rw [HADJ.out]
                go_wp2
                go_roundg (n - (k + 1))
                case measure => omega
                case rel => exact ⟨k + 1, by omega, by go_num, Hb3.out, insI l os k, Hyes.out.symm, by rw [Hil.out]; omega, g3, c3, rfl, hc3, Hown3.out⟩
              · have hnn : 0 + j + 1 + (os.length - j) = (insI l os k).length := by rw [insI_len]; omega
                have hxx : [] ++ intV (os.take j) ++ [Value.int .i64 (k : Int)] ++ intV (os.drop j) = intV (insI l os k) := by rw [Hins.out]; simp [intV]
                rw [hnn, hxx] at own3
                obtain ⟨g3, c3, rfl, -, -⟩ := own3.form (by rw [insI_len]; omega)
                have hc3 := row_le own3
                have Hown3 := Lib.hid (own_low own3 hw2)
                have Hb3 := Lib.hid (hbr2.trans (bel5.mono hw2))
                have Hil := Lib.hid (insI_len l os k)
                clear hnn hxx own3 own2 own1 bel5 bel4 bel3 gr3 gr2 gr1 own0 own0' bel0 bel1 bel2 onec one1 oneA oneC htl hdl hcell2
                rw [HADJ.out]
                go_wp2
                go_roundg (n - (k + 1))
                case measure => omega
                case rel => exact ⟨k + 1, by omega, by go_num, Hb3.out, insI l os k, Hyes.out.symm, by rw [Hil.out]; omega, g3, c3, rfl, hc3, Hown3.out⟩
              · have hnn : 0 + j + 1 + (os.length - j) = (insI l os k).length := by rw [insI_len]; omega
                have hxx : [] ++ intV (os.take j) ++ [Value.int .i64 (k : Int)] ++ intV (os.drop j) = intV (insI l os k) := by rw [Hins.out]; simp [intV]
                rw [hnn, hxx] at own3
                obtain ⟨g3, c3, rfl, -, -⟩ := own3.form (by rw [insI_len]; omega)
                have hc3 := row_le own3
                have Hown3 := Lib.hid (own_low own3 hw2)
                have Hb3 := Lib.hid (hbr2.trans (bel5.mono hw2))
                have Hil := Lib.hid (insI_len l os k)
                clear hnn hxx own3 own2 own1 bel5 bel4 bel3 gr3 gr2 gr1 own0 own0' bel0 bel1 bel2 onec one1 oneA oneC htl hdl hcell2
                rw [HADJ.out]
                go_wp2
                go_roundg (n - (k + 1))
                case measure => omega
                case rel => exact ⟨k + 1, by omega, by go_num, Hb3.out, insI l os k, Hyes.out.symm, by rw [Hil.out]; omega, g3, c3, rfl, hc3, Hown3.out⟩
            · have h0' : decide (0 < j) = false := by simp; omega
              clear hgt h0
              go_wp2_with fail
              go_quiet (fail)
              go_wp2_with fail
              clear h0'
              have hbr2 : Below w.heap.size w (wr.drewN nq) := below_drewN hbj _
              have hown2 : (wr.drewN nq).ownsRow w.heap.size 3 1 (.slice (some ⟨g, 0, none⟩) os.length c') os.length (intV os) := hoj
              generalize wr.drewN nq = w2 at hbr2 hown2 ⊢
              have hg2 : g < w2.heap.size := (hown2.lt g rfl).2
              have hc' : c' ≤ maxLen := row_cap hown2
              unfold maxLen at hc'
              have hw2 := hbr2.size
              have hcell2 : ∀ j u, (intV os)[j]? = some u → w2.cell? ⟨g, j, none⟩ = some u := fun j u hu => by
                rw [hown2.cellAt j (by have := (List.getElem?_eq_some_iff.1 hu).1; simpa [intV] using this), hu]
              have own0 : (w2.drew.alloc (.cells #[] 3)).ownsRow w2.heap.size 3 1 (.slice (some ⟨w2.heap.size, 0, none⟩) 0 0) 0 [] := World.ownsRow_lit (base := w2.heap.size) (e := 3) (size := 1) w2.drew #[] 0 (Nat.le_refl _) (by omega) rfl
              have own0' : ((w2.drew.alloc (.cells #[.int .i64 (k : Int)] 3)).alloc (.cells #[] 3)).ownsRow w2.heap.size 3 1 (.slice (some ⟨w2.heap.size + 1, 0, none⟩) 0 0) 0 [] := by
                have := World.ownsRow_lit (base := w2.heap.size) (e := 3) (size := 1) (w2.drew.alloc (.cells #[.int .i64 (k : Int)] 3)) #[] 0 (by simp) (by omega) rfl
                simpa using this
              have bel0 : Below w2.heap.size w2 (w2.drew.alloc (.cells #[] 3)) := (Below.refl _ _).drew.alloc (Nat.le_refl _) _
              have bel1 : Below w2.heap.size w2 ((w2.drew.alloc (.cells #[] 3)).alloc (.cells #[.int .i64 (k : Int)] 3)) := bel0.alloc bel0.size _
              have bel2 : Below w2.heap.size w2 ((w2.drew.alloc (.cells #[.int .i64 (k : Int)] 3)).alloc (.cells #[] 3)) := ((Below.refl _ _).drew.alloc (Nat.le_refl _) _).alloc (by simp) _
              have onec : ∀ u ∈ [Value.int .i64 (k : Int)], u.oneCell' = true := fun u hu => by simp at hu; subst hu; rfl
              have one1 : ∀ W' : World, ∀ j u, [Value.int .i64 (k : Int)][j]? = some u → (W'.alloc (.cells #[.int .i64 (k : Int)] 3)).cell? ((⟨W'.heap.size, 0, none⟩ : Addr).add j) = some u := fun W' j u hu => by
                have hj : j = 0 := by
                  rcases Nat.eq_zero_or_pos j with h0 | h0
                  · exact h0
                  · rw [List.getElem?_eq_none (by simp; omega)] at hu; cases hu
                subst hj
                rw [add_lit, World.cell?_alloc_new]
                simpa using hu
              have oneA : ∀ j u, [Value.int .i64 (k : Int)][j]? = some u → ((w2.drew.alloc (.cells #[] 3)).alloc (.cells #[.int .i64 (k : Int)] 3)).cell? ((⟨w2.heap.size + 1, 0, none⟩ : Addr).add j) = some u := fun j u hu => by
                have := one1 (w2.drew.alloc (.cells #[] 3)) j u hu
                simpa using this
              have oneC : ∀ j u, [Value.int .i64 (k : Int)][j]? = some u → ((w2.drew.alloc (.cells #[.int .i64 (k : Int)] 3)).alloc (.cells #[] 3)).cell? ((⟨w2.heap.size, 0, none⟩ : Addr).add j) = some u := fun j u hu => by
                have h1 := one1 w2.drew j u hu
                rw [← h1, add_lit, add_lit]
                exact (alloc_below (w2.drew.alloc (.cells #[.int .i64 (k : Int)] 3)) _).cell (p := ⟨w2.heap.size, 0 + j, none⟩) (by simp)
              have htl : (intV (os.take j)).length = j := by rw [intV_len, List.length_take]; omega
              have hdl : (intV (os.drop j)).length = os.length - j := by rw [intV_len, List.length_drop]
              have q1 : (0 : Int) ≤ (j : Int) := by omega
              have q2 : (j : Int) ≤ (c' : Int) := by omega
              have q3 : (j : Int) ≤ (os.length : Int) := by omega
              have q4 : (os.length : Int) ≤ (c' : Int) := by omega
              obtain ⟨adj, hadj, hcadj⟩ : ∃ adj, (if c' = j then (some ⟨g, 0, none⟩ : Option Addr) else some ⟨g, j, none⟩) = some ⟨g, adj, none⟩ ∧ ∀ i u, (intV (os.drop j))[i]? = some u → w2.cell? ⟨g, adj + i, none⟩ = some u := by
                by_cases hjc : c' = j
                · exact ⟨0, by rw [if_pos hjc], fun i u hu => by rw [Nat.zero_add]; exact hcell2 i u (intV_drop0 (by omega) hu)⟩
                · exact ⟨j, by rw [if_neg hjc], fun i u hu => hcell2 (j + i) u (intV_drop hu)⟩
              have HADJ := Lib.hid hadj
              clear hadj
              go_region_law (first
                  | (refine step_app rfl (.tmp 55) (.tmp 58) 26 rfl w2.heap.size 3 i0 (.int .i64 0) 8 Try.underlying26 hi hz0 hz1 hz2 rfl _ 0 [] rfl (by first | exact own0 | exact own0.alloc _ | exact own0') ⟨g, 0, none⟩ j c' (intV (os.take j)) rfl htl (fun j u hu => by rw [add_lit, Nat.zero_add]; first | exact (bel0.cell (p := ⟨g, j, none⟩) hg2).trans (hcell2 j u (intV_take hu)) | exact (bel1.cell (p := ⟨g, j, none⟩) hg2).trans (hcell2 j u (intV_take hu)) | exact (bel2.cell (p := ⟨g, j, none⟩) hg2).trans (hcell2 j u (intV_take hu))) (intV_one _) (by unfold maxLen; omega) (by omega) (by first | exact bel0.size | exact bel1.size | exact bel2.size) ?_; intro v1 w3 own1 gr1; have bel3 : Below w2.heap.size w2 w3 := (by first | exact bel0.grown gr1 bel0.size (fun k hk => (own0.lt k hk).1) | exact bel1.grown gr1 bel1.size (fun k hk => (own0.lt k hk).1) | exact bel2.grown gr1 bel2.size (fun k hk => (own0'.lt k hk).1)))
                  | (refine step_app rfl (.tmp 59) (.tmp 61) 26 rfl w2.heap.size 3 i0 (.int .i64 0) 8 Try.underlying26 hi hz0 hz1 hz2 rfl v1 (0 + j) _ rfl (own1.alloc _) ⟨w3.heap.size, 0, none⟩ 1 1 [.int .i64 (k : Int)] rfl rfl (one1 w3) onec (by unfold maxLen; omega) (by omega) (bel3.alloc bel3.size _).size ?_; intro v2 w4 own2 gr2; have bel4 : Below w2.heap.size w2 w4 := (bel3.alloc bel3.size _).grown gr2 (bel3.alloc bel3.size _).size (fun k hk => (own1.lt k hk).1))
                  | (refine step_app rfl (.tmp 59) (.tmp 61) 26 rfl w2.heap.size 3 i0 (.int .i64 0) 8 Try.underlying26 hi hz0 hz1 hz2 rfl v1 (0 + j) _ rfl own1 ⟨w2.heap.size, 0, none⟩ 1 1 [.int .i64 (k : Int)] rfl rfl (fun j u hu => by have hq := oneC j u hu; rw [add_lit] at hq ⊢; exact (World.cell?_of_block (gr1.block w2.heap.size (by simp; omega) (show some w2.heap.size ≠ some (w2.heap.size + 1) from by simp))).trans hq) onec (by unfold maxLen; omega) (by omega) bel3.size ?_; intro v2 w4 own2 gr2; have bel4 : Below w2.heap.size w2 w4 := bel3.grown gr2 bel3.size (fun k hk => (own1.lt k hk).1))
                  | (refine step_app rfl (.tmp 62) (.tmp 65) 26 rfl w2.heap.size 3 i0 (.int .i64 0) 8 Try.underlying26 hi hz0 hz1 hz2 rfl v2 (0 + j + 1) _ rfl own2 ⟨g, adj, none⟩ (os.length - j) (c' - j) (intV (os.drop j)) (by show Value.slice (if c' = j then _ else _) _ _ = _; rw [HADJ.out]) hdl (fun i u hu => by rw [add_lit]; exact (bel4.cell (p := ⟨g, adj + i, none⟩) hg2).trans (hcadj i u hu)) (intV_one _) (by unfold maxLen; omega) (by omega) bel4.size ?_; intro v3 w5 own3 gr3; have bel5 : Below w2.heap.size w2 w5 := bel4.grown gr3 bel4.size (fun k hk => (own2.lt k hk).1))
                  | (refine step_app rfl (.tmp 59) (.tmp 61) 26 rfl w2.heap.size 3 i0 (.int .i64 0) 8 Try.underlying26 hi hz0 hz1 hz2 rfl v1 (0 + j) _ rfl own1 ⟨w2.heap.size + 1, 0, none⟩ 1 1 [.int .i64 (k : Int)] rfl rfl (fun j u hu => by have hq := oneA j u hu; rw [add_lit] at hq ⊢; exact (World.cell?_of_block (gr1.block (w2.heap.size + 1) (by simp) (show some (w2.heap.size + 1) ≠ some w2.heap.size from by simp))).trans hq) onec (by unfold maxLen; omega) (by omega) bel3.size ?_; intro v2 w4 own2 gr2; have bel4 : Below w2.heap.size w2 w4 := bel3.grown gr2 bel3.size (fun k hk => (own1.lt k hk).1)))
              · have hnn : 0 + j + 1 + (os.length - j) = (insI l os k).length := by rw [insI_len]; omega
                have hxx : [] ++ intV (os.take j) ++ [Value.int .i64 (k : Int)] ++ intV (os.drop j) = intV (insI l os k) := by rw [Hins.out]; simp [intV]
                rw [hnn, hxx] at own3
                obtain ⟨g3, c3, rfl, -, -⟩ := own3.form (by rw [insI_len]; omega)
                have hc3 := row_le own3
                have Hown3 := Lib.hid (own_low own3 hw2)
                have Hb3 := Lib.hid (hbr2.trans (bel5.mono hw2))
                have Hil := Lib.hid (insI_len l os k)
                clear hnn hxx own3 own2 own1 bel5 bel4 bel3 gr3 gr2 gr1 own0 own0' bel0 bel1 bel2 onec one1 oneA oneC htl hdl hcell2
                rw [HADJ.out]
                go_wp2
                go_roundg (n - (k + 1))
                case measure => omega
                case rel => exact ⟨k + 1, by omega, by go_num, Hb3.out, insI l os k, Hyes.out.symm, by rw [Hil.out]; omega, g3, c3, rfl, hc3, Hown3.out⟩
              · have hnn : 0 + j + 1 + (os.length - j) = (insI l os k).length := by rw [insI_len]; omega
                have hxx : [] ++ intV (os.take j) ++ [Value.int .i64 (k : Int)] ++ intV (os.drop j) = intV (insI l os k) := by rw [Hins.out]; simp [intV]
                rw [hnn, hxx] at own3
                obtain ⟨g3, c3, rfl, -, -⟩ := own3.form (by rw [insI_len]; omega)
                have hc3 := row_le own3
                have Hown3 := Lib.hid (own_low own3 hw2)
                have Hb3 := Lib.hid (hbr2.trans (bel5.mono hw2))
                have Hil := Lib.hid (insI_len l os k)
                clear hnn hxx own3 own2 own1 bel5 bel4 bel3 gr3 gr2 gr1 own0 own0' bel0 bel1 bel2 onec one1 oneA oneC htl hdl hcell2
                rw [HADJ.out]
                go_wp2
                go_roundg (n - (k + 1))
                case measure => omega
                case rel => exact ⟨k + 1, by omega, by go_num, Hb3.out, insI l os k, Hyes.out.symm, by rw [Hil.out]; omega, g3, c3, rfl, hc3, Hown3.out⟩
              · have hnn : 0 + j + 1 + (os.length - j) = (insI l os k).length := by rw [insI_len]; omega
                have hxx : [] ++ intV (os.take j) ++ [Value.int .i64 (k : Int)] ++ intV (os.drop j) = intV (insI l os k) := by rw [Hins.out]; simp [intV]
                rw [hnn, hxx] at own3
                obtain ⟨g3, c3, rfl, -, -⟩ := own3.form (by rw [insI_len]; omega)
                have hc3 := row_le own3
                have Hown3 := Lib.hid (own_low own3 hw2)
                have Hb3 := Lib.hid (hbr2.trans (bel5.mono hw2))
                have Hil := Lib.hid (insI_len l os k)
                clear hnn hxx own3 own2 own1 bel5 bel4 bel3 gr3 gr2 gr1 own0 own0' bel0 bel1 bel2 onec one1 oneA oneC htl hdl hcell2
                rw [HADJ.out]
                go_wp2
                go_roundg (n - (k + 1))
                case measure => omega
                case rel => exact ⟨k + 1, by omega, by go_num, Hb3.out, insI l os k, Hyes.out.symm, by rw [Hil.out]; omega, g3, c3, rfl, hc3, Hown3.out⟩
      · have hno : orderTo l (k + 1) = os := by rw [orderTo_succ, ← Hos.out, stepI, getD_of hu, if_neg hopen]
        have Hno := Lib.hid hno
        have hcase : u.act = false ∨ (u.act = true ∧ u.win ≤ u.fl) := by
          cases ha : u.act with
          | false => exact .inl rfl
          | true => right; simp [Opt.openB, ha] at hopen; exact ⟨rfl, hopen⟩
        clear hno hu hopen
        rcases hcase with ha | ⟨ha, hf⟩
        · rw [ha] at c0
          go_wp2_with fail
          go_quiet (fail)
          go_wp2
          go_roundg (n - (k + 1))
          case measure => omega
          case rel => exact ⟨k + 1, by omega, by go_num, below_drewN hbr _, os, Hno.out.symm, by omega, g, c', rfl, hoc, hown⟩
        · rw [ha] at c0
          go_wp2_with fail
          go_quiet (fail)
          go_wp2
          go_roundg (n - (k + 1))
          case measure => omega
          case rel => exact ⟨k + 1, by omega, by go_num, below_drewN hbr _, os, Hno.out.symm, by omega, g, c', rfl, hoc, hown⟩
    · have hfin : order l = os := by rw [Hos.out, order, hlen.out, show n = k by omega]
      have Hfin := Lib.hid hfin
      clear hfin
      go_wp2
      go_ret
      rw [Hfin.out]
      exact ⟨g, c', rfl, hoc, hbr, hown⟩
end Go.Proofs.Ytjnplihkagegdaa
