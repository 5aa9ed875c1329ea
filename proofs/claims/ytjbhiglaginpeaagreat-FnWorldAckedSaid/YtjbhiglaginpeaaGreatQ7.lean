/- Parts of the proof, joined from several texts. No condition. -/
import Derived.Deep.LoopGhost
import Derived.Deep.Onto
import Derived.Test.YtjbhiglaginpeaaGreatQ6
import Derived.Test.YtjbhiglaginpeaaGreatQ5
set_option maxRecDepth 100000
set_option maxHeartbeats 16000000
set_option linter.unusedVariables false
set_option linter.unusedSimpArgs false
namespace Go.Proofs.YtjbhiglaginpeaaGreat
open Go.RowKit
theorem within_any (n lo hi : Int) (w : World) :
 Calls Tryz.prog 68 #[.int .i64 n, .int .i64 lo, .int .i64 hi] w fun e w' => e = .returned (.bool (inB n lo hi)) ∧ w = w' := by
 by_cases h1 : lo ≤ n <;> by_cases h2 : n ≤ hi
 all_goals
  go_enter Tryz.func68, Tryz.ntmps68
  go_wp2
  go_ret
  exact ⟨by simp [inB, h1, h2], rfl⟩
section
variable {w : World} {ok : Nat → Prop} {A : Option Addr} {n c : Nat} {l : List Rg}
theorem rg_at (h : RgS w ok A n c l) {k : Nat} (hk : k < n) : ∃ b o x, A = some ⟨b, o, none⟩ ∧ ok b ∧ l[k]? = some x ∧ I64 x.lo ∧ I64 x.hi ∧ w.cell? ⟨b, o + k * 2, none⟩ = some (.int .i64 x.lo) ∧ w.cell? ⟨b, o + k * 2 + 1, none⟩ = some (.int .i64 x.hi) := by
 obtain ⟨b, o, cs, x, e, hb, hx, _, ⟨rfl, h1, h2⟩, hc⟩ := h.at_ hk
 exact ⟨b, o, x, e, hb, hx, h1, h2, by have := hc 0 _ rfl; rwa [Nat.add_zero] at this, hc 1 _ rfl⟩
theorem SliceR.below {α : Type} {R : World → (Nat → Prop) → List Value → α → Prop} {size : Nat} {w w' : World} {ok : Nat → Prop} {A : Option Addr} {n c : Nat} {l : List α} (hR : RCar R) (h : SliceR R size w ok A n c l) (hok : Sub ok (Old w)) {B : Nat} (hb : Below B w w') (hB : w.heap.size ≤ B) : SliceR R size w' ok A n c l :=
 h.car (fun _ _ => hR (Car.below hok (hb.mono hB))) (Car.below hok (hb.mono hB))
theorem getD_of? {α : Type} [Inhabited α] {l : List α} {k : Nat} {x : α} (h : l[k]? = some x) : l.getD k default = x := by rw [List.getD_eq_getElem?_getD, h]; rfl
end
theorem lastHi_bd {l : List Rg} {k : Nat} (h : rgTo l k = true) : -2 ≤ lastHi l k ∧ lastHi l k ≤ 999 := by
 unfold lastHi
 by_cases h0 : k = 0
 ·rw [if_pos h0]; omega
 ·rw [if_neg h0]
  have := rg_bd h (k - 1) (by omega)
  omega
theorem rangesValid_any (A : Option Addr) (n c : Nat) (l : List Rg) (w : World) (ok : Nat → Prop) (h : RgS w ok A n c l) (hok : Sub ok (Old w)) :
 Calls Tryz.prog 37 #[.slice A n c] w fun e w' => e = .returned (.bool (rgValid l)) ∧ Below w.heap.size w w' := by
 have hlen := Lib.hid h.len
 have hcap := h.cap
 by_cases hbig : n ≤ 16
 ·go_enter Tryz.func37, Tryz.ntmps37
  go_wp2
  go_loopg [3, 11] n (fun m last i wr => ∃ k : Nat, k + m = n ∧ i = .int .i64 k ∧ last = .int .i64 (lastHi l k) ∧ Below w.heap.size w wr ∧ Hid (rgTo l k = true))
  case atStart => exact ⟨0, by omega, rfl, rfl, Below.refl _ _, rfl⟩
  case round =>
   obtain ⟨k, hk, rfl, rfl, hbr, HT⟩ := hrel
   by_cases hlt : k < n
   ·obtain ⟨b, o, x, rfl, hb, hx, b1, b2, c0, c1⟩ := rg_at (h.below rgCar hok hbr (Nat.le_refl _)) hlt
    have hbd := lastHi_bd HT.out
    have hg := getD_of? hx
    have hs : Hid (lastHi l (k + 1) = x.hi) := by unfold Hid lastHi; rw [if_neg (by omega), Nat.add_sub_cancel, hg]
    have hn1 : k < l.length := by rw [hlen.out]; exact hlt
    unfold I64 at b1 b2
    cases hat : rgAt l k with
    | true =>
      have HT' : Hid (rgTo l (k + 1) = true) := by unfold Hid; rw [rgTo_succ, HT.out, hat]; rfl
      simp only [rgAt, hg, Bool.and_eq_true, decide_eq_true_eq] at hat
      obtain ⟨t1, t2, t3⟩ := hat
      generalize lastHi l k = last at hbd t1 ⊢
      clear hx hg HT
      go_wp2
      go_roundg (n - (k + 1))
      case measure => omega
      case rel => exact ⟨k + 1, by omega, by go_num, by rw [hs.out], hbr.alloc hbr.size _, HT'⟩
    | false =>
      have hno : rgValid l = false := by rw [rgValid, rgTo_no hat hn1, Bool.and_false]
      have hcase : x.lo < lastHi l k + 2 ∨ (lastHi l k + 2 ≤ x.lo ∧ x.hi < x.lo) ∨ (lastHi l k + 2 ≤ x.lo ∧ x.lo ≤ x.hi ∧ 999 < x.hi) := by
       simp only [rgAt, hg, Bool.and_eq_false_iff, decide_eq_false_iff_not] at hat
       omega
      have Hno := Lib.hid hno
      generalize lastHi l k = last at hbd hcase ⊢
      clear hx hg HT hat hs hno
      rcases hcase with t1 | ⟨t1, t2⟩ | ⟨t1, t2, t3⟩
      all_goals
       go_wp2
       go_ret
       exact ⟨ret_bool Hno.out.symm, hbr.alloc hbr.size _⟩
   ·have hkn : k = n := by omega
    subst hkn
    have hyes : rgValid l = true := by rw [rgValid, hlen.out, HT.out]; simp; omega
    have Hyes := Lib.hid hyes
    clear hyes HT
    go_wp2
    go_ret
    exact ⟨ret_bool Hyes.out.symm, hbr⟩
 ·have hno : rgValid l = false := by rw [rgValid, hlen.out]; simp; omega
  rw [hno]
  go_enter Tryz.func37, Tryz.ntmps37
  go_wp2
  go_ret
  exact ⟨rfl, Below.refl _ _⟩
def idxI (o : Option Nat) : Int := match o with
 | none => -1
 | some k => (k : Int)
theorem hasCl_any (lo hi x : Int) (bx : Nat) (w : World) (hbx : w.cell? ⟨bx, 0, none⟩ = some (.int .i64 x)) (hbl : bx < w.heap.size) :
 Calls Tryz.prog 72 #[.agg #[.int .i64 lo, .int .i64 hi], .pointer (some ⟨bx, 0, none⟩)] w fun e w' => e = .returned (.bool (inB x lo hi)) ∧ Below w.heap.size w w' := by
 have hb0 : Below w.heap.size w (w.alloc (.cells #[.int .i64 lo, .int .i64 hi] 116)) := (Below.refl _ _).alloc (Nat.le_refl _) _
 have hbx1 := (hb0.cell (p := ⟨bx, 0, none⟩) hbl).trans hbx
 go_enter Tryz.func72, Tryz.ntmps72
 go_wp2_with fail
 refine (within_any _ _ _ _).mono ?_
 rintro e w1 ⟨rfl, rfl⟩
 go_wp2
 go_ret
 exact ⟨rfl, hb0⟩
theorem idxRange_any (A : Option Addr) (n c : Nat) (l : List Rg) (x : Int) (bx : Nat) (w : World) (ok : Nat → Prop) (h : RgS w ok A n c l) (hok : Sub ok (Old w)) (hbx : w.cell? ⟨bx, 0, none⟩ = some (.int .i64 x)) (hbl : bx < w.heap.size) :
 Calls Tryz.prog 121 #[.slice A n c, .func (.func 72) #[] #[.pointer (some ⟨bx, 0, none⟩)]] w
  fun e w' => e = .returned (.int .i64 (idxI (l.findIdx? fun r => inB x r.lo r.hi))) ∧ Below w.heap.size w w' := by
 go_enter Tryz.func121, Tryz.ntmps121
 go_wp2
 have hcap := h.cap
 have hlen := Lib.hid h.len
 go_loopg [8] n (fun m i wr => ∃ k : Nat, k + m = n ∧ i = .int .i64 k ∧ Below w.heap.size w wr ∧ Hid (∀ r ∈ l.take k, inB x r.lo r.hi = false))
 case atStart => exact ⟨0, by omega, rfl, Below.refl _ _, by simp [Hid]⟩
 case round =>
  obtain ⟨k, hk, rfl, hbr, HN⟩ := hrel
  by_cases hlt : k < n
  ·obtain ⟨b, o, u, rfl, hb, hu, b1, b2, c0, c1⟩ := rg_at (h.below rgCar hok hbr (Nat.le_refl _)) hlt
   have hbx' := (hbr.cell (p := ⟨bx, 0, none⟩) hbl).trans hbx
   have hsz := hbr.size
   have Hu := Lib.hid hu
   have Hlen := hlen
   clear hu
   have hq1 : (0 : Int) ≤ (k : Int) := by omega
   have hq2 : (k : Int) < (n : Int) := by omega
   go_wp2_with fail
   refine (hasCl_any u.lo u.hi x bx wr hbx' (by omega)).mono ?_
   rintro e w1 ⟨rfl, hb1⟩
   have hbr1 := hbr.trans (hb1.mono hsz)
   cases hin : inB x u.lo u.hi with
   | true =>
     have Hres : Hid (idxI (l.findIdx? fun r => inB x r.lo r.hi) = k) := by
      have : l.findIdx? (fun r => inB x r.lo r.hi) = some k := by
       rw [List.findIdx?_eq_some_iff_getElem]
       have hkl := (List.getElem?_eq_some_iff.1 Hu.out).1
       refine ⟨hkl, by rw [(List.getElem?_eq_some_iff.1 Hu.out).2]; exact hin, fun j hj => ?_⟩
       have := HN.out (l[j]'(by omega)) (by rw [List.mem_take_iff_getElem]; exact ⟨j, by omega, rfl⟩)
       simp [this]
      unfold Hid
      rw [this]; rfl
     clear hin HN hb1
     go_wp2
     go_ret
     exact ⟨ret_int Hres.out.symm, hbr1⟩
   | false =>
     have HN' : Hid (∀ r ∈ l.take (k + 1), inB x r.lo r.hi = false) := by
      intro r hr
      rw [List.take_add_one, Hu.out, List.mem_append] at hr
      rcases hr with hr | hr
      ·exact HN.out r hr
      ·simp at hr; subst hr; exact hin
     clear hin HN hb1
     go_wp2
     go_roundg (n - (k + 1))
     case measure => omega
     case rel => exact ⟨k + 1, by omega, by go_num, hbr1, HN'⟩
  ·have hkn : k = n := by omega
   subst hkn
   have Hres : Hid (idxI (l.findIdx? fun r => inB x r.lo r.hi) = -1) := by
    have : l.findIdx? (fun r => inB x r.lo r.hi) = none := by
     rw [List.findIdx?_eq_none_iff]
     intro r hr
     exact HN.out r (by rw [List.take_of_length_le (by rw [hlen.out]; omega)]; exact hr)
    unfold Hid
    rw [this]; rfl
   clear HN
   go_wp2
   go_ret
   exact ⟨ret_int Hres.out.symm, hbr⟩
theorem has_idx (l : List Rg) (x : Int) : decide (idxI (l.findIdx? fun r => inB x r.lo r.hi) ≥ 0) = hasR l x := by
 have e : hasR l x = l.any fun r => inB x r.lo r.hi := by simp [hasR, inB]
 rw [e]
 cases h : l.findIdx? fun r => inB x r.lo r.hi with
 | none =>
   rw [List.findIdx?_eq_none_iff] at h
   have : (l.any fun r => inB x r.lo r.hi) = false := by
    rw [List.any_eq_false]
    intro r hr
    rw [h r hr]; simp
   rw [this]; rfl
 | some k =>
   obtain ⟨hk, h1, _⟩ := List.findIdx?_eq_some_iff_getElem.1 h
   have : (l.any fun r => inB x r.lo r.hi) = true := List.any_eq_true.2 ⟨l[k], List.getElem_mem hk, h1⟩
   rw [this]; simp [idxI]
theorem idxI_bd (o : Option Nat) : -1 ≤ idxI o := by cases o <;> simp [idxI] <;> omega
theorem has_any (A : Option Addr) (n c : Nat) (l : List Rg) (x : Int) (w : World) (ok : Nat → Prop) (h : RgS w ok A n c l) (hok : Sub ok (Old w)) :
 Calls Tryz.prog 38 #[.slice A n c, .int .i64 x] w fun e w' => e = .returned (.bool (hasR l x)) ∧ Below w.heap.size w w' := by
 have hb0 : Below w.heap.size w (w.alloc (.cells #[.int .i64 x] 3)) := (Below.refl _ _).alloc (Nat.le_refl _) _
 have hbx : (w.alloc (.cells #[.int .i64 x] 3)).cell? ⟨w.heap.size, 0, none⟩ = some (.int .i64 x) := by simp [World.cell?_alloc_new]
 have hI := Lib.hid (idxRange_any A n c l x w.heap.size (w.alloc (.cells #[.int .i64 x] 3)) ok (h.below rgCar hok hb0 (Nat.le_refl _)) (hok.old (by simp)) hbx (by simp))
 go_enter Tryz.func38, Tryz.ntmps38
 go_wp2_with fail
 go_enter Tryz.func71, Tryz.ntmps71
 go_wp2_with fail
 refine hI.out.mono ?_
 rintro e w1 ⟨rfl, hb1⟩
 have hb := hb0.trans (hb1.mono (by simp))
 have hv := has_idx l x
 have hbd := idxI_bd (l.findIdx? fun r => inB x r.lo r.hi)
 generalize idxI (l.findIdx? fun r => inB x r.lo r.hi) = v at hv hbd ⊢
 have Hv := Lib.hid hv
 clear hv hI
 by_cases h0 : 0 ≤ v
 ·go_wp2
  go_ret
  exact ⟨ret_bool (by rw [← Hv.out]; simp [h0]), hb⟩
 ·go_wp2
  go_ret
  exact ⟨ret_bool (by rw [← Hv.out] <;> simp <;> omega), hb⟩
theorem vl22CopyH (x : Ls) (h : x.flight.length ≤ 1000) : FnH Tryz.prog 66 [] [.ag (av (eLs x))] [] (.ag [aI x.next, .own 900 x.flight.length, aI x.largest]) [(900, hL 114 3 ePk x.flight)] := by
 refine fH Tryz.func66 Tryz.ntmps66 Tryz.results66 ?_
 repeat' (first
  | refine stp ?_
  | fail)
 first | exact reth0 (look [(900, 6)]) | exact reth1 (look [(900, 6)])
theorem vl22Copy (x : Ls) (h : x.flight.length ≤ 1000) : FnP Tryz.prog 66 [.ag (av (eLs x))] (.ag (av (eLs x))) :=
 (vl22CopyH x h).toP (by repeat' (first | exact LeVs.nil | exact LeV.dd | exact LeV.sc rfl | exact LeV.sc (congrArg (Value.int .i64) (by first | omega | (dsimp only; omega))) | exact LeV.emp | exact LeV.empd | exact LeV.dp | exact LeV.own rfl rfl | exact LeV.ptr rfl | exact LeV.f0 rfl | exact LeV.f1 rfl (by simp) (fun _ hm => cat_snoc2 hm rfl) | exact LeV.f1 rfl (by simp) (fun _ _ => set_get2 (by omega) rfl) | exact LeV.f1 rfl (by simp) (fun _ _ => cat_app'.symm) | exact LeV.f1 rfl (by rw [List.length_eraseIdx_of_lt (by omega)]; omega) (fun _ _ => cat_erase (by omega) (by omega) (by omega)) | exact LeV.un | refine LeVs.cons ?_ ?_ | refine LeV.ag ?_ | refine LeV.tu ?_)) rfl
theorem vl31CopyH (x : Rv) (h : x.pieces.length ≤ 1000) : FnH Tryz.prog 65 [] [.ag (av (eRv x))] [] (.ag [aI x.read, .own 900 x.pieces.length, aI x.final, aI x.limit]) [(900, hL 50 2 ePc x.pieces)] := by
 refine fH Tryz.func65 Tryz.ntmps65 Tryz.results65 ?_
 repeat' (first
  | refine stp ?_
  | fail)
 first | exact reth0 (look [(900, 6)]) | exact reth1 (look [(900, 6)])
theorem vl31Copy (x : Rv) (h : x.pieces.length ≤ 1000) : FnP Tryz.prog 65 [.ag (av (eRv x))] (.ag (av (eRv x))) :=
 (vl31CopyH x h).toP (by repeat' (first | exact LeVs.nil | exact LeV.dd | exact LeV.sc rfl | exact LeV.sc (congrArg (Value.int .i64) (by first | omega | (dsimp only; omega))) | exact LeV.emp | exact LeV.empd | exact LeV.dp | exact LeV.own rfl rfl | exact LeV.ptr rfl | exact LeV.f0 rfl | exact LeV.f1 rfl (by simp) (fun _ hm => cat_snoc2 hm rfl) | exact LeV.f1 rfl (by simp) (fun _ _ => set_get2 (by omega) rfl) | exact LeV.f1 rfl (by simp) (fun _ _ => cat_app'.symm) | exact LeV.f1 rfl (by rw [List.length_eraseIdx_of_lt (by omega)]; omega) (fun _ _ => cat_erase (by omega) (by omega) (by omega)) | exact LeV.un | refine LeVs.cons ?_ ?_ | refine LeV.ag ?_ | refine LeV.tu ?_)) rfl
theorem vl32CopyH (x : Sd) (h : x.acked.length ≤ 1000) (h' : x.lost.length ≤ 1000) : FnH Tryz.prog 64 [] [.ag (av (eSd x))] [] (.ag [aS x.data, aB x.fin, aI x.limit, aI x.next, .own 900 x.acked.length, .own 901 x.lost.length]) [(900, hL 116 2 eRg x.acked), (901, hL 116 2 eRg x.lost)] := by
 refine fH Tryz.func64 Tryz.ntmps64 Tryz.results64 ?_
 repeat' (first
  | refine stp ?_
  | fail)
 first | exact reth0 (look [(900, 6), (901, 11)]) | exact reth1 (look [(900, 6), (901, 11)])
theorem vl32Copy (x : Sd) (h : x.acked.length ≤ 1000) (h' : x.lost.length ≤ 1000) : FnP Tryz.prog 64 [.ag (av (eSd x))] (.ag (av (eSd x))) :=
 (vl32CopyH x h h').toP (by repeat' (first | exact LeVs.nil | exact LeV.dd | exact LeV.sc rfl | exact LeV.sc (congrArg (Value.int .i64) (by first | omega | (dsimp only; omega))) | exact LeV.emp | exact LeV.empd | exact LeV.dp | exact LeV.own rfl rfl | exact LeV.ptr rfl | exact LeV.f0 rfl | exact LeV.f1 rfl (by simp) (fun _ hm => cat_snoc2 hm rfl) | exact LeV.f1 rfl (by simp) (fun _ _ => set_get2 (by omega) rfl) | exact LeV.f1 rfl (by simp) (fun _ _ => cat_app'.symm) | exact LeV.f1 rfl (by rw [List.length_eraseIdx_of_lt (by omega)]; omega) (fun _ _ => cat_erase (by omega) (by omega) (by omega)) | exact LeV.un | refine LeVs.cons ?_ ?_ | refine LeV.ag ?_ | refine LeV.tu ?_)) rfl
theorem vl51FrameH (x : Fm) (h : x.ranges.length ≤ 1000) : FnH Tryz.prog 63 [] [.ag (av (eFm x))] [] (.ag [aI x.kind, aI x.a, aI x.b, aI x.c, aS x.data, .own 900 x.ranges.length]) [(900, hL 116 2 eRg x.ranges)] := by
 refine fH Tryz.func63 Tryz.ntmps63 Tryz.results63 ?_
 repeat' (first
  | refine stp ?_
  | fail)
 first | exact reth0 (look [(900, 6)]) | exact reth1 (look [(900, 6)])
theorem vl51Frame (x : Fm) (h : x.ranges.length ≤ 1000) : FnP Tryz.prog 63 [.ag (av (eFm x))] (.ag (av (eFm x))) :=
 (vl51FrameH x h).toP (by repeat' (first | exact LeVs.nil | exact LeV.dd | exact LeV.sc rfl | exact LeV.sc (congrArg (Value.int .i64) (by first | omega | (dsimp only; omega))) | exact LeV.emp | exact LeV.empd | exact LeV.dp | exact LeV.own rfl rfl | exact LeV.ptr rfl | exact LeV.f0 rfl | exact LeV.f1 rfl (by simp) (fun _ hm => cat_snoc2 hm rfl) | exact LeV.f1 rfl (by simp) (fun _ _ => set_get2 (by omega) rfl) | exact LeV.f1 rfl (by simp) (fun _ _ => cat_app'.symm) | exact LeV.f1 rfl (by rw [List.length_eraseIdx_of_lt (by omega)]; omega) (fun _ _ => cat_erase (by omega) (by omega) (by omega)) | exact LeV.un | refine LeVs.cons ?_ ?_ | refine LeV.ag ?_ | refine LeV.tu ?_)) rfl
theorem vl51Post (W : Wd) (x : Wi) (h : W.net.length ≤ 1000) : FnP Tryz.prog 60 [.ag (av (eWd W)), .ag (av (eWi x))] (.ag (av (eWd (post W x)))) := by
 refine fP Tryz.func60 Tryz.ntmps60 Tryz.results60 ?_
 repeat' (first
  | refine stp ?_
  | (refine WC.cond rfl ?_ ?_ <;> intro hb <;> (try have hb' := nrm hb) <;> try (exfalso; omega))
  | (apply K.rg 2; refine wdr [0, 0, 2, 7, 0, 16, 63, 127, 255] 6 [9, 10, 11, 12, 13, 14] [] ?_)
  | refine dcl ?_)
 all_goals (first
  | (rw [show post W x = { W with net := W.net ++ [x] } from if_pos (by omega)]; (exact ret1))
  | (rw [show post W x = W from if_neg (by omega)]; (exact ret1)))
def carI (W : Wd) (p n : Int) : Int := match carAt W p n with
 | some k => (k : Int)
 | none => -1
theorem carI_no {W : Wd} {p n : Int} {i : Nat} (hi : W.carried.length ≤ i) (h : ∀ j, j < i → ¬ ((W.carried.getD j default).path = p ∧ (W.carried.getD j default).num = n)) : carI W p n = -1 := by
 unfold carI
 have : carAt W p n = none := by
  unfold carAt
  rw [List.findIdx?_eq_none_iff]
  intro c hc
  obtain ⟨j, hj, rfl⟩ := List.getElem_of_mem hc
  have := h j (by omega)
  rw [List.getD_eq_getElem?_getD, List.getElem?_eq_getElem hj] at this
  simp only [Option.getD_some] at this
  rw [Bool.and_eq_false_iff, decide_eq_false_iff_not, decide_eq_false_iff_not]
  exact Classical.not_and_iff_not_or_not.1 this
 rw [this]
theorem carI_yes {W : Wd} {p n : Int} {i : Nat} (hi : i < W.carried.length) (h : ∀ j, j < i → ¬ ((W.carried.getD j default).path = p ∧ (W.carried.getD j default).num = n)) (hp : (W.carried.getD i default).path = p) (hn : (W.carried.getD i default).num = n) : carI W p n = (i : Int) := by
 unfold carI
 have : carAt W p n = some i := by
  unfold carAt
  rw [List.findIdx?_eq_some_iff_getElem]
  rw [List.getD_eq_getElem?_getD, List.getElem?_eq_getElem hi] at hp hn
  refine ⟨hi, by simpa using ⟨hp, hn⟩, fun j hj => ?_⟩
  have := h j hj
  rw [List.getD_eq_getElem?_getD, List.getElem?_eq_getElem (by omega)] at this
  simpa using this
 rw [this]
theorem vl51Find (W : Wd) (p n : Int) (h : W.carried.length ≤ 10000000) : FnP Tryz.prog 165 [.ag [.un, .un, .un, .un, .un, .un, .un, .un, .d (dL 6 eCd W.carried), .un], aI p, aI n] (aI (carI W p n)) := by
 refine fP Tryz.func165 Tryz.ntmps165 Tryz.results165 ?_
 repeat' (first
  | refine stp ?_
  | fail)
 refine WC.loop (fun k s => ∃ i, k + i = W.carried.length ∧ (∀ j, j < i → ¬ ((W.carried.getD j default).path = p ∧ (W.carried.getD j default).num = n)) ∧ s = ⟨⟨34, []⟩, [(1, aI p), (2, aI n), (3, .ptr 3 0), (7, aI i)], [(3, .blk [.un, .un, .un, .un, .un, .un, .un, .un, .d (dL 6 eCd W.carried), .un])]⟩) W.carried.length ⟨0, rfl, fun j hj => absurd hj (Nat.not_lt_zero j), rfl⟩ (imp (look [(3, 3)])) ?_
 rintro k s ⟨i, hk, hn, rfl⟩
 repeat' (first
  | refine stp ?_
  | (refine R.gS rfl rfl rfl ?_ ?_ <;> intro hb <;> (try have hb' := nrm hb) <;> try (exfalso; omega))
  | (refine WC.cond rfl ?_ ?_ <;> intro hb <;> (try have hb' := nrm hb) <;> try (exfalso; omega)))
 all_goals first
  | (rw [carI_yes (i := i) (by omega) hn (by assumption) (by assumption)]; (exact ret1))
  | (rw [carI_no (i := i) (by omega) hn]; (exact ret1))
  | (refine loopQ.n (k - 1) _ (by omega) ⟨i + 1, by omega, fun j hj => (Nat.lt_succ_iff_lt_or_eq.1 hj).elim (hn j) (fun e => by rintro ⟨h1, h2⟩; rw [e] at h1 h2; first | exact absurd h1 (by assumption) | exact absurd h2 (by assumption)), rfl⟩ (imp (look [(3, 3)])); done)
end Go.Proofs.YtjbhiglaginpeaaGreat
namespace Go.Proofs.YtjbhiglaginpeaaGreat
theorem getD_set {α : Type} [Inhabited α] (l : List α) (i j : Nat) (x : α) : (l.set i x).getD j default = if i = j ∧ i < l.length then x else l.getD j default := by
 rw [List.getD_eq_getElem?_getD, List.getElem?_set, List.getD_eq_getElem?_getD]
 by_cases h : i = j
 ·subst h
  rw [if_pos rfl]
  by_cases h2 : i < l.length
  ·rw [if_pos h2, if_pos ⟨rfl, h2⟩]; rfl
  ·rw [if_neg h2, if_neg (fun h' => h2 h'.2), List.getElem?_eq_none (by omega)]
 ·rw [if_neg h, if_neg (fun h' => h h'.1)]
theorem set_getD_self {α : Type} [Inhabited α] (l : List α) (i : Nat) : l.set i (l.getD i default) = l := by
 apply List.ext_getElem?
 intro j
 rw [List.getElem?_set]
 by_cases h : i = j
 ·subst h
  rw [if_pos rfl]
  by_cases h2 : i < l.length
  ·rw [if_pos h2, List.getD_eq_getElem?_getD, List.getElem?_eq_getElem h2]; rfl
  ·rw [if_neg h2, List.getElem?_eq_none (by omega)]
 ·rw [if_neg h]
structure Grow (W W' : Wd) : Prop where
 now : W.now ≤ W'.now
 st : ∀ i : Int, 0 ≤ i ∧ i ≤ 2 → StLe (W.sd i) (W.rv i) (W'.sd i) (W'.rv i)
 next : ∀ p : Int, 0 ≤ p ∧ p ≤ 3 → (W.ls p).next ≤ (W'.ls p).next
theorem WdOK.carMem {W : Wd} (h : WdOK W) {c : Cd} (hc : c ∈ W.carried) : ∃ p : Nat, p < 4 ∧ ∃ k ∈ (W.ls p).flight, FlightOK W (p, k) c := by
 obtain ⟨a, ha, hr⟩ := F2.mem h.cars c hc
 simp only [flights, flightsTo, List.mem_flatMap, List.mem_range, List.mem_map] at ha
 obtain ⟨p, hp, k, hk, rfl⟩ := ha
 exact ⟨p, hp, k, hk, hr⟩
theorem wire_grow {W W' : Wd} (h : WdOK W) (g : Grow W W') (hc : ∀ c ∈ W'.carried, c ∈ W.carried ∨ c.num = (W.ls c.path).next) {x : Wi} (hx : WireOK W x) : WireOK W' x := by
 refine ⟨hx.path, hx.frame, hx.num, fun hg => ?_⟩
 rcases hx.gen hg with ⟨hk, a, b, c, d⟩ | ⟨hk, a, b⟩ | ⟨hk, a, b, c⟩
 ·have hf := fm3 hx.frame hk
  refine .inl ⟨hk, a, by have := g.next x.path hx.path; omega, (g.st _ hf.1).sent _ c, fun y hy h1 h2 => ?_⟩
  rcases hc y hy with h3 | h3
  ·exact d y h3 h1 h2
  ·rw [h2, h1] at h3; omega
 ·have hf := fm4 hx.frame hk
  exact .inr (.inl ⟨hk, a, Int.le_trans b (g.st _ hf.1).limit⟩)
 ·have hf := fm2 hx.frame hk
  refine .inr (.inr ⟨hk, a, rgBelow_mono b (g.next _ hf.1), fun y hy h1 h2 => ?_⟩)
  rcases hc y hy with h3 | h3
  ·obtain ⟨p, _, k, _, hr⟩ := h.carMem h3
   exact (g.st _ hr.stream).part hr.sent (c y h3 h1 h2)
  ·have := below_has b h2
   rw [h3, h1] at this
   omega
theorem flights_same {W W' : Wd} (h : ∀ p : Nat, p < 4 → (W'.ls p).flight = (W.ls p).flight) : flights W' = flights W := by
 simp only [flights, flightsTo]
 have : ∀ l : List Nat, (∀ p ∈ l, p < 4) → (l.flatMap fun (p : Nat) => (W'.ls (p : Int)).flight.map fun k => (p, k)) = l.flatMap fun (p : Nat) => (W.ls (p : Int)).flight.map fun k => (p, k) := by
  intro l hl
  induction l with
  | nil => rfl
  | cons p t ih => rw [List.flatMap_cons, List.flatMap_cons, ih (fun q hq => hl q (List.mem_cons_of_mem _ hq)), h p (hl p List.mem_cons_self)]
 exact this _ (fun p hp => by simpa using hp)
theorem wd_stream {W : Wd} (h : WdOK W) {i : Nat} (hi : i < 3) {s' : Sd} {r' : Rv} {g' : Bs} (hs : StOK s' r' g') (hl : StLe (W.sends.getD i default) (W.recvs.getD i default) s' r') :
 WdOK { W with sends := W.sends.set i s', recvs := W.recvs.set i r', got := W.got.set i g' } ∧ Grow W { W with sends := W.sends.set i s', recvs := W.recvs.set i r', got := W.got.set i g' } := by
 have hg : Grow W { W with sends := W.sends.set i s', recvs := W.recvs.set i r', got := W.got.set i g' } := by
  refine ⟨Int.le_refl _, fun j hj => ?_, fun _ _ => Int.le_refl _⟩
  unfold Wd.sd Wd.rv
  simp only
  rw [getD_set, getD_set]
  by_cases hij : i = j.toNat
  ·rw [if_pos ⟨hij, by rw [h.sends]; exact hi⟩, if_pos ⟨hij, by rw [h.recvs]; exact hi⟩, ← hij]; exact hl
  ·rw [if_neg (fun h' => hij h'.1), if_neg (fun h' => hij h'.1)]; exact StLe.refl _ _
 refine ⟨⟨h.now, by simp [h.sends], by simp [h.recvs], by simp [h.got], h.paths, h.rtts, h.windows, h.seen, h.wns, h.net, fun j hj => ?_, fun p hp => ?_, ?_, fun x hx => wire_grow h hg (fun c hc => .inl hc) (h.wires x hx)⟩, hg⟩
 ·simp only
  rw [getD_set, getD_set, getD_set]
  by_cases hij : i = j
  ·rw [if_pos ⟨hij, by rw [h.sends]; exact hi⟩, if_pos ⟨hij, by rw [h.recvs]; exact hi⟩, if_pos ⟨hij, by rw [h.got]; exact hi⟩]; exact hs
  ·rw [if_neg (fun h' => hij h'.1), if_neg (fun h' => hij h'.1), if_neg (fun h' => hij h'.1)]; exact h.streams j hj
 ·have := h.path p hp
  exact ⟨this.ls, this.rt, this.sn⟩
 ·have e : flights { W with sends := W.sends.set i s', recvs := W.recvs.set i r', got := W.got.set i g' } = flights W := flights_same (fun _ _ => rfl)
  rw [e]
  refine F2.mono' (fun a c _ hc hr => ?_) h.cars
  exact ⟨hr.time, hr.path, hr.num, hr.stream, (hg.st _ hr.stream).sent _ hr.sent, fun hh => (hg.st _ hr.stream).part hr.sent (hr.got hh)⟩
theorem StLe.trans {s s' s'' : Sd} {r r' r'' : Rv} (h : StLe s r s' r') (h' : StLe s' r' s'' r'') : StLe s r s'' r'' :=
 ⟨fun p hp => h'.sent p (h.sent p hp), fun x hx hh => h'.got x (by have := h.next; omega) (h.got x hx hh), Int.le_trans h.limit h'.limit, Int.le_trans h.next h'.next⟩
theorem wire_net {W : Wd} {n : List Wi} {x : Wi} (h : WireOK W x) : WireOK { W with net := n } x := ⟨h.path, h.frame, h.num, h.gen⟩
theorem wd_net {W : Wd} (h : WdOK W) {n : List Wi} (hl : n.length ≤ 10) (hn : ∀ x ∈ n, WireOK W x) : WdOK { W with net := n } :=
 ⟨h.now, h.sends, h.recvs, h.got, h.paths, h.rtts, h.windows, h.seen, h.wns, hl, h.streams, fun p hp => ⟨(h.path p hp).ls, (h.path p hp).rt, (h.path p hp).sn⟩,
   by
    have e : flights { W with net := n } = flights W := flights_same (fun _ _ => rfl)
    rw [e]
    exact F2.mono (fun a c hr => ⟨hr.time, hr.path, hr.num, hr.stream, hr.sent, hr.got⟩) h.cars, fun x hx => wire_net (hn x hx)⟩
theorem wd_post {W : Wd} (h : WdOK W) {x : Wi} (hx : WireOK W x) : WdOK (post W x) := by
 unfold post
 by_cases hl : W.net.length < 10
 ·rw [if_pos hl]
  refine wd_net h (by simp; omega) fun y hy => ?_
  rcases List.mem_append.1 hy with hy | hy
  ·exact h.wires y hy
  ·simp at hy; subst hy; exact hx
 ·rw [if_neg hl]; exact h
theorem wd_erase {W : Wd} (h : WdOK W) (k : Nat) : WdOK { W with net := W.net.eraseIdx k } :=
 wd_net h (by have := List.length_eraseIdx_le W.net k; have := h.net; omega) fun y hy => h.wires y (List.mem_of_mem_eraseIdx hy)
theorem wd_tick {W : Wd} (h : WdOK W) : WdOK { W with now := min (W.now + 1) 999 } := by
 have h0 := h.now
 have hg : Grow W { W with now := min (W.now + 1) 999 } := ⟨by simp only; omega, fun i _ => StLe.refl _ _, fun _ _ => Int.le_refl _⟩
 refine ⟨by simp only; omega, h.sends, h.recvs, h.got, h.paths, h.rtts, h.windows, h.seen, h.wns, h.net, h.streams, fun p hp => ⟨(h.path p hp).ls, (h.path p hp).rt, (h.path p hp).sn⟩, ?_, fun x hx => wire_grow h hg (fun c hc => .inl hc) (h.wires x hx)⟩
 have e : flights { W with now := min (W.now + 1) 999 } = flights W := flights_same (fun _ _ => rfl)
 rw [e]
 exact F2.mono (fun a c hr => ⟨by have := hr.time; simp only; omega, hr.path, hr.num, hr.stream, hr.sent, hr.got⟩) h.cars
theorem wire_forged {W : Wd} {x : Wi} (h1 : 0 ≤ x.path ∧ x.path ≤ 3) (h2 : fmValid x.frame = true) (h3 : -1 ≤ x.num ∧ x.num ≤ 999) (hg : x.genuine = false) : WireOK W x :=
 ⟨h1, h2, h3, fun h => by rw [hg] at h; cases h⟩
theorem WdOK.st {W : Wd} (h : WdOK W) {i : Int} (hi : 0 ≤ i ∧ i ≤ 2) : StOK (W.sd i) (W.rv i) (W.got.getD i.toNat default) := h.streams i.toNat (by omega)
theorem WdOK.pt {W : Wd} (h : WdOK W) {p : Int} (hp : 0 ≤ p ∧ p ≤ 3) : PathOK W p := by
 have := h.path p.toNat (by omega)
 rwa [show ((p.toNat : Nat) : Int) = p by omega] at this
theorem wd_data {W : Wd} (h : WdOK W) {x : Wi} (hx : WireOK W x) (hg : x.genuine = true) (hk : x.frame.kind = 3) :
 WdOK { W with recvs := W.recvs.set x.frame.a.toNat (rvPut (W.rv x.frame.a) x.frame.b x.frame.data (decide (x.frame.c = 1))).1, seen := W.seen.set x.path.toNat (seenAdd (W.sn x.path) x.num) } := by
 have hf := fm3 hx.frame hk
 obtain ⟨hn0, hn1, hsent, hcar⟩ : 0 ≤ x.num ∧ x.num ≤ (W.ls x.path).next - 1 ∧ Sent (W.sd x.frame.a) (fmPart x.frame) ∧ ∀ c ∈ W.carried, c.path = x.path → c.num = x.num → c.stream = x.frame.a ∧ c.part = fmPart x.frame := by
  rcases hx.gen hg with ⟨_, a⟩ | ⟨hk', _⟩ | ⟨hk', _⟩
  ·exact a
  ·omega
  ·omega
 have hput := st_put (h.st hf.1) hsent
 obtain ⟨r', hr'⟩ : ∃ r', r' = (rvPut (W.rv x.frame.a) x.frame.b x.frame.data (decide (x.frame.c = 1))).1 := ⟨_, rfl⟩
 have e0 : (rvPut (W.rv x.frame.a) (fmPart x.frame).off (fmPart x.frame).data (fmPart x.frame).fin).1 = r' := hr'.symm
 rw [e0] at hput
 rw [← hr']
 obtain ⟨_, hst, hle, hgot⟩ := hput
 have h1 := wd_stream h (i := x.frame.a.toNat) (by omega) hst hle
 have e1 : W.sends.set x.frame.a.toNat (W.sd x.frame.a) = W.sends := set_getD_self _ _
 have e2 : W.got.set x.frame.a.toNat (W.got.getD x.frame.a.toNat default) = W.got := set_getD_self _ _
 rw [e1, e2] at h1
 obtain ⟨h1, hgr⟩ := h1
 have hpt := h.pt hx.path
 have hsn := hpt.sn
 have hadd := addP_ok (W.sn x.path) (-2) x.num x.num hsn.2.1 (by omega) (by omega) (by have := hx.num; omega)
 have haddb := below_addP (W.sn x.path) (W.ls x.path).next x.num x.num hsn.2.2 (by omega)
 have haddl := addP_len (W.sn x.path) x.num x.num
 have hhas := fun n => hasR_addP (W.sn x.path) (-2) x.num x.num n hsn.2.1 (by omega)
 have hseen : ((seenAdd (W.sn x.path) x.num).length ≤ 16 ∧ rgOk (-2) (seenAdd (W.sn x.path) x.num) ∧ rgBelow (seenAdd (W.sn x.path) x.num) (W.ls x.path).next) ∧ ∀ n, hasR (seenAdd (W.sn x.path) x.num) n = true → hasR (W.sn x.path) n = true ∨ n = x.num := by
  unfold seenAdd
  simp only
  by_cases hc : 16 < (addP (W.sn x.path) x.num x.num).length
  ·rw [if_pos hc]
   cases hm : addP (W.sn x.path) x.num x.num with
   | nil => rw [hm] at hc; simp at hc
   | cons y ys =>
     rw [hm] at hadd haddb haddl
     simp only [List.drop_succ_cons, List.drop_zero]
     refine ⟨⟨by simp at haddl; omega, rgOk_low ys y.hi (-2) hadd.2.2.2 (by have := hadd.1; have := hadd.2.1; omega), fun z hz => haddb z (List.mem_cons_of_mem _ hz)⟩, fun n hn => ?_⟩
     have := (hhas n).1 (by rw [hm, hasR_cons]; exact .inr hn)
     rcases this with h' | h'
     ·exact .inl h'
     ·exact .inr (by omega)
  ·rw [if_neg hc]
   refine ⟨⟨by omega, hadd, haddb⟩, fun n hn => ?_⟩
   rcases (hhas n).1 hn with h' | h'
   ·exact .inl h'
   ·exact .inr (by omega)
 obtain ⟨hsk, hsub⟩ := hseen
 have hsnq : ∀ p : Nat, p < 4 → (W.seen.set x.path.toNat (seenAdd (W.sn x.path) x.num)).getD p default = if (p : Int) = x.path then seenAdd (W.sn x.path) x.num else W.sn p := by
  intro p hp
  rw [getD_set]
  by_cases hpp : (p : Int) = x.path
  ·rw [if_pos hpp, if_pos ⟨by omega, by rw [h.seen]; omega⟩]
  ·rw [if_neg hpp, if_neg (by have := hx.path; omega)]; rfl
 obtain ⟨W', hW'⟩ : ∃ W' : Wd, W' = { W with recvs := W.recvs.set x.frame.a.toNat r', seen := W.seen.set x.path.toNat (seenAdd (W.sn x.path) x.num) } := ⟨_, rfl⟩
 rw [← hW']
 have hg' : Grow W W' := by subst hW'; exact ⟨hgr.now, hgr.st, hgr.next⟩
 have hgp : gotPart (W'.sd x.frame.a) (W'.rv x.frame.a) (fmPart x.frame) = true := by
  subst hW'
  have : (W.recvs.set x.frame.a.toNat r').getD x.frame.a.toNat default = r' := by rw [getD_set, if_pos ⟨rfl, by rw [h.recvs]; omega⟩]
  show gotPart (W.sd x.frame.a) ((W.recvs.set x.frame.a.toNat r').getD x.frame.a.toNat default) (fmPart x.frame) = true
  rw [this]
  exact hgot
 have hls : ∀ p : Int, W'.ls p = W.ls p := fun p => by subst hW'; rfl
 have hsn' : ∀ p : Nat, p < 4 → W'.sn p = if (p : Int) = x.path then seenAdd (W.sn x.path) x.num else W.sn p := by subst hW'; exact hsnq
 have hcars : F2 (FlightOK W') (flights W') W'.carried := by
  rw [flights_same (W := W) (fun p _ => by rw [hls])]
  have hcw : W'.carried = W.carried := by rw [hW']
  rw [hcw]
  refine F2.mono' (fun a c ha hc hr => ?_) h.cars
  refine ⟨by have := hr.time; subst hW'; exact this, hr.path, hr.num, hr.stream, (hg'.st _ hr.stream).sent _ hr.sent, fun hh => ?_⟩
  have ha4 : a.1 < 4 := by
   simp only [flights, flightsTo, List.mem_flatMap, List.mem_range, List.mem_map] at ha
   obtain ⟨p, hp, k, _, rfl⟩ := ha
   exact hp
  rw [hsn' a.1 ha4] at hh
  by_cases hpp : (a.1 : Int) = x.path
  ·rw [if_pos hpp] at hh
   rcases hsub _ hh with h' | h'
   ·rw [← hpp] at h'
    exact (hg'.st _ hr.stream).part hr.sent (hr.got h')
   ·have := hcar c hc (by rw [hr.path, hpp]) h'
    rw [this.1, this.2]
    exact hgp
  ·rw [if_neg hpp] at hh
   exact (hg'.st _ hr.stream).part hr.sent (hr.got hh)
 subst hW'
 refine ⟨h.now, h.sends, by simp [h.recvs], h.got, h.paths, h.rtts, h.windows, by simp [h.seen], h.wns, h.net, h1.streams, fun p hp => ?_, hcars, fun y hy => wire_grow h hg' (fun c hc => .inl hc) (h.wires y hy)⟩
 refine ⟨(h.path p hp).ls, (h.path p hp).rt, ?_⟩
 rw [hsn' p hp, hls]
 by_cases hpp : (p : Int) = x.path
 ·rw [if_pos hpp, hpp]; exact hsk
 ·rw [if_neg hpp]; exact (h.path p hp).sn
def flightsFrom (W : Wd) (p : Nat) : List (Nat × Pk) := ((List.range 4).drop (p + 1)).flatMap fun (q : Nat) => (W.ls (q : Int)).flight.map fun k => (q, k)
theorem flights_split (W : Wd) {p : Nat} (hp : p < 4) : flights W = flightsTo W (p + 1) ++ flightsFrom W p := by
 have e : List.range 4 = List.range (p + 1) ++ (List.range 4).drop (p + 1) := by
  match p, hp with
  | 0, _ => rfl
  | 1, _ => rfl
  | 2, _ => rfl
  | 3, _ => rfl
 unfold flights flightsTo flightsFrom
 rw [← List.flatMap_append, ← e]
theorem drop_gt {p q : Nat} (hp : p < 4) (hq : q ∈ (List.range 4).drop (p + 1)) : p < q ∧ q < 4 := by
 match p, hp with
 | 0, _ => have : q ∈ [1, 2, 3] := hq; simp at this; omega
 | 1, _ => have : q ∈ [2, 3] := hq; simp at this; omega
 | 2, _ => have : q ∈ [3] := hq; simp at this; omega
 | 3, _ => have : q ∈ ([] : List Nat) := hq; simp at this
theorem flatMap_congr' {β : Type} {l : List Nat} {f g : Nat → List β} (h : ∀ x ∈ l, f x = g x) : l.flatMap f = l.flatMap g := by
 induction l with
 | nil => rfl
 | cons x xs ih => rw [List.flatMap_cons, List.flatMap_cons, h x List.mem_cons_self, ih (fun y hy => h y (List.mem_cons_of_mem _ hy))]
theorem takeWhile_parts {α : Type} {P : α → Bool} : ∀ {a b : List α}, (∀ x ∈ a, P x = true) → (∀ x ∈ b, P x = false) → (a ++ b).takeWhile P = a
 | [], [], _, _ => rfl
 | [], y :: t, _, h => by rw [List.nil_append, List.takeWhile_cons, h y List.mem_cons_self]; rfl
 | x :: a, b, h, h' => by rw [List.cons_append, List.takeWhile_cons, h x List.mem_cons_self]; simp only [if_true]; rw [takeWhile_parts (fun y hy => h y (List.mem_cons_of_mem _ hy)) h']
theorem ls_set (W : Wd) (P : List Ls) (hl : W.paths.length = 4) {p : Nat} (hp : p < 4) (l : Ls) (hP : P = W.paths.set p l) (q : Int) (hq : 0 ≤ q) : P.getD q.toNat default = if q = (p : Int) then l else W.ls q := by
 rw [hP, getD_set]
 by_cases h : q = (p : Int)
 ·rw [if_pos h, if_pos ⟨by omega, by omega⟩]
 ·rw [if_neg h, if_neg (by omega)]; rfl
theorem wd_fly {W : Wd} (h : WdOK W) {p : Nat} (hp : p < 4) {size : Int} (hs : 1 ≤ size ∧ size ≤ 99) (hn : (W.ls p).next ≤ 999) (hl : (W.ls p).flight.length < 12) {i : Int} (hi : 0 ≤ i ∧ i ≤ 2) {q : Pt} (hq : Sent (W.sd i) q)
 {W' : Wd} (hW : W' = { W with paths := W.paths.set p { W.ls p with flight := (W.ls p).flight ++ [⟨(W.ls p).next, W.now, size⟩], next := (W.ls p).next + 1 }, carried := W.carried.take (W.carried.takeWhile fun c => decide (c.path ≤ (p : Int))).length ++ ⟨p, (W.ls p).next, i, q⟩ :: W.carried.drop (W.carried.takeWhile fun c => decide (c.path ≤ (p : Int))).length }) :
 WdOK W' ∧ Grow W W' ∧ ∀ c ∈ W'.carried, c ∈ W.carried ∨ (c = ⟨p, (W.ls p).next, i, q⟩ ∧ c.num = (W.ls c.path).next) := by
 have hP := h.path p hp
 obtain ⟨l', hl'⟩ : ∃ l' : Ls, l' = { W.ls p with flight := (W.ls p).flight ++ [⟨(W.ls p).next, W.now, size⟩], next := (W.ls p).next + 1 } := ⟨_, rfl⟩
 have hls : ∀ x : Int, 0 ≤ x → W'.ls x = if x = (p : Int) then l' else W.ls x := fun x hx => by
  have := ls_set W (W.paths.set p l') h.paths hp l' rfl x hx
  rw [hW, hl'] at *
  exact this
 have hsp := flights_split W hp
 have hcars := h.cars
 rw [hsp] at hcars
 obtain ⟨C1, C2, hC, f1, f2⟩ := F2.split hcars
 have hc1 : ∀ c ∈ C1, decide (c.path ≤ (p : Int)) = true := by
  intro c hc
  obtain ⟨a, ha, hr⟩ := F2.mem f1 c hc
  simp only [flightsTo, List.mem_flatMap, List.mem_range, List.mem_map] at ha
  obtain ⟨q, hq, k, _, rfl⟩ := ha
  rw [hr.path]
  simp only [decide_eq_true_eq]
  omega
 have hc2 : ∀ c ∈ C2, decide (c.path ≤ (p : Int)) = false := by
  intro c hc
  obtain ⟨a, ha, hr⟩ := F2.mem f2 c hc
  simp only [flightsFrom, List.mem_flatMap, List.mem_map] at ha
  obtain ⟨q, hq, k, _, rfl⟩ := ha
  have := drop_gt hp hq
  rw [hr.path]
  simp only [decide_eq_false_iff_not]
  omega
 have htw : W.carried.takeWhile (fun c => decide (c.path ≤ (p : Int))) = C1 := by rw [hC]; exact takeWhile_parts hc1 hc2
 have hcar' : W'.carried = C1 ++ ⟨p, (W.ls p).next, i, q⟩ :: C2 := by
  rw [hW]
  simp only
  rw [htw, hC]
  simp
 have hmem : ∀ c ∈ W'.carried, c ∈ W.carried ∨ (c = ⟨p, (W.ls p).next, i, q⟩ ∧ c.num = (W.ls c.path).next) := by
  intro c hc
  rw [hcar'] at hc
  rw [hC]
  rcases List.mem_append.1 hc with hc | hc
  ·exact .inl (List.mem_append_left _ hc)
  ·rcases List.mem_cons.1 hc with rfl | hc
   ·exact .inr ⟨rfl, rfl⟩
   ·exact .inl (List.mem_append_right _ hc)
 have hg : Grow W W' := by
  refine ⟨by rw [hW]; exact Int.le_refl _, fun j hj => by rw [hW]; exact StLe.refl _ _, fun x hx => ?_⟩
  rw [hls x hx.1]
  by_cases hxp : x = (p : Int)
  ·rw [if_pos hxp, hl', hxp]; simp only; omega
  ·rw [if_neg hxp]; exact Int.le_refl _
 have hsd : ∀ j, W'.sd j = W.sd j := fun j => by rw [hW]; rfl
 have hrv : ∀ j, W'.rv j = W.rv j := fun j => by rw [hW]; rfl
 have hsn : ∀ j, W'.sn j = W.sn j := fun j => by rw [hW]; rfl
 have hnow : W'.now = W.now := by rw [hW]
 have hold : ∀ a c, FlightOK W a c → FlightOK W' a c := fun a c hr => ⟨by rw [hnow]; exact hr.time, hr.path, hr.num, hr.stream, by rw [hsd]; exact hr.sent, by rw [hsd, hrv, hsn]; exact hr.got⟩
 have hfl : flights W' = flightsTo W (p + 1) ++ (p, (⟨(W.ls p).next, W.now, size⟩ : Pk)) :: flightsFrom W p := by
  rw [flights_split W' hp, flightsTo_succ, flightsTo_succ]
  have e1 : flightsTo W' p = flightsTo W p := by
   unfold flightsTo
   refine flatMap_congr' (fun x hx => ?_)
   rw [List.mem_range] at hx; rw [hls x (by omega), if_neg (by omega)]
  have e2 : flightsFrom W' p = flightsFrom W p := by
   unfold flightsFrom
   refine flatMap_congr' (fun x hx => ?_)
   have := drop_gt hp hx
   rw [hls x (by omega), if_neg (by omega)]
  rw [e1, e2, hls p (by omega), if_pos rfl, hl']
  simp
 have hnew : FlightOK W' (p, (⟨(W.ls p).next, W.now, size⟩ : Pk)) ⟨p, (W.ls p).next, i, q⟩ := by
  refine ⟨by rw [hnow]; exact Int.le_refl _, rfl, rfl, hi, by rw [hsd]; exact hq, fun hh => ?_⟩
  rw [hsn] at hh
  have := below_has hP.sn.2.2 hh
  simp only at this
  omega
 refine ⟨⟨by rw [hnow]; exact h.now, by rw [hW]; exact h.sends, by rw [hW]; exact h.recvs, by rw [hW]; exact h.got, by rw [hW]; simp [h.paths], by rw [hW]; exact h.rtts, by rw [hW]; exact h.windows, by rw [hW]; exact h.seen, by rw [hW]; exact h.wns, by rw [hW]; exact h.net, by rw [hW]; exact h.streams, fun x hx => ?_, ?_, fun y hy => ?_⟩, hg, hmem⟩
 ·have hx' := h.path x hx
  refine ⟨?_, by have := hx'.rt; rw [hW]; exact this, ?_⟩
  ·rw [hls x (by omega)]
   by_cases hxp : (x : Int) = (p : Int)
   ·rw [if_pos hxp, hl']
    have q0 := hP.ls
    refine ⟨by simp only; have := q0.next; omega, by simp only; have := q0.top; omega, by simp; omega, fun k hk => ?_, ?_⟩
    ·simp only at hk ⊢
     rcases List.mem_append.1 hk with hk | hk
     ·have := q0.pk k hk; omega
     ·simp at hk; subst hk
      have h0 := h.now
      have := q0.next
      have := q0.top
      simp only
      omega
    ·simp only
     rw [List.pairwise_append]
     refine ⟨q0.asc, by simp, fun a ha b hb => ?_⟩
     simp at hb; subst hb
     have h9 := q0.pk a ha
     obtain ⟨c, _, hr⟩ := F2.memL h.cars (p, a) (by
      simp only [flights, flightsTo, List.mem_flatMap, List.mem_range, List.mem_map]
      exact ⟨p, hp, a, ha, rfl⟩)
     have := hr.time
     simp only at this ⊢
     omega
   ·rw [if_neg hxp]; exact hx'.ls
  ·rw [hsn, hls x (by omega)]
   by_cases hxp : (x : Int) = (p : Int)
   ·rw [if_pos hxp, hl', hxp]
    exact ⟨hP.sn.1, hP.sn.2.1, rgBelow_mono hP.sn.2.2 (by simp only; omega)⟩
   ·rw [if_neg hxp]; exact hx'.sn
 ·rw [hfl, hcar']
  exact F2.append (F2.mono hold f1) ⟨hnew, F2.mono hold f2⟩
 ·exact wire_grow h hg (fun c hc => by rcases hmem c hc with h' | h'; (· exact .inl h'); exact .inr h'.2) (h.wires y (by rw [hW] at hy; exact hy))
theorem lsSend_some {l l' : Ls} {time size n : Int} (h : lsSend l time size = some (l', n)) : l' = { l with flight := l.flight ++ [⟨l.next, time, size⟩], next := l.next + 1 } ∧ n = l.next ∧ l.next ≤ 999 ∧ l.flight.length ≠ 12 := by
 unfold lsSend at h
 rw [Option.ite_none_left_eq_some] at h
 obtain ⟨h1, h2⟩ := h
 simp only [Option.some.injEq, Prod.mk.injEq] at h2
 simp only [Bool.or_eq_true, decide_eq_true_eq, not_or] at h1
 exact ⟨h2.1.symm, h2.2.symm, by omega, h1.2.1⟩
theorem wd_send {W : Wd} (h : WdOK W) (i p size : Int) : WdOK (doSend W i p size) := by
 unfold doSend
 by_cases hc : (!(inB i 0 2 && inB p 0 3) || decide ((W.windows.getD p.toNat default).size ≤ ((W.ls p).flight.length : Int)) || !inB size 1 12) = true
 ·rw [if_pos hc]; exact h
 ·rw [if_neg hc]
  have hi : 0 ≤ i ∧ i ≤ 2 := by
   refine inB_iff.1 ?_
   cases hh : inB i 0 2 with
   | true => rfl
   | false => rw [hh] at hc; simp at hc
  have hp : 0 ≤ p ∧ p ≤ 3 := by
   refine inB_iff.1 ?_
   cases hh : inB p 0 3 with
   | true => rfl
   | false => rw [hh] at hc; simp at hc
  have hz : 1 ≤ size ∧ size ≤ 12 := by
   refine inB_iff.1 ?_
   cases hh : inB size 1 12 with
   | true => rfl
   | false => rw [hh] at hc; simp at hc
  cases hn : sdNext (W.sd i) size with
  | none => exact h
  | some sq =>
    obtain ⟨s, q⟩ := sq
    simp only
    obtain ⟨hst, hle, hsent, hbl, _⟩ := st_next (h.st hi) hz.1 hn
    have h1 := wd_stream h (i := i.toNat) (by omega) hst hle
    have e1 : W.recvs.set i.toNat (W.rv i) = W.recvs := set_getD_self _ _
    have e2 : W.got.set i.toNat (W.got.getD i.toNat default) = W.got := set_getD_self _ _
    rw [e1, e2] at h1
    obtain ⟨h1, _⟩ := h1
    cases hsd : lsSend (W.ls p) W.now (5 + bl q.data) with
    | none => exact h
    | some ln =>
      obtain ⟨l, n⟩ := ln
      simp only
      obtain ⟨P, rfl⟩ : ∃ P : Nat, p = (P : Int) := ⟨p.toNat, by omega⟩
      obtain ⟨rfl, rfl, hcc1, hcc2⟩ := lsSend_some hsd
      all_goals
       have hfew := (h.path P (by omega)).ls.few
       obtain ⟨W1, hW1⟩ : ∃ W1 : Wd, W1 = { W with sends := W.sends.set i.toNat s } := ⟨_, rfl⟩
       rw [← hW1] at h1
       have hls : W1.ls P = W.ls P := by rw [hW1]; rfl
       have hsdi : W1.sd i = s := by rw [hW1]; unfold Wd.sd; simp only; rw [getD_set, if_pos ⟨rfl, by rw [h.sends]; omega⟩]
       have hb0 := bl_nonneg q.data
       obtain ⟨h2, hg, hmem⟩ := wd_fly h1 (p := P) (by omega) (size := 5 + bl q.data) (by omega) (by rw [hls]; omega) (by rw [hls]; omega) hi (q := q) (by rw [hsdi]; exact hsent) rfl
       rw [hls] at h2 hmem hg
       obtain ⟨W2, hW2⟩ : ∃ W2 : Wd, W2 = { W1 with paths := W1.paths.set P { W.ls P with flight := (W.ls P).flight ++ [⟨(W.ls P).next, W1.now, 5 + bl q.data⟩], next := (W.ls P).next + 1 }, carried := W1.carried.take (W1.carried.takeWhile fun c => decide (c.path ≤ (P : Int))).length ++ ⟨P, (W.ls P).next, i, q⟩ :: W1.carried.drop (W1.carried.takeWhile fun c => decide (c.path ≤ (P : Int))).length } := ⟨_, rfl⟩
       rw [← hW2] at h2 hmem hg
       have heq : ({ W with sends := W.sends.set i.toNat s, paths := W.paths.set (P : Int).toNat { W.ls P with flight := (W.ls P).flight ++ [⟨(W.ls P).next, W.now, 5 + bl q.data⟩], next := (W.ls P).next + 1 }, carried := W.carried.take (W.carried.takeWhile fun c => decide (c.path ≤ (P : Int))).length ++ ⟨P, (W.ls P).next, i, q⟩ :: W.carried.drop (W.carried.takeWhile fun c => decide (c.path ≤ (P : Int))).length } : Wd) = W2 := by
        rw [hW2, hW1, Int.toNat_natCast]
       rw [heq]
       have hfp : fmPart ⟨3, i, q.off, if q.fin then 1 else 0, q.data, []⟩ = q := by
        cases q with
        | mk a b c => cases c <;> rfl
       have hsd2 : W2.sd i = s := by rw [hW2]; exact hsdi
       have hls2 : (W2.ls P).next = (W.ls P).next + 1 := by
        have := ls_set W1 W2.paths h1.paths (p := P) (by omega) { W.ls P with flight := (W.ls P).flight ++ [⟨(W.ls P).next, W1.now, 5 + bl q.data⟩], next := (W.ls P).next + 1 } (by rw [hW2]) P (by omega)
        rw [if_pos rfl] at this
        unfold Wd.ls
        unfold Wd.ls at this
        rw [this]
       have hnx := (h.path P (by omega)).ls.next
       refine wd_post h2 ⟨⟨by simp only; omega, by simp only; omega⟩, ?_, by simp only; omega, fun _ => .inl ⟨rfl, by simp only; omega, by simp only; rw [hls2]; omega, by simp only; rw [hfp, hsd2]; exact hsent, ?_⟩⟩
       ·have he := hsent.end_
        have ho := hsent.off
        have hlen : bl s.data ≤ 30 := hst.sd.len
        have hbl12 : bl q.data ≤ 12 := by omega
        simp only [fmValid]
        have c0 : 0 ≤ (if q.fin = true then (1 : Int) else 0) ∧ (if q.fin = true then (1 : Int) else 0) ≤ 1 := by split <;> omega
        simp only [fieldsOk, inB]
        simp
        refine ⟨by unfold bl at hbl12; omega, ⟨by omega, by omega⟩, ⟨by omega, by omega⟩, ?_⟩
        exact c0
       ·intro c hc h3 h4
        simp only at h3 h4 ⊢
        rw [hfp]
        rcases hmem c hc with h5 | h5
        ·exfalso
         obtain ⟨p', hp', k, hk, hr⟩ := h1.carMem h5
         have := hr.path
         have h6 := ((h1.path p' hp').ls.pk k hk).1.2
         have h7 := hr.num
         rw [h3] at this
         simp only at this h7
         rw [← this, hls] at h6
         omega
        ·rw [h5.1]; exact ⟨rfl, rfl⟩
def keep (p : Int) (D : List Int) (c : Cd) : Bool := !(decide (c.path = p) && D.contains c.num)
theorem erase_key {p n : Int} : ∀ {l : List Cd} {c : Cd}, OneKey l → c ∈ l → c.path = p → c.num = n →
 ∃ k, l.findIdx? (fun d => decide (d.path = p) && decide (d.num = n)) = some k ∧ k < l.length ∧ l.getD k default = c ∧ l.eraseIdx k = l.filter (fun d => !(decide (d.path = p) && decide (d.num = n)))
 | [], c, _, hc, _, _ => by simp at hc
 | x :: t, c, ok, hc, h1, h2 => by
   have ok' := ok
   unfold OneKey at ok'
   rw [List.pairwise_cons] at ok'
   by_cases hx : (decide (x.path = p) && decide (x.num = n)) = true
   ·have hx' := hx
    simp only [Bool.and_eq_true, decide_eq_true_eq] at hx'
    have hcx : c = x := ok.eq hc List.mem_cons_self (by rw [h1, hx'.1]) (by rw [h2, hx'.2])
    refine ⟨0, by rw [List.findIdx?_cons, if_pos hx], by simp, by rw [hcx]; rfl, ?_⟩
    rw [List.eraseIdx_cons_zero, List.filter_cons_of_neg (by rw [hx]; simp)]
    symm
    rw [List.filter_eq_self]
    intro d hd
    have := ok'.1 d hd
    rw [hx'.1, hx'.2] at this
    cases hdd : (decide (d.path = p) && decide (d.num = n)) with
    | false => rfl
    | true =>
      simp only [Bool.and_eq_true, decide_eq_true_eq] at hdd
      exact absurd ⟨hdd.1.symm, hdd.2.symm⟩ this
   ·have hct : c ∈ t := by
     rcases List.mem_cons.1 hc with rfl | hc
     ·simp [h1, h2] at hx
     ·exact hc
    obtain ⟨k, e1, e2, e3, e4⟩ := erase_key ok'.2 hct h1 h2
    refine ⟨k + 1, by rw [List.findIdx?_cons, if_neg hx, e1]; rfl, by simp; omega, by rw [List.getD_cons_succ]; exact e3, ?_⟩
    rw [List.eraseIdx_cons_succ, e4, List.filter_cons_of_pos (by show (!(decide (x.path = p) && decide (x.num = n))) = true; rw [Bool.not_eq_true']; simpa only [Bool.not_eq_true] using hx)]
structure Mid (W V : Wd) (p : Int) (D : List Int) (P : List Ls) : Prop where
 now : V.now = W.now
 recvs : V.recvs = W.recvs
 got : V.got = W.got
 paths : V.paths = P
 rtts : V.rtts = W.rtts
 seen : V.seen = W.seen
 net : V.net = W.net
 sends : V.sends.length = 3
 wins : V.windows.length = 4 ∧ wnsValid V.windows = true
 streams : ∀ i : Nat, i < 3 → StOK (V.sends.getD i default) (W.recvs.getD i default) (W.got.getD i default) ∧ StLe (W.sends.getD i default) (W.recvs.getD i default) (V.sends.getD i default) (W.recvs.getD i default)
 carried : V.carried = W.carried.filter (keep p D)
theorem mid_start {W : Wd} (h : WdOK W) (p : Int) (P : List Ls) : Mid W { W with paths := P } p [] P :=
 ⟨rfl, rfl, rfl, rfl, rfl, rfl, rfl, h.sends, ⟨h.windows, h.wns⟩, fun i hi => ⟨h.streams i hi, StLe.refl _ _⟩, by
   symm
   rw [List.filter_eq_self]
   intro c _
   simp [keep]⟩
theorem keep_snoc (p n : Int) (D : List Int) (l : List Cd) : (l.filter (keep p D)).filter (fun d => !(decide (d.path = p) && decide (d.num = n))) = l.filter (keep p (D ++ [n])) := by
 rw [List.filter_filter]
 congr 1
 funext d
 simp only [keep, List.contains_append]
 cases decide (d.path = p) <;> simp [Bool.and_comm]
theorem mid_drop {W V : Wd} {p n : Int} {D : List Int} {P : List Ls} (h : WdOK W) (m : Mid W V p D P) {c : Cd} (hc : c ∈ W.carried) (h1 : c.path = p) (h2 : c.num = n) (hn : n ∉ D) :
 ∃ k, carAt V p n = some k ∧ k < V.carried.length ∧ V.carried.getD k default = c ∧ V.carried.eraseIdx k = W.carried.filter (keep p (D ++ [n])) ∧ (0 ≤ c.stream ∧ c.stream ≤ 2) ∧ Sent (V.sd c.stream) c.part ∧ StOK (V.sd c.stream) (W.rv c.stream) (W.got.getD c.stream.toNat default) := by
 have hk : OneKey V.carried := by rw [m.carried]; exact h.key.filter _
 have hcv : c ∈ V.carried := by
  rw [m.carried, List.mem_filter]
  refine ⟨hc, ?_⟩
  simp [keep, h2, hn]
 obtain ⟨k, e1, e2, e3, e4⟩ := erase_key hk hcv h1 h2
 obtain ⟨q, _, pk, _, hr⟩ := h.carMem hc
 have hst := hr.stream
 have hs := m.streams c.stream.toNat (by omega)
 refine ⟨k, e1, e2, e3, ?_, hst, hs.2.sent _ hr.sent, hs.1⟩
 rw [e4, m.carried, keep_snoc]
theorem mid_set {W V : Wd} {p n : Int} {D : List Int} {P : List Ls} (m : Mid W V p D P) {i : Int} (_hi : 0 ≤ i ∧ i ≤ 2) {s' : Sd} (hs : StOK s' (W.rv i) (W.got.getD i.toNat default)) (hle : StLe (V.sd i) (W.rv i) s' (W.rv i)) {cs : List Cd} (hcs : cs = W.carried.filter (keep p (D ++ [n]))) {ws : List Wn} (hw : ws.length = 4 ∧ wnsValid ws = true) :
 Mid W { V with carried := cs, sends := V.sends.set i.toNat s', windows := ws } p (D ++ [n]) P := by
 refine ⟨m.now, m.recvs, m.got, m.paths, m.rtts, m.seen, m.net, by simp [m.sends], hw, fun j hj => ?_, hcs⟩
 simp only
 rw [getD_set]
 by_cases hij : i.toNat = j
 ·rw [if_pos ⟨hij, by rw [m.sends]; omega⟩, ← hij]
  exact ⟨hs, (m.streams i.toNat (by omega)).2.trans hle⟩
 ·rw [if_neg (fun h' => hij h'.1)]; exact m.streams j hj
theorem mid_lose {W V : Wd} {p n : Int} {D : List Int} {P : List Ls} (h : WdOK W) (m : Mid W V p D P) {c : Cd} (hc : c ∈ W.carried) (h1 : c.path = p) (h2 : c.num = n) (hn : n ∉ D) : Mid W (loseOne V p n) p (D ++ [n]) P := by
 obtain ⟨k, e1, e2, e3, e4, hst, hs, hok⟩ := mid_drop h m hc h1 h2 hn
 unfold loseOne dropCd
 rw [e1]
 simp only
 rw [e3]
 have := st_loss hok hs
 exact mid_set m hst this.1 this.2 e4 m.wins
theorem wnInc_bd {l : List Wn} (h : wnsValid l = true) (i : Nat) (hi : i < l.length) : 0 ≤ wnInc l i ∧ wnInc l i ≤ 1000 := by
 have hok : ∀ x ∈ l, 1 ≤ x.size ∧ x.size ≤ 64 ∧ 1 ≤ x.rtt ∧ x.rtt ≤ 99 := by
  simp only [wnsValid, Bool.and_eq_true, List.all_eq_true] at h
  intro x hx
  have := h.1 x hx
  simp [wnOk, inB] at this
  omega
 have hg : l.getD i default ∈ l := by rw [List.getD_eq_getElem?_getD, List.getElem?_eq_getElem hi]; exact List.getElem_mem hi
 have hs := hok _ hg
 have hbest : ∀ (m : List Wn) (b : Int), 0 ≤ b → 0 ≤ m.foldl (fun b x => max b (x.size * 100000000 / (x.rtt * x.rtt))) b := by
  intro m
  induction m with
  | nil => intro b hb; exact hb
  | cons x t ih => intro b hb; exact ih _ (Int.le_trans hb (Int.le_max_left _ _))
 have h1 : 0 ≤ 1000 * wnBest l := by have := hbest l 0 (by omega); unfold wnBest; omega
 have h2 : 0 ≤ wnSum l * wnSum l := by
  rcases Int.le_total 0 (wnSum l) with h0 | h0
  ·exact Int.mul_nonneg h0 h0
  ·exact Int.mul_nonneg_of_nonpos_of_nonpos h0 h0
 have h3 : 0 ≤ 1000 * wnBest l / (wnSum l * wnSum l) := Int.ediv_nonneg h1 h2
 have h4 : 0 ≤ 1000 / (l.getD i default).size := Int.ediv_nonneg (by omega) (by omega)
 have h5 : 1000 / (l.getD i default).size ≤ 1000 := Int.ediv_le_self _ (by omega)
 unfold wnInc
 omega
theorem wns_set {l : List Wn} (h : wnsValid l = true) (i : Nat) {x : Wn} (hx : wnOk x = true) : wnsValid (l.set i x) = true := by
 simp only [wnsValid, Bool.and_eq_true, List.all_eq_true, List.length_set] at h ⊢
 refine ⟨fun y hy => ?_, h.2⟩
 rcases List.mem_or_eq_of_mem_set hy with hy | hy
 ·exact h.1 y hy
 ·rw [hy]; exact hx
theorem wnsAt {l : List Wn} (h : wnsValid l = true) {i : Nat} (hi : i < l.length) : wnOk (l.getD i default) = true := by
 simp only [wnsValid, Bool.and_eq_true, List.all_eq_true] at h
 exact h.1 _ (by rw [List.getD_eq_getElem?_getD, List.getElem?_eq_getElem hi]; exact List.getElem_mem hi)
theorem wns_ack {l : List Wn} (h : wnsValid l = true) {i : Nat} (hi : i < l.length) : wnsValid (wnAck l i) = true ∧ (wnAck l i).length = l.length := by
 have h1 := wnsAt h hi
 have h2 := wnInc_bd h i hi
 unfold wnAck
 simp only
 generalize l.getD i default = x at h1 ⊢
 simp [wnOk, inB] at h1
 split
 ·exact ⟨wns_set h i (by simp [wnOk, inB]; omega), by simp⟩
 ·split
  ·exact ⟨wns_set h i (by simp [wnOk, inB]; omega), by simp⟩
  ·exact ⟨wns_set h i (by simp [wnOk, inB]; omega), by simp⟩
theorem wns_loss {l : List Wn} (h : wnsValid l = true) {i : Nat} (hi : i < l.length) : wnsValid (wnLoss l i) = true ∧ (wnLoss l i).length = l.length := by
 have h1 := wnsAt h hi
 unfold wnLoss
 simp only
 generalize l.getD i default = x at h1 ⊢
 simp [wnOk, inB] at h1
 exact ⟨wns_set h i (by simp [wnOk, inB]; omega), by simp⟩
theorem mid_ack {W V : Wd} {p n : Int} {D : List Int} {P : List Ls} (h : WdOK W) (hp : 0 ≤ p ∧ p ≤ 3) (m : Mid W V p D P) {c : Cd} (hc : c ∈ W.carried) (h1 : c.path = p) (h2 : c.num = n) (hn : n ∉ D) (hg : gotPart (W.sd c.stream) (W.rv c.stream) c.part = true) : Mid W (ackOne V p n) p (D ++ [n]) P := by
 obtain ⟨k, e1, e2, e3, e4, hst, hs, hok⟩ := mid_drop h m hc h1 h2 hn
 obtain ⟨q, _, pk, _, hr⟩ := h.carMem hc
 unfold ackOne dropCd
 rw [e1]
 simp only
 rw [e3]
 have hle := (m.streams c.stream.toNat (by omega)).2
 have := st_ack hok hs (hle.part hr.sent hg)
 have hw := wns_ack m.wins.2 (i := p.toNat) (by rw [m.wins.1]; omega)
 exact mid_set m hst this.1 this.2 e4 ⟨by rw [hw.2]; exact m.wins.1, hw.1⟩
theorem mid_loseAll {W : Wd} (h : WdOK W) {p : Int} {P : List Ls} : ∀ (l D : List Int) {V : Wd}, Mid W V p D P → (∀ n ∈ l, ∃ c ∈ W.carried, c.path = p ∧ c.num = n) → (D ++ l).Nodup → Mid W (loseAll V p l) p (D ++ l) P
 | [], D, V, m, _, _ => by simpa [loseAll] using m
 | n :: t, D, V, m, hl, hd => by
   obtain ⟨c, hc, h1, h2⟩ := hl n List.mem_cons_self
   have hn : n ∉ D := fun hh => by
    have := (List.nodup_append.1 hd).2.2 n hh n List.mem_cons_self
    exact this rfl
   have m' := mid_lose h m hc h1 h2 hn
   have := mid_loseAll h t (D ++ [n]) m' (fun x hx => hl x (List.mem_cons_of_mem _ hx)) (by simpa using hd)
   simpa [loseAll] using this
theorem mid_ackAll {W : Wd} (h : WdOK W) {p : Int} (hp : 0 ≤ p ∧ p ≤ 3) {P : List Ls} : ∀ (l D : List Int) {V : Wd}, Mid W V p D P → (∀ n ∈ l, ∃ c ∈ W.carried, c.path = p ∧ c.num = n ∧ gotPart (W.sd c.stream) (W.rv c.stream) c.part = true) → (D ++ l).Nodup → Mid W (ackAll V p l) p (D ++ l) P
 | [], D, V, m, _, _ => by simpa [ackAll] using m
 | n :: t, D, V, m, hl, hd => by
   obtain ⟨c, hc, h1, h2, h3⟩ := hl n List.mem_cons_self
   have hn : n ∉ D := fun hh => by
    have := (List.nodup_append.1 hd).2.2 n hh n List.mem_cons_self
    exact this rfl
   have m' := mid_ack h hp m hc h1 h2 hn h3
   have := mid_ackAll h hp t (D ++ [n]) m' (fun x hx => hl x (List.mem_cons_of_mem _ hx)) (by simpa using hd)
   simpa [ackAll] using this
theorem mid_end {W V : Wd} {p : Nat} {D : List Int} {P : List Ls} (h : WdOK W) (hp : p < 4) (m : Mid W V p D P) {l' : Ls} (hP : P = W.paths.set p l') (hok : LsOK l') (hnx : l'.next = (W.ls p).next) (hfl : l'.flight = (W.ls p).flight.filter fun k => !D.contains k.num)
 {ws : List Wn} (hw : ws.length = 4 ∧ wnsValid ws = true) {rs : List Rt} (hr : rs.length = 4 ∧ ∀ q : Nat, q < 4 → rtValid (rs.getD q default) = true) : WdOK { V with windows := ws, rtts := rs } := by
 obtain ⟨W', hW⟩ : ∃ W' : Wd, W' = { V with windows := ws, rtts := rs } := ⟨_, rfl⟩
 rw [← hW]
 have hls : ∀ x : Int, 0 ≤ x → W'.ls x = if x = (p : Int) then l' else W.ls x := fun x hx => by
  have := ls_set W P h.paths hp l' hP x hx
  unfold Wd.ls at *
  rw [hW]
  simp only
  rw [m.paths]
  exact this
 have hsd : ∀ i : Int, 0 ≤ i ∧ i ≤ 2 → W'.sd i = V.sd i := fun i _ => by rw [hW]; rfl
 have hrv : ∀ i : Int, W'.rv i = W.rv i := fun i => by rw [hW]; unfold Wd.rv; simp only; rw [m.recvs]
 have hsn : ∀ i : Int, W'.sn i = W.sn i := fun i => by rw [hW]; unfold Wd.sn; simp only; rw [m.seen]
 have hnow : W'.now = W.now := by rw [hW]; exact m.now
 have hg : Grow W W' := by
  refine ⟨by rw [hnow]; exact Int.le_refl _, fun i hi => ?_, fun x hx => ?_⟩
  ·rw [hsd i hi, hrv]; exact (m.streams i.toNat (by omega)).2
  ·rw [hls x hx.1]
   by_cases hxp : x = (p : Int)
   ·rw [if_pos hxp, hnx, hxp]; exact Int.le_refl _
   ·rw [if_neg hxp]; exact Int.le_refl _
 have hcar : W'.carried = W.carried.filter (keep p D) := by rw [hW]; exact m.carried
 have hflights : flights W' = (flights W).filter fun a => !(decide ((a.1 : Int) = (p : Int)) && D.contains a.2.num) := by
  unfold flights flightsTo
  rw [List.filter_flatMap]
  refine flatMap_congr' fun x hx => ?_
  rw [List.mem_range] at hx
  rw [hls x (by omega), List.filter_map]
  by_cases hxp : (x : Int) = (p : Int)
  ·rw [if_pos hxp, hfl, hxp]
   congr 1
   apply List.filter_congr
   intro k _
   simp [hxp]
  ·rw [if_neg hxp]
   congr 1
   symm
   rw [List.filter_eq_self]
   intro k _
   simp [hxp]
 have hcars : F2 (FlightOK W') (flights W') W'.carried := by
  rw [hflights, hcar]
  refine F2.mono (fun a c hr => ?_) (F2.filter _ _ (fun a c hr => ?_) h.cars)
  ·exact ⟨by rw [hnow]; exact hr.time, hr.path, hr.num, hr.stream, (hg.st _ hr.stream).sent _ hr.sent, fun hh => by rw [hsn] at hh; exact (hg.st _ hr.stream).part hr.sent (hr.got hh)⟩
  ·rw [keep, hr.path, hr.num]
 refine ⟨by rw [hnow]; exact h.now, by rw [hW]; exact m.sends, by rw [hW]; simp only; rw [m.recvs]; exact h.recvs, by rw [hW]; simp only; rw [m.got]; exact h.got, by rw [hW]; simp only; rw [m.paths, hP]; simp [h.paths], by rw [hW]; exact hr.1, by rw [hW]; exact hw.1, by rw [hW]; simp only; rw [m.seen]; exact h.seen, by rw [hW]; exact hw.2, by rw [hW]; simp only; rw [m.net]; exact h.net, fun i hi => ?_, fun x hx => ?_, hcars, fun y hy => ?_⟩
 ·rw [hW]; simp only; rw [m.recvs, m.got]; exact (m.streams i hi).1
 ·have hx' := h.path x hx
  refine ⟨?_, ?_, ?_⟩
  ·rw [hls x (by omega)]
   by_cases hxp : (x : Int) = (p : Int)
   ·rw [if_pos hxp]; exact hok
   ·rw [if_neg hxp]; exact hx'.ls
  ·rw [hW]; exact hr.2 x hx
  ·rw [hsn, hls x (by omega)]
   by_cases hxp : (x : Int) = (p : Int)
   ·rw [if_pos hxp, hnx, hxp]; exact (h.path p hp).sn
   ·rw [if_neg hxp]; exact hx'.sn
 ·refine wire_grow h hg (fun c hc => .inl ?_) (h.wires y (by rw [hW] at hy; simp only at hy; rw [m.net] at hy; exact hy))
  rw [hcar] at hc
  exact (List.mem_filter.1 hc).1
theorem carOf {W : Wd} (h : WdOK W) {p : Nat} (hp : p < 4) {k : Pk} (hk : k ∈ (W.ls p).flight) : ∃ c ∈ W.carried, c.path = (p : Int) ∧ c.num = k.num := by
 obtain ⟨c, hc, hr⟩ := F2.memL h.cars (p, k) (by
  simp only [flights, flightsTo, List.mem_flatMap, List.mem_range, List.mem_map]
  exact ⟨p, hp, k, hk, rfl⟩)
 exact ⟨c, hc, hr.path, hr.num⟩
theorem nums_nodup {l : Ls} (h : LsOK l) : (l.flight.map Pk.num).Nodup := by
 unfold List.Nodup
 rw [List.pairwise_map]
 exact h.asc.imp fun hab e => by have := hab.1; omega
theorem wd_timeout {W : Wd} (h : WdOK W) {p : Int} (hp : 0 ≤ p ∧ p ≤ 3) : WdOK (doTimeout W p) := by
 obtain ⟨P, rfl⟩ : ∃ P : Nat, p = (P : Int) := ⟨p.toNat, by omega⟩
 have hP : P < 4 := by omega
 have hls := (h.path P hP).ls
 unfold doTimeout
 simp only [Int.toNat_natCast]
 have m := mid_loseAll h ((W.ls P).flight.map Pk.num) [] (mid_start h P (W.paths.set P { W.ls P with flight := [] })) (fun n hn => by
  obtain ⟨k, hk, rfl⟩ := List.mem_map.1 hn
  exact carOf h hP hk) (by simpa using nums_nodup hls)
 rw [List.nil_append] at m
 have hok : LsOK { W.ls P with flight := [] } := ⟨hls.next, hls.top, by simp, by simp, by simp⟩
 have hfl : ([] : List Pk) = (W.ls P).flight.filter fun k => !((W.ls P).flight.map Pk.num).contains k.num := by
  symm
  rw [List.filter_eq_nil_iff]
  intro k hk
  simp only [Bool.not_eq_true', Bool.not_eq_false, List.contains_iff_mem]
  exact List.mem_map_of_mem hk
 have hrs : W.rtts.length = 4 ∧ ∀ q : Nat, q < 4 → rtValid (W.rtts.getD q default) = true := ⟨h.rtts, fun q hq => (h.path q hq).rt⟩
 have fin := fun {ws : List Wn} (hw : ws.length = 4 ∧ wnsValid ws = true) => mid_end h hP m rfl hok rfl hfl hw hrs
 obtain ⟨V, hV⟩ : ∃ V : Wd, V = loseAll { W with paths := W.paths.set P { W.ls P with flight := [] } } P ((W.ls P).flight.map Pk.num) := ⟨_, rfl⟩
 rw [← hV] at m fin ⊢
 have hVr : V.rtts = W.rtts := m.rtts
 by_cases he : (W.ls P).flight.isEmpty = true
 ·rw [if_pos he]
  have := fin m.wins
  rw [← hVr] at this
  exact this
 ·rw [if_neg he]
  have hw := wns_loss m.wins.2 (i := P) (by rw [m.wins.1]; omega)
  have := fin (ws := wnLoss V.windows P) ⟨by rw [hw.2]; exact m.wins.1, hw.1⟩
  rw [← hVr] at this
  exact this
theorem rt_upd {r : Rt} (h : rtValid r = true) {x : Int} (hx : 1 ≤ x ∧ x ≤ 999) : rtValid (rtUpd r x) = true := by
 unfold rtUpd
 by_cases h0 : r = rtZero
 ·rw [if_pos h0]
  simp [rtValid, inB]
  omega
 ·rw [if_neg h0]
  simp [rtValid, inB, h0] at h
  simp [rtValid, inB]
  omega
theorem topOf_lt {l : List Rg} {x : Int} (h : rgBelow l x) (h0 : 0 ≤ x) : topOf l < x := by
 unfold topOf
 cases hl : l.getLast? with
 | none => simp only; omega
 | some r => exact h r (List.mem_of_getLast? hl)
theorem top_has {l : List Rg} {last : Int} (ok : rgOk last l) (hl : l ≠ []) : hasR l (topOf l) = true := by
 unfold topOf
 cases hg : l.getLast? with
 | none => exact absurd (List.getLast?_eq_none_iff.1 hg) hl
 | some r =>
   simp only
   have hm := List.mem_of_getLast? hg
   simp only [hasR, List.any_eq_true, Bool.and_eq_true, decide_eq_true_eq]
   have : ∀ (l : List Rg) (last : Int), rgOk last l → ∀ r ∈ l, r.lo ≤ r.hi := by
    intro l
    induction l with
    | nil => intro _ _ r hr; simp at hr
    | cons y ys ih =>
      intro last ok r hr
      rcases List.mem_cons.1 hr with rfl | hr
      ·exact ok.2.1
      ·exact ih _ ok.2.2.2 r hr
   exact ⟨r, hm, this l last ok r hm, Int.le_refl _⟩
theorem nodup_filter_two {l : List Pk} (h : (l.map Pk.num).Nodup) (f g : Pk → Bool) (hfg : ∀ k ∈ l, f k = true → g k = false) : ((l.filter f).map Pk.num ++ (l.filter g).map Pk.num).Nodup := by
 rw [List.nodup_append]
 refine ⟨(List.Sublist.map _ List.filter_sublist).nodup h, (List.Sublist.map _ List.filter_sublist).nodup h, ?_⟩
 intro a ha b hb hab
 obtain ⟨k, hk, rfl⟩ := List.mem_map.1 ha
 obtain ⟨k', hk', e⟩ := List.mem_map.1 hb
 rw [List.mem_filter] at hk hk'
 have hinj : ∀ {l : List Pk}, (l.map Pk.num).Nodup → ∀ x ∈ l, ∀ y ∈ l, x.num = y.num → x = y := by
  intro l
  induction l with
  | nil => intro _ x hx; simp at hx
  | cons z zs ih =>
    intro hn x hx y hy hxy
    rw [List.map_cons, List.nodup_cons] at hn
    rcases List.mem_cons.1 hx with rfl | hx' <;> rcases List.mem_cons.1 hy with rfl | hy'
    ·rfl
    ·exact (hn.1 (by rw [hxy]; exact List.mem_map_of_mem hy')).elim
    ·exact (hn.1 (by rw [← hxy]; exact List.mem_map_of_mem hx')).elim
    ·exact ih hn.2 x hx' y hy' hxy
 have := hinj h k hk.1 k' hk'.1 (by rw [e, hab])
 subst this
 have := hfg k hk.1 hk.2
 rw [hk'.2] at this
 cases this
theorem num_inj {l : Ls} (h : LsOK l) {x y : Pk} (hx : x ∈ l.flight) (hy : y ∈ l.flight) (e : x.num = y.num) : x = y := by
 have := h.asc
 generalize l.flight = f at this hx hy
 induction f with
 | nil => simp at hx
 | cons z zs ih =>
   rw [List.pairwise_cons] at this
   rcases List.mem_cons.1 hx with rfl | hx' <;> rcases List.mem_cons.1 hy with rfl | hy'
   ·rfl
   ·have := (this.1 y hy').1; omega
   ·have := (this.1 x hx').1; omega
   ·exact ih this.2 hx' hy'
theorem ls_ack {l : Ls} (h : LsOK l) {acked : List Rg} (ha : rgOk (-2) acked) (hb : rgBelow acked l.next) (now delay : Int) :
 LsOK (lsAck l acked now delay).1 ∧ (lsAck l acked now delay).1.next = l.next ∧ (lsAck l acked now delay).1.flight = l.flight.filter (fun k => !((lsAck l acked now delay).2.1 ++ (lsAck l acked now delay).2.2).contains k.num) ∧
 ((lsAck l acked now delay).2.1 ++ (lsAck l acked now delay).2.2).Nodup ∧ (∀ n ∈ (lsAck l acked now delay).2.1, hasR acked n = true ∧ ∃ k ∈ l.flight, k.num = n) ∧ (∀ n ∈ (lsAck l acked now delay).2.2, ∃ k ∈ l.flight, k.num = n) := by
 unfold lsAck
 simp only
 obtain ⟨top, htop⟩ : ∃ top, top = max l.largest (topOf acked) := ⟨_, rfl⟩
 rw [← htop]
 have ht1 := topOf_lt hb h.next.1
 have ht2 := h.top
 have hcon : ∀ k ∈ l.flight, ((l.flight.filter (isDone acked)).map Pk.num ++ (l.flight.filter (isLost acked top now delay)).map Pk.num).contains k.num = (isDone acked k || isLost acked top now delay k) := by
  intro k hk
  rw [Bool.eq_iff_iff, List.contains_iff_mem, Bool.or_eq_true]
  constructor
  ·intro hm
   rcases List.mem_append.1 hm with hm | hm
   ·obtain ⟨k', hk', e⟩ := List.mem_map.1 hm
    rw [List.mem_filter] at hk'
    rw [← num_inj h hk'.1 hk e]
    exact .inl hk'.2
   ·obtain ⟨k', hk', e⟩ := List.mem_map.1 hm
    rw [List.mem_filter] at hk'
    rw [← num_inj h hk'.1 hk e]
    exact .inr hk'.2
  ·rintro (hd | hd)
   ·exact List.mem_append_left _ (List.mem_map_of_mem (List.mem_filter.2 ⟨hk, hd⟩))
   ·exact List.mem_append_right _ (List.mem_map_of_mem (List.mem_filter.2 ⟨hk, hd⟩))
 refine ⟨⟨h.next, by simp only; omega, ?_, fun k hk => ?_, h.asc.filter _⟩, trivial, ?_, ?_, fun n hn => ?_, fun n hn => ?_⟩
 ·have := List.length_filter_le (fun p => !isDone acked p && !isLost acked top now delay p) l.flight
  have := h.few
  simp only
  omega
 ·simp only at hk ⊢
  rw [List.mem_filter] at hk
  have hk' := h.pk k hk.1
  refine ⟨hk'.1, ?_, hk'.2.2⟩
  intro e
  simp only [Bool.and_eq_true, Bool.not_eq_true', isDone] at hk
  by_cases hl : acked = []
  ·rw [hl] at htop
   have : topOf [] = -1 := rfl
   rw [this] at htop
   omega
  ·have := top_has ha hl
   by_cases hc : l.largest ≤ topOf acked
   ·rw [show k.num = topOf acked by omega, this] at hk
    cases hk.2.1
   ·omega
 ·apply List.filter_congr
  intro k hk
  rw [hcon k hk]
  simp
 ·refine nodup_filter_two (nums_nodup h) _ _ fun k _ hd => ?_
  unfold isDone at hd
  simp [isLost, hd]
 ·obtain ⟨k, hk, rfl⟩ := List.mem_map.1 hn
  rw [List.mem_filter] at hk
  exact ⟨hk.2, k, hk.1, rfl⟩
 ·obtain ⟨k, hk, rfl⟩ := List.mem_map.1 hn
  rw [List.mem_filter] at hk
  exact ⟨k, hk.1, rfl⟩
theorem wd_ack {W : Wd} (h : WdOK W) {p : Int} (hp : 0 ≤ p ∧ p ≤ 3) {acked : List Rg} (ha : rgOk (-2) acked) (hb : rgBelow acked (W.ls p).next) (hg : ∀ c ∈ W.carried, c.path = p → hasR acked c.num = true → gotPart (W.sd c.stream) (W.rv c.stream) c.part = true) : WdOK (doAck W p acked) := by
 obtain ⟨P, rfl⟩ : ∃ P : Nat, p = (P : Int) := ⟨p.toNat, by omega⟩
 have hP : P < 4 := by omega
 have hpt := h.path P hP
 obtain ⟨a1, a2, a3, a4, a5, a6⟩ := ls_ack hpt.ls ha hb W.now (rtDelay (W.rt P))
 unfold doAck
 generalize lsAck (W.ls P) acked W.now (rtDelay (W.rt P)) = res at a1 a2 a3 a4 a5 a6 ⊢
 obtain ⟨l, done, lost⟩ := res
 simp only [Int.toNat_natCast] at a1 a2 a3 a4 a5 a6 ⊢
 have m1 := mid_ackAll h hp done [] (mid_start h P (W.paths.set P l)) (fun n hn => by
  obtain ⟨hh, k, hk, e⟩ := a5 n hn
  obtain ⟨c, hc, c1, c2⟩ := carOf h hP hk
  exact ⟨c, hc, c1, by rw [c2, e], hg c hc c1 (by rw [c2, e]; exact hh)⟩) (by rw [List.nil_append]; exact (List.nodup_append.1 a4).1)
 rw [List.nil_append] at m1
 have m := mid_loseAll h lost done m1 (fun n hn => by
  obtain ⟨k, hk, e⟩ := a6 n hn
  obtain ⟨c, hc, c1, c2⟩ := carOf h hP hk
  exact ⟨c, hc, c1, by rw [c2, e]⟩) a4
 generalize loseAll (ackAll { W with paths := W.paths.set P l } P done) P lost = V at m ⊢
 have fin := fun {ws : List Wn} {rs : List Rt} hw hr => mid_end h hP m (l' := l) rfl a1 a2 a3 (ws := ws) hw (rs := rs) hr
 have hr0 : V.rtts.length = 4 ∧ ∀ q : Nat, q < 4 → rtValid (V.rtts.getD q default) = true := by rw [m.rtts]; exact ⟨h.rtts, fun q hq => (h.path q hq).rt⟩
 have hw := wns_loss m.wins.2 (i := P) (by rw [m.wins.1]; omega)
 obtain ⟨ws, hws, hU⟩ : ∃ ws, (ws.length = 4 ∧ wnsValid ws = true) ∧ (if lost.isEmpty then V else { V with windows := wnLoss V.windows P }) = { V with windows := ws } := by
  by_cases he : lost.isEmpty = true
  ·rw [if_pos he]; exact ⟨V.windows, m.wins, rfl⟩
  ·rw [if_neg he]; exact ⟨_, ⟨by rw [hw.2]; exact m.wins.1, hw.1⟩, rfl⟩
 rw [hU]
 have base := fin hws hr0
 cases hd : done.getLast? with
 | none => exact base
 | some n =>
   simp only
   cases ht : timeOf (W.ls P).flight n with
   | none => exact base
   | some t =>
     simp only
     by_cases hlt : t < W.now
     ·rw [if_pos hlt]
      have htime : 0 ≤ t := by
       unfold timeOf at ht
       rw [Option.map_eq_some_iff] at ht
       obtain ⟨k, hk, rfl⟩ := ht
       exact (hpt.ls.pk k (List.mem_of_find?_eq_some hk)).2.2.1.1
      have hnow := h.now
      refine fin hws ⟨by simp [hr0.1], fun q hq => ?_⟩
      rw [getD_set]
      by_cases hqp : P = q ∧ P < V.rtts.length
      ·rw [if_pos hqp]; exact rt_upd hpt.rt (by omega)
      ·rw [if_neg hqp]; exact hr0.2 q hq
     ·rw [if_neg hlt]; exact base
theorem wd_deliver {W : Wd} (h : WdOK W) {x : Wi} (hx : WireOK W x) : WdOK (deliver W x) := by
 unfold deliver
 cases hg : x.genuine with
 | false => exact h
 | true =>
   simp only [Bool.not_true, Bool.false_eq_true, if_false]
   rcases hx.gen hg with ⟨hk, _⟩ | ⟨hk, a, b⟩ | ⟨hk, a, b, c⟩
   ·rw [if_pos hk]
    by_cases hh : hasR (W.sn x.path) x.num = true
    ·rw [if_pos hh]; exact h
    ·rw [if_neg hh]; exact wd_data h hx hg hk
   ·rw [if_neg (by omega), if_pos hk]
    have hf := fm4 hx.frame hk
    have := st_limit (h.st hf.1) hf.2.1 b
    have h1 := (wd_stream h (i := x.frame.a.toNat) (by omega) this.1 this.2).1
    have e1 : W.recvs.set x.frame.a.toNat (W.rv x.frame.a) = W.recvs := set_getD_self _ _
    have e2 : W.got.set x.frame.a.toNat (W.got.getD x.frame.a.toNat default) = W.got := set_getD_self _ _
    rw [e1, e2] at h1
    exact h1
   ·rw [if_neg (by omega), if_neg (by omega), if_pos hk]
    have hf := fm2 hx.frame hk
    exact wd_ack h hf.1 hf.2.2.2 b c
theorem fm_lim {a b : Int} (h : 0 ≤ a ∧ a ≤ 2) (h' : 0 ≤ b ∧ b ≤ 30) : fmValid ⟨4, a, b, 0, [], []⟩ = true := by
 simp [fmValid, fieldsOk, inB]
 omega
theorem fm_ack {a : Int} {l : List Rg} (h : 0 ≤ a ∧ a ≤ 3) (hl : l ≠ []) (hv : l.length ≤ 16 ∧ rgOk (-2) l) : fmValid ⟨2, a, 0, 0, [], l⟩ = true := by
 have := (rgValid_iff l).2 hv
 simp [fmValid, fieldsOk, inB, this, hl]
 omega
theorem wd_do {W : Wd} (h : WdOK W) (e : Ev) : WdOK (doW W e) := by
 unfold doW
 have er : ∀ i : Nat, W.recvs.set i (W.recvs.getD i default) = W.recvs := fun i => set_getD_self _ _
 have es : ∀ i : Nat, W.sends.set i (W.sends.getD i default) = W.sends := fun i => set_getD_self _ _
 have eg : ∀ i : Nat, W.got.set i (W.got.getD i default) = W.got := fun i => set_getD_self _ _
 split
 ·split
  ·exact h
  ·rename_i ha
   simp only [Bool.not_eq_true', Bool.not_eq_false, inB_iff] at ha
   have hi : e.a.toNat < 3 := by omega
   have hst := h.st ha
   split
   ·have := st_write hst e.data
    have h1 := (wd_stream h hi this.1 this.2).1
    rw [show W.rv e.a = W.recvs.getD e.a.toNat default from rfl, er, eg] at h1
    exact h1
   ·split
    ·have := st_finish hst
     have h1 := (wd_stream h hi this.1 this.2).1
     rw [show W.rv e.a = W.recvs.getD e.a.toNat default from rfl, er, eg] at h1
     exact h1
    ·split
     ·split
      ·rename_i hb
       rw [inB_iff] at hb
       have := st_read hst hb.1
       have h1 := (wd_stream h hi this.1 this.2).1
       rw [show W.sd e.a = W.sends.getD e.a.toNat default from rfl, es] at h1
       exact h1
      ·exact h
     ·split
      ·rename_i hb
       rw [inB_iff] at hb
       have := st_grant hst hb.1 hb.2
       have h1 := (wd_stream h hi this.1 this.2).1
       rw [show W.sd e.a = W.sends.getD e.a.toNat default from rfl, es, eg] at h1
       have hl := hst.rv.lim
       refine wd_post h1 ⟨⟨by simp only; omega, by simp only; omega⟩, fm_lim ha (by omega), by simp only; omega, fun _ => .inr (.inl ⟨rfl, rfl, ?_⟩)⟩
       show e.b ≤ ((W.recvs.set e.a.toNat _).getD e.a.toNat default).limit
       rw [getD_set, if_pos ⟨rfl, by rw [h.recvs]; omega⟩]
       exact Int.le_refl _
      ·exact h
 ·split
  ·exact wd_send h _ _ _
  ·split
   ·split
    ·exact h
    ·rename_i ha
     simp only [Bool.not_eq_true', Bool.not_eq_false, inB_iff] at ha
     have hm : W.net.getD e.a.toNat default ∈ W.net := by
      have : e.a.toNat < W.net.length := by omega
      rw [List.getD_eq_getElem?_getD, List.getElem?_eq_getElem this]
      exact List.getElem_mem this
     have hw := h.wires _ hm
     split
     ·exact wd_post h hw
     ·split
      ·exact wd_deliver (wd_erase h _) (wire_net hw)
      ·exact wd_erase h _
   ·split
    ·split
     ·rename_i ha
      simp only [Bool.and_eq_true, inB_iff, Bool.not_eq_true', List.isEmpty_eq_false_iff] at ha
      have hpt := h.pt ha.1
      refine wd_post h ⟨ha.1, fm_ack ha.1 ha.2 ⟨hpt.sn.1, hpt.sn.2.1⟩, by simp only; omega, fun _ => .inr (.inr ⟨rfl, rfl, hpt.sn.2.2, fun c hc h1 h2 => ?_⟩)⟩
      obtain ⟨p, _, k, _, hr⟩ := h.carMem hc
      refine hr.got ?_
      have := hr.path
      simp only at h1 h2 this ⊢
      rw [← this, h1]
      exact h2
     ·exact h
    ·split
     ·split
      ·rename_i ha
       exact wd_timeout h (inB_iff.1 ha)
      ·exact h
     ·split
      ·exact wd_tick h
      ·split
       ·split
        ·rename_i ha
         simp only [Bool.and_eq_true, inB_iff] at ha
         exact wd_post h (wire_forged ha.1 ha.2.2 (by simp only; omega) rfl)
        ·exact h
       ·exact h
theorem wd_play : ∀ (l : List Ev) {W : Wd}, WdOK W → WdOK (playW W l)
 | [], _, h => h
 | e :: t, _, h => wd_play t (wd_do h e)
theorem wd_new {limit : Int} (h : 0 ≤ limit ∧ limit ≤ 30) : WdOK (wdNew limit) := by
 have hst : StOK (sd0 limit) (rv0 limit) [] := by
  refine ⟨⟨by simp [bl, sd0], h, by simp [sd0, Sd.many, bl], by simp [sd0, bl]; omega, ⟨trivial, by simp [sd0, rgBelow]⟩, ⟨trivial, by simp [sd0, rgBelow]⟩, fun x hx => by simp [sd0, hasR_nil] at hx⟩, ⟨h, by simp [rv0]; omega, trivial, .inl rfl⟩, rfl, rfl, Int.le_refl _, by simp [rv0, Rv.fin, sd0, bl], fun x b hx => by simp [rv0, atL_nil] at hx, fun x hx => by simp [sd0, hasR_nil] at hx, .inl rfl⟩
 have hls : ∀ p : Nat, p < 4 → (wdNew limit).ls p = ⟨0, [], -1⟩ := fun p hp => by
  match p, hp with
  | 0, _ => rfl
  | 1, _ => rfl
  | 2, _ => rfl
  | 3, _ => rfl
 refine ⟨by simp [wdNew], rfl, rfl, rfl, rfl, rfl, rfl, rfl, (show wnsValid [⟨4, 8, 0, 10⟩, ⟨4, 8, 0, 20⟩, ⟨4, 8, 0, 30⟩, ⟨4, 8, 0, 40⟩] = true by decide), by simp [wdNew], fun i hi => ?_, fun p hp => ⟨?_, ?_, ?_⟩, ?_, by simp [wdNew]⟩
 ·match i, hi with
  | 0, _ => exact hst
  | 1, _ => exact hst
  | 2, _ => exact hst
 ·rw [hls p hp]
  exact ⟨by simp, by simp, by simp, by simp, by simp⟩
 ·match p, hp with
  | 0, _ => exact (show rtValid rtZero = true by decide)
  | 1, _ => exact (show rtValid rtZero = true by decide)
  | 2, _ => exact (show rtValid rtZero = true by decide)
  | 3, _ => exact (show rtValid rtZero = true by decide)
 ·rw [hls p hp]
  have : (wdNew limit).sn p = [] := by
   match p, hp with
   | 0, _ => rfl
   | 1, _ => rfl
   | 2, _ => rfl
   | 3, _ => rfl
  rw [this]
  exact ⟨by simp, trivial, by simp [rgBelow]⟩
 ·have : flights (wdNew limit) = [] := by
   unfold flights flightsTo
   have e : (List.range 4).flatMap (fun (p : Nat) => ((wdNew limit).ls (p : Int)).flight.map fun k => (p, k)) = (List.range 4).flatMap fun _ => ([] : List (Nat × Pk)) := by
    refine flatMap_congr' (fun x hx => ?_)
    rw [List.mem_range] at hx
    rw [hls x hx]; rfl
   rw [e]
   rfl
  rw [this]
  trivial
structure AddS where
 out : List Rg
 put : Bool
 lo : Int
 hi : Int
def addStep (a : AddS) (r : Rg) : AddS :=
 if r.hi < a.lo - 1 then { a with out := a.out ++ [r] }
 else if a.hi + 1 < r.lo then (if a.put then { a with out := a.out ++ [r] } else ⟨a.out ++ [⟨a.lo, a.hi⟩, r], true, a.lo, a.hi⟩)
 else { a with lo := min a.lo r.lo, hi := max a.hi r.hi }
def addEnd (a : AddS) : List Rg := if a.put then a.out else a.out ++ [⟨a.lo, a.hi⟩]
def addTo (l : List Rg) (lo hi : Int) (k : Nat) : AddS := (l.take k).foldl addStep ⟨[], false, lo, hi⟩
theorem addTo_zero (l : List Rg) (lo hi : Int) : addTo l lo hi 0 = ⟨[], false, lo, hi⟩ := rfl
theorem addTo_succ {l : List Rg} {lo hi : Int} {k : Nat} {r : Rg} (h : l[k]? = some r) : addTo l lo hi (k + 1) = addStep (addTo l lo hi k) r := by
 unfold addTo
 rw [List.take_add_one, h, List.foldl_append]
 rfl
theorem addM_behind {l : List Rg} {lo hi : Int} (h : ∀ r ∈ l.head?, hi + 1 < r.lo) : addM l lo hi = ⟨lo, hi⟩ :: l := by
 cases l with
 | nil => rfl
 | cons r t =>
   have := h r rfl
   unfold addM
   rw [if_neg (by omega)]
theorem addP_at {l : List Rg} {lo hi : Int} (h : ∀ r ∈ l.head?, lo ≤ r.hi + 1) : addP l lo hi = addM l lo hi := by
 cases l with
 | nil => rfl
 | cons r t =>
   have := h r rfl
   conv => lhs; unfold addP
   rw [if_neg (by omega)]
theorem add_spec : ∀ (l : List Rg) (last : Int) (a : AddS), rgOk last l → a.lo ≤ a.hi → (a.put = true → ∀ r ∈ l, a.hi + 1 < r.lo) → addEnd (l.foldl addStep a) = a.out ++ (if a.put then l else addP l a.lo a.hi)
 | [], last, a, _, _, _ => by
   simp only [List.foldl_nil, addEnd]
   by_cases hp : a.put = true <;> simp [hp, addP]
 | r :: t, last, a, ok, h1, h2 => by
   rw [List.foldl_cons]
   cases hp : a.put with
   | true =>
     have hr := h2 hp r List.mem_cons_self
     have e : addStep a r = { a with out := a.out ++ [r] } := by
      unfold addStep
      rw [if_neg (by have := ok.2.1; omega), if_pos hr, hp]; simp
     rw [e, add_spec t r.hi { a with out := a.out ++ [r] } ok.2.2.2 h1 (fun _ x hx => h2 hp x (List.mem_cons_of_mem _ hx))]
     simp [hp]
   | false =>
     by_cases c1 : r.hi < a.lo - 1
     ·have e : addStep a r = { a with out := a.out ++ [r] } := by unfold addStep; rw [if_pos c1]
      rw [e, add_spec t r.hi { a with out := a.out ++ [r] } ok.2.2.2 h1 (fun hh => by rw [hp] at hh; cases hh)]
      simp only [hp, Bool.false_eq_true, if_false]
      conv => rhs; unfold addP
      rw [if_pos (by omega)]
      simp
     ·by_cases c2 : a.hi + 1 < r.lo
      ·have e : addStep a r = ⟨a.out ++ [⟨a.lo, a.hi⟩, r], true, a.lo, a.hi⟩ := by unfold addStep; rw [if_neg c1, if_pos c2, hp]; simp
       have hb : ∀ x ∈ t, a.hi + 1 < x.lo := by
        have : ∀ (t : List Rg) (last : Int), rgOk last t → ∀ x ∈ t, last + 2 ≤ x.lo := by
         intro t
         induction t with
         | nil => intro _ _ x hx; simp at hx
         | cons y ys ih =>
           intro last ok x hx
           rcases List.mem_cons.1 hx with rfl | hx
           ·exact ok.1
           ·have := ih _ ok.2.2.2 x hx
            have := ok.1
            have := ok.2.1
            omega
        intro x hx
        have := this t r.hi ok.2.2.2 x hx
        have := ok.2.1
        omega
       rw [e, add_spec t r.hi ⟨a.out ++ [⟨a.lo, a.hi⟩, r], true, a.lo, a.hi⟩ ok.2.2.2 h1 (fun _ => hb)]
       simp only [if_true, Bool.false_eq_true, if_false]
       rw [addP_at (fun x hx => by simp at hx; subst hx; omega), addM_behind (fun x hx => by simp at hx; subst hx; omega)]
       simp
      ·have e : addStep a r = { a with lo := min a.lo r.lo, hi := max a.hi r.hi } := by unfold addStep; rw [if_neg c1, if_neg c2]
       rw [e, add_spec t r.hi { a with lo := min a.lo r.lo, hi := max a.hi r.hi } ok.2.2.2 (by simp only; omega) (fun hh => by simp only at hh; rw [hp] at hh; cases hh)]
       simp only [hp, Bool.false_eq_true, if_false]
       rw [addP_at (l := r :: t) (fun x hx => by simp at hx; subst hx; omega)]
       conv => rhs; rw [addM, if_pos (by omega)]
       rw [addP_at (fun x hx => by
        cases t with
        | nil => simp at hx
        | cons y ys => simp at hx; subst hx; have := ok.2.2.2.1; have := ok.2.2.2.2.1; have := ok.2.1; omega)]
theorem l2Add_eq {l : List Rg} {last lo hi : Int} (ok : rgOk last l) (h : lo ≤ hi) : addEnd (addTo l lo hi l.length) = addP l lo hi := by
 unfold addTo
 rw [List.take_length, add_spec l last _ ok h (fun hh => by cases hh)]
 simp
def sSendB (s : Sd) : Bool :=
 (decide (bl s.data ≤ 30) && (inB s.limit 0 30 && (inB s.next 0 s.many && decide (min s.next (bl s.data) ≤ s.limit)))) &&
 ((rgValid s.acked && rgValid s.lost) && (List.range 1000).all fun i => !((hasR s.acked i && hasR s.lost i) || ((hasR s.acked i || hasR s.lost i) && decide (s.next ≤ i))))
theorem below_of_has {l : List Rg} {last x : Int} (ok : rgOk last l) (_h0 : -2 ≤ last) (h : ∀ n : Int, hasR l n = true → n < x) : rgBelow l x := by
 intro r hr
 have : hasR l r.hi = true := by
  simp only [hasR, List.any_eq_true, Bool.and_eq_true, decide_eq_true_eq]
  have : ∀ (l : List Rg) (last : Int), rgOk last l → ∀ r ∈ l, r.lo ≤ r.hi := by
   intro l
   induction l with
   | nil => intro _ _ r hr; simp at hr
   | cons y ys ih =>
     intro last ok r hr
     rcases List.mem_cons.1 hr with rfl | hr
     ·exact ok.2.1
     ·exact ih _ ok.2.2.2 r hr
  exact ⟨r, hr, this l last ok r hr, Int.le_refl _⟩
 exact h _ this
theorem has_bd {l : List Rg} {last n : Int} (ok : rgOk last l) (h : hasR l n = true) : n ≤ 999 := by
 simp only [hasR, List.any_eq_true, Bool.and_eq_true, decide_eq_true_eq] at h
 obtain ⟨r, hr, h1, h2⟩ := h
 have : ∀ (l : List Rg) (last : Int), rgOk last l → ∀ r ∈ l, r.hi ≤ 999 := by
  intro l
  induction l with
  | nil => intro _ _ r hr; simp at hr
  | cons y ys ih =>
    intro last ok r hr
    rcases List.mem_cons.1 hr with rfl | hr
    ·exact ok.2.2.1
    ·exact ih _ ok.2.2.2 r hr
 have := this l last ok r hr
 omega
theorem sSend_eq (s : Sd) : sSendB s = sdValid s := by
 rw [Bool.eq_iff_iff, sd_iff]
 simp only [sSendB, Bool.and_eq_true, decide_eq_true_eq, inB_iff, rgValid_iff, List.all_eq_true, List.mem_range]
 constructor
 ·rintro ⟨⟨h1, h2, h3, h4⟩, ⟨⟨_, h5⟩, ⟨_, h6⟩⟩, h7⟩
  have key : ∀ n : Int, hasR s.acked n = true ∨ hasR s.lost n = true → n < s.next ∧ ¬ (hasR s.acked n = true ∧ hasR s.lost n = true) := by
   intro n hn
   have hb : 0 ≤ n ∧ n ≤ 999 := by
    rcases hn with hn | hn
    ·exact ⟨by have := hasR_low h5 hn; omega, has_bd h5 hn⟩
    ·exact ⟨by have := hasR_low h6 hn; omega, has_bd h6 hn⟩
   have := h7 n.toNat (by omega)
   rw [show ((n.toNat : Nat) : Int) = n by omega] at this
   simp only [Bool.not_eq_true', Bool.or_eq_false_iff, Bool.and_eq_false_iff, decide_eq_false_iff_not] at this
   refine ⟨?_, ?_⟩
   ·rcases this.2 with h8 | h8
    ·rcases hn with hn | hn
     ·rw [hn] at h8; cases h8.1
     ·rw [hn] at h8; cases h8.2
    ·omega
   ·rintro ⟨ha, hl⟩
    rcases this.1 with h8 | h8
    ·rw [ha] at h8; cases h8
    ·rw [hl] at h8; cases h8
  exact ⟨h1, h2, h3, h4, ⟨h5, below_of_has h5 (by omega) fun n hn => (key n (.inl hn)).1⟩, ⟨h6, below_of_has h6 (by omega) fun n hn => (key n (.inr hn)).1⟩, fun x ha hl => (key x (.inl ha)).2 ⟨ha, hl⟩⟩
 ·rintro ⟨h1, h2, h3, h4, ⟨h5, h6⟩, ⟨h7, h8⟩, h9⟩
  have hm := many_le h1
  refine ⟨⟨h1, h2, h3, h4⟩, ⟨⟨few16 h5 h6 h3.1 (by omega), h5⟩, ⟨few16 h7 h8 h3.1 (by omega), h7⟩⟩, fun i _ => ?_⟩
  simp only [Bool.not_eq_true', Bool.or_eq_false_iff, Bool.and_eq_false_iff, decide_eq_false_iff_not]
  refine ⟨?_, ?_⟩
  ·cases ha : hasR s.acked i with
   | false => exact .inl rfl
   | true =>
     cases hl : hasR s.lost i with
     | false => exact .inr rfl
     | true => exact (h9 _ ha hl).elim
  ·cases ha : hasR s.acked i with
   | true => right; have := below_has h6 ha; omega
   | false =>
     cases hl : hasR s.lost i with
     | true => right; have := below_has h8 hl; omega
     | false => exact .inl ⟨rfl, rfl⟩
def recvd (r : Rv) (p : Pt) : Bool := ((List.range p.data.length).all fun i => decide (p.off + i < r.read) || (atL r.pieces (p.off + i)).isSome) && (!p.fin || decide (r.final = p.off + bl p.data))
def sPart (s : Sd) (lo hi : Int) : Pt := ⟨lo, (s.data.drop lo.toNat).take (max lo (min (hi + 1) (bl s.data)) - lo).toNat, decide (hi = bl s.data)⟩
def pcIn (s : Sd) (p : Pc) : Bool := decide (p.fin ≤ min s.next (bl s.data)) && ((s.data.drop p.off.toNat).take p.data.length == p.data)
def sStreamB (s : Sd) (r : Rv) (g : Bs) : Bool :=
 ((sdValid s && rvValid r) && ((decide (bl g = r.read) && decide (s.limit ≤ r.limit)) && (decide (r.read ≤ min s.next (bl s.data)) && (s.data.take r.read.toNat == g)))) &&
 ((r.pieces.all (pcIn s) && s.acked.all fun a => recvd r (sPart s a.lo a.hi)) && (decide (r.final = -1) || (s.fin && (decide (r.final = bl s.data) && decide (s.next = bl s.data + 1)))))
def sRvAt (r : Rv) (i : Nat) : Bool := !(r.pieces.getD i default).data.isEmpty && (decide (rvLast r i < (r.pieces.getD i default).off) && (decide ((r.pieces.getD i default).off ≤ 30) && decide (bl (r.pieces.getD i default).data ≤ 30)))
def sRecvB (r : Rv) : Bool := (List.range r.pieces.length).all (sRvAt r) && ((inB r.limit 0 30 && inB r.read 0 r.limit) && (decide (r.fin ≤ r.limit) && (decide (r.final = -1) || inB r.final r.fin r.limit)))
theorem pc_low : ∀ {l : List Pc} {a b : Int}, pcOk a b l → ∀ p ∈ l, a < p.off ∧ p.fin ≤ b ∧ p.data ≠ []
 | [], _, _, _, p, hp => by simp at hp
 | y :: ys, a, b, ok, p, hp => by
   rcases List.mem_cons.1 hp with rfl | hp
   ·exact ⟨ok.2.1, ok.2.2.1, ok.1⟩
   ·have := pc_low ok.2.2.2 p hp
    have h1 := ok.2.1
    have h2 := bl_pos ok.1
    have h3 := fin_eq y
    unfold bl at h2
    exact ⟨by omega, this.2⟩
theorem getD_mem' {α : Type} [Inhabited α] {l : List α} {i : Nat} (h : i < l.length) : l.getD i default ∈ l := by
 rw [List.getD_eq_getElem?_getD, List.getElem?_eq_getElem h]; exact List.getElem_mem h
def byteI (o : Option UInt8) : Int := match o with
 | none => -1
 | some b => (b.toNat : Int)
theorem byteI_neg (o : Option UInt8) : byteI o < 0 ↔ o = none := by
 cases o with
 | none => simp [byteI]
 | some b => simp [byteI]
theorem byteI_bd (o : Option UInt8) : -1 ≤ byteI o ∧ byteI o ≤ 255 := by
 cases o with
 | none => simp [byteI]
 | some b => have := UInt8.toNat_lt b; simp only [byteI]; omega
def laidB (l : List Pc) (x : Int) : Option UInt8 := l.foldl (fun o p => match p.get x with | none => o | some b => some b) none
theorem laid_snoc (l : List Pc) (p : Pc) (x : Int) : laidB (l ++ [p]) x = match p.get x with | none => laidB l x | some b => some b := by simp [laidB]
theorem atL_append (a b : List Pc) (x : Int) : atL (a ++ b) x = (atL a x).or (atL b x) := by
 induction a with
 | nil => simp [atL_nil]
 | cons p t ih => rw [List.cons_append, atL_cons, atL_cons, ih, Option.or_assoc]
theorem laid_eq : ∀ {l : List Pc} {a b : Int}, pcOk a b l → ∀ x, laidB l x = atL l x := by
 intro l a b ok x
 have key : ∀ (l : List Pc) (a b : Int) (o : Option UInt8), pcOk a b l → (o ≠ none → x ≤ a) → l.foldl (fun o p => match p.get x with | none => o | some b => some b) o = o.or (atL l x) := by
  intro l
  induction l with
  | nil => intro a b o _ _; simp [atL_nil]
  | cons p t ih =>
    intro a b o ok h
    have h1 := ok.2.1
    have h2 := bl_pos ok.1
    have h3 := fin_eq p
    unfold bl at h2
    rw [List.foldl_cons, atL_cons]
    cases hg : p.get x with
    | none =>
      rw [ih p.fin b o ok.2.2.2 (fun ho => by have := h ho; omega)]
      simp
    | some c =>
      have h4 := get_isSome.1 (show (p.get x).isSome = true by rw [hg]; rfl)
      have ho : o = none := by
       cases o with
       | none => rfl
       | some d => have := h (by simp); omega
      rw [ih p.fin b (some c) ok.2.2.2 (fun _ => by omega), ho]
      simp
 have := key l a b none ok (fun h => absurd rfl h)
 simpa [laidB] using this
def addLast (L : List Pc) (c : UInt8) : List Pc := match L.getLast? with
 | none => L
 | some p => L.dropLast ++ [⟨p.off, p.data ++ [c]⟩]
def pcsOf (b : Int → Option UInt8) (fr : Int) : Nat → List Pc
 | 0 => []
 | k + 1 => match b (fr + k) with
   | none => pcsOf b fr k
   | some c => if 0 < k ∧ b (fr + k - 1) ≠ none then addLast (pcsOf b fr k) c else pcsOf b fr k ++ [⟨fr + k, [c]⟩]
theorem pcOk_snoc : ∀ {l : List Pc} {a x : Int} {p : Pc}, pcOk a x l → (∀ q, l.getLast? = some q → q.fin < p.off) → (l = [] → a < p.off) → p.data ≠ [] → x ≤ p.fin → pcOk a p.fin (l ++ [p])
 | [], a, x, p, _, _, h, hd, _ => ⟨hd, h rfl, Int.le_refl _, trivial⟩
 | q :: t, a, x, p, ok, h, _, hd, hx => by
   refine ⟨ok.1, ok.2.1, by have := ok.2.2.1; omega, pcOk_snoc ok.2.2.2 (fun r hr => ?_) (fun ht => ?_) hd hx⟩
   ·cases t with
    | nil => simp at hr
    | cons y ys => exact h r (by rw [List.getLast?_cons_cons]; exact hr)
   ·subst ht; exact h q rfl
theorem pcOk_init : ∀ {l : List Pc} {p : Pc} {a x : Int}, pcOk a x (l ++ [p]) → pcOk a x l ∧ (∀ q, l.getLast? = some q → q.fin < p.off) ∧ (l = [] → a < p.off)
 | [], p, a, x, ok => ⟨trivial, by simp, fun _ => ok.2.1⟩
 | q :: t, p, a, x, ok => by
   have ih := pcOk_init ok.2.2.2
   refine ⟨⟨ok.1, ok.2.1, ok.2.2.1, ih.1⟩, fun r hr => ?_, fun h => by cases h⟩
   cases t with
   | nil => simp at hr; subst hr; exact ih.2.2 rfl
   | cons y ys => rw [List.getLast?_cons_cons] at hr; exact ih.2.1 r hr
theorem pcs_all (b : Int → Option UInt8) (fr : Int) : ∀ k : Nat, pcOk (fr - 1) (fr + k) (pcsOf b fr k) ∧ (∀ x, atL (pcsOf b fr k) x = if fr ≤ x ∧ x < fr + k then b x else none) ∧ (0 < k → b (fr + k - 1) ≠ none → ∃ p, (pcsOf b fr k).getLast? = some p ∧ p.fin = fr + k)
 | 0 => ⟨trivial, fun x => by rw [if_neg (by omega)]; rfl, fun h => by omega⟩
 | k + 1 => by
   obtain ⟨h1, h2, h3⟩ := pcs_all b fr k
   have hk : fr + ((k + 1 : Nat) : Int) - 1 = fr + k := by omega
   rw [hk]
   cases hb : b (fr + k) with
   | none =>
     have e : pcsOf b fr (k + 1) = pcsOf b fr k := by simp [pcsOf, hb]
     rw [e]
     refine ⟨pcOk_lim h1 (by omega), fun x => ?_, fun _ hh => absurd rfl hh⟩
     rw [h2]
     by_cases hx : fr ≤ x ∧ x < fr + k
     ·rw [if_pos hx, if_pos (by omega)]
     ·rw [if_neg hx]
      by_cases hx2 : fr ≤ x ∧ x < fr + ((k + 1 : Nat) : Int)
      ·have : x = fr + k := by omega
       rw [if_pos hx2, this, hb]
      ·rw [if_neg hx2]
   | some c =>
     by_cases hc : 0 < k ∧ b (fr + k - 1) ≠ none
     ·have e : pcsOf b fr (k + 1) = addLast (pcsOf b fr k) c := by simp only [pcsOf, hb]; rw [if_pos hc]
      obtain ⟨p, hp, hpf⟩ := h3 hc.1 hc.2
      have hsplit : pcsOf b fr k = (pcsOf b fr k).dropLast ++ [p] := by
       have hne : pcsOf b fr k ≠ [] := by intro hh; rw [hh] at hp; simp at hp
       have := List.dropLast_concat_getLast hne
       rw [List.getLast?_eq_some_getLast hne] at hp
       injection hp with hp
       rw [hp] at this
       exact this.symm
      have e2 : addLast (pcsOf b fr k) c = (pcsOf b fr k).dropLast ++ [⟨p.off, p.data ++ [c]⟩] := by unfold addLast; rw [hp]
      rw [e, e2]
      rw [hsplit] at h1 h2
      generalize (pcsOf b fr k).dropLast = D at h1 h2 ⊢
      obtain ⟨i1, i2, i3⟩ := pcOk_init h1
      have hnf : (⟨p.off, p.data ++ [c]⟩ : Pc).fin = fr + ((k + 1 : Nat) : Int) := by
       unfold Pc.fin at hpf ⊢
       simp only [bl_append]
       have : bl [c] = 1 := rfl
       omega
      refine ⟨?_, fun x => ?_, fun _ _ => ⟨⟨p.off, p.data ++ [c]⟩, by simp, hnf⟩⟩
      ·have := pcOk_snoc (p := ⟨p.off, p.data ++ [c]⟩) i1 i2 i3 (by simp) (by rw [hnf]; omega)
       rw [hnf] at this
       exact this
      ·have h2x := h2 x
       rw [atL_append, atL_cons, atL_nil, Option.or_none] at h2x ⊢
       have hpo : p.off ≤ fr + k := by have := bl_nonneg p.data; unfold Pc.fin at hpf; omega
       by_cases hxe : x = fr + k
       ·subst hxe
        rw [if_pos (by omega)]
        have hD : atL D (fr + k) = none := by
         cases hh : atL D (fr + k) with
         | none => rfl
         | some d =>
           rw [hh] at h2x
           rw [if_neg (by omega)] at h2x
           cases h2x
        rw [hD, hb, Option.none_or]
        unfold Pc.get
        simp only
        rw [if_neg (by omega), List.getElem?_append_right (by unfold Pc.fin bl at hpf; omega)]
        rw [show (fr + (k : Int) - p.off).toNat - p.data.length = 0 by unfold Pc.fin bl at hpf; omega]
        rfl
       ·have hg : (⟨p.off, p.data ++ [c]⟩ : Pc).get x = p.get x := by
         unfold Pc.get
         simp only
         by_cases hx0 : x < p.off
         ·rw [if_pos hx0, if_pos hx0]
         ·rw [if_neg hx0, if_neg hx0]
          by_cases hxl : (x - p.off).toNat < p.data.length
          ·rw [List.getElem?_append_left hxl]
          ·rw [List.getElem?_eq_none (by simp only [List.length_append, List.length_cons, List.length_nil]; unfold Pc.fin bl at hpf; omega), List.getElem?_eq_none (by omega)]
        rw [hg, h2x]
        by_cases hx : fr ≤ x ∧ x < fr + k
        ·rw [if_pos hx, if_pos (by omega)]
        ·rw [if_neg hx, if_neg (by omega)]
     ·have e : pcsOf b fr (k + 1) = pcsOf b fr k ++ [⟨fr + k, [c]⟩] := by simp only [pcsOf, hb]; rw [if_neg hc]
      rw [e]
      have hnf : (⟨fr + k, [c]⟩ : Pc).fin = fr + ((k + 1 : Nat) : Int) := by unfold Pc.fin; simp [bl]; omega
      have hlast : ∀ q, (pcsOf b fr k).getLast? = some q → q.fin < fr + k := by
       intro q hq
       have hm := List.mem_of_getLast? hq
       have hl := pc_low h1 q hm
       by_cases hqe : q.fin = fr + k
       ·exfalso
        have hpos := bl_pos hl.2.2
        have hsome : atL (pcsOf b fr k) (q.fin - 1) ≠ none := by
         have hs := get_isSome.2 (show q.off ≤ q.fin - 1 ∧ q.fin - 1 < q.fin from ⟨by unfold Pc.fin; omega, by omega⟩)
         intro e'
         unfold atL at e'
         rw [List.findSome?_eq_none_iff] at e'
         rw [e' q hm] at hs
         cases hs
        rw [h2] at hsome
        by_cases hx : fr ≤ q.fin - 1 ∧ q.fin - 1 < fr + k
        ·rw [if_pos hx] at hsome
         refine hc ⟨by omega, ?_⟩
         rw [show fr + (k : Int) - 1 = q.fin - 1 by omega]
         exact hsome
        ·rw [if_neg hx] at hsome; exact hsome rfl
       ·omega
      refine ⟨?_, fun x => ?_, fun _ _ => ⟨⟨fr + k, [c]⟩, by simp, hnf⟩⟩
      ·have := pcOk_snoc (p := ⟨fr + k, [c]⟩) h1 (by simpa using hlast) (by simp only; intro _; omega) (by simp) (by rw [hnf]; omega)
       rw [hnf] at this
       exact this
      ·rw [atL_append, h2, atL_cons, atL_nil, Option.or_none]
       by_cases hxe : x = fr + k
       ·subst hxe
        rw [if_neg (by omega), if_pos (by omega), hb]
        unfold Pc.get
        simp
       ·have hg : (⟨fr + k, [c]⟩ : Pc).get x = none := get_none.2 (by rw [hnf]; simp only; omega)
        rw [hg, Option.or_none]
        by_cases hx : fr ≤ x ∧ x < fr + k
        ·rw [if_pos hx, if_pos (by omega)]
        ·rw [if_neg hx, if_neg (by omega)]
def putB (r : Rv) (off : Int) (d : Bs) (x : Int) : Option UInt8 := if r.read ≤ x ∧ (off ≤ x ∧ x < off + bl d) then d[(x - off).toNat]? else atL r.pieces x
theorem rvPut_pcs {r : Rv} (h : RvOK r) {off : Int} {d : Bs} (_h0 : 0 ≤ off) (h1 : off + bl d ≤ r.limit) {skip : Nat} (hs : (skip : Int) = max 0 (r.read - off)) :
 (if (skip : Int) < bl d then mrg r.pieces ⟨off + skip, d.drop skip⟩ else r.pieces) = pcsOf (putB r off d) r.read (30 - r.read).toNat := by
 have hrr := h.read
 have hl := h.lim
 obtain ⟨p1, p2, _⟩ := pcs_all (putB r off d) r.read (30 - r.read).toNat
 have e30 : r.read + ((30 - r.read).toNat : Int) = 30 := by omega
 rw [e30] at p1 p2
 by_cases hc : (skip : Int) < bl d
 ·rw [if_pos hc]
  have hd : d.drop skip ≠ [] := by
   intro e
   have := congrArg List.length e
   rw [List.length_drop] at this
   unfold bl at hc
   simp at this
   omega
  have m := mrg_all r.pieces ⟨off + skip, d.drop skip⟩ (r.read - 1) r.limit h.pcs (by simp only; omega) hd (by unfold Pc.fin bl; simp only [List.length_drop]; unfold bl at *; omega)
  refine pc_ext m.1 p1 fun x => ?_
  rw [m.2, p2, get_drop]
  unfold putB
  by_cases hx : r.read ≤ x ∧ x < 30
  ·rw [if_pos hx]
   by_cases hx2 : off ≤ x ∧ x < off + bl d
   ·rw [if_pos (show r.read ≤ x ∧ (off ≤ x ∧ x < off + bl d) from ⟨hx.1, hx2⟩), if_neg (show ¬ x < off + skip by omega)]
    unfold Pc.get
    simp only
    rw [if_neg (by omega), List.getElem?_eq_getElem (show (x - off).toNat < d.length by unfold bl at hx2; omega)]; rfl
   ·rw [if_neg (show ¬ (r.read ≤ x ∧ (off ≤ x ∧ x < off + bl d)) from fun hh => hx2 hh.2)]
    by_cases hx3 : x < off + skip
    ·rw [if_pos hx3]; rfl
    ·rw [if_neg hx3, get_none.2 (by unfold Pc.fin; simp only; omega)]; rfl
  ·rw [if_neg hx]
   have : atL r.pieces x = none := by
    cases hh : atL r.pieces x with
    | none => rfl
    | some c => have := atL_bd h.pcs (x := x) (by rw [hh]; simp); omega
   rw [this, Option.or_none]
   by_cases hx3 : x < off + skip
   ·rw [if_pos hx3]
   ·rw [if_neg hx3]; exact get_none.2 (by unfold Pc.fin; simp only; omega)
 ·rw [if_neg hc]
  refine pc_ext h.pcs p1 fun x => ?_
  rw [p2]
  unfold putB
  by_cases hx : r.read ≤ x ∧ x < 30
  ·rw [if_pos hx, if_neg (by omega)]
  ·rw [if_neg hx]
   cases hh : atL r.pieces x with
   | none => rfl
   | some c => have := atL_bd h.pcs (x := x) (by rw [hh]; simp); omega
theorem rvRead_eq {r : Rv} (h : RvOK r) {n : Int} (hn : 0 ≤ n) :
 rvRead r n = if min n (rvReady r) = 0 then (r, []) else ({ r with read := r.read + min n (rvReady r), pieces := pcsOf (atL r.pieces) (r.read + min n (rvReady r)) (30 - (r.read + min n (rvReady r))).toNat }, (r.pieces.getD 0 default).data.take (min n (rvReady r)).toNat) := by
 have hrr := h.read
 have hl := h.lim
 have hpk := h.pcs
 cases hp : r.pieces with
 | nil =>
   have hready : rvReady r = 0 := by unfold rvReady; rw [hp]
   have e : rvRead r n = (r, []) := by unfold rvRead; rw [hp]
   rw [e, hready, if_pos (by omega)]
 | cons p t =>
   rw [hp] at hpk
   have hready : rvReady r = if r.read < p.off then 0 else bl p.data := by unfold rvReady; rw [hp]
   by_cases hk : min n (rvReady r) = 0
   ·have e : rvRead r n = (r, []) := by unfold rvRead; rw [hp]; simp only; rw [if_pos hk]
    rw [e, if_pos hk]
   ·rw [if_neg hk]
    have hp0 := bl_pos hpk.1
    have hoff : p.off = r.read := by
     have := hpk.2.1
     rw [hready] at hk
     by_cases hc : r.read < p.off
     ·rw [if_pos hc] at hk; omega
     ·omega
    rw [hready, if_neg (by omega)] at hk ⊢
    obtain ⟨k, hkk⟩ : ∃ k : Nat, (k : Int) = min n (bl p.data) := ⟨(min n (bl p.data)).toNat, by omega⟩
    rw [← hkk] at hk ⊢
    have hkl : (k : Int) ≤ bl p.data := by omega
    have hpf : p.fin = p.off + bl p.data := rfl
    have h23 := hpk.2.2.1
    have hLok : pcOk (r.read + k - 1) r.limit (if p.data.drop k = [] then t else ⟨p.off + k, p.data.drop k⟩ :: t) := by
     by_cases hd : p.data.drop k = []
     ·rw [if_pos hd]; exact pcOk_low hpk.2.2.2 (by omega)
     ·rw [if_neg hd]
      have hf : (⟨p.off + k, p.data.drop k⟩ : Pc).fin = p.fin := by unfold Pc.fin bl; simp only [List.length_drop]; unfold bl at hkl; omega
      exact ⟨hd, by simp only; omega, by rw [hf]; exact h23, by rw [hf]; exact hpk.2.2.2⟩
    have hLat : ∀ x, atL (if p.data.drop k = [] then t else ⟨p.off + k, p.data.drop k⟩ :: t) x = if x < r.read + k then none else atL (p :: t) x := by
     intro x
     by_cases hd : p.data.drop k = []
     ·rw [if_pos hd]
      have hkb : (k : Int) = bl p.data := by
       have := congrArg List.length hd
       rw [List.length_drop] at this
       simp at this
       unfold bl at *
       omega
      by_cases hx : x < r.read + k
      ·rw [if_pos hx]; exact atL_low hpk.2.2.2 (by omega)
      ·rw [if_neg hx, atL_cons, get_none.2 (.inr (by omega))]; simp
     ·rw [if_neg hd, atL_cons, atL_cons, get_drop]
      by_cases hx : x < r.read + k
      ·rw [if_pos hx, if_pos (by omega), atL_low hpk.2.2.2 (by omega)]; rfl
      ·rw [if_neg hx, if_neg (by omega)]
    obtain ⟨p1, p2, _⟩ := pcs_all (atL (p :: t)) (r.read + k) (30 - (r.read + k)).toNat
    have e30 : r.read + k + ((30 - (r.read + k)).toNat : Int) = 30 := by
     have : r.read + k ≤ 30 := by omega
     omega
    rw [e30] at p1 p2
    have hL : (if p.data.drop k = [] then t else ⟨p.off + k, p.data.drop k⟩ :: t) = pcsOf (atL (p :: t)) (r.read + k) (30 - (r.read + k)).toNat := by
     refine pc_ext hLok p1 fun x => ?_
     rw [hLat, p2]
     by_cases hx : x < r.read + k
     ·rw [if_pos hx, if_neg (by omega)]
     ·rw [if_neg hx]
      by_cases hx3 : x < 30
      ·rw [if_pos ⟨by omega, hx3⟩]
      ·rw [if_neg (by omega)]
       cases hh : atL (p :: t) x with
       | none => rfl
       | some c => have := atL_bd hpk (x := x) (by rw [hh]; simp); omega
    unfold rvRead
    rw [hready, if_neg (by omega), hp]
    simp only
    rw [← hkk, if_neg hk, Int.toNat_natCast, hL]
    rfl
def sNext (s : Sd) (size : Int) : Option (Sd × Pt) :=
 match s.lost with
 | r :: _ =>
   let hi := if r.hi < bl s.data ∨ size < r.hi - r.lo then min r.hi (r.lo + size - 1) else r.hi
   some ({ s with lost := remP s.lost r.lo hi }, sPart s r.lo hi)
 | [] =>
   let e := min (min (bl s.data) s.limit) (s.next + size)
   let e := if s.fin && decide (e = bl s.data) then e + 1 else e
   if e ≤ s.next then none else some ({ s with next := e }, sPart s s.next (e - 1))
theorem sNext_eq {s : Sd} (h : SdOK s) {size : Int} (hz : 1 ≤ size) : sNext s size = sdNext s size := by
 have hn := h.nxt
 have hfl := h.flow
 have hlim := h.lim
 have hm : s.many = bl s.data + (if s.fin then 1 else 0) := by unfold Sd.many; split <;> omega
 have hb0 := bl_nonneg s.data
 cases hl : s.lost with
 | nil =>
   simp only [sNext, sdNext, hl]
   generalize he : min (min (bl s.data) s.limit) (s.next + size) = e0
   generalize hfi : max s.next (min (min (min (s.many - 1 + 1) (bl s.data)) s.limit) (s.next + size)) = fi
   generalize hf : (decide (s.many - 1 = bl s.data) && (decide (fi = bl s.data) && decide (s.next ≤ s.many - 1))) = f
   have hfi2 : fi = max s.next (min (min (min s.many (bl s.data)) s.limit) (s.next + size)) := by rw [← hfi]; congr 4; omega
   by_cases hb : s.fin = true ∧ e0 = bl s.data
   ·have e1 : (if (s.fin && decide (e0 = bl s.data)) = true then e0 + 1 else e0) = e0 + 1 := by rw [hb.1, decide_eq_true hb.2]; rfl
    rw [e1]
    rw [hb.1] at hm
    simp only [if_true] at hm
    by_cases hle : s.next ≤ bl s.data
    ·have hff : f = true := by rw [← hf]; simp; omega
     have hfe : fi = bl s.data := by omega
     rw [if_neg (by omega), hff, if_neg (by simp)]
     unfold sPart Pt.last
     simp only [if_true]
     have : decide (e0 + 1 - 1 = bl s.data) = true := by simp; omega
     rw [this]
     have h9 : (max s.next (min (e0 + 1 - 1 + 1) (bl s.data)) - s.next).toNat = (fi - s.next).toNat := by omega
     rw [h9]
     have hpl := part_bl hn.1 (show s.next ≤ fi by omega) (show fi ≤ bl s.data by omega)
     rw [hpl]
     simp only [Option.some.injEq, Prod.mk.injEq, and_true]
     congr 1
     omega
    ·have hff : f = false := by rw [← hf]; simp; omega
     have hfe : fi = s.next := by omega
     rw [if_pos (by omega), hff, if_pos (by simp [hfe])]
   ·have e1 : (if (s.fin && decide (e0 = bl s.data)) = true then e0 + 1 else e0) = e0 := by
     rw [if_neg]
     intro hh
     simp only [Bool.and_eq_true, decide_eq_true_eq] at hh
     exact hb hh
    rw [e1]
    have hff : f = false := by
     rw [← hf]
     cases hfin : s.fin with
     | false => rw [hfin] at hm; simp at hm; simp; omega
     | true =>
       rw [hfin] at hm; simp at hm
       have : e0 ≠ bl s.data := fun hh => hb ⟨hfin, hh⟩
       simp; omega
    have hmb : min s.many (bl s.data) = bl s.data := by split at hm <;> omega
    rw [hmb] at hfi2
    rw [hff]
    by_cases hle : e0 ≤ s.next
    ·rw [if_pos hle, if_pos (by simp; omega)]
    ·rw [if_neg hle, if_neg (by simp; omega)]
     have hfe : fi = e0 := by omega
     unfold sPart Pt.last
     simp only [Bool.false_eq_true, if_false]
     have : decide (e0 - 1 = bl s.data) = false := by simp; omega
     rw [this]
     have h9 : (max s.next (min (e0 - 1 + 1) (bl s.data)) - s.next).toNat = (fi - s.next).toNat := by omega
     rw [h9]
     have hpl := part_bl hn.1 (show s.next ≤ fi by omega) (show fi ≤ bl s.data by omega)
     rw [hpl]
     simp only [Option.some.injEq, Prod.mk.injEq, and_true]
     congr 1
     omega
 | cons r t =>
   have hok := h.lost
   rw [hl] at hok
   have h1 := hok.1.1
   have h2 := hok.1.2.1
   have h3 := hok.2 r List.mem_cons_self
   simp only [sNext, sdNext, hl]
   generalize hH : (if r.hi < bl s.data ∨ size < r.hi - r.lo then min r.hi (r.lo + size - 1) else r.hi) = H
   generalize hfi : max r.lo (min (min (r.hi + 1) (bl s.data)) (r.lo + size)) = fi
   generalize hf : (decide (r.hi = bl s.data) && (decide (fi = bl s.data) && decide (r.lo ≤ r.hi))) = f
   have hmm : s.many ≤ bl s.data + 1 := by unfold Sd.many; split <;> omega
   have hcase : (f = true ∧ H = bl s.data ∧ fi = bl s.data ∧ r.lo ≤ bl s.data) ∨ (f = false ∧ H = fi - 1 ∧ r.lo < fi ∧ fi ≤ bl s.data) := by
    by_cases hc : r.hi = bl s.data ∧ r.hi - r.lo ≤ size
    ·left
     rw [if_neg (by omega)] at hH
     have : fi = bl s.data := by omega
     refine ⟨?_, by omega, this, by omega⟩
     rw [← hf]; simp; omega
    ·right
     rw [if_pos (by omega)] at hH
     refine ⟨?_, by omega, by omega, by omega⟩
     rw [← hf]; simp; omega
   rcases hcase with ⟨hff, hHb, hfe, hlo⟩ | ⟨hff, hHb, hlo, hfb⟩
   ·rw [hff, if_neg (by simp)]
    have hpl := part_bl (show 0 ≤ r.lo by omega) (show r.lo ≤ fi by omega) (show fi ≤ bl s.data by omega)
    unfold sPart Pt.last
    simp only [if_true]
    rw [hpl]
    have h9 : (max r.lo (min (H + 1) (bl s.data)) - r.lo).toNat = (fi - r.lo).toNat := by omega
    rw [h9, decide_eq_true hHb]
    have h10 : r.lo + (fi - r.lo) = H := by omega
    rw [h10]
   ·rw [hff, if_neg (by simp; omega)]
    have hpl := part_bl (show 0 ≤ r.lo by omega) (show r.lo ≤ fi by omega) hfb
    unfold sPart Pt.last
    simp only [Bool.false_eq_true, if_false]
    rw [hpl]
    have h9 : (max r.lo (min (H + 1) (bl s.data)) - r.lo).toNat = (fi - r.lo).toNat := by omega
    rw [h9, decide_eq_false (show ¬ H = bl s.data by omega)]
    have h10 : r.lo + (fi - r.lo) - 1 = H := by omega
    rw [h10]
end Go.Proofs.YtjbhiglaginpeaaGreat
