/- Parts of the proof, joined from several texts. No condition. -/
import Derived.Test.YtjbhiglaginpeaaGreatQ9
set_option maxRecDepth 100000
set_option maxHeartbeats 16000000
set_option linter.unusedVariables false
set_option linter.unusedSimpArgs false
namespace Go.Proofs.YtjbhiglaginpeaaGreat
open Go.RowKit
theorem fin_end {r : Rv} : r.fin = if r.pieces.length = 0 then r.read else (r.pieces.getD ((r.pieces.length : Int) - 1).toNat default).off + ((r.pieces.getD ((r.pieces.length : Int) - 1).toNat default).data.length : Int) := by
 unfold Rv.fin
 by_cases h : r.pieces.length = 0
 ·rw [if_pos h, List.length_eq_zero_iff.1 h]; rfl
 ·rw [if_neg h]
  have e : ((r.pieces.length : Int) - 1).toNat = r.pieces.length - 1 := by omega
  rw [e, List.getLast?_eq_getElem?, List.getD_eq_getElem?_getD, List.getElem?_eq_getElem (by omega)]
  rfl
theorem vl31End (r : Rv) (hr : RvOK r) (hl : r.pieces.length ≤ 1000) : FnP Tryz.prog 194 [.ag (av (eRv r))] (aI r.fin) := by
 have b1 := hr.read
 have b2 := hr.lim
 have hp : 0 < r.pieces.length → -100 ≤ (r.pieces.getD ((r.pieces.length : Int) - 1).toNat default).off ∧ (r.pieces.getD ((r.pieces.length : Int) - 1).toNat default).off + ((r.pieces.getD ((r.pieces.length : Int) - 1).toNat default).data.length : Int) ≤ 100 := fun h => by
  have := pc_low hr.pcs _ (getD_mem' (i := ((r.pieces.length : Int) - 1).toNat) (l := r.pieces) (by omega))
  unfold Pc.fin bl at this
  omega
 refine fP Tryz.func194 Tryz.ntmps194 Tryz.results194 ?_
 repeat' (first
  | refine stp ?_
  | (refine WC.cond rfl ?_ ?_ <;> intro hb <;> (try have hb' := nrm hb) <;> try (exfalso; omega)))
 all_goals first
  | (rw [fin_end, if_pos (by omega)]; (exact ret1))
  | (rw [fin_end, if_neg (by omega)]; (exact ret1))
def putR (x : Rv × Int) : AV := .tu [.ag (av (eRv x.1)), aI x.2]
def Put2 (r : Rv) (fi : Int) (fin : Bool) : Prop := (fin = true ∧ ((r.final ≥ 0 ∧ r.final ≠ fi) ∨ r.fin > fi)) ∨ (fin = false ∧ r.final ≥ 0 ∧ fi > r.final)
theorem fin_ge {r : Rv} (hr : RvOK r) : 0 ≤ r.fin := by
 have h1 := hr.read
 rw [fin_end]
 split
 ·omega
 ·have := pc_low hr.pcs _ (getD_mem' (i := ((r.pieces.length : Int) - 1).toNat) (l := r.pieces) (by omega))
  omega
theorem put2_iff {r : Rv} (hr : RvOK r) {fi : Int} {fin : Bool} : ((fin && ((decide (r.final ≠ -1) && decide (r.final ≠ fi)) || decide (fi < r.fin))) || (!fin && (decide (r.final ≠ -1) && decide (r.final < fi)))) = true ↔ Put2 r fi fin := by
 have h1 := hr.fin
 have h2 := fin_ge hr
 unfold Put2
 cases fin <;> simp <;> omega
theorem put_1 {r : Rv} {off : Int} {d : Bs} {fin : Bool} (h : off + (d.length : Int) > r.limit) : rvPut r off d fin = (r, 1) := if_pos h
theorem put_2 {r : Rv} {off : Int} {d : Bs} {fin : Bool} (hr : RvOK r) (h : ¬ off + (d.length : Int) > r.limit) (h2 : Put2 r (off + d.length) fin) : rvPut r off d fin = (r, 2) := (if_neg h).trans (if_pos ((put2_iff hr).2 h2))
theorem put_3 {r : Rv} {off : Int} {d : Bs} {fin : Bool} (hr : RvOK r) (h : ¬ off + (d.length : Int) > r.limit) (h2 : ¬ Put2 r (off + d.length) fin) (h3 : clash r off d = true) : rvPut r off d fin = (r, 3) := (if_neg h).trans ((if_neg (fun e => h2 ((put2_iff hr).1 e))).trans (if_pos h3))
theorem put_0 {r : Rv} {off : Int} {d : Bs} {fin : Bool} (hr : RvOK r) (ho : 0 ≤ off) (h : ¬ off + (d.length : Int) > r.limit) (h2 : ¬ Put2 r (off + d.length) fin) (h3 : clash r off d = false) : rvPut r off d fin = (⟨r.read, pcsOf (putB r off d) r.read (30 - r.read).toNat, if fin = true then off + d.length else r.final, r.limit⟩, 0) := by
 have hbl : bl d = (d.length : Int) := rfl
 have hp := rvPut_pcs hr ho (d := d) (by rw [hbl]; omega) (skip := (max 0 (r.read - off)).toNat) (by omega)
 have h0 : rvPut r off d fin = if max 0 (r.read - off) < bl d then ({ (if fin = true then { r with final := off + bl d } else r) with pieces := mrg r.pieces ⟨off + max 0 (r.read - off), d.drop (max 0 (r.read - off)).toNat⟩ }, 0) else ((if fin = true then { r with final := off + bl d } else r), 0) :=
  (if_neg (show ¬ r.limit < off + bl d by rw [hbl]; omega)).trans ((if_neg (fun e => h2 ((put2_iff hr).1 e))).trans (if_neg (by rw [h3]; exact Bool.false_ne_true)))
 rw [h0, ← hp, show (((max 0 (r.read - off)).toNat : Nat) : Int) = max 0 (r.read - off) by omega]
 by_cases hs : max 0 (r.read - off) < bl d
 ·rw [if_pos hs, if_pos hs]
  cases fin <;> rfl
 ·rw [if_neg hs, if_neg hs]
  cases fin <;> rfl
def mixB (r : Rv) (off : Int) (d : Bs) (i : Nat) (x : Int) : Option UInt8 := if r.read ≤ x ∧ (off ≤ x ∧ x < off + i) then d[(x - off).toNat]? else atL r.pieces x
def clashTo (r : Rv) (off : Int) (d : Bs) (i : Nat) : Prop := ∀ j, j < i → ∀ c, atL r.pieces (off + j) = some c → c = d.getD j 0
theorem clashTo_no {r : Rv} {off : Int} {d : Bs} (h : clashTo r off d d.length) : clash r off d = false := by
 unfold clash
 rw [List.any_eq_false]
 intro j hj
 rw [List.mem_range] at hj
 rw [waits_eq]
 split
 ·exact Bool.false_ne_true
 ·rename_i c hc
  simp [h j hj c hc]
theorem clash_yes {r : Rv} {off : Int} {d : Bs} {i : Nat} (hi : i < d.length) (h1 : 0 ≤ byteI (atL r.pieces (off + i))) (h2 : ¬ byteI (atL r.pieces (off + i)) = ((d.getD i 0).toNat : Int)) : clash r off d = true := by
 unfold clash
 rw [List.any_eq_true]
 refine ⟨i, List.mem_range.2 hi, ?_⟩
 rw [waits_eq]
 cases hc : atL r.pieces (off + i) with
 | none => rw [hc] at h1; exact absurd h1 (by decide)
 | some c =>
   rw [hc] at h2
   simp only [bne_iff_ne, ne_eq]
   intro e
   rw [← e] at h2
   exact h2 rfl
theorem clashTo_succ {r : Rv} {off : Int} {d : Bs} {i : Nat} {v : Int} (h : clashTo r off d i) (hv : v = byteI (atL r.pieces (off + i))) (hc : ¬ v ≥ 0 ∨ v = ((d.getD i 0).toNat : Int)) : clashTo r off d (i + 1) := by
 intro j hj c hcc
 by_cases hji : j = i
 ·subst hji
  rw [hcc] at hv
  simp only [byteI] at hv
  apply UInt8.toNat_inj.1
  rcases hc with hc | hc <;> omega
 ·exact h j (by omega) c hcc
theorem mix_0 (r : Rv) (off : Int) (d : Bs) (x : Int) : mixB r off d 0 x = atL r.pieces x := by unfold mixB; rw [if_neg (by omega)]
theorem mix_all (r : Rv) (off : Int) (d : Bs) : mixB r off d d.length = putB r off d := by funext x; rfl
theorem mix_at {r : Rv} {off : Int} {d : Bs} {i : Nat} : mixB r off d i (off + i) = atL r.pieces (off + i) := by unfold mixB; rw [if_neg (by omega)]
theorem mix_yes {r : Rv} {off : Int} {d : Bs} {i : Nat} {g : Nat → Int} {at_ : Nat} (hi : i < d.length) (ha : (at_ : Int) = off + i) (hr : r.read ≤ off + i) (h : ∀ m : Nat, m < 30 → g m = byteI (mixB r off d i m)) : ∀ m : Nat, m < 30 → (if m = at_ then ((d.getD i 0).toNat : Int) else g m) = byteI (mixB r off d (i + 1) m) := by
 intro m hm
 by_cases hma : m = at_
 ·subst hma
  rw [if_pos rfl]
  unfold mixB
  rw [if_pos (by omega), show ((m : Int) - off).toNat = i by omega, List.getElem?_eq_getElem hi, List.getD_eq_getElem?_getD, List.getElem?_eq_getElem hi]
  rfl
 ·rw [if_neg hma, h m hm]
  unfold mixB
  by_cases h1 : r.read ≤ (m : Int) ∧ (off ≤ (m : Int) ∧ (m : Int) < off + i)
  ·rw [if_pos h1, if_pos (by omega)]
  ·rw [if_neg h1, if_neg (by omega)]
theorem mix_no {r : Rv} {off : Int} {d : Bs} {i : Nat} {g : Nat → Int} (hr : ¬ r.read ≤ off + i) (h : ∀ m : Nat, m < 30 → g m = byteI (mixB r off d i m)) : ∀ m : Nat, m < 30 → g m = byteI (mixB r off d (i + 1) m) := by
 intro m hm
 rw [h m hm]
 unfold mixB
 by_cases h1 : r.read ≤ (m : Int) ∧ (off ≤ (m : Int) ∧ (m : Int) < off + i)
 ·rw [if_pos h1, if_pos (by omega)]
 ·rw [if_neg h1, if_neg (by omega)]
theorem vl31Put (r : Rv) (off : Int) (d : Bs) (fin : Bool) (hr : RvOK r) (hl : r.pieces.length ≤ 1000) (ho : 0 ≤ off ∧ off ≤ 30) (hd : d.length ≤ 12) : FnP Tryz.prog 164 [.ag (av (eRv r)), aI off, aS d, aB fin] (putR (rvPut r off d fin)) := by
 have b1 := hr.read
 have b2 := hr.lim
 obtain ⟨q, hq⟩ : ∃ q : Nat, r.read = (q : Int) := ⟨r.read.toNat, by omega⟩
 cases fin
 ·skip
  refine fP Tryz.func164 Tryz.ntmps164 Tryz.results164 ?_
  repeat' (first
   | refine stp ?_
   | (apply K.g0; apply K.callF; first | refine chq (F := vl31BytesH r hr hl) (G := ?_) | refine cq (F := vl31Copy r hl) (G := ?_))
   | (refine R.gS rfl rfl rfl ?_ ?_ <;> intro hb <;> (try have hb' := nrm hb) <;> try (exfalso; omega))
   | (refine WC.cond rfl ?_ ?_ <;> intro hb <;> (try have hb' := nrm hb) <;> try (exfalso; omega)))
  all_goals first
   | (rw [put_1 (by assumption)]; (exact ret2))
   | (rw [put_2 hr (by assumption) (by unfold Put2; simp; omega)]; (exact ret2))
   | skip
  all_goals
   have hn2 : ¬ Put2 r (off + (d.length : Int)) false := by unfold Put2; simp; omega
   have hlm : ¬ off + (d.length : Int) > r.limit := by assumption
   refine WC.loop (fun k s => ∃ i g, k + i = d.length ∧ clashTo r off d i ∧ (∀ m : Nat, m < 30 → g m = byteI (mixB r off d i m)) ∧ s = ⟨⟨115, []⟩, [(1, aI off), (2, aS d), (3, aB false), (4, .ptr 4 0), (8, .ptr 8 0), (10, aI (off + d.length)), (11, .own 900 30), (12, aI (i : Nat))], [(4, .blk (av (eRv r))), (8, .blk [.un, .un, .un, .un]), (900, hB g)]⟩) d.length ⟨0, _, rfl, fun j hj => absurd hj (Nat.not_lt_zero j), fun m hm => by rw [mix_0], rfl⟩ (imp (look [(4, 4), (8, 8), (900, 900)])) ?_
   rintro k s ⟨i, g, hk, hcl, hg, rfl⟩
   have hgx : i < d.length → g (off + i).toNat = byteI (atL r.pieces (off + i)) := fun h => by
    rw [hg _ (by omega), show (((off + i).toNat : Nat) : Int) = off + i by omega, mix_at]
   have hfz : i = d.length → ∀ m : Nat, m < 30 → [dI (g m)] = eIn ((bytesF (putB r off d)).getD m default) := fun h => bytesF_row _ (by subst h; rw [← mix_all]; exact hg)
   have hqq : pcsOf (putB r off d) r.read (30 - r.read).toNat = pcsOf (putB r off d) q (30 - q) := by rw [show (30 - r.read).toNat = 30 - q by omega, hq]
   have hP := vl31Pieces (putB r off d) q (by omega)
   repeat' (first
    | (apply KA.g0; apply KA.callF; refine ak_callF rfl (LeFs.cons (LeF.f1 rfl (bytesF_len _).symm (hfz (by omega))) (LeFs.cons (LeF.c (LeC.sc (congrArg (Value.int .i64) hq))) LeFs.nil)) hP (by rfl) ?_)
    | refine stp ?_
    | (apply K.g0; apply K.callF; refine cq (F := vl31Copy r hl) (G := ?_))
    | (refine DR.gS rfl rfl rfl ?_ ?_ <;> intro hb <;> (try have hb' := nrm hb) <;> try (exfalso; omega))
    | (refine WC.cond rfl ?_ ?_ <;> intro hb <;> (try have hb' := nrm hb) <;> try (exfalso; omega))
    | (apply K.rg 12; refine wdr [0, 0, 3, 7, 15, 31, 63, 63, 255, 511, 63, 63, 3135, 7231, 16383, 32767] 14 [71, 72, 73, 74, 75, 76, 77, 78, 79, 80, 81, 82, 83, 84] [] ?_)
    | (apply K.rg 16; refine WC.drawD (ms := [0, 1, 0, 0, 8, 28, 0, 64, 0, 256, 1023, 0, 4095]) 12 [100, 101, 102, 103, 104, 105, 106, 107, 108, 109, 110, 14] [(5,[900])] (by kernel_rfl) (by kernel_rfl) ?_)
    | refine dcl ?_)
   all_goals first
    | (rw [put_3 hr hlm hn2 (clash_yes (i := i) (by omega) (by rw [← hgx (by omega)]; omega) (by rw [← hgx (by omega)]; assumption))]; (exact ret2))
    | (refine loopQ.n (k - 1) _ (by omega) ⟨i + 1, fun m => if m = (off + i).toNat then ((d.getD i 0).toNat : Int) else g m, by omega, clashTo_succ hcl (hgx (by omega)) (by first | exact .inl (by assumption) | exact .inr (by assumption)), mix_yes (by omega) (by omega) (by omega) hg, rfl⟩ (imp (look [(4, 4), (8, 8), (900, 900)])); done)
    | (refine loopQ.n (k - 1) _ (by omega) ⟨i + 1, g, by omega, clashTo_succ hcl (hgx (by omega)) (by first | exact .inl (by assumption) | exact .inr (by assumption)), mix_no (by omega) hg, rfl⟩ (imp (look [(4, 4), (8, 8), (900, 900)])); done)
    | (obtain rfl : i = d.length := (by omega)
       rw [put_0 hr ho.1 hlm hn2 (clashTo_no hcl), hqq]; (exact ret2))
 ·skip
  refine fP Tryz.func164 Tryz.ntmps164 Tryz.results164 ?_
  repeat' (first
   | refine stp ?_
   | (apply K.g0; apply K.callF; first | refine chq (F := vl31BytesH r hr hl) (G := ?_) | refine cq (F := vl31Copy r hl) (G := ?_))
   | (apply K.g1; apply K.callF; refine cqt (F := vl31End r hr hl) (G := ?_))
   | (refine R.gS rfl rfl rfl ?_ ?_ <;> intro hb <;> (try have hb' := nrm hb) <;> try (exfalso; omega))
   | (refine WC.cond rfl ?_ ?_ <;> intro hb <;> (try have hb' := nrm hb) <;> try (exfalso; omega)))
  all_goals first
   | (rw [put_1 (by assumption)]; (exact ret2))
   | (rw [put_2 hr (by assumption) (by unfold Put2; simp; omega)]; (exact ret2))
   | skip
  all_goals
   have hn2 : ¬ Put2 r (off + (d.length : Int)) true := by unfold Put2; simp; omega
   have hlm : ¬ off + (d.length : Int) > r.limit := by assumption
   refine WC.loop (fun k s => ∃ i g, k + i = d.length ∧ clashTo r off d i ∧ (∀ m : Nat, m < 30 → g m = byteI (mixB r off d i m)) ∧ s = ⟨⟨115, []⟩, [(1, aI off), (2, aS d), (3, aB true), (4, .ptr 4 0), (8, .ptr 8 0), (10, aI (off + d.length)), (11, .own 900 30), (12, aI (i : Nat))], [(4, .blk (av (eRv r))), (8, .blk [.un, .un, .un, .un]), (900, hB g)]⟩) d.length ⟨0, _, rfl, fun j hj => absurd hj (Nat.not_lt_zero j), fun m hm => by rw [mix_0], rfl⟩ (imp (look [(4, 4), (8, 8), (900, 900)])) ?_
   rintro k s ⟨i, g, hk, hcl, hg, rfl⟩
   have hgx : i < d.length → g (off + i).toNat = byteI (atL r.pieces (off + i)) := fun h => by
    rw [hg _ (by omega), show (((off + i).toNat : Nat) : Int) = off + i by omega, mix_at]
   have hfz : i = d.length → ∀ m : Nat, m < 30 → [dI (g m)] = eIn ((bytesF (putB r off d)).getD m default) := fun h => bytesF_row _ (by subst h; rw [← mix_all]; exact hg)
   have hqq : pcsOf (putB r off d) r.read (30 - r.read).toNat = pcsOf (putB r off d) q (30 - q) := by rw [show (30 - r.read).toNat = 30 - q by omega, hq]
   have hP := vl31Pieces (putB r off d) q (by omega)
   repeat' (first
    | (apply KA.g0; apply KA.callF; refine ak_callF rfl (LeFs.cons (LeF.f1 rfl (bytesF_len _).symm (hfz (by omega))) (LeFs.cons (LeF.c (LeC.sc (congrArg (Value.int .i64) hq))) LeFs.nil)) hP (by rfl) ?_)
    | refine stp ?_
    | (apply K.g0; apply K.callF; refine cq (F := vl31Copy r hl) (G := ?_))
    | (refine DR.gS rfl rfl rfl ?_ ?_ <;> intro hb <;> (try have hb' := nrm hb) <;> try (exfalso; omega))
    | (refine WC.cond rfl ?_ ?_ <;> intro hb <;> (try have hb' := nrm hb) <;> try (exfalso; omega))
    | (apply K.rg 12; refine wdr [0, 0, 3, 7, 15, 31, 63, 63, 255, 511, 63, 63, 3135, 7231, 16383, 32767] 14 [71, 72, 73, 74, 75, 76, 77, 78, 79, 80, 81, 82, 83, 84] [] ?_)
    | (apply K.rg 16; refine WC.drawD (ms := [0, 1, 0, 0, 8, 28, 0, 64, 0, 256, 1023, 0, 4095]) 12 [100, 101, 102, 103, 104, 105, 106, 107, 108, 109, 110, 14] [(5,[900])] (by kernel_rfl) (by kernel_rfl) ?_)
    | refine dcl ?_)
   all_goals first
    | (rw [put_3 hr hlm hn2 (clash_yes (i := i) (by omega) (by rw [← hgx (by omega)]; omega) (by rw [← hgx (by omega)]; assumption))]; (exact ret2))
    | (refine loopQ.n (k - 1) _ (by omega) ⟨i + 1, fun m => if m = (off + i).toNat then ((d.getD i 0).toNat : Int) else g m, by omega, clashTo_succ hcl (hgx (by omega)) (by first | exact .inl (by assumption) | exact .inr (by assumption)), mix_yes (by omega) (by omega) (by omega) hg, rfl⟩ (imp (look [(4, 4), (8, 8), (900, 900)])); done)
    | (refine loopQ.n (k - 1) _ (by omega) ⟨i + 1, g, by omega, clashTo_succ hcl (hgx (by omega)) (by first | exact .inl (by assumption) | exact .inr (by assumption)), mix_no (by omega) hg, rfl⟩ (imp (look [(4, 4), (8, 8), (900, 900)])); done)
    | (obtain rfl : i = d.length := (by omega)
       rw [put_0 hr ho.1 hlm hn2 (clashTo_no hcl), hqq]; (exact ret2))
end Go.Proofs.YtjbhiglaginpeaaGreat
