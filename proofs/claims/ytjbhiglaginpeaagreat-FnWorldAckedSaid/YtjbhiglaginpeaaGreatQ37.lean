/- Parts of the proof, joined from several texts. No condition. -/
import Derived.Test.YtjbhiglaginpeaaGreatQ34
import Derived.Test.YtjbhiglaginpeaaGreatQ28
import Derived.Test.YtjbhiglaginpeaaGreatQ11
set_option maxRecDepth 100000
set_option maxHeartbeats 16000000
set_option linter.unusedVariables false
set_option linter.unusedSimpArgs false
namespace Go.Proofs.YtjbhiglaginpeaaGreat
open Go.RowKit
theorem pc_mono : ∀ {l : List Pc} {a b : Int}, pcOk a b l → ∀ i j, i ≤ j → j < l.length → (l.getD i default).fin ≤ (l.getD j default).fin
 | [], _, _, _, _, _, _, h => absurd h (Nat.not_lt_zero _)
 | p :: t, a, b, h, 0, 0, _, _ => Int.le_refl _
 | p :: t, a, b, h, 0, j + 1, _, hj => by
   have hj' : j < t.length := by simpa using hj
   have := pc_low h.2.2.2 (t.getD j default) (getD_mem' hj')
   have e : ((t.getD j default).data.length : Int) = bl (t.getD j default).data := rfl
   have e2 : (t.getD j default).fin = (t.getD j default).off + bl (t.getD j default).data := rfl
   show p.fin ≤ (t.getD j default).fin
   omega
 | p :: t, a, b, h, i + 1, 0, hij, _ => absurd hij (by omega)
 | p :: t, a, b, h, i + 1, j + 1, hij, hj => pc_mono (l := t) h.2.2.2 i j (by omega) (by simpa using hj)
theorem RvOK.pc60 {r : Rv} (h : RvOK r) : ∀ p ∈ r.pieces, PcB 60 p := fun p hp => by
 have h1 := pc_low h.pcs p hp
 have h2 := h.lim
 have h3 := h.read
 unfold Pc.fin bl at h1
 unfold PcB
 omega
theorem put_h {r : Rv} {off : Int} {d : Bs} {fin : Bool} (hr : RvOK r) (h : ¬ off + (d.length : Int) > r.limit) (h2 : ¬ Put2 r (off + d.length) fin) (h3 : clash r off d = false) : rvPut r off d fin = if max 0 (r.read - off) < bl d then ({ (if fin = true then { r with final := off + bl d } else r) with pieces := mrg r.pieces ⟨off + max 0 (r.read - off), d.drop (max 0 (r.read - off)).toNat⟩ }, 0) else ((if fin = true then { r with final := off + bl d } else r), 0) :=
 (if_neg (show ¬ r.limit < off + bl d from h)).trans ((if_neg (fun e => h2 ((put2_iff hr).1 e))).trans (if_neg (by rw [h3]; exact Bool.false_ne_true)))
theorem put_ha {r : Rv} {off : Int} {d : Bs} {fin : Bool} (hr : RvOK r) (h : ¬ off + (d.length : Int) > r.limit) (h2 : ¬ Put2 r (off + d.length) fin) (h3 : clash r off d = false) (hs : max 0 (r.read - off) < (d.length : Int)) : rvPut r off d fin = (⟨r.read, mrg r.pieces ⟨off + max 0 (r.read - off), d.drop (max 0 (r.read - off)).toNat⟩, if fin = true then off + (d.length : Int) else r.final, r.limit⟩, 0) := by
 rw [put_h hr h h2 h3, if_pos (show max 0 (r.read - off) < bl d from hs)]
 cases fin <;> rfl
theorem put_hb {r : Rv} {off : Int} {d : Bs} {fin : Bool} (hr : RvOK r) (h : ¬ off + (d.length : Int) > r.limit) (h2 : ¬ Put2 r (off + d.length) fin) (h3 : clash r off d = false) (hs : ¬ max 0 (r.read - off) < (d.length : Int)) : rvPut r off d fin = (⟨r.read, r.pieces, if fin = true then off + (d.length : Int) else r.final, r.limit⟩, 0) := by
 rw [put_h hr h h2 h3, if_neg (show ¬ max 0 (r.read - off) < bl d from hs)]
 cases fin <;> rfl
theorem vmRecvPut (r : Rv) (off : Int) (d : Bs) (fin : Bool) (hr : RvOK r) (ho : 0 ≤ off ∧ off ≤ 30) (hd : d.length ≤ 12) : FnP Tryz.prog 137 [.ag (av (eRv r)), aI off, aS d, aB fin] (putR (rvPut r off d fin)) := by
 have hf := hr.few
 have b1 := hr.read
 have b2 := hr.lim
 have b3 := hr.fin
 have b4 := fin_ge hr
 have hv := vmRecvValid r (by omega) hr.pcb
 rw [rv_ok hr] at hv
 have hw := vmWithin off 0 30
 rw [inB_iff.2 (by omega)] at hw
 have hE := vmRecvEnd r (by omega) (fun h => by have := hr.pc60 _ (getD_mem' (i := ((r.pieces.length : Int) - 1).toNat) (l := r.pieces) (by omega)); unfold PcB at this; omega)
 have hC := vmConflicts r off d hr ho hd
 have hmo := pc_mono hr.pcs
 have hM : max 0 (r.read - off) < (d.length : Int) → FnP Tryz.prog 174 [.d (dL 2 ePc r.pieces), .ag (av (ePc ⟨off + max 0 (r.read - off), d.drop (max 0 (r.read - off)).toNat⟩))] (.d (dL 2 ePc (mrg r.pieces ⟨off + max 0 (r.read - off), d.drop (max 0 (r.read - off)).toNat⟩))) := fun hs =>
  vmMergedPieces r.pieces _ (by omega) hr.pc60 hmo ⟨by dsimp only; omega, by dsimp only; rw [List.length_drop]; omega⟩
 clear hmo
 cases hcl : clash r off d
 all_goals
  rw [hcl] at hC
  cases fin
 ·skip
  refine fP Tryz.func137 Tryz.ntmps137 Tryz.results137 ?_
  repeat' (first
   | refine stp ?_
   | (apply K.g0; apply K.callF; first | refine cq (F := hv) (G := ?_) | refine cq (F := hC) (G := ?_) | refine cq (F := vmCopyRecv r (by omega)) (G := ?_) | refine cq (F := hM (by omega)) (G := ?_))
   | (apply K.g1; apply K.callF; refine cqt (F := hw) (G := ?_))
   | (refine R.gS rfl rfl rfl ?_ ?_ <;> intro hb <;> (try have hb' := nrm hb) <;> try (exfalso; omega))
   | (refine WC.cond rfl ?_ ?_ <;> intro hb <;> (try have hb' := nrm hb) <;> try (exfalso; omega))
   | (apply K.rg 16; refine wdr [0, 1, 0, 0, 12, 0, 0, 96, 252, 511, 1023, 2047] 9 [90, 91, 92, 93, 94, 95, 96, 97, 98] [] ?_)
   | refine dcl ?_)
  all_goals first
   | (rw [put_1 (by assumption)]; (exact ret2))
   | (rw [put_2 hr (by assumption) (by unfold Put2; simp; omega)]; (exact ret2))
   | (rw [put_ha hr (by assumption) (by unfold Put2; simp; omega) hcl (by omega)]; (exact ret2))
   | (rw [put_hb hr (by assumption) (by unfold Put2; simp; omega) hcl (by omega)]; (exact ret2))
 ·skip
  refine fP Tryz.func137 Tryz.ntmps137 Tryz.results137 ?_
  repeat' (first
   | refine stp ?_
   | (apply K.g0; apply K.callF; first | refine cq (F := hv) (G := ?_) | refine cq (F := hC) (G := ?_) | refine cq (F := vmCopyRecv r (by omega)) (G := ?_) | refine cq (F := hM (by omega)) (G := ?_))
   | (apply K.g1; apply K.callF; first | refine cqt (F := hw) (G := ?_) | refine cqt (F := hE) (G := ?_))
   | (refine R.gS rfl rfl rfl ?_ ?_ <;> intro hb <;> (try have hb' := nrm hb) <;> try (exfalso; omega))
   | (refine WC.cond rfl ?_ ?_ <;> intro hb <;> (try have hb' := nrm hb) <;> try (exfalso; omega))
   | (apply K.rg 16; refine wdr [0, 1, 0, 0, 12, 0, 0, 96, 252, 511, 1023, 2047] 9 [90, 91, 92, 93, 94, 95, 96, 97, 98] [] ?_)
   | refine dcl ?_)
  all_goals first
   | (rw [put_1 (by assumption)]; (exact ret2))
   | (rw [put_2 hr (by assumption) (by unfold Put2; simp; omega)]; (exact ret2))
   | (rw [put_ha hr (by assumption) (by unfold Put2; simp; omega) hcl (by omega)]; (exact ret2))
   | (rw [put_hb hr (by assumption) (by unfold Put2; simp; omega) hcl (by omega)]; (exact ret2))
 ·skip
  refine fP Tryz.func137 Tryz.ntmps137 Tryz.results137 ?_
  repeat' (first
   | refine stp ?_
   | (apply K.g0; apply K.callF; first | refine cq (F := hv) (G := ?_) | refine cq (F := hC) (G := ?_) | refine cq (F := vmCopyRecv r (by omega)) (G := ?_))
   | (apply K.g1; apply K.callF; refine cqt (F := hw) (G := ?_))
   | (refine R.gS rfl rfl rfl ?_ ?_ <;> intro hb <;> (try have hb' := nrm hb) <;> try (exfalso; omega))
   | (refine WC.cond rfl ?_ ?_ <;> intro hb <;> (try have hb' := nrm hb) <;> try (exfalso; omega)))
  all_goals first
   | (rw [put_1 (by assumption)]; (exact ret2))
   | (rw [put_2 hr (by assumption) (by unfold Put2; simp; omega)]; (exact ret2))
   | (rw [put_3 hr (by assumption) (by unfold Put2; simp; omega) hcl]; (exact ret2))
 ·skip
  refine fP Tryz.func137 Tryz.ntmps137 Tryz.results137 ?_
  repeat' (first
   | refine stp ?_
   | (apply K.g0; apply K.callF; first | refine cq (F := hv) (G := ?_) | refine cq (F := hC) (G := ?_) | refine cq (F := vmCopyRecv r (by omega)) (G := ?_))
   | (apply K.g1; apply K.callF; first | refine cqt (F := hw) (G := ?_) | refine cqt (F := hE) (G := ?_))
   | (refine R.gS rfl rfl rfl ?_ ?_ <;> intro hb <;> (try have hb' := nrm hb) <;> try (exfalso; omega))
   | (refine WC.cond rfl ?_ ?_ <;> intro hb <;> (try have hb' := nrm hb) <;> try (exfalso; omega)))
  all_goals first
   | (rw [put_1 (by assumption)]; (exact ret2))
   | (rw [put_2 hr (by assumption) (by unfold Put2; simp; omega)]; (exact ret2))
   | (rw [put_3 hr (by assumption) (by unfold Put2; simp; omega) hcl]; (exact ret2))
end Go.Proofs.YtjbhiglaginpeaaGreat
