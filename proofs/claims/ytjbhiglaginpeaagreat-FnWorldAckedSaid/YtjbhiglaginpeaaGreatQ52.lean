/- Parts of the proof, joined from several texts. No condition. -/
import Derived.Test.YtjbhiglaginpeaaGreatQ36
import Derived.Test.YtjbhiglaginpeaaGreatQ38
import Derived.Test.YtjbhiglaginpeaaGreatQ51
import Derived.Test.YtjbhiglaginpeaaGreatQ32
set_option maxRecDepth 100000
set_option maxHeartbeats 16000000
set_option linter.unusedVariables false
set_option linter.unusedSimpArgs false
namespace Go.Proofs.YtjbhiglaginpeaaGreat
open Go.RowKit
theorem EvS.sz {e : Ev} (h : EvS e) : EvSz e := ⟨by have := h.d; omega, by have := h.fd; omega, by have := h.fr; omega⟩
theorem EvS.i {e : Ev} (h : EvS e) : EvI e := ⟨h.sz, fun r hr => by have := h.fb r hr; unfold I64; omega⟩
theorem play_ok {limit : Int} {l : List Ev} {W : Wd} (h : playR limit l = some W) : WdOK W := by
 unfold playR at h
 split at h
 ·next hc =>
  rw [Bool.and_eq_true] at hc
  simp only [Option.some.injEq] at h
  rw [← h]
  exact wd_play l (wd_new (inB_iff.1 hc.1))
 ·cases h
theorem play_some {limit : Int} {l : List Ev} {W : Wd} (h : playR limit l = some W) : (0 ≤ limit ∧ limit ≤ 30) ∧ l.length ≤ 80 := by
 unfold playR at h
 split at h
 ·next hc =>
  rw [Bool.and_eq_true, decide_eq_true_eq] at hc
  exact ⟨inB_iff.1 hc.1, hc.2⟩
 ·cases h
theorem play_none {limit : Int} {l : List Ev} (h : playR limit l = none) : ¬ ((0 ≤ limit ∧ limit ≤ 30) ∧ l.length ≤ 80) := by
 unfold playR at h
 split at h
 ·cases h
 ·next hc =>
  intro h2
  exact hc (by rw [inB_iff.2 h2.1, decide_eq_true h2.2]; rfl)
theorem vlIsPrefix (x y : Bs) : FnP Tryz.prog 15 [aS x, aS y] (aB (prefB y x)) := by
 refine fP Tryz.func15 Tryz.ntmps15 Tryz.results15 ?_
 repeat' (first
  | refine stp ?_
  | (refine R.gS rfl rfl rfl ?_ ?_ <;> intro hb <;> (try have hb' := nrm hb) <;> try (exfalso; omega))
  | fail)
 ·rw [show prefB y x = (y.take x.length == x) from by unfold prefB; rw [decide_eq_true (by omega)]; rfl]
  refine RetG.mk1 (ResV.tmp rfl) (LeV.sc (congrArg Value.bool ?_))
  simp
 ·rw [show prefB y x = false from by unfold prefB; rw [decide_eq_false (by omega)]; rfl]
  refine RetG.mk1 (ResV.tmp rfl) (LeV.sc (congrArg Value.bool ?_))
  simp
  try omega
theorem st_pre {s : Sd} {r : Rv} {g : Bs} (h : StOK s r g) : prefB s.data g = true := by
 have h1 := h.gpre
 unfold prefB
 rw [Bool.and_eq_true, decide_eq_true_eq, beq_iff_eq]
 refine ⟨?_, h1⟩
 have := congrArg List.length h1
 rw [List.length_take] at this
 omega
theorem st_all {s : Sd} {r : Rv} {g : Bs} (h : StOK s r g) (he : r.read = r.final) : g = s.data := by
 have h1 := h.gpre
 have h2 := h.glen
 have h3 := h.final
 have h4 := h.rv.read
 unfold bl at h2 h3
 rw [← h1]
 exact List.take_of_length_le (by omega)
theorem st_piece {s : Sd} {r : Rv} {g : Bs} (h : StOK s r g) {p : Pc} (hp : p ∈ r.pieces) : (0 ≤ p.off ∧ p.off ≤ 30) ∧ p.off + (p.data.length : Int) ≤ s.data.length ∧ prefB (s.data.drop p.off.toNat) p.data = true := by
 have h1 := pc_low h.rv.pcs p hp
 have h2 := h.rv.read
 have h3 := (pcs_iff s.data h.rv.pcs (by omega)).2 h.pcs p hp
 have h4 := h.sd.len
 have h5 := congrArg List.length h3
 rw [List.length_take, List.length_drop] at h5
 have h6 : 0 < p.data.length := List.length_pos_iff.2 h1.2.2
 unfold bl at h4
 refine ⟨by omega, by omega, ?_⟩
 unfold prefB
 rw [Bool.and_eq_true, decide_eq_true_eq, beq_iff_eq, List.length_drop]
 exact ⟨by omega, h3⟩
theorem st_fin {b : Bool} {x : Int} {p : Prop} (h : x = -1 ∨ (b = true ∧ p)) (h0 : 0 ≤ x) (hb : b = false) : False := by
 rcases h with h | h
 ·omega
 ·rw [hb] at h; cases h.1
def rcvH (r : Rv) (x : Int) : Bool := (waits r x).isSome || decide (x < r.read)
theorem st_acked2 {s : Sd} {r : Rv} {g : Bs} (h : StOK s r g) {x : Int} (hx : hasR s.acked x = true) : (x = bl s.data → r.final = x) ∧ (¬ x = bl s.data → rcvH r x = true) := by
 have h1 := h.acks x hx
 unfold gotIt at h1
 constructor
 ·intro e
  rw [if_pos e] at h1
  exact of_decide_eq_true h1
 ·intro e
  rw [if_neg e] at h1
  unfold rcvH
  rw [Bool.or_comm]
  exact h1
theorem vmRangesHas (l : List Rg) (x : Int) (hl : l.length ≤ 16) (h : rgOk (-2) l) : FnP Tryz.prog 16 [.d (dL 2 eRg l), aI x] (aB (hasR l x)) := by
 have hv := vmRangesValid l (by omega)
 rw [(rgValid_iff l).2 ⟨hl, h⟩] at hv
 have hh := vmHas l x (rgOk_bd h (by omega))
 refine fP Tryz.func16 Tryz.ntmps16 Tryz.results16 ?_
 repeat' (first
  | refine stp ?_
  | (apply K.g0; apply K.callF; refine cq (F := hv) (G := ?_))
  | (apply K.g1; apply K.callF; refine cqt (F := hh) (G := ?_))
  | fail)
 (exact ret1)
theorem vlRecvHas (r : Rv) (x : Int) (h : RvOK r) : FnP Tryz.prog 17 [.ag (av (eRv r)), aI x] (aB (rcvH r x)) := by
 have hf := h.few
 refine fP Tryz.func17 Tryz.ntmps17 Tryz.results17 ?_
 repeat' (first
  | refine stp ?_
  | fail)
 refine WC.loop (fun k s => ∃ i : Nat, k + i = r.pieces.length ∧ (∀ j, j < i → (r.pieces.getD j default).holds x = false) ∧ s = ⟨⟨43, []⟩, [(1, aI x), (2, .ptr 2 0), (5, aI (i : Nat))], [(2, .blk (av (eRv r)))]⟩) r.pieces.length ⟨0, rfl, fun j hj => absurd hj (Nat.not_lt_zero j), rfl⟩ (imp (look [(2, 2)])) ?_
 rintro k s ⟨i, hk, hn, rfl⟩
 by_cases hi : i < r.pieces.length
 ·have hb := h.pb hi
  have hfin : (r.pieces.getD i default).fin = (r.pieces.getD i default).off + ((r.pieces.getD i default).data.length : Int) := rfl
  cases hh : inB x (r.pieces.getD i default).off ((r.pieces.getD i default).fin - 1)
  ·have hx : ¬ ((r.pieces.getD i default).off ≤ x ∧ x ≤ (r.pieces.getD i default).fin - 1) := fun e => by rw [inB_iff.2 e] at hh; cases hh
   repeat' (first
    | refine stp ?_
    | (refine DR.gS rfl rfl rfl ?_ ?_ <;> intro hb <;> (try have hb' := nrm hb) <;> try (exfalso; omega))
    | (apply K.rg 4; refine wdr [0, 1, 0, 7, 15, 31, 0, 127, 255, 511, 511, 1535, 511, 7679, 15871, 32255, 511, 66047, 511, 459263, 983551, 2032127, 4129279, 8388095, 16777215, 33554431] 24 [13, 14, 15, 16, 17, 18, 19, 20, 21, 22, 23, 24, 25, 26, 27, 28, 29, 30, 31, 32, 33, 34, 35, 36] [] ?_)
    | refine dcl ?_)
   all_goals exact loopQ.n (k - 1) _ (by omega) ⟨i + 1, by omega, fun j hj => (Nat.lt_succ_iff_lt_or_eq.1 hj).elim (hn j) (fun e => by rw [e]; exact hh), rfl⟩ (imp (look [(2, 2)]))
  ·have hx := inB_iff.1 hh
   repeat' (first
    | refine stp ?_
    | (refine DR.gS rfl rfl rfl ?_ ?_ <;> intro hb <;> (try have hb' := nrm hb) <;> try (exfalso; omega))
    | (apply K.rg 4; refine wdr [0, 1, 0, 7, 15, 31, 0, 127, 255, 511, 511, 1535, 511, 7679, 15871, 32255, 511, 66047, 511, 459263, 983551, 2032127, 4129279, 8388095, 16777215, 33554431] 24 [13, 14, 15, 16, 17, 18, 19, 20, 21, 22, 23, 24, 25, 26, 27, 28, 29, 30, 31, 32, 33, 34, 35, 36] [] ?_)
    | refine dcl ?_)
   rw [show rcvH r x = true from by unfold rcvH; rw [waits_at hi hn hh]; rfl]; (exact ret1)
 ·obtain rfl : i = r.pieces.length := (by omega)
  repeat' (first
   | refine stp ?_
   | fail)
  rw [show rcvH r x = decide (x < r.read) from by unfold rcvH; rw [waits_no hn]; rfl]; (exact ret1)
theorem vmRecvEnded (r : Rv) (h : RvOK r) : FnP Tryz.prog 14 [.ag (av (eRv r))] (aB (decide (r.read = r.final))) := by
 have hf := h.few
 have h2 := h.lim
 have hv := vmRecvValid r (by omega) h.pcb
 rw [rv_ok h] at hv
 refine fP Tryz.func14 Tryz.ntmps14 Tryz.results14 ?_
 repeat' (first
  | refine stp ?_
  | (apply K.g0; apply K.callF; refine cq (F := hv) (G := ?_))
  | fail)
 all_goals (exact ret1)
end Go.Proofs.YtjbhiglaginpeaaGreat
