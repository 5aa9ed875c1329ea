/- Parts of the proof, joined from several texts. No condition. -/
import Derived.Test.YtjbhiglaginpeaaGreatQ32
import Derived.Test.YtjbhiglaginpeaaGreatQ24
set_option maxRecDepth 100000
set_option maxHeartbeats 16000000
set_option linter.unusedVariables false
set_option linter.unusedSimpArgs false
namespace Go.Proofs.YtjbhiglaginpeaaGreat
open Go.RowKit
theorem mrg_pre : ∀ {l : List Pc} {p : Pc} {i : Nat}, i ≤ l.length → (∀ j, j < i → (l.getD j default).fin < p.off) → mrg l p = l.take i ++ mrg (l.drop i) p
 | l, p, 0, _, _ => by simp
 | [], _, i + 1, h, _ => by simp at h
 | q :: t, p, i + 1, h, ha => by
   have h0 : q.fin < p.off := ha 0 (by omega)
   have e : mrg (q :: t) p = q :: mrg t p := by rw [mrg]; exact if_pos h0
   rw [e, List.take_succ_cons, List.drop_succ_cons, List.cons_append]
   rw [mrg_pre (i := i) (by simpa using h) (fun j hj => by have := ha (j + 1) (by omega); simpa using this)]
theorem mrg_stop {l : List Pc} {p : Pc} (h : ∀ q ∈ l.head?, ¬ q.fin < p.off) : mrg l p = mrgM l p := by
 cases l with
 | nil => rfl
 | cons q t => rw [mrg]; exact if_neg (h q rfl)
theorem mrgM_step {q : Pc} {t : List Pc} {p : Pc} (h : q.off ≤ p.fin) : mrgM (q :: t) p = mrgM t (joinPc q p) := by rw [mrgM]; exact if_pos h
theorem mrgM_stop {l : List Pc} {p : Pc} (h : ∀ q ∈ l.head?, ¬ q.off ≤ p.fin) : mrgM l p = p :: l := by
 cases l with
 | nil => rfl
 | cons q t => rw [mrgM]; exact if_neg (h q rfl)
def join1 (q p : Pc) : Pc := if q.off < p.off then ⟨q.off, q.data.take (p.off - q.off).toNat ++ p.data⟩ else p
theorem join_eq (q p : Pc) : joinPc q p = if (join1 q p).fin < q.fin then ⟨(join1 q p).off, (join1 q p).data ++ q.data.drop ((join1 q p).fin - q.off).toNat⟩ else join1 q p := rfl
def PcB (n : Int) (p : Pc) : Prop := (0 ≤ p.off ∧ p.off ≤ 60) ∧ (p.data.length : Int) ≤ n
theorem join1_bd {q p : Pc} {n : Int} (hq : PcB 60 q) (hp : PcB n p) : PcB (n + 60) (join1 q p) := by
 unfold PcB at *
 unfold join1
 split
 ·simp only [List.length_append, List.length_take]; omega
 ·omega
theorem join_bd {q p : Pc} {n : Int} (hq : PcB 60 q) (hp : PcB n p) : PcB (n + 120) (joinPc q p) := by
 have h1 := join1_bd hq hp
 rw [join_eq]
 unfold PcB at *
 split
 ·simp only [List.length_append, List.length_drop]; omega
 ·omega
theorem vmMergedPieces (l : List Pc) (p : Pc) (h : l.length ≤ 1000) (hl : ∀ q ∈ l, PcB 60 q) (ho : ∀ i j, i ≤ j → j < l.length → (l.getD i default).fin ≤ (l.getD j default).fin) (hp : PcB 60 p) : FnP Tryz.prog 174 [.d (dL 2 ePc l), .ag (av (ePc p))] (.d (dL 2 ePc (mrg l p))) := by
 have hli : ∀ i, i < l.length → PcB 60 (l.getD i default) := fun i h => hl _ (getD_mem' h)
 unfold PcB at hli hp
 refine fP Tryz.func174 Tryz.ntmps174 Tryz.results174 ?_
 repeat' (first
  | refine stp ?_
  | fail)
 refine WC.loop (fun k s => ∃ (i : Nat) (A : List Pc), k + i = l.length ∧ (∀ j, j < i → (l.getD j default).fin < p.off) ∧ A = l.take i ∧ s = ⟨⟨97, []⟩, [(0, .d (dL 2 ePc l)), (3, .ptr 3 0), (5, .own 700 A.length), (6, aI (i : Nat))], [(3, .blk (av (ePc p))), (700, hL 50 2 ePc A)]⟩) l.length ⟨0, [], rfl, fun j hj => absurd hj (Nat.not_lt_zero j), rfl, rfl⟩ (imp (look [(3, 3)])) ?_
 rintro k s ⟨i, A, hk, ha, hA, rfl⟩
 have lA : A.length = i := by rw [hA, List.length_take]; omega
 have hbi := hli i
 have hE := fun a b => vmPieceEnd (l.getD i default) a b
 repeat' (first
  | refine stp ?_
  | (apply KA.g1; apply KA.callF; refine cqat (F := hE (by omega) (by omega)) (G := ?_))
  | (refine DR.gS rfl rfl rfl ?_ ?_ <;> intro hb <;> (try have hb' := nrm hb) <;> try (exfalso; omega))
  | (refine WC.cond rfl ?_ ?_ <;> intro hb <;> (try have hb' := nrm hb) <;> try (exfalso; omega))
  | (apply K.rg 3; refine wdr [0, 0, 2, 7, 15, 31, 31, 127, 255, 511, 31, 1055, 4095, 8191] 12 [8, 9, 10, 11, 12, 13, 14, 15, 16, 17, 18, 19] [] ?_)
  | refine dcl ?_)
 all_goals first
  | (refine loopQ.n (k - 1) _ (by omega) ⟨i + 1, A ++ [l.getD i default], by omega, fun j hj => (Nat.lt_succ_iff_lt_or_eq.1 hj).elim (ha j) (fun e => by rw [e]; omega), by rw [take_snoc (by omega), hA], rfl⟩ (imp (look [(3, 3), (700, 30)])); done)
  | skip
 all_goals
  have hP : mrg l p = A ++ mrgM (l.drop i) p := by
   rw [mrg_pre (i := i) (by omega) ha, ← hA, mrg_stop (fun q hq => ?_)]
   rw [List.head?_drop] at hq
   have hi : i < l.length := (List.getElem?_eq_some_iff.1 hq).1
   have e : l.getD i default = q := by rw [List.getD_eq_getElem?_getD, Option.mem_def.1 hq]; rfl
   rw [← e]
   omega
  rw [hP]
  have hpi : i < l.length → p.off ≤ (l.getD i default).fin := by intro _; omega
  clear hP ha hbi hE
  have hil : i ≤ l.length := by omega
  refine WC.loop (fun k s => ∃ (j : Nat) (x : Pc), k + j = l.length ∧ i ≤ j ∧ x.off ≤ p.off ∧ mrgM (l.drop i) p = mrgM (l.drop j) x ∧ ((0 ≤ x.off ∧ x.off ≤ 60) ∧ (x.data.length : Int) ≤ 60 + 120 * j) ∧ s = ⟨⟨97, []⟩, [(0, .d (dL 2 ePc l)), (3, .ptr 3 0), (5, .own 700 A.length), (6, aI (j : Nat))], [(3, .blk (av (ePc x))), (700, hL 50 2 ePc A)]⟩) (l.length - i) ⟨i, p, by omega, Nat.le_refl _, Int.le_refl _, rfl, by omega, rfl⟩ (imp (look [(3, 3), (700, 700)])) ?_
  rintro k s ⟨j, x, hk, hij, hxp, hM, hbd, rfl⟩
  by_cases hj : j < l.length
  ·have hS : l.drop j = l.getD j default :: l.drop (j + 1) := by
    rw [List.drop_eq_getElem_cons hj, List.getD_eq_getElem?_getD, List.getElem?_eq_getElem hj]; rfl
   have hbj := hli j hj
   have hqx : x.off ≤ (l.getD j default).fin := by have := hpi (by omega); have := ho i j hij hj; omega
   have hE1 := vmPieceEnd (l.getD j default) (by omega) (by omega)
   have hE2 := vmPieceEnd x (by omega) (by omega)
   by_cases hst : (l.getD j default).off ≤ x.fin
   ·have hM2 : mrgM (l.drop i) p = mrgM (l.drop (j + 1)) (joinPc (l.getD j default) x) := by rw [hM, hS, mrgM_step hst]
    have hB2 := join_bd (q := l.getD j default) (p := x) (n := 60 + 120 * j) hbj hbd
    have hB1 := join1_bd (q := l.getD j default) (p := x) (n := 60 + 120 * j) hbj hbd
    have hJ := join_eq (l.getD j default) x
    unfold PcB at hB1 hB2
    have hqf : (l.getD j default).fin = (l.getD j default).off + ((l.getD j default).data.length : Int) := rfl
    have hxf : x.fin = x.off + (x.data.length : Int) := rfl
    by_cases hlt : (l.getD j default).off < x.off
    ·have h1 : join1 (l.getD j default) x = ⟨(l.getD j default).off, (l.getD j default).data.take (x.off - (l.getD j default).off).toNat ++ x.data⟩ := if_pos hlt
     rw [h1] at hJ hB1
     dsimp only at hB1 hJ
     have ht : (((l.getD j default).data.take (x.off - (l.getD j default).off).toNat).length : Int) = x.off - (l.getD j default).off := by rw [List.length_take]; omega
     have htc : (((l.getD j default).data.take (x.off - (l.getD j default).off).toNat ++ x.data).length : Int) = x.off - (l.getD j default).off + x.data.length := by rw [List.length_append]; omega
     have hE3 := vmPieceEnd ⟨(l.getD j default).off, (l.getD j default).data.take (x.off - (l.getD j default).off).toNat ++ x.data⟩ (by dsimp only; omega) (by dsimp only; omega)
     have hpf : (Pc.mk (l.getD j default).off ((l.getD j default).data.take (x.off - (l.getD j default).off).toNat ++ x.data)).fin = (l.getD j default).off + (((l.getD j default).data.take (x.off - (l.getD j default).off).toNat ++ x.data).length : Int) := rfl
     have htl : ((l.getD j default).data.take (x.off - (l.getD j default).off).toNat ++ x.data).length ≤ 200000 := by omega
     by_cases h2 : (Pc.mk (l.getD j default).off ((l.getD j default).data.take (x.off - (l.getD j default).off).toNat ++ x.data)).fin < (l.getD j default).fin
     ·rw [hJ, if_pos h2] at hM2 hB2
      dsimp only at hB2
      have hd : ((l.getD j default).data.drop ((Pc.mk (l.getD j default).off ((l.getD j default).data.take (x.off - (l.getD j default).off).toNat ++ x.data)).fin - (l.getD j default).off).toNat).length ≤ 60 := by rw [List.length_drop]; omega
      repeat' (first
       | refine stp ?_
       | (apply K.g0; apply K.callF; refine cq (F := hE3) (G := ?_))
       | (apply KA.g0; apply KA.callF; first | refine cqa (F := hE1) (G := ?_) | refine cqa (F := hE3) (G := ?_))
       | (apply KA.g1; apply KA.callF; refine cqat (F := hE2) (G := ?_))
       | (refine DR.gS rfl rfl rfl ?_ ?_ <;> intro hb <;> (try have hb' := nrm hb) <;> try (exfalso; omega))
       | (apply K.rg 6; refine wdr [0, 0, 2, 7, 15, 31, 31, 127, 255, 511, 31, 1055, 4095, 8191] 12 [31, 32, 33, 34, 35, 36, 37, 38, 39, 40, 41, 42] [] ?_)
       | (apply K.rg 10; refine wdr [0, 1, 0, 4, 0, 16, 60, 127, 0, 256, 1023, 2047, 4095] 10 [56, 57, 58, 59, 60, 61, 62, 63, 64, 65] [] ?_)
       | (apply K.rg 12; refine wdr [0, 1, 0, 7, 15] 3 [71, 72, 73] [] ?_)
       | (apply K.rg 13; refine wdr [0, 1, 0, 4, 0, 16, 0, 64, 240, 508, 1023, 2047, 4095] 10 [76, 77, 78, 79, 80, 81, 82, 83, 84, 85] [] ?_)
       | refine dcl ?_)
      all_goals exact loopQ.n (k - 1) _ (by omega) ⟨j + 1, ⟨(l.getD j default).off, (l.getD j default).data.take (x.off - (l.getD j default).off).toNat ++ x.data ++ (l.getD j default).data.drop ((Pc.mk (l.getD j default).off ((l.getD j default).data.take (x.off - (l.getD j default).off).toNat ++ x.data)).fin - (l.getD j default).off).toNat⟩, by omega, by omega, by dsimp only; omega, hM2, by dsimp only; omega, rfl⟩ (imp (look [(3, 3), (700, 700)]))
     ·rw [hJ, if_neg h2] at hM2 hB2
      dsimp only at hB2
      repeat' (first
       | refine stp ?_
       | (apply K.g0; apply K.callF; refine cq (F := hE3) (G := ?_))
       | (apply KA.g0; apply KA.callF; refine cqa (F := hE1) (G := ?_))
       | (apply KA.g1; apply KA.callF; refine cqat (F := hE2) (G := ?_))
       | (refine DR.gS rfl rfl rfl ?_ ?_ <;> intro hb <;> (try have hb' := nrm hb) <;> try (exfalso; omega))
       | (apply K.rg 6; refine wdr [0, 0, 2, 7, 15, 31, 31, 127, 255, 511, 31, 1055, 4095, 8191] 12 [31, 32, 33, 34, 35, 36, 37, 38, 39, 40, 41, 42] [] ?_)
       | (apply K.rg 10; refine wdr [0, 1, 0, 4, 0, 16, 60, 127, 0, 256, 1023, 2047, 4095] 10 [56, 57, 58, 59, 60, 61, 62, 63, 64, 65] [] ?_)
       | (apply K.rg 12; refine wdr [0, 1, 0, 7, 15] 3 [71, 72, 73] [] ?_)
       | refine dcl ?_)
      all_goals exact loopQ.n (k - 1) _ (by omega) ⟨j + 1, ⟨(l.getD j default).off, (l.getD j default).data.take (x.off - (l.getD j default).off).toNat ++ x.data⟩, by omega, by omega, by dsimp only; omega, hM2, by dsimp only; omega, rfl⟩ (imp (look [(3, 3), (700, 700)]))
    ·have h1 : join1 (l.getD j default) x = x := if_neg hlt
     rw [h1] at hJ hB1
     by_cases h2 : x.fin < (l.getD j default).fin
     ·rw [hJ, if_pos h2] at hM2 hB2
      dsimp only at hB2
      have hd : ((l.getD j default).data.drop (x.fin - (l.getD j default).off).toNat).length ≤ 60 := by rw [List.length_drop]; omega
      repeat' (first
       | refine stp ?_
       | (apply K.g0; apply K.callF; refine cq (F := hE2) (G := ?_))
       | (apply KA.g0; apply KA.callF; first | refine cqa (F := hE1) (G := ?_) | refine cqa (F := hE2) (G := ?_))
       | (apply KA.g1; apply KA.callF; refine cqat (F := hE2) (G := ?_))
       | (refine DR.gS rfl rfl rfl ?_ ?_ <;> intro hb <;> (try have hb' := nrm hb) <;> try (exfalso; omega))
       | (apply K.rg 6; refine wdr [0, 0, 2, 7, 15, 31, 31, 127, 255, 511, 31, 1055, 4095, 8191] 12 [31, 32, 33, 34, 35, 36, 37, 38, 39, 40, 41, 42] [] ?_)
       | (apply K.rg 12; refine wdr [0, 1, 0, 7, 15] 3 [71, 72, 73] [] ?_)
       | (apply K.rg 13; refine wdr [0, 1, 0, 4, 0, 16, 0, 64, 240, 508, 1023, 2047, 4095] 10 [76, 77, 78, 79, 80, 81, 82, 83, 84, 85] [] ?_)
       | refine dcl ?_)
      all_goals exact loopQ.n (k - 1) _ (by omega) ⟨j + 1, ⟨x.off, x.data ++ (l.getD j default).data.drop (x.fin - (l.getD j default).off).toNat⟩, by omega, by omega, by dsimp only; omega, hM2, by dsimp only; omega, rfl⟩ (imp (look [(3, 3), (700, 700)]))
     ·rw [hJ, if_neg h2] at hM2 hB2
      repeat' (first
       | refine stp ?_
       | (apply K.g0; apply K.callF; refine cq (F := hE2) (G := ?_))
       | (apply KA.g0; apply KA.callF; refine cqa (F := hE1) (G := ?_))
       | (apply KA.g1; apply KA.callF; refine cqat (F := hE2) (G := ?_))
       | (refine DR.gS rfl rfl rfl ?_ ?_ <;> intro hb <;> (try have hb' := nrm hb) <;> try (exfalso; omega))
       | (apply K.rg 6; refine wdr [0, 0, 2, 7, 15, 31, 31, 127, 255, 511, 31, 1055, 4095, 8191] 12 [31, 32, 33, 34, 35, 36, 37, 38, 39, 40, 41, 42] [] ?_)
       | (apply K.rg 12; refine wdr [0, 1, 0, 7, 15] 3 [71, 72, 73] [] ?_)
       | refine dcl ?_)
      all_goals exact loopQ.n (k - 1) _ (by omega) ⟨j + 1, x, by omega, by omega, hxp, hM2, by omega, rfl⟩ (imp (look [(3, 3), (700, 700)]))
   ·have hE : mrgM (l.drop j) x = x :: l.drop j := mrgM_stop (fun r hr => by
     rw [hS, List.head?_cons] at hr
     obtain rfl := Option.some.inj hr
     exact hst)
    repeat' (first
     | refine stp ?_
     | (apply KA.g1; apply KA.callF; refine cqat (F := hE2) (G := ?_))
     | (refine DR.gS rfl rfl rfl ?_ ?_ <;> intro hb <;> (try have hb' := nrm hb) <;> try (exfalso; omega))
     | (apply K.rg 6; refine wdr [0, 0, 2, 7, 15, 31, 31, 127, 255, 511, 31, 1055, 4095, 8191] 12 [31, 32, 33, 34, 35, 36, 37, 38, 39, 40, 41, 42] [] ?_)
     | refine dcl ?_)
    all_goals rw [hM, hE]
    all_goals refine RetG.mk1 (ResV.tmp rfl) ?_
    all_goals exact LeV.f1 rfl (by simp only [List.length_append, List.length_cons, List.length_drop]; omega) (fun _ _ => cat_insG rfl rfl)
  ·obtain rfl : j = l.length := (by omega)
   have hE : mrgM (l.drop l.length) x = x :: l.drop l.length := mrgM_stop (fun r hr => by
    rw [List.drop_length] at hr
    cases hr)
   have hE2 := vmPieceEnd x (by omega) (by omega)
   repeat' (first
    | refine stp ?_
    | (refine DR.gS rfl rfl rfl ?_ ?_ <;> intro hb <;> (try have hb' := nrm hb) <;> try (exfalso; omega))
    | (apply K.rg 6; refine wdr [0, 0, 2, 7, 15, 31, 31, 127, 255, 511, 31, 1055, 4095, 8191] 12 [31, 32, 33, 34, 35, 36, 37, 38, 39, 40, 41, 42] [] ?_)
    | refine dcl ?_)
   rw [hM, hE]
   refine RetG.mk1 (ResV.tmp rfl) ?_
   exact LeV.f1 rfl (by simp only [List.length_append, List.length_cons, List.length_drop]; omega) (fun _ _ => cat_insG rfl rfl)
end Go.Proofs.YtjbhiglaginpeaaGreat
