/- Parts of the proof, joined from several texts. No condition. -/
import Derived.Deep.Quiet
import Derived.Test.YtjbhiglaginpeaaGreatQ7
import Derived.Test.YtjbhiglaginpeaaGreatQ5
import Derived.Test.YtjbhiglaginpeaaGreatQ3
set_option maxRecDepth 100000
set_option maxHeartbeats 16000000
set_option linter.unusedVariables false
set_option linter.unusedSimpArgs false
namespace Go.Proofs.YtjbhiglaginpeaaGreat
theorem getD_some {α : Type} [Inhabited α] {l : List α} {k : Nat} {x : α} (h : l[k]? = some x) : l.getD k default = x := by rw [List.getD_eq_getElem?_getD, h]; rfl
def RgBd (l : List Rg) : Prop := ∀ r ∈ l, (-1000000 ≤ r.lo ∧ r.lo ≤ 1000000) ∧ (-1000000 ≤ r.hi ∧ r.hi ≤ 1000000)
theorem rgOk_bd {l : List Rg} {last : Int} (h : rgOk last l) (hl : -2 ≤ last) : RgBd l := by
 induction l generalizing last with
 | nil => intro r hr; simp at hr
 | cons y ys ih =>
   intro r hr
   obtain ⟨a, b, c, d⟩ := h
   rcases List.mem_cons.1 hr with rfl | hr
   ·omega
   ·exact ih d (by omega) r hr
theorem addStep_bd {a : AddS} {r : Rg} (h1 : (-1000000 ≤ a.lo ∧ a.lo ≤ 1000000) ∧ (-1000000 ≤ a.hi ∧ a.hi ≤ 1000000)) (h2 : (-1000000 ≤ r.lo ∧ r.lo ≤ 1000000) ∧ (-1000000 ≤ r.hi ∧ r.hi ≤ 1000000)) :
 (-1000000 ≤ (addStep a r).lo ∧ (addStep a r).lo ≤ 1000000) ∧ (-1000000 ≤ (addStep a r).hi ∧ (addStep a r).hi ≤ 1000000) := by
 unfold addStep
 split
 ·exact h1
 ·split
  ·split <;> exact h1
  ·simp only; omega
theorem addTo_bd {l : List Rg} {lo hi : Int} (hl : RgBd l) (h : (-1000000 ≤ lo ∧ lo ≤ 1000000) ∧ (-1000000 ≤ hi ∧ hi ≤ 1000000)) : ∀ k : Nat, (-1000000 ≤ (addTo l lo hi k).lo ∧ (addTo l lo hi k).lo ≤ 1000000) ∧ (-1000000 ≤ (addTo l lo hi k).hi ∧ (addTo l lo hi k).hi ≤ 1000000)
 | 0 => h
 | k + 1 => by
   cases e : l[k]? with
   | none =>
     have : addTo l lo hi (k + 1) = addTo l lo hi k := by unfold addTo; rw [List.take_add_one, e]; simp
     rw [this]; exact addTo_bd hl h k
   | some r => rw [addTo_succ e]; exact addStep_bd (addTo_bd hl h k) (hl r (List.mem_of_getElem? e))
theorem addStep_len (a : AddS) (r : Rg) : (addStep a r).out.length + (if (addStep a r).put then 0 else 1) ≤ a.out.length + (if a.put then 0 else 1) + 1 := by
 unfold addStep
 split
 ·simp; split <;> omega
 ·split
  ·split
   ·rename_i h; simp [h]
   ·rename_i h; simp [h]
  ·simp
theorem addTo_len (l : List Rg) (lo hi : Int) : ∀ k : Nat, (addTo l lo hi k).out.length + (if (addTo l lo hi k).put then 0 else 1) ≤ k + 1
 | 0 => by simp [addTo_zero]
 | k + 1 => by
   have ih := addTo_len l lo hi k
   cases e : l[k]? with
   | none =>
     have : addTo l lo hi (k + 1) = addTo l lo hi k := by unfold addTo; rw [List.take_add_one, e]; simp
     rw [this]; omega
   | some r =>
     rw [addTo_succ e]
     have := addStep_len (addTo l lo hi k) r
     omega
theorem addStep_1 {a : AddS} {r : Rg} (h : r.hi < a.lo - 1) : addStep a r = ⟨a.out ++ [r], a.put, a.lo, a.hi⟩ := by unfold addStep; rw [if_pos h]
theorem addStep_2 {a : AddS} {r : Rg} (h : ¬ r.hi < a.lo - 1) (h2 : a.hi + 1 < r.lo) (hp : a.put = true) : addStep a r = ⟨a.out ++ [r], a.put, a.lo, a.hi⟩ := by unfold addStep; rw [if_neg h, if_pos h2, if_pos hp]
theorem addStep_3 {a : AddS} {r : Rg} (h : ¬ r.hi < a.lo - 1) (h2 : a.hi + 1 < r.lo) (hp : a.put = false) : addStep a r = ⟨a.out ++ [⟨a.lo, a.hi⟩, r], true, a.lo, a.hi⟩ := by unfold addStep; rw [if_neg h, if_pos h2, if_neg (by rw [hp]; simp)]
theorem addStep_4 {a : AddS} {r : Rg} (h : ¬ r.hi < a.lo - 1) (h2 : ¬ a.hi + 1 < r.lo) : addStep a r = ⟨a.out, a.put, min a.lo r.lo, max a.hi r.hi⟩ := by unfold addStep; rw [if_neg h, if_neg h2]
theorem SdOK.few {s : Sd} (h : SdOK s) : s.acked.length ≤ 16 ∧ s.lost.length ≤ 16 := by
 have hm := many_le h.len
 have hn := h.nxt
 exact ⟨few16 h.acked.1 h.acked.2 hn.1 (by omega), few16 h.lost.1 h.lost.2 hn.1 (by omega)⟩
theorem SdOK.bds {s : Sd} (h : SdOK s) : (0 ≤ s.next ∧ s.next ≤ 31) ∧ s.data.length ≤ 30 := by
 have hm := many_le h.len
 have hn := h.nxt
 have := h.len
 unfold bl at this
 omega
theorem Sent.bds {s : Sd} {p : Pt} (h : Sent s p) (hs : SdOK s) : (0 ≤ p.last ∧ p.last ≤ 31) ∧ p.data.length ≤ 30 ∧ 0 ≤ p.off ∧ p.off ≤ p.last := by
 have h1 := h.nxt
 have h2 := hs.bds
 have h3 := h.off
 have h4 := h.ne
 have h5 := h.end_
 unfold bl at h5
 omega
theorem loseTo_fit {s : Sd} {p : Pt} (hs : SdOK s) (hp : Sent s p) {i : Nat} (hi : i ≤ (p.last + 1 - p.off).toNat) : rgOk (-2) (loseTo s.acked s.lost p.off i) ∧ (loseTo s.acked s.lost p.off i).length ≤ 1000 := by
 have h1 := hp.nxt
 have h2 := hp.off
 have h3 := hs.bds
 have h4 := hp.ne
 have := (loseTo_all s.acked hs.lost h2.1 (show s.next ≤ 999 by omega) i (by omega)).1
 exact ⟨this.1, by have := few16 this.1 this.2 (by omega) (by omega); omega⟩
theorem lost_first {s : Sd} (hs : SdOK s) (h : 0 < s.lost.length) : 0 ≤ (s.lost.getD 0 default).lo ∧ (s.lost.getD 0 default).lo ≤ (s.lost.getD 0 default).hi ∧ (s.lost.getD 0 default).hi < s.next := by
 have h1 := hs.lost.1
 have h2 := hs.lost.2
 cases hl : s.lost with
 | nil => rw [hl] at h; simp at h
 | cons r t =>
   rw [hl] at h1 h2
   have h3 := h2 r List.mem_cons_self
   simp only [List.getD_cons_zero]
   obtain ⟨a, b, c, d⟩ := h1
   omega
theorem SdOK.nx {s : Sd} (h : SdOK s) : s.next ≤ (s.data.length : Int) + 1 := by
 have h1 := h.nxt.2
 unfold Sd.many bl at h1
 split at h1 <;> omega
theorem wns_bd {l : List Wn} (h : wnsValid l = true) : (1 ≤ l.length ∧ l.length ≤ 4) ∧ ∀ x ∈ l, (1 ≤ x.size ∧ x.size ≤ 64) ∧ (1 ≤ x.thr ∧ x.thr ≤ 64) ∧ (0 ≤ x.credit ∧ x.credit ≤ 999) ∧ (1 ≤ x.rtt ∧ x.rtt ≤ 99) := by
 unfold wnsValid at h
 simp only [Bool.and_eq_true, List.all_eq_true, inB_iff] at h
 refine ⟨by omega, fun x hx => ?_⟩
 have := h.1 x hx
 unfold wnOk at this
 simp only [Bool.and_eq_true, inB_iff] at this
 exact ⟨this.1.1, this.1.2, this.2.1, this.2.2⟩
theorem wn_foldl {β : Type} (f : β → Wn → β) (b : β) {l : List Wn} {k : Nat} {x : Wn} (h : l[k]? = some x) : (l.take (k + 1)).foldl f b = f ((l.take k).foldl f b) x := by
 rw [List.take_add_one, h, List.foldl_append]; rfl
theorem wn_q {x : Wn} (h1 : 1 ≤ x.size ∧ x.size ≤ 64) (h2 : 1 ≤ x.rtt ∧ x.rtt ≤ 99) : (0 ≤ x.size * 100000000 / (x.rtt * x.rtt) ∧ x.size * 100000000 / (x.rtt * x.rtt) ≤ 6400000000) ∧ (1 ≤ x.size * 10000 / x.rtt ∧ x.size * 10000 / x.rtt ≤ 640000) ∧ (1 ≤ x.rtt * x.rtt ∧ x.rtt * x.rtt ≤ 9801) := by
 have hr : 1 ≤ x.rtt * x.rtt ∧ x.rtt * x.rtt ≤ 9801 := by
  constructor
  ·have := Int.mul_le_mul h2.1 h2.1 (by omega) (by omega); omega
  ·have := Int.mul_le_mul h2.2 h2.2 (by omega) (by omega); omega
 refine ⟨⟨Int.ediv_nonneg (by omega) (by omega), ?_⟩, ⟨?_, ?_⟩, hr⟩
 ·exact Int.le_trans (Int.ediv_le_self _ (by omega)) (by omega)
 ·exact Int.le_ediv_of_mul_le (by omega) (by omega)
 ·exact Int.le_trans (Int.ediv_le_self _ (by omega)) (by omega)
theorem wnBest_bd {l : List Wn} (h : ∀ x ∈ l, (1 ≤ x.size ∧ x.size ≤ 64) ∧ (1 ≤ x.thr ∧ x.thr ≤ 64) ∧ (0 ≤ x.credit ∧ x.credit ≤ 999) ∧ (1 ≤ x.rtt ∧ x.rtt ≤ 99)) : ∀ k : Nat, (0 ≤ wnBest (l.take k) ∧ wnBest (l.take k) ≤ 6400000000) ∧ ((l.take k).length ≤ wnSum (l.take k) ∧ wnSum (l.take k) ≤ 640000 * (l.take k).length)
 | 0 => by simp [wnBest, wnSum]
 | k + 1 => by
   have ih := wnBest_bd h k
   cases e : l[k]? with
   | none =>
     have : l.take (k + 1) = l.take k := by rw [List.take_add_one, e]; simp
     rw [this]; exact ih
   | some x =>
     obtain ⟨a, b, c, d⟩ := h x (List.mem_of_getElem? e)
     obtain ⟨q1, q2, q3⟩ := wn_q a d
     have hl : (l.take (k + 1)).length = (l.take k).length + 1 := by rw [List.take_add_one, e]; simp
     have e1 : wnBest (l.take (k + 1)) = max (wnBest (l.take k)) (x.size * 100000000 / (x.rtt * x.rtt)) := wn_foldl _ _ e
     have e2 : wnSum (l.take (k + 1)) = wnSum (l.take k) + x.size * 10000 / x.rtt := wn_foldl _ _ e
     rw [e1, e2, hl]
     omega
theorem wnInc_bd2 {l : List Wn} {i : Nat} (hi : i < l.length) (h : ∀ x ∈ l, (1 ≤ x.size ∧ x.size ≤ 64) ∧ (1 ≤ x.thr ∧ x.thr ≤ 64) ∧ (0 ≤ x.credit ∧ x.credit ≤ 999) ∧ (1 ≤ x.rtt ∧ x.rtt ≤ 99)) : 0 ≤ wnInc l i ∧ wnInc l i ≤ 1000 := by
 have hx : l[i]? = some l[i] := List.getElem?_eq_getElem hi
 obtain ⟨x1, _, _, _⟩ := h _ (List.mem_of_getElem? hx)
 have hb := wnBest_bd h l.length
 rw [List.take_length] at hb
 unfold wnInc
 rw [getD_some hx]
 have u1 : 0 ≤ 1000 * wnBest l / (wnSum l * wnSum l) := Int.ediv_nonneg (by omega) (Int.mul_nonneg (by omega) (by omega))
 have u3 : 0 ≤ 1000 / l[i].size := Int.ediv_nonneg (by omega) (by omega)
 have u4 : 1000 / l[i].size ≤ 1000 := Int.ediv_le_self _ (by omega)
 omega
theorem ready_bd {x : Rv} (h : RvOK x) : 0 ≤ rvReady x ∧ x.read + rvReady x ≤ 30 := by
 unfold rvReady
 have hr := h.read
 have hl := h.lim
 cases hp : x.pieces with
 | nil => simp only; omega
 | cons p t =>
   simp only
   split
   ·omega
   ·have h1 := h.pcs
    rw [hp] at h1
    have h2 := pc_low h1 p List.mem_cons_self
    unfold Pc.fin at h2
    have : (0 : Int) ≤ bl p.data := by unfold bl; omega
    omega
theorem ready_head {x : Rv} (h : RvOK x) (hz : rvReady x ≠ 0) : 0 < x.pieces.length ∧ ∀ p, x.pieces[0]? = some p → p.data.length ≤ 100 ∧ rvReady x ≤ (p.data.length : Int) := by
 have hl := h.lim
 have hrd := h.read
 unfold rvReady at hz ⊢
 cases hp : x.pieces with
 | nil => rw [hp] at hz; exact absurd rfl hz
 | cons p t =>
   refine ⟨Nat.succ_pos _, fun q hq => ?_⟩
   rw [List.getElem?_cons_zero] at hq
   obtain rfl := Option.some.inj hq
   have h1 := h.pcs
   rw [hp] at h1
   have h2 := pc_low h1 p List.mem_cons_self
   unfold Pc.fin bl at h2
   simp only
   unfold bl
   split <;> refine ⟨by omega, by omega⟩
end Go.Proofs.YtjbhiglaginpeaaGreat
namespace Go.Proofs.YtjbhiglaginpeaaGreat
open Go.RowKit
theorem rep_sc {w : World} {ok : Nat → Prop} {u v : Value} (h : Rep w ok u (.sc v)) : u = v := by cases h; rfl
theorem rgS_of {w : World} {ok : Nat → Prop} {u : Value} {l : List Rg} (h : Rep w ok u (dL 2 eRg l)) (hb : ∀ r ∈ l, I64 r.lo ∧ I64 r.hi) : ∃ A c, u = .slice A l.length c ∧ RgS w ok A l.length c l := by
 unfold dL at h
 cases h with
 | @sl A n c k f us b o hn hc hA hb' hl hu hr =>
   refine ⟨A, c, rfl, rfl, hn, hc, hA, l.map RgE, by simp, fun x hx => ?_, fun i cs x h1 h2 => ?_, ?_, fun h0 => ?_⟩
   ·obtain ⟨y, _, rfl⟩ := List.mem_map.1 hx; rfl
   ·rw [List.getElem?_map, h2] at h1
    injection h1 with h1
    exact ⟨h1.symm, hb x (List.mem_of_getElem? h2)⟩
   ·rw [flatten_len (size := 2) (fun x hx => by obtain ⟨y, _, rfl⟩ := List.mem_map.1 hx; rfl)]; simp
   ·obtain ⟨rfl, hok⟩ := hb' h0
    refine ⟨b, o, rfl, hok, fun j v hj => ?_⟩
    have hlen : ((l.map RgE).flatten).length = l.length * 2 := by rw [flatten_len (size := 2) (fun x hx => by obtain ⟨y, _, rfl⟩ := List.mem_map.1 hx; rfl)]; simp
    have hj2 : j < l.length * 2 := by rw [← hlen]; exact (List.getElem?_eq_some_iff.1 hj).1
    have hi : j / 2 < l.length := by omega
    have he : l[j / 2]? = some (l.getD (j / 2) default) := by rw [List.getD_eq_getElem?_getD, List.getElem?_eq_getElem hi]; rfl
    have e1 : j = j / 2 * 2 + j % 2 := by omega
    have h3 := flatten_get (css := l.map RgE) (size := 2) (fun x hx => by obtain ⟨y, _, rfl⟩ := List.mem_map.1 hx; rfl) (k := j / 2) (j := j % 2) (cs := RgE (l.getD (j / 2) default)) (by rw [List.getElem?_map, he]; rfl) (by omega)
    rw [← e1, hj] at h3
    have h4 := hu (j / 2) (j % 2) hi (by omega)
    rw [Nat.add_assoc, ← e1] at h4
    rw [h4]
    have h5 : j % 2 = 0 ∨ j % 2 = 1 := by omega
    rcases h5 with h5 | h5
    ·rw [h5] at h3 ⊢
     have := rep_sc (hr (j / 2) 0 _ hi rfl)
     rw [this]
     exact h3.symm
    ·rw [h5] at h3 ⊢
     have := rep_sc (hr (j / 2) 1 _ hi rfl)
     rw [this]
     exact h3.symm
theorem vmHas (l : List Rg) (x : Int) (hb : RgBd l) : FnP Tryz.prog 38 [.d (dL 2 eRg l), aI x] (aB (hasR l x)) := by
 refine ⟨⟨_, Tryz.func38, by kernel_rfl, by kernel_rfl⟩, fun z w ok us hok hus => ?_⟩
 obtain ⟨hl, hv⟩ := hus
 match us, hl with
 | [u, v], _ =>
   have h1 := hv 0 _ u rfl rfl
   have h2 := hv 1 _ v rfl rfl
   cases h1 with
   | d h1 =>
     cases h2 with
     | d h2 =>
       obtain ⟨A, c, rfl, hS⟩ := rgS_of h1 (fun r hr => by have := hb r hr; unfold I64; omega)
       obtain rfl := rep_sc h2
       refine (has_any A l.length c l x w ok hS (fun b hb' => hok b hb')).mono ?_
       rintro e w' ⟨rfl, hbl⟩
       exact ⟨_, rfl, .d (.sc rfl), hbl⟩
theorem timeOf_no {l : List Pk} {n : Int} {i : Nat} (hi : l.length ≤ i) (h : ∀ j, j < i → ¬ (l.getD j default).num = n) : timeOf l n = none := by
 unfold timeOf
 rw [List.find?_eq_none.2]
 ·rfl
 ·intro c hc
  obtain ⟨j, hj, rfl⟩ := List.getElem_of_mem hc
  have := h j (by omega)
  rw [List.getD_eq_getElem?_getD, List.getElem?_eq_getElem hj] at this
  simpa using this
theorem timeOf_yes {l : List Pk} {n : Int} {i : Nat} (hi : i < l.length) (h : ∀ j, j < i → ¬ (l.getD j default).num = n) (hn : (l.getD i default).num = n) : timeOf l n = some (l.getD i default).time := by
 unfold timeOf
 rw [List.getD_eq_getElem?_getD, List.getElem?_eq_getElem hi] at hn ⊢
 rw [List.find?_eq_some_iff_getElem.2 ⟨by simpa using hn, i, hi, rfl, fun j hj => ?_⟩]
 ·rfl
 ·have := h j hj
  rw [List.getD_eq_getElem?_getD, List.getElem?_eq_getElem (by omega)] at this
  simpa using this
theorem vl51Sent (x : Ls) (n : Int) (h : x.flight.length ≤ 1000) : FnP Tryz.prog 192 [.ag (av (eLs x)), aI n] (aI ((timeOf x.flight n).getD 0)) := by
 refine fP Tryz.func192 Tryz.ntmps192 Tryz.results192 ?_
 repeat' (first
  | refine stp ?_
  | fail)
 refine WC.loop (fun k s => ∃ i, k + i = x.flight.length ∧ (∀ j, j < i → ¬ (x.flight.getD j default).num = n) ∧ s = ⟨⟨27, []⟩, [(1, aI n), (2, .ptr 2 0), (5, aI i)], [(2, .blk (av (eLs x)))]⟩) x.flight.length ⟨0, rfl, fun j hj => absurd hj (Nat.not_lt_zero j), rfl⟩ (imp (look [(2, 2)])) ?_
 rintro k s ⟨i, hk, hn, rfl⟩
 repeat' (first
  | refine stp ?_
  | (refine WC.cond rfl ?_ ?_ <;> intro hb <;> (try have hb' := nrm hb) <;> try (exfalso; omega)))
 all_goals first
  | (rw [timeOf_yes (i := i) (by omega) hn (by assumption), Option.getD_some]; (exact ret1))
  | (rw [timeOf_no (i := i) (by omega) hn, Option.getD_none]; (exact ret1))
  | (refine loopQ.n (k - 1) _ (by omega) ⟨i + 1, by omega, fun j hj => (Nat.lt_succ_iff_lt_or_eq.1 hj).elim (hn j) (fun e => by intro h1; rw [e] at h1; exact absurd h1 (by assumption)), rfl⟩ (imp (look [(2, 2)])); done)
theorem vl32Last (p : Pt) (h : -100000 ≤ p.off ∧ p.off ≤ 100000) (h' : p.data.length ≤ 1000) : FnP Tryz.prog 195 [.ag (av (ePt p))] (aI p.last) := by
 refine fP Tryz.func195 Tryz.ntmps195 Tryz.results195 ?_
 repeat' (first
  | refine stp ?_
  | (refine WC.cond rfl ?_ ?_ <;> intro hb <;> (try have hb' := nrm hb) <;> try (exfalso; omega)))
 all_goals first
  | (rw [show p.last = p.off + p.data.length from if_pos (by assumption)]; (exact ret1))
  | (rw [show p.last = p.off + p.data.length - 1 from if_neg (by simp [*])]; (exact ret1))
theorem vl6In (n lo hi : Int) : FnP Tryz.prog 52 [aI n, aI lo, aI hi] (aB (inB n lo hi)) := by
 refine fP Tryz.func52 Tryz.ntmps52 Tryz.results52 ?_
 repeat' (first
  | refine stp ?_
  | (refine R.gS rfl rfl rfl ?_ ?_ <;> intro hb <;> (try have hb' := nrm hb) <;> try (exfalso; omega))
  | fail)
 all_goals first
  | (rw [show inB n lo hi = decide (n ≤ hi) from by unfold inB; rw [decide_eq_true (by omega)]; rfl]; (exact ret1))
  | (rw [show inB n lo hi = false from by unfold inB; rw [decide_eq_false (by omega)]; rfl]; (exact ret1))
theorem hasR_no {l : List Rg} {n : Int} {i : Nat} (hi : l.length ≤ i) (h : ∀ j, j < i → inB n (l.getD j default).lo (l.getD j default).hi = false) : hasR l n = false := by
 unfold hasR
 rw [List.any_eq_false]
 intro c hc
 obtain ⟨j, hj, rfl⟩ := List.getElem_of_mem hc
 have := h j (by omega)
 rw [List.getD_eq_getElem?_getD, List.getElem?_eq_getElem hj, Option.getD_some] at this
 unfold inB at this
 rw [this]
 exact Bool.false_ne_true
theorem hasR_yes {l : List Rg} {n : Int} {i : Nat} (hi : i < l.length) (h : inB n (l.getD i default).lo (l.getD i default).hi = true) : hasR l n = true := by
 unfold hasR
 rw [List.any_eq_true]
 refine ⟨l[i], List.getElem_mem hi, ?_⟩
 rw [List.getD_eq_getElem?_getD, List.getElem?_eq_getElem hi, Option.getD_some] at h
 exact h
theorem vl2Has (l : List Rg) (n : Int) (h : l.length ≤ 10000000) : FnP Tryz.prog 162 [.d (dL 2 eRg l), aI n] (aB (hasR l n)) := by
 refine fP Tryz.func162 Tryz.ntmps162 Tryz.results162 ?_
 repeat' (first
  | refine stp ?_
  | fail)
 refine WC.loop (fun k s => ∃ i, k + i = l.length ∧ (∀ j, j < i → inB n (l.getD j default).lo (l.getD j default).hi = false) ∧ s = ⟨⟨24, []⟩, [(0, .d (dL 2 eRg l)), (1, aI n), (5, aI i)], []⟩) l.length ⟨0, rfl, fun j hj => absurd hj (Nat.not_lt_zero j), rfl⟩ (imp (look [])) ?_
 rintro k s ⟨i, hk, hn, rfl⟩
 repeat' (first
  | refine stp ?_
  | (apply K.g0; apply K.callF; refine cq (F := vl6In _ _ _) (G := ?_))
  | (refine WC.cond rfl ?_ ?_ <;> intro hb <;> (try have hb' := nrm hb) <;> try (exfalso; omega))
  | (apply K.rg 4; refine wdr [0, 0, 0, 6, 14, 30, 0, 0, 192, 448, 960, 2047] 11 [12, 13, 14, 15, 16, 17, 18, 19, 20, 21, 22] [] ?_)
  | refine dcl ?_)
 all_goals first
  | (rw [hasR_yes (i := i) (by omega) (by assumption)]; (exact ret1))
  | (rw [hasR_no (i := i) (by omega) hn]; (exact ret1))
  | (refine loopQ.n (k - 1) _ (by omega) ⟨i + 1, by omega, fun j hj => (Nat.lt_succ_iff_lt_or_eq.1 hj).elim (hn j) (fun e => by rw [e]; assumption), rfl⟩ (imp (look [])); done)
theorem rvReady_nil {x : Rv} (h : x.pieces.length = 0) : rvReady x = 0 := by unfold rvReady; rw [List.length_eq_zero_iff.1 h]
theorem rvReady_no {x : Rv} (h : 0 < x.pieces.length) (h2 : (x.pieces.getD 0 default).off > x.read) : rvReady x = 0 := by
 unfold rvReady
 cases hp : x.pieces with
 | nil => rfl
 | cons p t => rw [hp] at h2; simp only [List.getD_cons_zero] at h2; simp only []; first | (rw [if_neg (by omega)]; done) | (rw [if_pos (by omega)]; done) | (split <;> first | rfl | omega)
theorem rvReady_yes {x : Rv} (h : 0 < x.pieces.length) (h2 : ¬ (x.pieces.getD 0 default).off > x.read) : rvReady x = ((x.pieces.getD 0 default).data.length : Int) := by
 unfold rvReady
 cases hp : x.pieces with
 | nil => rw [hp] at h; simp at h
 | cons p t => rw [hp] at h2; simp only [List.getD_cons_zero] at h2; simp only [List.getD_cons_zero]; rw [if_neg (by omega)]; rfl
theorem vl31Ready (x : Rv) (h : x.pieces.length ≤ 1000) : FnP Tryz.prog 156 [.ag (av (eRv x))] (aI (rvReady x)) := by
 refine fP Tryz.func156 Tryz.ntmps156 Tryz.results156 ?_
 repeat' (first
  | refine stp ?_
  | (refine DR.gS rfl rfl rfl ?_ ?_ <;> intro hb <;> (try have hb' := nrm hb) <;> try (exfalso; omega))
  | (refine WC.cond rfl ?_ ?_ <;> intro hb <;> (try have hb' := nrm hb) <;> try (exfalso; omega))
  | (apply K.rg 1; refine wdr [0, 1, 3, 7, 15, 31, 63, 127, 255, 511, 31, 1055, 4095, 8191] 12 [3, 4, 5, 6, 7, 8, 9, 10, 11, 12, 13, 14] [] ?_)
  | refine dcl ?_)
 all_goals first
  | (rw [rvReady_nil (by omega)]; (exact ret1))
  | (rw [rvReady_no (by omega) (by assumption)]; (exact ret1))
  | (rw [rvReady_yes (by omega) (by assumption)]; (exact ret1))
theorem vl2Add (l : List Rg) (lo hi : Int) (h : l.length ≤ 1000) (hb : RgBd l) (hlo : (-1000000 ≤ lo ∧ lo ≤ 1000000) ∧ (-1000000 ≤ hi ∧ hi ≤ 1000000)) : FnP Tryz.prog 122 [.d (dL 2 eRg l), aI lo, aI hi] (.d (dL 2 eRg (addEnd (addTo l lo hi l.length)))) := by
 refine fP Tryz.func122 Tryz.ntmps122 Tryz.results122 ?_
 repeat' (first
  | refine stp ?_
  | fail)
 refine WC.loop (fun k s => ∃ i a, k + i = l.length ∧ a = addTo l lo hi i ∧ s = ⟨⟨80, []⟩, [(0, .d (dL 2 eRg l)), (1, aI a.lo), (2, aI a.hi), (7, .own 700 a.out.length), (8, aB a.put), (9, aI i)], [(700, hL 116 2 eRg a.out)]⟩) l.length ⟨0, ⟨[], false, lo, hi⟩, rfl, rfl, rfl⟩ (imp (look [])) ?_
 rintro k s ⟨i, a, hk, ha, rfl⟩
 have hS : i < l.length → addTo l lo hi (i + 1) = addStep a (l.getD i default) := fun h => by rw [ha, addTo_succ (r := l.getD i default)]; rw [List.getD_eq_getElem?_getD, List.getElem?_eq_getElem h]; rfl
 have hbd : (-1000000 ≤ a.lo ∧ a.lo ≤ 1000000) ∧ (-1000000 ≤ a.hi ∧ a.hi ≤ 1000000) := by rw [ha]; exact addTo_bd hb hlo i
 have hln : a.out.length ≤ i + 1 := by have := addTo_len l lo hi i; rw [← ha] at this; omega
 repeat' (first
  | refine stp ?_
  | (refine WC.cond rfl ?_ ?_ <;> intro hb <;> (try have hb' := nrm hb) <;> try (exfalso; omega)))
 all_goals first
  | (obtain rfl : i = l.length := (by omega)
     rw [← ha, addEnd, if_pos (by assumption)]; (exact ret1))
  | (obtain rfl : i = l.length := (by omega)
     rw [← ha, addEnd, if_neg (by rw [show a.put = false from by assumption]; exact Bool.false_ne_true)]; (exact ret1))
  | (refine loopQ.n (k - 1) _ (by omega) ⟨i + 1, ⟨a.out ++ [l.getD i default], a.put, a.lo, a.hi⟩, by omega, ((hS (by omega)).trans (addStep_1 (by omega))).symm, rfl⟩ (imp (look [(700, 46)])); done)
  | (refine loopQ.n (k - 1) _ (by omega) ⟨i + 1, ⟨a.out ++ [l.getD i default], a.put, a.lo, a.hi⟩, by omega, ((hS (by omega)).trans (addStep_2 (by omega) (by omega) (by assumption))).symm, rfl⟩ (imp (look [(700, 70)])); done)
  | (refine loopQ.n (k - 1) _ (by omega) ⟨i + 1, ⟨a.out ++ [⟨a.lo, a.hi⟩] ++ [l.getD i default], true, a.lo, a.hi⟩, by omega, ((hS (by omega)).trans ((addStep_3 (by omega) (by omega) (by assumption)).trans (by simp))).symm, rfl⟩ (imp (look [(700, 70)])); done)
  | (refine loopQ.n (k - 1) _ (by omega) ⟨i + 1, ⟨a.out, a.put, min a.lo (l.getD i default).lo, max a.hi (l.getD i default).hi⟩, by omega, ((hS (by omega)).trans (addStep_4 (by omega) (by omega))).symm, rfl⟩ (imp (look [(700, 700)])); done)
def sndR (x : Ls) : Option (Ls × Int) → AV
 | some (l, n) => .tu [.ag (av (eLs l)), aI n, aB true]
 | none => .tu [.ag (av (eLs x)), aI (-1), aB false]
theorem sndR_no (x : Ls) (o : Option (Ls × Int)) : noId (sndR x o) = true := by rcases o with _ | ⟨l, n⟩ <;> rfl
theorem lsSend_last {x : Ls} (h : 0 < x.flight.length) : x.flight.getLast? = some (x.flight.getD ((x.flight.length : Int) - 1).toNat default) := by
 have e : ((x.flight.length : Int) - 1).toNat = x.flight.length - 1 := by omega
 rw [e, List.getLast?_eq_getElem?, List.getD_eq_getElem?_getD, List.getElem?_eq_getElem (by omega)]
 rfl
theorem lsSend_no {x : Ls} {t z : Int} (h : x.next > 999 ∨ x.flight.length = 12 ∨ (0 < x.flight.length ∧ (x.flight.getD ((x.flight.length : Int) - 1).toNat default).time > t)) : lsSend x t z = none := by
 unfold lsSend
 rw [if_pos]
 rcases h with h | h | ⟨h1, h2⟩
 ·simp [h]
 ·simp [h]
 ·rw [lsSend_last h1]; simp only [Bool.or_eq_true, decide_eq_true_eq]; omega
theorem lsSend_yes {x : Ls} {t z : Int} (h1 : ¬ x.next > 999) (h2 : ¬ x.flight.length ≥ 12) (h3 : 0 < x.flight.length → ¬ (x.flight.getD ((x.flight.length : Int) - 1).toNat default).time > t) : lsSend x t z = some ({ x with flight := x.flight ++ [⟨x.next, t, z⟩], next := x.next + 1 }, x.next) := by
 unfold lsSend
 rw [if_neg]
 rcases Nat.eq_zero_or_pos x.flight.length with h0 | h0
 ·rw [show x.flight.getLast? = none by rw [List.length_eq_zero_iff.1 h0]; rfl]; simp; omega
 ·have := h3 h0
  rw [lsSend_last h0]; simp only [Bool.or_eq_true, decide_eq_true_eq]; omega
theorem vl22Send (x : Ls) (t z : Int) (h : x.flight.length ≤ 12) (hn : 0 ≤ x.next ∧ x.next ≤ 1000) : FnP Tryz.prog 114 [.ag (av (eLs x)), aI t, aI z] (sndR x (lsSend x t z)) := by
 refine FnP.intro Tryz.func114 rfl (by kernel_rfl) Tryz.ntmps114 Tryz.results114 (Nat.le_of_ble_eq_true rfl) (sndR_no _ _) ?_
 repeat' (first
  | refine stp ?_
  | (apply K.g0; apply K.callF; refine chq (F := vl22CopyH x (by omega)) (G := ?_))
  | (refine R.gS rfl rfl rfl ?_ ?_ <;> intro hb <;> (try have hb' := nrm hb) <;> try (exfalso; omega))
  | (refine WC.cond rfl ?_ ?_ <;> intro hb <;> (try have hb' := nrm hb) <;> try (exfalso; omega))
  | (apply K.rg 7; refine WC.drawD (ms := [0, 0, 2, 1, 15, 31]) 4 [54, 55, 56] [(3, [6])] (by kernel_rfl) (by kernel_rfl) ?_)
  | refine dcl ?_)
 all_goals (first
  | (rw [lsSend_no (by omega)]; (exact ret3))
  | (rw [lsSend_yes (by omega) (by omega) (by omega)]; (exact ret3)))
theorem remP_snoc (l : List Rg) (r : Rg) (lo hi : Int) : remP (l ++ [r]) lo hi = remP l lo hi ++ remOne r lo hi := by simp [remP]
theorem take_snoc {α : Type} [Inhabited α] {l : List α} {i : Nat} (h : i < l.length) : l.take (i + 1) = l.take i ++ [l.getD i default] := by
 rw [List.take_succ_eq_append_getElem h, List.getD_eq_getElem?_getD, List.getElem?_eq_getElem h]; rfl
theorem remP_len (l : List Rg) (lo hi : Int) : (remP l lo hi).length ≤ 2 * l.length := by
 induction l with
 | nil => simp [remP]
 | cons r t ih => rw [remP_cons, List.length_append, List.length_cons]; have : (remOne r lo hi).length ≤ 2 := by unfold remOne; split <;> split <;> simp
                  omega
theorem vl2Remove (l : List Rg) (lo hi : Int) (h : l.length ≤ 1000) (hlo : -100000 ≤ lo ∧ lo ≤ 100000) (hhi : -100000 ≤ hi ∧ hi ≤ 100000) : FnP Tryz.prog 159 [.d (dL 2 eRg l), aI lo, aI hi] (.d (dL 2 eRg (remP l lo hi))) := by
 refine fP Tryz.func159 Tryz.ntmps159 Tryz.results159 ?_
 repeat' (first
  | refine stp ?_
  | fail)
 refine WC.loop (fun k s => ∃ i L, k + i = l.length ∧ L = remP (l.take i) lo hi ∧ s = ⟨⟨65, []⟩, [(0, .d (dL 2 eRg l)), (1, aI lo), (2, aI hi), (7, .own 700 L.length), (8, aI i)], [(700, hL 116 2 eRg L)]⟩) l.length ⟨0, [], rfl, rfl, rfl⟩ (imp (look [])) ?_
 rintro k s ⟨i, L, hk, hL, rfl⟩
 have hS : i < l.length → remP (l.take (i + 1)) lo hi = L ++ remOne (l.getD i default) lo hi := fun h => by rw [take_snoc h, remP_snoc, hL]
 have hlen : L.length ≤ 2000 := by rw [hL]; have := remP_len (l.take i) lo hi; rw [List.length_take] at this; omega
 repeat' (first
  | refine stp ?_
  | (refine WC.cond rfl ?_ ?_ <;> intro hb <;> (try have hb' := nrm hb) <;> try (exfalso; omega))
  | (apply K.rg 6; refine wdr [0, 0, 0, 6, 14, 30, 0, 0, 192, 448, 960, 0, 2048, 8128, 16382, 32766, 65535, 131071] 16 [23, 24, 25, 26, 27, 28, 29, 30, 31, 32, 33, 34, 35, 36, 37, 38] [] ?_)
  | (apply K.rg 8; refine wdr [0, 0, 0, 6, 14, 30, 0, 64, 254, 0, 0, 1536, 3584, 7680, 16382, 32766, 65535, 131071] 16 [47, 48, 49, 50, 51, 52, 53, 54, 55, 56, 57, 58, 59, 60, 61, 62] [] ?_)
  | refine dcl ?_)
 all_goals first
  | (obtain rfl : L = remP l lo hi := (by rw [hL, List.take_of_length_le (by omega)])
     (exact ret1))
  | (refine loopQ.n (k - 1) _ (by omega) ⟨i + 1, L, by omega, ((hS (by omega)).trans (by rw [remOne, if_neg (by omega), if_neg (by omega)]; simp)).symm, rfl⟩ (imp (look [(700, 700)])); done)
  | (refine loopQ.n (k - 1) _ (by omega) ⟨i + 1, L ++ [⟨(l.getD i default).lo, min (l.getD i default).hi (lo - 1)⟩], by omega, ((hS (by omega)).trans (by rw [remOne, if_pos (by omega), if_neg (by omega)]; simp)).symm, rfl⟩ (imp (look [(700, 39)])); done)
  | (refine loopQ.n (k - 1) _ (by omega) ⟨i + 1, L ++ [⟨max (l.getD i default).lo (hi + 1), (l.getD i default).hi⟩], by omega, ((hS (by omega)).trans (by rw [remOne, if_neg (by omega), if_pos (by omega)]; simp)).symm, rfl⟩ (imp (look [(700, 63)])); done)
  | (refine loopQ.n (k - 1) _ (by omega) ⟨i + 1, L ++ [⟨(l.getD i default).lo, min (l.getD i default).hi (lo - 1)⟩] ++ [⟨max (l.getD i default).lo (hi + 1), (l.getD i default).hi⟩], by omega, ((hS (by omega)).trans (by rw [remOne, if_pos (by omega), if_pos (by omega)]; simp)).symm, rfl⟩ (imp (look [(700, 63)])); done)
theorem vl2AddP (l : List Rg) (lo hi : Int) (h : l.length ≤ 1000) (hl : rgOk (-2) l) (hlo : lo ≤ hi) (hb : -1000000 ≤ lo ∧ hi ≤ 1000000) : FnP Tryz.prog 122 [.d (dL 2 eRg l), aI lo, aI hi] (.d (dL 2 eRg (addP l lo hi))) := by
 rw [← l2Add_eq hl hlo]
 exact vl2Add l lo hi h (rgOk_bd hl (by omega)) (by omega)
theorem vl32Part (s : Sd) (lo hi : Int) (h : s.data.length ≤ 1000) (h0 : 0 ≤ lo ∧ lo ≤ s.data.length) (h1 : -100000 ≤ hi ∧ hi ≤ 100000) : FnP Tryz.prog 160 [.ag (av (eSd s)), aI lo, aI hi] (.ag (av (ePt (sPart s lo hi)))) := by
 refine fP Tryz.func160 Tryz.ntmps160 Tryz.results160 ?_
 repeat' (first
  | refine stp ?_
  | (apply K.rg 2; refine wdr [0, 0, 2, 0, 0, 0, 48, 126, 0, 0, 512, 1536, 3840, 8191, 16383] 13 [14, 15, 16, 17, 18, 19, 20, 21, 22, 23, 24, 25, 26] [] ?_)
  | refine dcl ?_)
 (exact ret1)
theorem vl32Ack (s : Sd) (p : Pt) (hs : SdOK s) (hp : Sent s p) : FnP Tryz.prog 166 [.ag (av (eSd s)), .ag (av (ePt p))] (.ag (av (eSd (sdAck s p)))) := by
 obtain ⟨f1, f2⟩ := hs.few
 obtain ⟨b1, b2, b3⟩ := hp.bds hs
 refine fP Tryz.func166 Tryz.ntmps166 Tryz.results166 ?_
 repeat' (first
  | refine stp ?_
  | (apply K.g0; apply K.callF; first | refine cq (F := vl32Copy s (by omega) (by omega)) (G := ?_) | refine cq (F := vl2AddP s.acked p.off p.last (by omega) hs.acked.1 (by omega) (by omega)) (G := ?_) | refine cq (F := vl2Remove s.lost p.off p.last (by omega) (by omega) (by omega)) (G := ?_))
  | (apply KA.g0; apply KA.callF; refine cqa (F := vl32Last p (by omega) (by omega)) (G := ?_))
  | (apply K.rg 2; refine wdr [0, 1, 0, 4, 0, 16, 63, 127, 255] 6 [8, 9, 10, 11, 12, 13] [] ?_)
  | (apply K.rg 3; refine wdr [0, 1, 0, 4, 0, 16, 63, 127, 255] 6 [16, 17, 18, 19, 20, 21] [] ?_)
  | refine dcl ?_)
 (exact ret1)
theorem vl32Loss (s : Sd) (p : Pt) (hs : SdOK s) (hp : Sent s p) : FnP Tryz.prog 167 [.ag (av (eSd s)), .ag (av (ePt p))] (.ag (av (eSd (sdLoss s p)))) := by
 obtain ⟨f1, f2⟩ := hs.few
 obtain ⟨b1, b2, b3⟩ := hp.bds hs
 refine fP Tryz.func167 Tryz.ntmps167 Tryz.results167 ?_
 repeat' (first
  | refine stp ?_
  | (apply K.g0; apply K.callF; refine cq (F := vl32Copy s (by omega) (by omega)) (G := ?_))
  | fail)
 refine WC.loop (fun k s' => ∃ i : Nat, k + i = (p.last + 1 - p.off).toNat ∧ s' = ⟨⟨29, []⟩, [(2, .ptr 2 0), (3, .ptr 3 0), (4, .ptr 4 0), (5, .ptr 5 0), (6, aI (p.off + i))], [(2, .blk (av (eSd s))), (3, .blk (av (ePt p))), (4, .blk (av (eSd default))), (5, .blk (av (eSd { s with lost := loseTo s.acked s.lost p.off i })))]⟩) (p.last + 1 - p.off).toNat ⟨0, by omega, rfl⟩ (imp (look [(2, 2), (3, 3), (4, 4), (5, 5)])) ?_
 rintro k s ⟨i, hk, rfl⟩
 have hM : rgOk (-2) (loseTo s.acked s.lost p.off i) ∧ (loseTo s.acked s.lost p.off i).length ≤ 1000 := loseTo_fit hs hp (by omega)
 obtain ⟨hM1, hM2⟩ := hM
 repeat' (first
  | refine stp ?_
  | (apply K.g0; apply K.callF; first | refine cq (F := vl32Last p (by omega) (by omega)) (G := ?_) | refine cq (F := vl2Has s.acked (p.off + i) (by omega)) (G := ?_) | refine cq (F := vl2AddP (loseTo s.acked s.lost p.off i) (p.off + i) (p.off + i) hM2 hM1 (by omega) (by omega)) (G := ?_))
  | (refine WC.cond rfl ?_ ?_ <;> intro hb <;> (try have hb' := nrm hb) <;> try (exfalso; omega)))
 all_goals first
  | (obtain rfl : i = (p.last + 1 - p.off).toNat := (by omega)
     (exact ret1))
  | (refine loopQ.n (k - 1) _ (by omega) ⟨i + 1, by omega, rfl⟩ ?_
     rw [show loseTo s.acked s.lost p.off (i + 1) = loseTo s.acked s.lost p.off i from if_pos (by assumption), show p.off + ((i + 1 : Nat) : Int) = p.off + i + 1 by omega]
     exact imp (look [(2, 2), (3, 3), (4, 4), (5, 5)]))
  | (refine loopQ.n (k - 1) _ (by omega) ⟨i + 1, by omega, rfl⟩ ?_
     rw [show loseTo s.acked s.lost p.off (i + 1) = addP (loseTo s.acked s.lost p.off i) (p.off + i) (p.off + i) from if_neg (by rw [show hasR s.acked (p.off + i) = false from by assumption]; exact Bool.false_ne_true), show p.off + ((i + 1 : Nat) : Int) = p.off + i + 1 by omega]
     exact imp (look [(2, 2), (3, 3), (4, 4), (5, 5)]))
structure OTp (P : Program) (o : Oper) (s : St) (d : Nat) (v : AV) : Prop where
 guard : o.guard = none
 dst : o.dst = some d
 run : ∀ x z s' a w, s.le s' → Sim x z s' a w → ∃ u, (execOp a.eval o).run P w = .ok (.value u) w ∧ VR z w (okB x.X z s'.hp w) v u
structure WQ (P : Program) (ops : Array Oper) (rest : List Oper) (s : St) (Q : Exit → St → Prop) : Prop where
 out : ∀ x z a w (R : Act → Prop), Sim x z s a w → (∀ a' s', Q .normal s' → Sim x z s' a' w → R a') → wpQuiet P ops (fun w' => w' = w) R rest a
section
variable {P : Program} {ops : Array Oper} {o : Oper} {rest : List Oper} {s : St} {Q : Exit → St → Prop} {d : Nat}
theorem WQ.nil (h : Q .normal s) : WQ P ops [] s Q := ⟨fun x z a w R hz hR => wpQuiet_nil (hR a s h hz)⟩
theorem WQ.op {v : AV} (ho : OTp P o s d v) (hd : Nat.blt d s.nt.n = true) (k : WQ P ops rest (s.put d v) Q) : WQ P ops (o :: rest) s Q := ⟨fun x z a w R hz hR => by
 refine wpQuiet_step fun K hK => ?_
 rw [if_pos (by simp [Region.wanted, ho.guard])]
 obtain ⟨u, hr, hv⟩ := ho.run x z s a w (St.le.refl s) hz
 refine ⟨u, fun w' hw' => ?_, hK _ ?_⟩
 ·subst hw'
  unfold Oper.quietAt
  rw [hr]
  exact ⟨rfl, rfl⟩
 ·rw [ho.dst]
  exact k.out x z _ w R (hz.put (blt_lt hd) hv) hR⟩
theorem WC.quiet {id : Nat} {l : List Oper} (hfo : P.follows .mixedOrders = true) (hB : Region.lexB .any l.toArray = true) (h : WQ P l.toArray l s Q) : WC P (.region id l.toArray true) s Q := ⟨fun x a w hs => by
 obtain ⟨z, hz⟩ := hs
 have hb : Below w.heap.size w w.drew := (Below.refl _ _).drew
 refine wp_region_quiet (C := fun w' => w' = w.drew) hfo hB rfl (h.out x z a w.drew _ (hz.grow hb) fun a' s' hq hs' w' hw' => ?_)
 subst hw'
 exact ⟨s', hq, z, hs'⟩⟩
end
section
variable {P : Program} {o : Oper} {s : St} {d : Nat}
theorem OTp.move {q : Operand} {v : AV} (hg : o.guard = none) (hd : o.dst = some d) (ho : o.op = .move q) (hq : s.ev q = some v) : OTp P o s d v :=
 ⟨hg, hd, fun x z s' a w hs hz => ⟨_, by simp [execOp, ho], hz.ev (hs.ev hq)⟩⟩
theorem OTp.assign {q : Operand} {v : AV} (hg : o.guard = none) (hd : o.dst = some d) (ho : o.op = .assign q) (hq : s.ev q = some v) : OTp P o s d v :=
 ⟨hg, hd, fun x z s' a w hs hz => ⟨_, by simp [execOp, ho], hz.ev (hs.ev hq)⟩⟩
theorem OTp.fieldAddrD {T k off p : Nat} {y : List D} {q : Operand} [FldO P T k off] (hg : o.guard = none) (hd : o.dst = some d) (ho : o.op = .fieldAddr T q k) (hq : s.ev q = some (.dp y p)) : OTp P o s d (.dp y (p + off)) := by
 refine ⟨hg, hd, fun x' z s' a w hs hz => ?_⟩
 have := hz.ev (hs.ev hq)
 generalize hu : a.eval q = u at this
 cases this with
 | dp b r us hb hu' hr =>
   exact ⟨.pointer (some ⟨b, r + p + off, none⟩), by simp [execOp, ho, hu, run_fieldAt], by rw [Nat.add_assoc]; exact .dp b r us hb hu' hr⟩
theorem OTp.load1D {T p : Nat} {q : Operand} {y : List D} {v : D} [TyOne P T] (hg : o.guard = none) (hd : o.dst = some d) (ho : o.op = .load T q) (hq : s.ev q = some (.dp y p)) (hv : y[p]? = some v) : OTp P o s d (.d v) := by
 refine ⟨hg, hd, fun x' z s' a w hs hz => ?_⟩
 have := hz.ev (hs.ev hq)
 generalize hu : a.eval q = u at this
 cases this with
 | dp b r us hb h1 h2 =>
   have hc := h1 p (List.getElem?_eq_some_iff.1 hv).1
   exact ⟨us p, by simp [execOp, ho, hu, run_load1 hc], .d (h2 p v hv)⟩
theorem OTp.indexDz {T e k n : Nat} {f : Nat → List D} {p q : Operand} {m : Int} [h : SlcT P T e k] (hg : o.guard = none) (hd : o.dst = some d) (ho : o.op = .indexAddr T p q) (hp : s.ev p = some (.d (.sl k n f))) (hq : s.ev q = some (.d (.sc (.int .i64 m)))) (j : Nat) (hj : m = (j : Int)) (hl : j < n) : OTp P o s d (.dp (f j) 0) := by
 refine ⟨hg, hd, fun x' z s' a w hs hz => ?_⟩
 have hv := hz.ev (hs.ev hp)
 have e2 := (hz.ev (hs.ev hq)).dsc.1
 obtain ⟨g1, g2, i, zz, g3, g4, g5, g6, g7⟩ := h.out
 subst hj
 generalize hu : a.eval p = u at hv
 cases hv with
 | d h' =>
   cases h' with
   | sl us b r hn hc hA hb hl' hu' hr =>
     obtain ⟨rfl, hok⟩ := hb (by omega)
     refine ⟨.pointer (some ⟨b, r + j * k + 0, none⟩), ?_, .dp b (r + j * k) (us j) hok (fun i hi => hu' j i hl (by rw [hl' j hl] at hi; exact hi)) (fun i dd hdd => hr j i dd hl hdd)⟩
     simp [execOp, ho, hu, e2, Instr.indexAt, asIntOf, run_underlying g1, hl, run_size g3, g5, add0]
theorem OTp.min2 {q r : Operand} {k : IntKind} {x y : Int} {ts : Array TypeId} (hg : o.guard = none) (hd : o.dst = some d) (ho : o.op = .call { callee := .builtin .min, args := #[q, r], argTypes := ts }) (hq : s.ev q = some (.d (.sc (.int k x)))) (hr : s.ev r = some (.d (.sc (.int k y)))) : OTp P o s d (.d (.sc (.int k (min x y)))) := by
 refine ⟨hg, hd, fun x' z s' a w hs hz => ⟨.int k (min x y), ?_, .mk_sc rfl⟩⟩
 obtain ⟨e1, e2⟩ := VR.int2 (hz.ev (hs.ev hq)) (hz.ev (hs.ev hr))
 have : (if y < x then y else x) = min x y := by split <;> omega
 simp [execOp, ho, resolve, invoke, builtin, e1, e2, Builtin.min_, Builtin.min2, this]
theorem OTp.max2 {q r : Operand} {k : IntKind} {x y : Int} {ts : Array TypeId} (hg : o.guard = none) (hd : o.dst = some d) (ho : o.op = .call { callee := .builtin .max, args := #[q, r], argTypes := ts }) (hq : s.ev q = some (.d (.sc (.int k x)))) (hr : s.ev r = some (.d (.sc (.int k y)))) : OTp P o s d (.d (.sc (.int k (max x y)))) := by
 refine ⟨hg, hd, fun x' z s' a w hs hz => ⟨.int k (max x y), ?_, .mk_sc rfl⟩⟩
 obtain ⟨e1, e2⟩ := VR.int2 (hz.ev (hs.ev hq)) (hz.ev (hs.ev hr))
 have : (if y > x then y else x) = max x y := by split <;> omega
 simp [execOp, ho, resolve, invoke, builtin, e1, e2, Builtin.max_, Builtin.max2, this]
end
section
variable {P : Program} {ops : Array Oper} {o : Oper} {rest : List Oper} {nt : NI} {e : List (Nat × AV)} {h : List (Nat × Ob)} {Q : Exit → St → Prop} {d : Nat}
theorem RQ.op {v : AV} (ho : OTp P o ⟨nt, e, h⟩ d v) (hd : Nat.blt d nt.n = true) (k : WQ P ops rest ⟨nt, (d, v) :: e, h⟩ Q) : WQ P ops (o :: rest) ⟨nt, e, h⟩ Q := WQ.op ho hd k
end
end Go.Proofs.YtjbhiglaginpeaaGreat
namespace Go.Proofs.YtjbhiglaginpeaaGreat
structure WdSz (W : Wd) : Prop where
 rv : W.recvs.length = W.sends.length
 sn : W.seen.length = W.paths.length
 len : W.sends.length ≤ 1000 ∧ W.got.length ≤ 1000 ∧ W.paths.length ≤ 1000 ∧ W.rtts.length ≤ 1000 ∧ W.windows.length ≤ 1000 ∧ W.carried.length ≤ 1000 ∧ W.net.length ≤ 1000
 sends : ∀ x ∈ W.sends, x.acked.length ≤ 1000 ∧ x.lost.length ≤ 1000
 recvs : ∀ x ∈ W.recvs, x.pieces.length ≤ 1000
 paths : ∀ x ∈ W.paths, x.flight.length ≤ 1000
 seen : ∀ x ∈ W.seen, x.length ≤ 1000
 net : ∀ x ∈ W.net, x.frame.ranges.length ≤ 1000
theorem pcs_len : ∀ {l : List Pc} {a b : Int}, pcOk a b l → a ≤ b → (l.length : Int) ≤ b - a
 | [], _, _, _, h => by simp; omega
 | p :: t, a, b, ok, h => by
   have h0 := bl_pos ok.1
   have h1 := ok.2.1
   have h2 := ok.2.2.1
   have h3 := fin_eq p
   unfold bl at h0
   have := pcs_len ok.2.2.2 h2
   simp only [List.length_cons]
   omega
theorem RvOK.few {r : Rv} (h : RvOK r) : r.pieces.length ≤ 31 := by
 have h1 := h.lim
 have h2 := h.read
 have := pcs_len h.pcs (by omega)
 omega
theorem fm_sz {f : Fm} (h : fmValid f = true) : f.ranges.length ≤ 16 ∧ f.data.length ≤ 12 := by
 unfold fmValid at h
 simp only [Bool.and_eq_true, Bool.or_eq_true, decide_eq_true_eq] at h
 refine ⟨?_, h.1.1.1⟩
 rcases h.1.2 with h1 | h1
 ·rw [List.isEmpty_iff] at h1; simp [h1]
 ·have h2 := h.2
  rw [h1] at h2
  simp only [reduceIte, Int.reduceEq, or_self, Bool.and_eq_true] at h2
  exact ((rgValid_iff _).1 h2.2.2).1
theorem flightsTo_len {W : Wd} : ∀ n : Nat, (∀ p : Nat, p < n → (W.ls p).flight.length ≤ 12) → (flightsTo W n).length ≤ 12 * n
 | 0, _ => by simp [flightsTo]
 | n + 1, h => by
   have := flightsTo_len n (fun p hp => h p (by omega))
   have h2 := h n (by omega)
   rw [flightsTo_succ, List.length_append, List.length_map]
   omega
theorem WdOK.few {W : Wd} (h : WdOK W) : W.carried.length ≤ 48 := by
 rw [← h.cars.len]
 exact flightsTo_len 4 (fun p hp => (h.path p hp).ls.few)
theorem mem_getD {α : Type} [Inhabited α] {l : List α} {x : α} (h : x ∈ l) : ∃ i, i < l.length ∧ l.getD i default = x := by
 obtain ⟨i, hi, rfl⟩ := List.getElem_of_mem h
 exact ⟨i, hi, by rw [List.getD_eq_getElem?_getD, List.getElem?_eq_getElem hi]; rfl⟩
theorem WdOK.sz {W : Wd} (h : WdOK W) : WdSz W := by
 have h1 := h.sends; have h2 := h.recvs; have h3 := h.got; have h4 := h.paths; have h5 := h.rtts; have h6 := h.windows; have h7 := h.seen; have h8 := h.few; have h9 := h.net
 refine ⟨by omega, by omega, by omega, fun x hx => ?_, fun x hx => ?_, fun x hx => ?_, fun x hx => ?_, fun x hx => ?_⟩
 ·obtain ⟨i, hi, rfl⟩ := mem_getD hx
  have := (h.streams i (by omega)).sd.few
  omega
 ·obtain ⟨i, hi, rfl⟩ := mem_getD hx
  have := (h.streams i (by omega)).rv.few
  omega
 ·obtain ⟨i, hi, rfl⟩ := mem_getD hx
  have h' : ((W.ls (i : Nat)).flight.length) ≤ 12 := (h.path i (by omega)).ls.few
  unfold Wd.ls at h'
  rw [Int.toNat_natCast] at h'
  omega
 ·obtain ⟨i, hi, rfl⟩ := mem_getD hx
  have h' : (W.sn (i : Nat)).length ≤ 16 := (h.path i (by omega)).sn.1
  unfold Wd.sn at h'
  rw [Int.toNat_natCast] at h'
  omega
 ·have := fm_sz (h.wires x hx).frame
  omega
theorem loseAll_snoc (U : Wd) (p : Int) (l : List Int) (n : Int) : loseAll U p (l ++ [n]) = loseOne (loseAll U p l) p n := by simp [loseAll]
theorem ackAll_snoc (U : Wd) (p : Int) (l : List Int) (n : Int) : ackAll U p (l ++ [n]) = ackOne (ackAll U p l) p n := by simp [ackAll]
theorem loseOne_wins (U : Wd) (p n : Int) : (loseOne U p n).windows = U.windows := by
 unfold loseOne dropCd
 split
 ·rfl
 ·rename_i h
  split at h
  ·cases h
  ·injection h with h; injection h with _ h; subst h; rfl
theorem loseAll_wins : ∀ (l : List Int) (U : Wd) (p : Int), (loseAll U p l).windows = U.windows
 | [], U, p => rfl
 | n :: t, U, p => (loseAll_wins t (loseOne U p n) p).trans (loseOne_wins U p n)
structure DropOK (V : Wd) (p n : Int) (k : Nat) : Prop where
 at_ : carAt V p n = some k
 lt : k < V.carried.length
 few : V.carried.length ≤ 48
 sends : V.sends.length = 3
 st : 0 ≤ (V.carried.getD k default).stream ∧ (V.carried.getD k default).stream ≤ 2
 sd : SdOK (V.sends.getD (V.carried.getD k default).stream.toNat default)
 sent : Sent (V.sends.getD (V.carried.getD k default).stream.toNat default) (V.carried.getD k default).part
theorem DropOK.lose {V : Wd} {p n : Int} {k : Nat} (h : DropOK V p n k) : loseOne V p n = { V with carried := V.carried.eraseIdx k, sends := V.sends.set (V.carried.getD k default).stream.toNat (sdLoss (V.sends.getD (V.carried.getD k default).stream.toNat default) (V.carried.getD k default).part) } := by
 unfold loseOne dropCd; rw [h.at_]; rfl
theorem DropOK.ack {V : Wd} {p n : Int} {k : Nat} (h : DropOK V p n k) : ackOne V p n = { V with carried := V.carried.eraseIdx k, sends := V.sends.set (V.carried.getD k default).stream.toNat (sdAck (V.sends.getD (V.carried.getD k default).stream.toNat default) (V.carried.getD k default).part), windows := wnAck V.windows p.toNat } := by
 unfold ackOne dropCd; rw [h.at_]; rfl
theorem mid_few {W V : Wd} {p : Int} {D : List Int} {P : List Ls} (h : WdOK W) (m : Mid W V p D P) : V.carried.length ≤ 48 := by
 rw [m.carried]
 exact Nat.le_trans (List.length_filter_le _ _) h.few
theorem mid_dropOK {W V : Wd} {p n : Int} {D : List Int} {P : List Ls} (h : WdOK W) (m : Mid W V p D P) (hc : ∃ c ∈ W.carried, c.path = p ∧ c.num = n) (hn : n ∉ D) : ∃ k, DropOK V p n k := by
 obtain ⟨c, hc, h1, h2⟩ := hc
 obtain ⟨k, e1, e2, e3, e4, hst, hs, hok⟩ := mid_drop h m hc h1 h2 hn
 exact ⟨k, e1, e2, mid_few h m, m.sends, by rw [e3]; exact hst, by rw [e3]; exact hok.sd, by rw [e3]; exact hs⟩
theorem nodup_take {l D : List Int} (hd : (D ++ l).Nodup) {i : Nat} {n : Int} (hn : l[i]? = some n) : n ∉ D ++ l.take i := by
 intro hm
 obtain ⟨hi, rfl⟩ := List.getElem?_eq_some_iff.1 hn
 rw [List.nodup_append] at hd
 obtain ⟨_, h2, h3⟩ := hd
 rcases List.mem_append.1 hm with hm | hm
 ·exact h3 _ hm _ (List.getElem_mem hi) rfl
 ·obtain ⟨j, hj, e⟩ := List.getElem_of_mem hm
  rw [List.length_take] at hj
  rw [List.getElem_take] at e
  exact List.pairwise_iff_getElem.1 h2 j i (by omega) hi (by omega) e
theorem nodup_pre {l D : List Int} (hd : (D ++ l).Nodup) (i : Nat) : (D ++ l.take i).Nodup := by
 refine List.Nodup.sublist ?_ hd
 exact List.Sublist.append (List.Sublist.refl _) (List.take_sublist i l)
theorem lose_at {W U : Wd} {p : Int} {D l : List Int} {P : List Ls} (h : WdOK W) (m : Mid W U p D P) (hl : ∀ n ∈ l, ∃ c ∈ W.carried, c.path = p ∧ c.num = n) (hd : (D ++ l).Nodup) {i : Nat} {n : Int} (hn : l[i]? = some n) :
 ∃ k, DropOK (loseAll U p (l.take i)) p n k ∧ loseAll U p (l.take (i + 1)) = loseOne (loseAll U p (l.take i)) p n := by
 have m' := mid_loseAll h (l.take i) D m (fun x hx => hl x (List.mem_of_mem_take hx)) (nodup_pre hd i)
 obtain ⟨k, hk⟩ := mid_dropOK h m' (hl n (List.mem_of_getElem? hn)) (nodup_take hd hn)
 exact ⟨k, hk, by rw [List.take_add_one, hn]; exact loseAll_snoc _ _ _ _⟩
theorem ack_at {W U : Wd} {p : Int} {D l : List Int} {P : List Ls} (h : WdOK W) (hp : 0 ≤ p ∧ p ≤ 3) (m : Mid W U p D P) (hl : ∀ n ∈ l, ∃ c ∈ W.carried, c.path = p ∧ c.num = n ∧ gotPart (W.sd c.stream) (W.rv c.stream) c.part = true) (hd : (D ++ l).Nodup) {i : Nat} {n : Int} (hn : l[i]? = some n) :
 ∃ k, DropOK (ackAll U p (l.take i)) p n k ∧ ackAll U p (l.take (i + 1)) = ackOne (ackAll U p (l.take i)) p n ∧ (ackAll U p (l.take i)).windows.length = 4 ∧ wnsValid (ackAll U p (l.take i)).windows = true := by
 have m' := mid_ackAll h hp (l.take i) D m (fun x hx => hl x (List.mem_of_mem_take hx)) (nodup_pre hd i)
 obtain ⟨c, c1, c2, c3, _⟩ := hl n (List.mem_of_getElem? hn)
 obtain ⟨k, hk⟩ := mid_dropOK h m' ⟨c, c1, c2, c3⟩ (nodup_take hd hn)
 exact ⟨k, hk, by rw [List.take_add_one, hn]; exact ackAll_snoc _ _ _ _, m'.wins⟩
theorem doTimeout_nil {W : Wd} {p : Int} (h : (W.ls p).flight = []) : doTimeout W p = W := by
 unfold doTimeout
 rw [h]
 have e : W.paths.set p.toNat { W.ls p with flight := [] } = W.paths := by
  have h2 : ({ W.ls p with flight := [] } : Ls) = W.ls p := by rw [← h]
  rw [h2]
  exact set_getD_self _ _
 simp only [List.map_nil, loseAll, List.foldl_nil, List.isEmpty_nil, if_true, e]
theorem fl_cars {W : Wd} (h : WdOK W) {p : Nat} (hp : p < 4) : (∀ n ∈ (W.ls p).flight.map Pk.num, ∃ c ∈ W.carried, c.path = (p : Int) ∧ c.num = n) ∧ ([] ++ (W.ls p).flight.map Pk.num).Nodup := by
 refine ⟨fun n hn => ?_, by simpa using nums_nodup (h.path p hp).ls⟩
 obtain ⟨k, hk, rfl⟩ := List.mem_map.1 hn
 exact carOf h hp hk
theorem doTimeout_eq {W : Wd} (h : WdOK W) {p : Nat} (hp : p < 4) (hf : (W.ls p).flight ≠ []) {V : Wd} (hV : V = loseAll W p ((W.ls p).flight.map Pk.num)) : doTimeout W p = ⟨W.now, V.sends, W.recvs, W.got, W.paths.set p { W.ls p with flight := [] }, W.rtts, wnLoss W.windows p, W.seen, V.carried, W.net⟩ := by
 have hgen : ∀ (l : List Int) (U : Wd) (P : List Ls), loseAll { U with paths := P } p l = { loseAll U p l with paths := P } := by
  intro l
  induction l with
  | nil => intro U P; rfl
  | cons n t ih =>
    intro U P
    have : loseOne { U with paths := P } p n = { loseOne U p n with paths := P } := by
     unfold loseOne dropCd
     show (match (match carAt U p n with | none => none | some k => some (U.carried.getD k default, ({ U with paths := P, carried := U.carried.eraseIdx k } : Wd))) with | none => ({ U with paths := P } : Wd) | some (c, V) => { V with sends := V.sends.set c.stream.toNat (sdLoss (V.sd c.stream) c.part) }) = _
     cases carAt U p n <;> rfl
    show loseAll (loseOne { U with paths := P } p n) p t = _
    rw [this, ih]
    rfl
 have m := mid_loseAll h ((W.ls p).flight.map Pk.num) [] (mid_start h p W.paths) (fl_cars h hp).1 (fl_cars h hp).2
 have e0 : ({ W with paths := W.paths } : Wd) = W := rfl
 rw [e0, ← hV] at m
 unfold doTimeout
 simp only [Int.toNat_natCast]
 rw [hgen, ← hV, if_neg (by simpa using hf)]
 have hw : V.windows = W.windows := by rw [hV]; exact loseAll_wins _ _ _
 simp only [m.now, m.recvs, m.got, m.rtts, m.seen, m.net, hw]
end Go.Proofs.YtjbhiglaginpeaaGreat
namespace Go.Proofs.YtjbhiglaginpeaaGreat
open Go.RowKit
def hB (g : Nat → Int) : Ob := .arr 3 1 30 (fun m => [dI (g m)])
def bytesF (b : Int → Option UInt8) : List Int := (List.range 30).map fun (i : Nat) => byteI (b i)
theorem bytesF_len (b : Int → Option UInt8) : (bytesF b).length = 30 := by simp [bytesF]
theorem bytesF_get (b : Int → Option UInt8) {m : Nat} (h : m < 30) : (bytesF b).getD m default = byteI (b m) := by
 unfold bytesF
 rw [List.getD_eq_getElem?_getD, List.getElem?_map, List.getElem?_range h]
 rfl
def overP (p : Pc) (q : Nat) (b : Int → Option UInt8) (x : Int) : Option UInt8 := if p.off ≤ x ∧ x < p.off + q then p.data[(x - p.off).toNat]? else b x
theorem over_all (p : Pc) (b : Int → Option UInt8) (x : Int) : overP p p.data.length b x = match p.get x with | none => b x | some c => some c := by
 unfold overP Pc.get
 by_cases h1 : x < p.off
 ·rw [if_neg (by omega), if_pos h1]
 ·rw [if_neg h1]
  by_cases h2 : x < p.off + p.data.length
  ·rw [if_pos (by omega), List.getElem?_eq_getElem (by omega)]
  ·rw [if_neg (by omega), List.getElem?_eq_none (by omega)]
theorem over_laid (p : Pc) (l : List Pc) (x : Int) : overP p p.data.length (laidB l) x = laidB (l ++ [p]) x := by
 rw [over_all, laid_snoc]
 cases p.get x <;> rfl
theorem over_step {p : Pc} {q : Nat} {b : Int → Option UInt8} {g : Nat → Int} {at_ : Nat} (hq : q < p.data.length) (ha : (at_ : Int) = p.off + q) (h : ∀ m : Nat, m < 30 → g m = byteI (overP p q b m)) : ∀ m : Nat, m < 30 → (if m = at_ then ((p.data.getD q 0).toNat : Int) else g m) = byteI (overP p (q + 1) b m) := by
 intro m hm
 by_cases hma : m = at_
 ·subst hma
  rw [if_pos rfl]
  unfold overP
  rw [if_pos (by omega), show ((m : Int) - p.off).toNat = q by omega, List.getElem?_eq_getElem hq, List.getD_eq_getElem?_getD, List.getElem?_eq_getElem hq]
  rfl
 ·rw [if_neg hma, h m hm]
  unfold overP
  by_cases h1 : p.off ≤ (m : Int) ∧ (m : Int) < p.off + q
  ·rw [if_pos h1, if_pos (by omega)]
  ·rw [if_neg h1, if_neg (by omega)]
theorem vl31BytesH (r : Rv) (hr : RvOK r) (hl : r.pieces.length ≤ 1000) : FnH Tryz.prog 158 [] [.ag (av (eRv r))] [] (.own 900 30) [(900, hB (fun m => byteI (atL r.pieces m)))] := by
 have hpc := pc_low hr.pcs
 have b1 := hr.read
 have b2 := hr.lim
 refine fH Tryz.func158 Tryz.ntmps158 Tryz.results158 ?_
 repeat' (first
  | refine stp ?_
  | fail)
 refine WC.loop (fun k s => ∃ i g, k + i = 30 ∧ (∀ m : Nat, m < i → g m = -1) ∧ s = ⟨⟨55, []⟩, [(1, .ptr 1 0), (3, .own 7 30), (4, aI (i : Nat))], [(1, .blk (av (eRv r))), (7, hB g)]⟩) 30 ⟨0, fun _ => 0, rfl, fun m h => absurd h (Nat.not_lt_zero m), rfl⟩ (imp (look [(1, 1), (7, 7)])) ?_
 rintro k s ⟨i, g, hk, hg, rfl⟩
 repeat' (first
  | refine stp ?_
  | (refine WC.cond rfl ?_ ?_ <;> intro hb <;> (try have hb' := nrm hb) <;> try (exfalso; omega)))
 ·refine loopQ.n (k - 1) _ (by omega) ⟨i + 1, fun m => if m = i then -1 else g m, by omega, fun m hm => ?_, rfl⟩ ?_
  ·by_cases h : m = i
   ·exact if_pos h
   ·exact (if_neg h).trans (hg m (by omega))
  ·exact imp (look [(1, 1), (7, 7)])
 obtain rfl : i = 30 := (by omega)
 refine WC.loop (fun k s => ∃ j g, k + j = r.pieces.length ∧ (∀ m : Nat, m < 30 → g m = byteI (laidB (r.pieces.take j) m)) ∧ s = ⟨⟨55, []⟩, [(1, .ptr 1 0), (3, .own 7 30), (5, aI (j : Nat))], [(1, .blk (av (eRv r))), (7, hB g)]⟩) r.pieces.length ⟨0, g, rfl, fun m h => hg m h, rfl⟩ (imp (look [(1, 1), (7, 7)])) ?_
 clear hg g hk k
 rintro k s ⟨j, g, hk, hg, rfl⟩
 have hj : j < r.pieces.length → r.read - 1 < (r.pieces.getD j default).off ∧ (r.pieces.getD j default).off + ((r.pieces.getD j default).data.length : Int) ≤ 30 := fun h => by
  have := hpc _ (getD_mem' h)
  unfold Pc.fin bl at this
  omega
 repeat' (first
  | refine stp ?_
  | (refine WC.cond rfl ?_ ?_ <;> intro hb <;> (try have hb' := nrm hb) <;> try (exfalso; omega)))
 ·refine WC.loop (fun k s => ∃ q g, k + q = (r.pieces.getD j default).data.length ∧ (∀ m : Nat, m < 30 → g m = byteI (overP (r.pieces.getD j default) q (laidB (r.pieces.take j)) m)) ∧ s = ⟨⟨55, []⟩, [(1, .ptr 1 0), (3, .own 7 30), (5, aI (j : Nat)), (6, aI (q : Nat))], [(1, .blk (av (eRv r))), (7, hB g)]⟩) (r.pieces.getD j default).data.length ⟨0, g, rfl, fun m h => by rw [hg m h]; unfold overP; rw [if_neg (by omega)], rfl⟩ (imp (look [(1, 1), (7, 7)])) ?_
  rintro k' s ⟨q, g', hq, hg', rfl⟩
  repeat' (first
   | refine stp ?_
   | (refine WC.cond rfl ?_ ?_ <;> intro hb <;> (try have hb' := nrm hb) <;> try (exfalso; omega))
   | (apply K.rg 12; refine wdr [0, 0, 2, 0, 14, 30, 62, 0, 254, 0, 512, 0, 3584, 7680, 15872, 0, 65024, 130560, 262143, 524287] 18 [35, 36, 37, 38, 39, 40, 41, 42, 43, 44, 45, 46, 47, 48, 49, 50, 51, 52] [] ?_)
   | refine dcl ?_)
  ·refine loopQ.n (k' - 1) _ (by omega) ⟨q + 1, fun m => if m = ((r.pieces.getD j default).off + q).toNat then (((r.pieces.getD j default).data.getD q 0).toNat : Int) else g' m, by omega, over_step (by omega) (by omega) hg', rfl⟩ ?_
   exact imp (look [(1, 1), (7, 7)])
  ·obtain rfl : q = (r.pieces.getD j default).data.length := (by omega)
   refine loopQ.n (k - 1) _ (by omega) ⟨j + 1, g', by omega, fun m hm => by rw [hg' m hm, over_laid, take_snoc (by omega)], rfl⟩ ?_
   exact imp (look [(1, 1), (7, 7)])
 ·obtain rfl : j = r.pieces.length := (by omega)
  rw [List.take_of_length_le (Nat.le_refl _)] at hg
  refine RetHG.mk1 (look [(900, 7)]) (ResV.tmp rfl) (LeV.own rfl rfl) (LeH.arr rfl rfl rfl (fun m hm => ?_) .nil) rfl rfl
  show [dI (g m)] = [dI (byteI (atL r.pieces m))]
  rw [hg m hm, laid_eq hr.pcs]
theorem bytesF_row (b : Int → Option UInt8) {g : Nat → Int} (h : ∀ m : Nat, m < 30 → g m = byteI (b m)) : ∀ m : Nat, m < 30 → [dI (g m)] = eIn ((bytesF b).getD m default) := fun m hm => by rw [bytesF_get b hm, h m hm]; rfl
theorem vl31Bytes (r : Rv) (hr : RvOK r) (hl : r.pieces.length ≤ 1000) : FnP Tryz.prog 158 [.ag (av (eRv r))] (.d (dL 1 eIn (bytesF (atL r.pieces)))) :=
 (vl31BytesH r hr hl).toP (LeV.f1 rfl (bytesF_len _).symm (bytesF_row _ (fun _ _ => rfl))) rfl
end Go.Proofs.YtjbhiglaginpeaaGreat
