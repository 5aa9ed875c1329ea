/- Sending the next part, receiving a part that was sent, and reading: the two sides stay valid. No program in sight. -/
import Derived.Test.YtjpaoadbgmmoeaaWP5
namespace Go.Proofs.Ytjpaoadbgmmoeaa

theorem part_bl {d : Bs} {a b : Int} (h0 : 0 ≤ a) (h1 : a ≤ b) (h2 : b ≤ bl d) : bl ((d.drop a.toNat).take (b - a).toNat) = b - a := by
  unfold bl at *
  rw [List.length_take, List.length_drop]
  omega
theorem st_next {s s' : Sd} {r : Rv} {g : Bs} {p : Pt} {size : Int} (h : StOK s r g) (hz : 1 ≤ size) (e : sdNext s size = some (s', p)) : StOK s' r g ∧ StLe s r s' r ∧ Sent s' p ∧ bl p.data ≤ size ∧ SdOK s' := by
  have hn := h.sd.nxt
  have hlen := h.sd.len
  have hfl := h.sd.flow
  have hfi0 := h.fin
  have hm : s.many = bl s.data + (if s.fin then 1 else 0) := by unfold Sd.many; split <;> omega
  have hb0 := bl_nonneg s.data
  cases hl : s.lost with
  | nil =>
    simp only [sdNext, hl] at e
    generalize hfi : max s.next (min (min (min (s.many - 1 + 1) (bl s.data)) s.limit) (s.next + size)) = fi at e
    generalize hf : (decide (s.many - 1 = bl s.data) && (decide (fi = bl s.data) && decide (s.next ≤ s.many - 1))) = f at e
    by_cases hc : (decide (fi = s.next) && !f) = true
    · rw [if_pos hc] at e; cases e
    · rw [if_neg hc] at e
      simp only [Option.some.injEq, Prod.mk.injEq] at e
      obtain ⟨e1, e2⟩ := e
      rw [show ([] : List Rg) = s.lost from hl.symm] at e1
      have hff : f = true → s.fin = true ∧ fi = bl s.data ∧ s.next ≤ bl s.data := by
        intro hft
        rw [hft] at hf
        simp only [Bool.and_eq_true, decide_eq_true_eq] at hf
        refine ⟨?_, hf.2.1, by omega⟩
        cases hs : s.fin with
        | true => rfl
        | false => rw [hs] at hm; simp at hm; omega
      have hcase : s.next < fi ∨ f = true := by
        cases f with
        | true => exact .inr rfl
        | false =>
          simp at hc
          omega
      have hfib : s.next ≤ fi ∧ fi ≤ bl s.data ∧ fi ≤ s.next + size := by
        rcases hcase with hcase | hcase
        · omega
        · have := hff hcase; omega
      have hpl := part_bl hn.1 hfib.1 hfib.2.1
      have hlast : p.last = fi - 1 + (if f then 1 else 0) := by rw [← e2, last_eq]; simp only; rw [hpl]; omega
      rw [e2] at e1
      rw [hlast] at e1
      have hn' : fi - 1 + (if f then 1 else 0) + 1 = fi + (if f then 1 else 0) := by omega
      rw [hn'] at e1
      have hle : s.next ≤ fi + (if f then 1 else 0) := by split <;> omega
      have hsd : SdOK s' := by
        subst e1
        refine ⟨hlen, h.sd.lim, ⟨by simp only; omega, ?_⟩, ?_, ⟨h.sd.acked.1, rgBelow_mono h.sd.acked.2 hle⟩, ⟨h.sd.lost.1, rgBelow_mono h.sd.lost.2 hle⟩, h.sd.apart⟩
        · show fi + _ ≤ Sd.many _
          have : Sd.many { s with next := fi + (if f then 1 else 0) } = s.many := rfl
          rw [this, hm]
          cases hft : f with
          | true => rw [(hff hft).1]; simp only [if_true]; omega
          | false => simp only [Bool.false_eq_true, if_false]; split <;> omega
        · simp only
          cases hft : f with
          | true =>
            have := hff hft
            simp only [if_true]
            rcases hcase with hcase | _
            · omega
            · by_cases hx : s.next < fi <;> omega
          | false =>
            rw [hft] at hcase
            rcases hcase with hcase | hcase
            · simp only [Bool.false_eq_true, if_false]; omega
            · cases hcase
      have hSent : Sent s' p := by
        subst e1
        rw [← e2]
        have hp0 : (⟨s.next, (s.data.drop s.next.toNat).take (fi - s.next).toNat, f⟩ : Pt).last = fi - 1 + (if f then 1 else 0) := by rw [e2]; exact hlast
        refine ⟨⟨hn.1, by simp only; omega⟩, ?_, by rw [hp0]; simp only; omega, by simp only; omega, fun hft => ?_, ?_⟩
        · rw [hp0]
          simp only
          rcases hcase with hcase | hcase
          · split <;> omega
          · rw [hcase]; simp only [if_true]; omega
        · simp only at hft ⊢
          have := hff hft
          exact ⟨this.1, by rw [hpl]; omega⟩
        · simp only
          have : ((s.data.drop s.next.toNat).take (fi - s.next).toNat).length = (fi - s.next).toNat := by unfold bl at hpl; omega
          rw [this]
      refine ⟨?_, ?_, hSent, by rw [← e2]; simp only; rw [hpl]; omega, hsd⟩
      · subst e1
        refine ⟨hsd, h.rv, h.glen, h.gpre, h.lim, by simp only; omega, h.pcs, h.acks, ?_⟩
        rcases h.final with hh | hh
        · exact .inl hh
        · exfalso
          rcases hcase with hcase | hcase
          · omega
          · have := hff hcase; omega
      · subst e1
        exact StLe.same r rfl hle (fun h => h)
  | cons r0 t =>
    simp only [sdNext, hl] at e
    have hok := h.sd.lost
    rw [hl] at hok
    have h1 := hok.1.1
    have h2 := hok.1.2.1
    have h3 := hok.2 r0 List.mem_cons_self
    generalize hfi : max r0.lo (min (min (r0.hi + 1) (bl s.data)) (r0.lo + size)) = fi at e
    generalize hf : (decide (r0.hi = bl s.data) && (decide (fi = bl s.data) && decide (r0.lo ≤ r0.hi))) = f at e
    by_cases hc : (decide (fi = r0.lo) && !f) = true
    · rw [if_pos hc] at e; cases e
    · rw [if_neg hc] at e
      simp only [Option.some.injEq, Prod.mk.injEq] at e
      obtain ⟨e1, e2⟩ := e
      have hff : f = true → s.fin = true ∧ fi = bl s.data ∧ r0.hi = bl s.data := by
        intro hft
        rw [hft] at hf
        simp only [Bool.and_eq_true, decide_eq_true_eq] at hf
        refine ⟨?_, hf.2.1, hf.1⟩
        cases hs : s.fin with
        | true => rfl
        | false => rw [hs] at hm; simp at hm; omega
      have hcase : r0.lo < fi ∨ f = true := by
        cases f with
        | true => exact .inr rfl
        | false =>
          simp at hc
          omega
      have hfib : r0.lo ≤ fi ∧ fi ≤ bl s.data ∧ fi ≤ r0.lo + size ∧ fi ≤ r0.hi + 1 := by
        rcases hcase with hcase | hcase
        · omega
        · have := hff hcase; omega
      have hpl := part_bl (show 0 ≤ r0.lo by omega) hfib.1 hfib.2.1
      have hlast : p.last = fi - 1 + (if f then 1 else 0) := by rw [← e2, last_eq]; simp only; rw [hpl]; omega
      have hlr : r0.lo ≤ p.last ∧ p.last < s.next := by
        rw [hlast]
        rcases hcase with hcase | hcase
        · cases hft : f with
          | true => have := hff hft; simp only [if_true]; omega
          | false => simp only [Bool.false_eq_true, if_false]; omega
        · have := hff hcase; rw [hcase]; simp only [if_true]; omega
      rw [e2] at e1
      have hlost : s.lost = r0 :: t := hl
      rw [← hlost] at e1
      have hrem := fun x => hasR_remP s.lost (-2) r0.lo p.last x h.sd.lost.1 hlr.1
      have hsd : SdOK s' := by
        subst e1
        exact ⟨hlen, h.sd.lim, hn, hfl, h.sd.acked, ⟨remP_ok _ _ _ _ h.sd.lost.1 hlr.1, below_remP _ _ _ _ h.sd.lost.2⟩, fun x ha hx => h.sd.apart x ha ((hrem x).1 hx).1⟩
      refine ⟨?_, ?_, ?_, by rw [← e2]; simp only; rw [hpl]; omega, hsd⟩
      · subst e1
        exact ⟨hsd, h.rv, h.glen, h.gpre, h.lim, h.fin, h.pcs, h.acks, h.final⟩
      · subst e1
        exact StLe.same r rfl (Int.le_refl _) (fun h => h)
      · subst e1
        refine ⟨by rw [← e2]; simp only; omega, by rw [← e2] at hlr ⊢; exact hlr.1, hlr.2, by rw [← e2]; simp only; omega, fun hft => ?_, ?_⟩
        · rw [← e2] at hft ⊢
          simp only at hft ⊢
          have := hff hft
          exact ⟨this.1, by rw [hpl]; omega⟩
        · rw [← e2]
          simp only
          have : ((s.data.drop r0.lo.toNat).take (fi - r0.lo).toNat).length = (fi - r0.lo).toNat := by unfold bl at hpl; omega
          rw [this]
theorem get_drop {d : Bs} {off : Int} {k : Nat} {x : Int} : (⟨off + k, d.drop k⟩ : Pc).get x = if x < off + k then none else (⟨off, d⟩ : Pc).get x := by
  unfold Pc.get
  simp only
  by_cases h : x < off + k
  · rw [if_pos h, if_pos h]
  · rw [if_neg h, if_neg h, if_neg (by omega), List.getElem?_drop]
    congr 1
    omega
theorem clash_no {s : Sd} {r : Rv} {g : Bs} {p : Pt} (h : StOK s r g) (hp : Sent s p) : clash r p.off p.data = false := by
  rw [clash, List.any_eq_false]
  intro i hi
  rw [List.mem_range] at hi
  rw [waits_eq]
  cases hw : atL r.pieces (p.off + i) with
  | none => simp
  | some c =>
    have ho := hp.off
    have h1 := h.pcs _ _ hw
    rw [show (p.off + (i : Int)).toNat = p.off.toNat + i by omega, hp.byte hi, List.getElem?_eq_getElem hi] at h1
    simp only [List.getD_eq_getElem?_getD, List.getElem?_eq_getElem hi, Option.getD_some]
    simp only [Option.some.injEq] at h1
    simp [h1]
theorem st_put {s : Sd} {r : Rv} {g : Bs} {p : Pt} (h : StOK s r g) (hp : Sent s p) :
    (rvPut r p.off p.data p.fin).2 = 0 ∧ StOK s (rvPut r p.off p.data p.fin).1 g ∧ StLe s r s (rvPut r p.off p.data p.fin).1 ∧ gotPart s (rvPut r p.off p.data p.fin).1 p = true := by
  have hn := h.sd.nxt
  have hm := hn.2
  have hmm : s.many = bl s.data + (if s.fin then 1 else 0) := by unfold Sd.many; split <;> omega
  have hend := hp.end_
  have ho := hp.off
  have hnx := hp.nxt
  have hne := hp.ne
  rw [last_eq] at hnx hne
  have hfl := h.sd.flow
  have hlim := h.lim
  have hrl := h.rv.lim
  have hrr := h.rv.read
  have hfin0 := h.fin
  have hb0 := bl_nonneg p.data
  have hfb := fin_bd hrr.2 h.rv.pcs
  have hfinp : p.fin = true → s.fin = true ∧ p.off + bl p.data = bl s.data ∧ s.next = bl s.data + 1 := by
    intro hf
    have h1 := hp.fin hf
    rw [hf] at hnx
    simp only [if_true] at hnx
    rw [hmm, h1.1] at hm
    simp only [if_true] at hm
    exact ⟨h1.1, h1.2, by omega⟩
  have hle : p.off + bl p.data ≤ min s.next (bl s.data) := by
    cases hf : p.fin with
    | true => have := hfinp hf; omega
    | false => rw [hf] at hnx; simp only [Bool.false_eq_true, if_false] at hnx; omega
  have c1 : ¬ r.limit < p.off + bl p.data := by omega
  have c2 : ¬ ((p.fin && ((decide (r.final ≠ -1) && decide (r.final ≠ p.off + bl p.data)) || decide (p.off + bl p.data < r.fin))) || (!p.fin && (decide (r.final ≠ -1) && decide (r.final < p.off + bl p.data)))) = true := by
    cases hf : p.fin with
    | true =>
      have h1 := hfinp hf
      rcases h.final with hh | hh
      · simp [hh]; omega
      · simp; omega
    | false =>
      rcases h.final with hh | hh
      · simp [hh]
      · simp; omega
  have c3 := clash_no h hp
  obtain ⟨skip, hskip⟩ : ∃ k : Nat, (k : Int) = max 0 (r.read - p.off) := ⟨(max 0 (r.read - p.off)).toNat, by omega⟩
  obtain ⟨r1, hr1⟩ : ∃ r1 : Rv, r1 = if p.fin then { r with final := p.off + bl p.data } else r := ⟨_, rfl⟩
  have hr1p : r1.pieces = r.pieces ∧ r1.read = r.read ∧ r1.limit = r.limit ∧ (p.fin = true → r1.final = p.off + bl p.data) ∧ (p.fin = false → r1.final = r.final) := by
    cases hf : p.fin with
    | true => rw [hf] at hr1; subst hr1; simp
    | false => rw [hf] at hr1; subst hr1; simp
  obtain ⟨b1, b2, b3, b4, b5⟩ := hr1p
  have hput : rvPut r p.off p.data p.fin = (if (skip : Int) < bl p.data then ({ r1 with pieces := mrg r.pieces ⟨p.off + skip, p.data.drop skip⟩ }, 0) else (r1, 0)) := by
    unfold rvPut
    simp only
    rw [if_neg c1, if_neg c2, c3]
    simp only [Bool.false_eq_true, if_false]
    rw [← hr1, ← hskip, Int.toNat_natCast]
  obtain ⟨L, hL⟩ : ∃ L : List Pc, L = if (skip : Int) < bl p.data then mrg r.pieces ⟨p.off + skip, p.data.drop skip⟩ else r.pieces := ⟨_, rfl⟩
  have hput2 : rvPut r p.off p.data p.fin = ({ r1 with pieces := L }, 0) := by
    rw [hput, hL]
    by_cases hs : (skip : Int) < bl p.data
    · rw [if_pos hs, if_pos hs]
    · rw [if_neg hs, if_neg hs, ← b1]
  rw [hput2]
  have hLall : pcOk (r.read - 1) r.limit L ∧ ∀ x, atL L x = if p.off + skip ≤ x ∧ x < p.off + bl p.data then p.data[(x - p.off).toNat]? else atL r.pieces x := by
    rw [hL]
    by_cases hs : (skip : Int) < bl p.data
    · rw [if_pos hs]
      have hd : p.data.drop skip ≠ [] := by
        intro e
        have := congrArg List.length e
        rw [List.length_drop] at this
        unfold bl at hs
        simp at this
        omega
      have := mrg_all r.pieces ⟨p.off + skip, p.data.drop skip⟩ (r.read - 1) r.limit h.rv.pcs (by simp only; omega) hd (by unfold Pc.fin bl; simp only [List.length_drop]; unfold bl at *; omega)
      refine ⟨this.1, fun x => ?_⟩
      rw [this.2, get_drop]
      by_cases hx : p.off + skip ≤ x ∧ x < p.off + bl p.data
      · rw [if_pos hx, if_neg (by omega)]
        unfold Pc.get
        simp only
        rw [if_neg (by omega), List.getElem?_eq_getElem (show (x - p.off).toNat < p.data.length by unfold bl at hx; omega)]; rfl
      · rw [if_neg hx]
        by_cases hx1 : x < p.off + skip
        · rw [if_pos hx1]; rfl
        · rw [if_neg hx1, get_none.2 (.inr (by unfold Pc.fin; simp only; omega))]; rfl
    · rw [if_neg hs]
      exact ⟨h.rv.pcs, fun x => by rw [if_neg (by omega)]⟩
  obtain ⟨hLok, hLat⟩ := hLall
  obtain ⟨r', hr'⟩ : ∃ r' : Rv, r' = { r1 with pieces := L } := ⟨_, rfl⟩
  rw [← hr']
  have f1 : r'.pieces = L := by rw [hr']
  have f2 : r'.read = r.read := by rw [hr']; exact b2
  have f3 : r'.limit = r.limit := by rw [hr']; exact b3
  have f4 : r'.final = r1.final := by rw [hr']
  have hbyte : ∀ x, p.off ≤ x → x < p.off + bl p.data → p.data[(x - p.off).toNat]? = s.data[x.toNat]? := by
    intro x h1 h2
    have := hp.byte (i := (x - p.off).toNat) (by unfold bl at h2; omega)
    rw [← this]
    congr 1
    omega
  have hmono : ∀ x, atL r.pieces x ≠ none → atL r'.pieces x ≠ none := by
    intro x hx
    rw [f1, hLat]
    by_cases hc : p.off + skip ≤ x ∧ x < p.off + bl p.data
    · rw [if_pos hc, List.getElem?_eq_getElem (show (x - p.off).toNat < p.data.length by have := hc.2; unfold bl at this; omega)]; simp
    · rw [if_neg hc]; exact hx
  have hfin' : r'.fin ≤ min s.next (bl s.data) := by
    rw [fin_char (by rw [f2, f3]; exact hrr.2) (by rw [f1, f2, f3]; exact hLok)]
    refine ⟨by rw [f2]; omega, fun x hx => ?_⟩
    rw [f1, hLat] at hx
    by_cases hc : p.off + skip ≤ x ∧ x < p.off + bl p.data
    · omega
    · rw [if_neg hc] at hx
      have := (hfb.2.2.1 x hx).2
      omega
  have hfinal : r'.final = -1 ∨ (s.fin = true ∧ r'.final = bl s.data ∧ s.next = bl s.data + 1) := by
    rw [f4]
    cases hf : p.fin with
    | true => have h1 := hfinp hf; rw [b4 hf]; exact .inr h1
    | false => rw [b5 hf]; exact h.final
  have hrv' : RvOK r' := by
    refine ⟨by rw [f3]; exact hrl, by rw [f2, f3]; exact hrr, by rw [f1, f2, f3]; exact hLok, ?_⟩
    rcases hfinal with hh | hh
    · exact .inl hh
    · refine .inr ⟨by omega, ?_⟩
      rw [f3]
      rw [f4] at hh ⊢
      cases hf : p.fin with
      | true => rw [b4 hf]; omega
      | false =>
        rw [b5 hf]
        rw [b5 hf] at hh
        rcases h.rv.fin with h9 | h9
        · omega
        · exact h9.2
  have hgot : ∀ x, gotIt s r x = true → gotIt s r' x = true := by
    intro x hx
    rw [gotIt_iff] at hx ⊢
    rcases hx with ⟨a, b⟩ | ⟨a, b⟩
    · refine .inl ⟨a, ?_⟩
      rw [f4]
      cases hf : p.fin with
      | true => have h1 := hfinp hf; rw [b4 hf]; omega
      | false => rw [b5 hf]; exact b
    · refine .inr ⟨a, ?_⟩
      rcases b with b | b
      · exact .inl (by rw [f2]; exact b)
      · exact .inr (hmono x b)
  refine ⟨rfl, ⟨h.sd, hrv', by rw [f2]; exact h.glen, h.gpre, by rw [f3]; exact hlim, hfin', fun x b hx => ?_, fun x hx => hgot x (h.acks x hx), hfinal⟩, ⟨fun _ h => h, fun x _ hx => hgot x hx, by rw [f3]; exact Int.le_refl _, Int.le_refl _⟩, ?_⟩
  · rw [f1, hLat] at hx
    by_cases hc : p.off + skip ≤ x ∧ x < p.off + bl p.data
    · rw [if_pos hc, hbyte x (by omega) hc.2] at hx; exact hx
    · rw [if_neg hc] at hx; exact h.pcs x b hx
  · rw [gotPart_iff]
    intro x h1 h2
    rw [gotIt_iff]
    rw [last_eq] at h2
    cases hf : p.fin with
    | true =>
      have h3 := hfinp hf
      rw [hf] at h2
      simp only [if_true] at h2
      by_cases hx : x = bl s.data
      · exact .inl ⟨hx, by rw [f4, b4 hf]; omega⟩
      · refine .inr ⟨hx, ?_⟩
        by_cases hr : x < r.read
        · exact .inl (by rw [f2]; exact hr)
        · right
          rw [f1, hLat, if_pos ⟨by omega, by omega⟩, List.getElem?_eq_getElem (show (x - p.off).toNat < p.data.length by unfold bl at *; omega)]; simp
    | false =>
      rw [hf] at h2
      simp only [Bool.false_eq_true, if_false] at h2
      refine .inr ⟨by omega, ?_⟩
      by_cases hr : x < r.read
      · exact .inl (by rw [f2]; exact hr)
      · right
        rw [f1, hLat, if_pos ⟨by omega, by omega⟩, List.getElem?_eq_getElem (show (x - p.off).toNat < p.data.length by unfold bl at *; omega)]; simp
theorem st_read {s : Sd} {r : Rv} {g : Bs} (h : StOK s r g) {n : Int} (hn : 0 ≤ n) : StOK s (rvRead r n).1 (g ++ (rvRead r n).2) ∧ StLe s r s (rvRead r n).1 := by
  have hrr := h.rv.read
  have hpk := h.rv.pcs
  cases hp : r.pieces with
  | nil =>
    have e : rvRead r n = (r, []) := by unfold rvRead; rw [hp]
    rw [e]
    simp only [List.append_nil]
    exact ⟨h, StLe.refl _ _⟩
  | cons p t =>
    rw [hp] at hpk
    by_cases hk : min n (rvReady r) = 0
    · have e : rvRead r n = (r, []) := by unfold rvRead; rw [hp]; simp only; rw [if_pos hk]
      rw [e]
      simp only [List.append_nil]
      exact ⟨h, StLe.refl _ _⟩
    · have hready : rvReady r = if r.read < p.off then 0 else bl p.data := by unfold rvReady; rw [hp]
      have hp0 := bl_pos hpk.1
      have hoff : p.off = r.read := by
        have := hpk.2.1
        rw [hready] at hk
        by_cases hc : r.read < p.off
        · rw [if_pos hc] at hk; omega
        · omega
      rw [hready, if_neg (by omega)] at hk
      obtain ⟨k, hkk⟩ : ∃ k : Nat, (k : Int) = min n (bl p.data) := ⟨(min n (bl p.data)).toNat, by omega⟩
      rw [← hkk] at hk
      have hkl : (k : Int) ≤ bl p.data := by omega
      obtain ⟨L, hL⟩ : ∃ L : List Pc, L = if p.data.drop k = [] then t else ⟨p.off + k, p.data.drop k⟩ :: t := ⟨_, rfl⟩
      have e : rvRead r n = ({ r with read := r.read + k, pieces := L }, p.data.take k) := by
        unfold rvRead
        rw [hready, if_neg (by omega), hp]
        simp only
        rw [← hkk, if_neg hk, Int.toNat_natCast, hL]
      rw [e]
      obtain ⟨r', hr'⟩ : ∃ r' : Rv, r' = { r with read := r.read + k, pieces := L } := ⟨_, rfl⟩
      simp only
      rw [← hr']
      have f1 : r'.pieces = L := by rw [hr']
      have f2 : r'.read = r.read + k := by rw [hr']
      have f3 : r'.limit = r.limit := by rw [hr']
      have f4 : r'.final = r.final := by rw [hr']
      have hpf : p.fin = p.off + bl p.data := rfl
      have h23 := hpk.2.2.1
      have hLok : pcOk (r.read + k - 1) r.limit L := by
        rw [hL]
        by_cases hd : p.data.drop k = []
        · rw [if_pos hd]; exact pcOk_low hpk.2.2.2 (by omega)
        · rw [if_neg hd]
          have hf : (⟨p.off + k, p.data.drop k⟩ : Pc).fin = p.fin := by unfold Pc.fin bl; simp only [List.length_drop]; unfold bl at hkl; omega
          exact ⟨hd, by simp only; omega, by rw [hf]; exact h23, by rw [hf]; exact hpk.2.2.2⟩
      have hLat : ∀ x, atL L x = if x < r.read + k then none else atL r.pieces x := by
        intro x
        rw [hL, hp]
        by_cases hd : p.data.drop k = []
        · rw [if_pos hd]
          have hkb : (k : Int) = bl p.data := by
            have := congrArg List.length hd
            rw [List.length_drop] at this
            simp at this
            unfold bl at *
            omega
          by_cases hx : x < r.read + k
          · rw [if_pos hx]; exact atL_low hpk.2.2.2 (by omega)
          · rw [if_neg hx, atL_cons, get_none.2 (.inr (by omega))]; simp
        · rw [if_neg hd, atL_cons, atL_cons, get_drop]
          by_cases hx : x < r.read + k
          · rw [if_pos hx, if_pos (by omega), atL_low hpk.2.2.2 (by omega)]; rfl
          · rw [if_neg hx, if_neg (by omega)]
      have hfb := fin_bd hrr.2 h.rv.pcs
      have hrk : r.read + k ≤ r.fin ∧ r.read + k ≤ r.limit := by
        have : ∀ x, p.get x ≠ none → x < r.fin := fun x hx => (hfb.2.2.1 x (by
          rw [hp, atL_cons]
          cases hg : p.get x with
          | none => exact absurd hg hx
          | some c => simp)).2
        have := this (p.fin - 1) (by
          have := get_isSome.2 (show p.off ≤ p.fin - 1 ∧ p.fin - 1 < p.fin by omega)
          intro e; rw [e] at this; cases this)
        omega
      have hok' : r'.read ≤ r'.limit ∧ pcOk (r'.read - 1) r'.limit r'.pieces := by rw [f1, f2, f3]; exact ⟨hrk.2, hLok⟩
      have hfin' : r'.fin ≤ r.fin := by
        rw [fin_char hok'.1 hok'.2]
        refine ⟨by rw [f2]; exact hrk.1, fun x hx => ?_⟩
        rw [f1, hLat] at hx
        by_cases hc : x < r.read + k
        · rw [if_pos hc] at hx; exact absurd rfl hx
        · rw [if_neg hc] at hx; exact (hfb.2.2.1 x hx).2
      have hgot : ∀ x, gotIt s r x = true → gotIt s r' x = true := by
        intro x hx
        rw [gotIt_iff] at hx ⊢
        rw [f4, f2, f1]
        rcases hx with hx | ⟨a, b⟩
        · exact .inl hx
        · refine .inr ⟨a, ?_⟩
          by_cases hc : x < r.read + k
          · exact .inl hc
          · rcases b with b | b
            · omega
            · right; rw [hLat, if_neg hc]; exact b
      have hgl := h.glen
      refine ⟨⟨h.sd, ⟨by rw [f3]; exact h.rv.lim, by rw [f2]; exact ⟨by omega, by rw [f3]; exact hrk.2⟩, hok'.2, ?_⟩, ?_, ?_, by rw [f3]; exact h.lim, by have := h.fin; omega, fun x b hx => ?_, fun x hx => hgot x (h.acks x hx), by rw [f4]; exact h.final⟩, ⟨fun _ h => h, fun x _ hx => hgot x hx, by rw [f3]; exact Int.le_refl _, Int.le_refl _⟩⟩
      · rw [f4, f3]
        rcases h.rv.fin with hh | hh
        · exact .inl hh
        · exact .inr ⟨by omega, hh.2⟩
      · rw [f2, bl_append, hgl]
        unfold bl at hkl ⊢
        rw [List.length_take]
        omega
      · have hpd := ((pcs_iff s.data h.rv.pcs (by omega)).2 h.pcs) p (by rw [hp]; exact List.mem_cons_self)
        have hlt : (p.data.take k).length = k := by rw [List.length_take]; unfold bl at hkl; omega
        rw [List.length_append, hlt, List.take_add, h.gpre]
        congr 1
        have hoff' : p.off.toNat = g.length := by unfold bl at hgl; omega
        rw [hoff'] at hpd
        conv => rhs; rw [← hpd]
        rw [List.take_take]
        congr 1
        unfold bl at hkl
        omega
      · rw [f1, hLat] at hx
        by_cases hc : x < r.read + k
        · rw [if_pos hc] at hx; cases hx
        · rw [if_neg hc] at hx; exact h.pcs x b hx
end Go.Proofs.Ytjpaoadbgmmoeaa
