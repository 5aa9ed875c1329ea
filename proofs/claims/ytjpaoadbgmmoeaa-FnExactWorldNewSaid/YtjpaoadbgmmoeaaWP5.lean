/- What an event does to the two sides of a stream, and that they stay valid and fit each other. No program in sight. -/
import Derived.Test.YtjpaoadbgmmoeaaWP4
namespace Go.Proofs.Ytjpaoadbgmmoeaa

structure Sent (s : Sd) (p : Pt) : Prop where
  off : 0 ≤ p.off ∧ p.off ≤ 30
  ne : p.off ≤ p.last
  nxt : p.last < s.next
  inn : p.off ≤ bl s.data
  fin : p.fin = true → s.fin = true ∧ p.off + bl p.data = bl s.data
  data : (s.data.drop p.off.toNat).take p.data.length = p.data
theorem sent_iff (s : Sd) (p : Pt) : sent s p = true ↔ Sent s p := by
  simp only [sent, Bool.and_eq_true, Bool.or_eq_true, decide_eq_true_eq, inB_iff, beq_iff_eq, Bool.not_eq_true']
  constructor
  · rintro ⟨⟨⟨h1, h2⟩, h3, h4⟩, h5, h6⟩
    exact ⟨h1, h2, h3, h4, fun hf => by rcases h5 with h5 | h5; (· rw [hf] at h5; cases h5); exact h5, h6⟩
  · rintro ⟨h1, h2, h3, h4, h5, h6⟩
    refine ⟨⟨⟨h1, h2⟩, h3, h4⟩, ?_, h6⟩
    cases hf : p.fin with
    | false => exact .inl rfl
    | true => exact .inr (h5 hf)
theorem Sent.end_ {s : Sd} {p : Pt} (h : Sent s p) : p.off + bl p.data ≤ bl s.data := by
  have e := congrArg List.length h.data
  have h1 := h.inn
  have h2 := h.off
  unfold bl at *
  rw [List.length_take, List.length_drop] at e
  omega
theorem Sent.byte {s : Sd} {p : Pt} (h : Sent s p) {i : Nat} (hi : i < p.data.length) : s.data[p.off.toNat + i]? = p.data[i]? := by
  conv => rhs; rw [← h.data]
  rw [List.getElem?_take_of_lt hi, List.getElem?_drop]
theorem last_eq (p : Pt) : p.last = p.off + bl p.data - 1 + (if p.fin then 1 else 0) := by unfold Pt.last; split <;> omega
theorem gotPart_iff (s : Sd) (r : Rv) (p : Pt) : gotPart s r p = true ↔ ∀ x, p.off ≤ x → x ≤ p.last → gotIt s r x = true := by
  simp only [gotPart, List.all_eq_true, List.mem_range]
  constructor
  · intro h x h1 h2
    have := h (x - p.off).toNat (by omega)
    rwa [show p.off + ((x - p.off).toNat : Int) = x by omega] at this
  · intro h i hi
    exact h _ (by omega) (by omega)
theorem gotIt_iff (s : Sd) (r : Rv) (x : Int) : gotIt s r x = true ↔ (x = bl s.data ∧ r.final = x) ∨ (x ≠ bl s.data ∧ (x < r.read ∨ atL r.pieces x ≠ none)) := by
  unfold gotIt
  rw [waits_eq]
  by_cases h : x = bl s.data
  · rw [if_pos h]; simp [h]
  · rw [if_neg h]
    simp only [Bool.or_eq_true, decide_eq_true_eq, h, false_and, false_or, not_false_eq_true, true_and, ne_eq]
    rw [Option.isSome_iff_ne_none]
/-- Both sides of a stream, and what was read. -/
structure StOK (s : Sd) (r : Rv) (g : Bs) : Prop where
  sd : SdOK s
  rv : RvOK r
  glen : bl g = r.read
  gpre : s.data.take g.length = g
  lim : s.limit ≤ r.limit
  fin : r.fin ≤ min s.next (bl s.data)
  pcs : ∀ x b, atL r.pieces x = some b → s.data[x.toNat]? = some b
  acks : ∀ x, hasR s.acked x = true → gotIt s r x = true
  final : r.final = -1 ∨ (s.fin = true ∧ r.final = bl s.data ∧ s.next = bl s.data + 1)
theorem pcs_iff : ∀ {l : List Pc} {last lim : Int} (D : Bs), pcOk last lim l → -1 ≤ last → ((∀ p ∈ l, (D.drop p.off.toNat).take p.data.length = p.data) ↔ (∀ x b, atL l x = some b → D[x.toNat]? = some b))
  | [], _, _, _, _, _ => by simp [atL_nil]
  | p :: t, last, lim, D, ok, h0 => by
    have hp0 := bl_pos ok.1
    have h21 := ok.2.1
    have ih := pcs_iff D ok.2.2.2 (by unfold Pc.fin; omega)
    have hp : ((D.drop p.off.toNat).take p.data.length = p.data) ↔ (∀ x b, p.get x = some b → D[x.toNat]? = some b) := by
      constructor
      · intro h x b hx
        obtain ⟨h1, h2⟩ := get_some.1 hx
        have hl := (List.getElem?_eq_some_iff.1 h2).1
        rw [← h, List.getElem?_take_of_lt hl, List.getElem?_drop] at h2
        rwa [show p.off.toNat + (x - p.off).toNat = x.toNat by omega] at h2
      · intro h
        apply List.ext_getElem?
        intro i
        by_cases hi : i < p.data.length
        · rw [List.getElem?_take_of_lt hi, List.getElem?_drop]
          have := h (p.off + i) p.data[i] (get_some.2 ⟨by omega, by rw [show (p.off + i - p.off).toNat = i by omega]; exact List.getElem?_eq_getElem hi⟩)
          rw [show (p.off + (i : Int)).toNat = p.off.toNat + i by omega] at this
          rw [this, List.getElem?_eq_getElem hi]
        · rw [List.getElem?_eq_none (by rw [List.length_take]; omega), List.getElem?_eq_none (by omega)]
    simp only [List.forall_mem_cons]
    rw [hp, ih]
    constructor
    · rintro ⟨h1, h2⟩ x b hx
      rw [atL_cons] at hx
      cases hg : p.get x with
      | some c => rw [hg] at hx; exact h1 x b (by rw [hg]; simpa using hx)
      | none => rw [hg] at hx; exact h2 x b (by simpa using hx)
    · intro h
      refine ⟨fun x b hx => h x b (by rw [atL_cons, hx]; rfl), fun x b hx => h x b ?_⟩
      rw [atL_cons]
      have := (atL_bd ok.2.2.2 (x := x) (by rw [hx]; simp)).1
      rw [get_none.2 (.inr (by omega))]
      simpa using hx
theorem st_iff (s : Sd) (r : Rv) (g : Bs) : streamOk s r g = true ↔ StOK s r g := by
  simp only [streamOk, Bool.and_eq_true, Bool.or_eq_true, decide_eq_true_eq, sd_iff, rv_iff, beq_iff_eq, List.all_eq_true, List.mem_range, Bool.not_eq_true']
  constructor
  · rintro ⟨⟨⟨h1, h2⟩, ⟨h3, h4⟩, h5⟩, ⟨h6, h7⟩, h8, h9⟩
    refine ⟨h1, h2, h3, h4, h5, h6, (pcs_iff s.data h2.pcs (by have := h2.read.1; omega)).1 h7, fun x hx => ?_, h9⟩
    have a := hasR_low h1.acked.1 hx
    have b := below_has h1.acked.2 hx
    rcases h8 x.toNat (by omega) with h | h
    · rw [show ((x.toNat : Nat) : Int) = x by omega, hx] at h; cases h
    · rwa [show ((x.toNat : Nat) : Int) = x by omega] at h
  · rintro ⟨h1, h2, h3, h4, h5, h6, h7, h8, h9⟩
    refine ⟨⟨⟨h1, h2⟩, ⟨h3, h4⟩, h5⟩, ⟨h6, (pcs_iff s.data h2.pcs (by have := h2.read.1; omega)).2 h7⟩, fun i _ => ?_, h9⟩
    cases hx : hasR s.acked (i : Int) with
    | false => exact .inl rfl
    | true => exact .inr (h8 _ hx)
/-- One stream goes on: what was sent stays so, and what was received. -/
structure StLe (s : Sd) (r : Rv) (s' : Sd) (r' : Rv) : Prop where
  sent : ∀ p, Sent s p → Sent s' p
  got : ∀ x, x < s.next → gotIt s r x = true → gotIt s' r' x = true
  limit : r.limit ≤ r'.limit
  next : s.next ≤ s'.next
theorem StLe.refl (s : Sd) (r : Rv) : StLe s r s r := ⟨fun _ h => h, fun _ _ h => h, Int.le_refl _, Int.le_refl _⟩
theorem StLe.part {s s' : Sd} {r r' : Rv} (h : StLe s r s' r') {p : Pt} (hs : Sent s p) (hg : gotPart s r p = true) : gotPart s' r' p = true := by
  rw [gotPart_iff] at hg ⊢
  exact fun x h1 h2 => h.got x (by have := hs.nxt; omega) (hg x h1 h2)
theorem StLe.same {s s' : Sd} (r : Rv) (h1 : s'.data = s.data) (h2 : s.next ≤ s'.next) (h3 : s.fin = true → s'.fin = true) : StLe s r s' r :=
  ⟨fun p h => ⟨h.off, h.ne, by have := h.nxt; omega, by rw [h1]; exact h.inn, fun hf => by rw [h1]; exact ⟨h3 (h.fin hf).1, (h.fin hf).2⟩, by rw [h1]; exact h.data⟩,
   fun x _ hx => by rw [gotIt_iff] at hx ⊢; rw [h1]; exact hx, Int.le_refl _, h2⟩

theorem st_write {s : Sd} {r : Rv} {g : Bs} (h : StOK s r g) (d : Bs) : StOK (sdWrite s d) r g ∧ StLe s r (sdWrite s d) r := by
  unfold sdWrite
  by_cases hc : (s.fin || decide (30 < bl s.data + bl d)) = true
  · rw [if_pos hc]; exact ⟨h, StLe.refl _ _⟩
  · rw [if_neg hc]
    simp only [Bool.or_eq_true, decide_eq_true_eq, not_or, Bool.not_eq_true] at hc
    obtain ⟨hf, hl⟩ := hc
    have hm : s.many = bl s.data := by unfold Sd.many; rw [hf]; rfl
    have hn := h.sd.nxt
    rw [hm] at hn
    have hb := bl_append s.data d
    have hd := bl_nonneg d
    have hfl := h.sd.flow
    have hfin := h.fin
    have hr := fin_bd h.rv.read.2 h.rv.pcs
    have hread := h.rv.read
    have hgl := h.glen
    have hrf : r.final = -1 := by
      rcases h.final with hh | hh
      · exact hh
      · rw [hf] at hh; cases hh.1
    have hgot : ∀ x, x < s.next → gotIt s r x = true → gotIt { s with data := s.data ++ d } r x = true := by
      intro x hx hx'
      rw [gotIt_iff] at hx' ⊢
      simp only
      rw [hb]
      rcases hx' with ⟨a, _⟩ | ⟨_, a⟩
      · omega
      · exact .inr ⟨by omega, a⟩
    refine ⟨⟨⟨by simp only; omega, h.sd.lim, ⟨hn.1, by unfold Sd.many; simp only; rw [hf]; simp only [Bool.false_eq_true, if_false]; omega⟩, by simp only; omega, h.sd.acked, h.sd.lost, h.sd.apart⟩, h.rv, h.glen, ?_, h.lim, by simp only; omega, ?_, fun x hx => hgot x (below_has h.sd.acked.2 hx) (h.acks x hx), .inl hrf⟩, ⟨?_, hgot, Int.le_refl _, Int.le_refl _⟩⟩
    · simp only
      rw [List.take_append_of_le_length (by unfold bl at *; omega)]
      exact h.gpre
    · intro x b hx
      have h1 := hr.2.2.1 x (by rw [hx]; simp)
      have := h.pcs x b hx
      simp only
      rw [List.getElem?_append_left (List.getElem?_eq_some_iff.1 this).1]
      exact this
    · intro p hp
      have he := hp.end_
      have ho := hp.off
      refine ⟨hp.off, hp.ne, hp.nxt, by simp only; have := hp.inn; omega, fun hh => (by have := (hp.fin hh).1; rw [hf] at this; cases this), ?_⟩
      simp only
      have := hp.inn
      rw [List.drop_append_of_le_length (by unfold bl at *; omega), List.take_append_of_le_length (by rw [List.length_drop]; unfold bl at *; omega)]
      exact hp.data
theorem st_finish {s : Sd} {r : Rv} {g : Bs} (h : StOK s r g) : StOK { s with fin := true } r g ∧ StLe s r { s with fin := true } r := by
  have hg : ∀ x, gotIt { s with fin := true } r x = gotIt s r x := fun _ => rfl
  refine ⟨⟨⟨h.sd.len, h.sd.lim, ⟨h.sd.nxt.1, ?_⟩, h.sd.flow, h.sd.acked, h.sd.lost, h.sd.apart⟩, h.rv, h.glen, h.gpre, h.lim, h.fin, h.pcs, h.acks, ?_⟩, StLe.same r rfl (Int.le_refl _) (fun _ => rfl)⟩
  · have := h.sd.nxt.2
    unfold Sd.many at this ⊢
    simp only [if_true]
    split at this <;> omega
  · rcases h.final with hh | hh
    · exact .inl hh
    · exact .inr ⟨rfl, hh.2⟩
theorem st_limit {s : Sd} {r : Rv} {g : Bs} (h : StOK s r g) {b : Int} (hb : 0 ≤ b) (hr : b ≤ r.limit) : StOK { s with limit := max s.limit b } r g ∧ StLe s r { s with limit := max s.limit b } r := by
  have h1 := h.rv.lim
  have h2 := h.sd.lim
  have h3 := h.lim
  refine ⟨⟨⟨h.sd.len, by simp only; omega, h.sd.nxt, by have := h.sd.flow; simp only; omega, h.sd.acked, h.sd.lost, h.sd.apart⟩, h.rv, h.glen, h.gpre, by simp only; omega, h.fin, h.pcs, h.acks, h.final⟩, StLe.same r rfl (Int.le_refl _) (fun h => h)⟩
theorem st_grant {s : Sd} {r : Rv} {g : Bs} (h : StOK s r g) {b : Int} (hb : r.limit ≤ b) (hr : b ≤ 30) : StOK s { r with limit := b } g ∧ StLe s r s { r with limit := b } := by
  have h1 := h.rv.lim
  have h3 := h.lim
  have h4 := h.rv.read
  refine ⟨⟨h.sd, ⟨by simp only; omega, by simp only; omega, pcOk_lim h.rv.pcs hb, ?_⟩, h.glen, h.gpre, by simp only; omega, h.fin, h.pcs, h.acks, h.final⟩, ⟨fun _ h => h, fun x _ hx => hx, hb, Int.le_refl _⟩⟩
  rcases h.rv.fin with hh | hh
  · exact .inl hh
  · exact .inr ⟨hh.1, by simp only; omega⟩
theorem Sent.bd {s : Sd} {p : Pt} (h : Sent s p) (hs : SdOK s) : p.last ≤ 30 ∧ p.last < s.next := by
  have := h.nxt
  have := hs.nxt.2
  have := many_le hs.len
  omega
theorem st_ack {s : Sd} {r : Rv} {g : Bs} (h : StOK s r g) {p : Pt} (hp : Sent s p) (hg : gotPart s r p = true) : StOK (sdAck s p) r g ∧ StLe s r (sdAck s p) r := by
  have hb := hp.bd h.sd
  have ho := hp.off
  have hne := hp.ne
  refine ⟨⟨⟨h.sd.len, h.sd.lim, h.sd.nxt, h.sd.flow, ⟨addP_ok _ _ _ _ h.sd.acked.1 (by omega) hne (by omega), below_addP _ _ _ _ h.sd.acked.2 hb.2⟩, ⟨remP_ok _ _ _ _ h.sd.lost.1 hne, below_remP _ _ _ _ h.sd.lost.2⟩, fun x ha hl => ?_⟩, h.rv, h.glen, h.gpre, h.lim, h.fin, h.pcs, fun x hx => ?_, h.final⟩, StLe.same r rfl (Int.le_refl _) (fun h => h)⟩
  · have ha' := (hasR_addP _ _ _ _ x h.sd.acked.1 hne).1 ha
    have hl' := (hasR_remP _ _ _ _ x h.sd.lost.1 hne).1 hl
    rcases ha' with ha' | ha'
    · exact h.sd.apart x ha' hl'.1
    · exact hl'.2 ha'
  · have ha' := (hasR_addP _ _ _ _ x h.sd.acked.1 hne).1 hx
    rcases ha' with ha' | ha'
    · exact h.acks x ha'
    · exact (gotPart_iff s r p).1 hg x ha'.1 ha'.2
theorem loseTo_all (a : List Rg) {l : List Rg} {x y : Int} (hl : rgOk (-2) l ∧ rgBelow l y) (hx : 0 ≤ x) (hy : y ≤ 999) : ∀ (k : Nat), x + k ≤ y → (rgOk (-2) (loseTo a l x k) ∧ rgBelow (loseTo a l x k) y) ∧ ∀ n, hasR (loseTo a l x k) n = true ↔ hasR l n = true ∨ (x ≤ n ∧ n < x + k ∧ hasR a n = false)
  | 0, _ => ⟨hl, fun n => by simp only [loseTo]; constructor; (· exact .inl); rintro (h | h); (· exact h); omega⟩
  | k + 1, hk => by
    obtain ⟨ih, ihn⟩ := loseTo_all a hl hx hy k (by omega)
    simp only [loseTo]
    by_cases ha : hasR a (x + k) = true
    · rw [if_pos ha]
      refine ⟨ih, fun n => ?_⟩
      rw [ihn]
      constructor
      · rintro (h | h)
        · exact .inl h
        · exact .inr ⟨h.1, by omega, h.2.2⟩
      · rintro (h | h)
        · exact .inl h
        · by_cases hn : n = x + k
          · subst hn; rw [ha] at h; cases h.2.2
          · exact .inr ⟨h.1, by omega, h.2.2⟩
    · rw [if_neg ha]
      refine ⟨⟨addP_ok _ _ _ _ ih.1 (by omega) (by omega) (by omega), below_addP _ _ _ _ ih.2 (by omega)⟩, fun n => ?_⟩
      rw [hasR_addP _ _ _ _ n ih.1 (by omega), ihn]
      constructor
      · rintro ((h | h) | h)
        · exact .inl h
        · exact .inr ⟨h.1, by omega, h.2.2⟩
        · have : n = x + k := by omega
          subst this
          exact .inr ⟨by omega, by omega, by simpa using ha⟩
      · rintro (h | h)
        · exact .inl (.inl h)
        · by_cases hn : n = x + k
          · exact .inr (by omega)
          · exact .inl (.inr ⟨h.1, by omega, h.2.2⟩)
theorem st_loss {s : Sd} {r : Rv} {g : Bs} (h : StOK s r g) {p : Pt} (hp : Sent s p) : StOK (sdLoss s p) r g ∧ StLe s r (sdLoss s p) r := by
  have hb := hp.bd h.sd
  have ho := hp.off
  have hne := hp.ne
  have hnx := h.sd.nxt.2
  have hm := many_le h.sd.len
  have hL := loseTo_all s.acked h.sd.lost ho.1 (show s.next ≤ 999 by omega) (p.last + 1 - p.off).toNat (by omega)
  refine ⟨⟨⟨h.sd.len, h.sd.lim, h.sd.nxt, h.sd.flow, h.sd.acked, hL.1, fun x ha hl => ?_⟩, h.rv, h.glen, h.gpre, h.lim, h.fin, h.pcs, h.acks, h.final⟩, StLe.same r rfl (Int.le_refl _) (fun h => h)⟩
  rcases (hL.2 x).1 hl with hl | hl
  · exact h.sd.apart x ha hl
  · rw [show hasR s.acked x = true from ha] at hl; cases hl.2.2
end Go.Proofs.Ytjpaoadbgmmoeaa
