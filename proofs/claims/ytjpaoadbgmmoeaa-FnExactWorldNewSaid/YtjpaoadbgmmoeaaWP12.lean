/- The reference's forms of the same checks and changes, and that they agree with the plain ones. No program in sight. -/
import Derived.Test.YtjpaoadbgmmoeaaWP11
namespace Go.Proofs.Ytjpaoadbgmmoeaa

/-! ### sets -/
/-- One step of the reference's adding: what was put out, whether the range was, and its bounds. -/
structure AddS where
  out : List Rg
  put : Bool
  lo : Int
  hi : Int
def addStep (a : AddS) (r : Rg) : AddS :=
  if r.hi < a.lo - 1 then { a with out := a.out ++ [r] }
  else if a.hi + 1 < r.lo then (if a.put then { a with out := a.out ++ [r] } else ⟨a.out ++ [⟨a.lo, a.hi⟩, r], true, a.lo, a.hi⟩)
  else { a with lo := min a.lo r.lo, hi := max a.hi r.hi }
def addEnd (a : AddS) : List Rg := if a.put then a.out else a.out ++ [⟨a.lo, a.hi⟩]
def addTo (l : List Rg) (lo hi : Int) (k : Nat) : AddS := (l.take k).foldl addStep ⟨[], false, lo, hi⟩
theorem addTo_zero (l : List Rg) (lo hi : Int) : addTo l lo hi 0 = ⟨[], false, lo, hi⟩ := rfl
theorem addTo_succ {l : List Rg} {lo hi : Int} {k : Nat} {r : Rg} (h : l[k]? = some r) : addTo l lo hi (k + 1) = addStep (addTo l lo hi k) r := by
  unfold addTo
  rw [List.take_add_one, h, List.foldl_append]
  rfl
theorem addM_behind {l : List Rg} {lo hi : Int} (h : ∀ r ∈ l.head?, hi + 1 < r.lo) : addM l lo hi = ⟨lo, hi⟩ :: l := by
  cases l with
  | nil => rfl
  | cons r t =>
    have := h r rfl
    unfold addM
    rw [if_neg (by omega)]
theorem addP_at {l : List Rg} {lo hi : Int} (h : ∀ r ∈ l.head?, lo ≤ r.hi + 1) : addP l lo hi = addM l lo hi := by
  cases l with
  | nil => rfl
  | cons r t =>
    have := h r rfl
    conv => lhs; unfold addP
    rw [if_neg (by omega)]
theorem add_spec : ∀ (l : List Rg) (last : Int) (a : AddS), rgOk last l → a.lo ≤ a.hi → (a.put = true → ∀ r ∈ l, a.hi + 1 < r.lo) → addEnd (l.foldl addStep a) = a.out ++ (if a.put then l else addP l a.lo a.hi)
  | [], last, a, _, _, _ => by
    simp only [List.foldl_nil, addEnd]
    by_cases hp : a.put = true <;> simp [hp, addP]
  | r :: t, last, a, ok, h1, h2 => by
    rw [List.foldl_cons]
    cases hp : a.put with
    | true =>
      have hr := h2 hp r List.mem_cons_self
      have e : addStep a r = { a with out := a.out ++ [r] } := by
        unfold addStep
        rw [if_neg (by have := ok.2.1; omega), if_pos hr, hp]; simp
      rw [e, add_spec t r.hi { a with out := a.out ++ [r] } ok.2.2.2 h1 (fun _ x hx => h2 hp x (List.mem_cons_of_mem _ hx))]
      simp [hp]
    | false =>
      by_cases c1 : r.hi < a.lo - 1
      · have e : addStep a r = { a with out := a.out ++ [r] } := by unfold addStep; rw [if_pos c1]
        rw [e, add_spec t r.hi { a with out := a.out ++ [r] } ok.2.2.2 h1 (fun hh => by rw [hp] at hh; cases hh)]
        simp only [hp, Bool.false_eq_true, if_false]
        conv => rhs; unfold addP
        rw [if_pos (by omega)]
        simp
      · by_cases c2 : a.hi + 1 < r.lo
        · have e : addStep a r = ⟨a.out ++ [⟨a.lo, a.hi⟩, r], true, a.lo, a.hi⟩ := by unfold addStep; rw [if_neg c1, if_pos c2, hp]; simp
          have hb : ∀ x ∈ t, a.hi + 1 < x.lo := by
            have : ∀ (t : List Rg) (last : Int), rgOk last t → ∀ x ∈ t, last + 2 ≤ x.lo := by
              intro t
              induction t with
              | nil => intro _ _ x hx; simp at hx
              | cons y ys ih =>
                intro last ok x hx
                rcases List.mem_cons.1 hx with rfl | hx
                · exact ok.1
                · have := ih _ ok.2.2.2 x hx
                  have := ok.1
                  have := ok.2.1
                  omega
            intro x hx
            have := this t r.hi ok.2.2.2 x hx
            have := ok.2.1
            omega
          rw [e, add_spec t r.hi ⟨a.out ++ [⟨a.lo, a.hi⟩, r], true, a.lo, a.hi⟩ ok.2.2.2 h1 (fun _ => hb)]
          simp only [if_true, Bool.false_eq_true, if_false]
          rw [addP_at (fun x hx => by simp at hx; subst hx; omega), addM_behind (fun x hx => by simp at hx; subst hx; omega)]
          simp
        · have e : addStep a r = { a with lo := min a.lo r.lo, hi := max a.hi r.hi } := by unfold addStep; rw [if_neg c1, if_neg c2]
          rw [e, add_spec t r.hi { a with lo := min a.lo r.lo, hi := max a.hi r.hi } ok.2.2.2 (by simp only; omega) (fun hh => by simp only at hh; rw [hp] at hh; cases hh)]
          simp only [hp, Bool.false_eq_true, if_false]
          rw [addP_at (l := r :: t) (fun x hx => by simp at hx; subst hx; omega)]
          conv => rhs; rw [addM, if_pos (by omega)]
          rw [addP_at (fun x hx => by
            cases t with
            | nil => simp at hx
            | cons y ys => simp at hx; subst hx; have := ok.2.2.2.1; have := ok.2.2.2.2.1; have := ok.2.1; omega)]
theorem l2Add_eq {l : List Rg} {last lo hi : Int} (ok : rgOk last l) (h : lo ≤ hi) : addEnd (addTo l lo hi l.length) = addP l lo hi := by
  unfold addTo
  rw [List.take_length, add_spec l last _ ok h (fun hh => by cases hh)]
  simp
/-! ### the sending side -/
def sSendB (s : Sd) : Bool :=
  (decide (bl s.data ≤ 30) && (inB s.limit 0 30 && (inB s.next 0 s.many && decide (min s.next (bl s.data) ≤ s.limit)))) &&
  ((rgValid s.acked && rgValid s.lost) && (List.range 1000).all fun i => !((hasR s.acked i && hasR s.lost i) || ((hasR s.acked i || hasR s.lost i) && decide (s.next ≤ i))))
theorem below_of_has {l : List Rg} {last x : Int} (ok : rgOk last l) (_h0 : -2 ≤ last) (h : ∀ n : Int, hasR l n = true → n < x) : rgBelow l x := by
  intro r hr
  have : hasR l r.hi = true := by
    simp only [hasR, List.any_eq_true, Bool.and_eq_true, decide_eq_true_eq]
    have : ∀ (l : List Rg) (last : Int), rgOk last l → ∀ r ∈ l, r.lo ≤ r.hi := by
      intro l
      induction l with
      | nil => intro _ _ r hr; simp at hr
      | cons y ys ih =>
        intro last ok r hr
        rcases List.mem_cons.1 hr with rfl | hr
        · exact ok.2.1
        · exact ih _ ok.2.2.2 r hr
    exact ⟨r, hr, this l last ok r hr, Int.le_refl _⟩
  exact h _ this
theorem has_bd {l : List Rg} {last n : Int} (ok : rgOk last l) (h : hasR l n = true) : n ≤ 999 := by
  simp only [hasR, List.any_eq_true, Bool.and_eq_true, decide_eq_true_eq] at h
  obtain ⟨r, hr, h1, h2⟩ := h
  have : ∀ (l : List Rg) (last : Int), rgOk last l → ∀ r ∈ l, r.hi ≤ 999 := by
    intro l
    induction l with
    | nil => intro _ _ r hr; simp at hr
    | cons y ys ih =>
      intro last ok r hr
      rcases List.mem_cons.1 hr with rfl | hr
      · exact ok.2.2.1
      · exact ih _ ok.2.2.2 r hr
  have := this l last ok r hr
  omega
theorem sSend_eq (s : Sd) : sSendB s = sdValid s := by
  rw [Bool.eq_iff_iff, sd_iff]
  simp only [sSendB, Bool.and_eq_true, decide_eq_true_eq, inB_iff, rgValid_iff, List.all_eq_true, List.mem_range]
  constructor
  · rintro ⟨⟨h1, h2, h3, h4⟩, ⟨⟨_, h5⟩, ⟨_, h6⟩⟩, h7⟩
    have key : ∀ n : Int, hasR s.acked n = true ∨ hasR s.lost n = true → n < s.next ∧ ¬ (hasR s.acked n = true ∧ hasR s.lost n = true) := by
      intro n hn
      have hb : 0 ≤ n ∧ n ≤ 999 := by
        rcases hn with hn | hn
        · exact ⟨by have := hasR_low h5 hn; omega, has_bd h5 hn⟩
        · exact ⟨by have := hasR_low h6 hn; omega, has_bd h6 hn⟩
      have := h7 n.toNat (by omega)
      rw [show ((n.toNat : Nat) : Int) = n by omega] at this
      simp only [Bool.not_eq_true', Bool.or_eq_false_iff, Bool.and_eq_false_iff, decide_eq_false_iff_not] at this
      refine ⟨?_, ?_⟩
      · rcases this.2 with h8 | h8
        · rcases hn with hn | hn
          · rw [hn] at h8; cases h8.1
          · rw [hn] at h8; cases h8.2
        · omega
      · rintro ⟨ha, hl⟩
        rcases this.1 with h8 | h8
        · rw [ha] at h8; cases h8
        · rw [hl] at h8; cases h8
    exact ⟨h1, h2, h3, h4, ⟨h5, below_of_has h5 (by omega) fun n hn => (key n (.inl hn)).1⟩, ⟨h6, below_of_has h6 (by omega) fun n hn => (key n (.inr hn)).1⟩, fun x ha hl => (key x (.inl ha)).2 ⟨ha, hl⟩⟩
  · rintro ⟨h1, h2, h3, h4, ⟨h5, h6⟩, ⟨h7, h8⟩, h9⟩
    have hm := many_le h1
    refine ⟨⟨h1, h2, h3, h4⟩, ⟨⟨few16 h5 h6 h3.1 (by omega), h5⟩, ⟨few16 h7 h8 h3.1 (by omega), h7⟩⟩, fun i _ => ?_⟩
    simp only [Bool.not_eq_true', Bool.or_eq_false_iff, Bool.and_eq_false_iff, decide_eq_false_iff_not]
    refine ⟨?_, ?_⟩
    · cases ha : hasR s.acked i with
      | false => exact .inl rfl
      | true =>
        cases hl : hasR s.lost i with
        | false => exact .inr rfl
        | true => exact (h9 _ ha hl).elim
    · cases ha : hasR s.acked i with
      | true => right; have := below_has h6 ha; omega
      | false =>
        cases hl : hasR s.lost i with
        | true => right; have := below_has h8 hl; omega
        | false => exact .inl ⟨rfl, rfl⟩
/-! ### both sides -/
/-- The receiver has all positions of a part (the reference's form). -/
def recvd (r : Rv) (p : Pt) : Bool := ((List.range p.data.length).all fun i => decide (p.off + i < r.read) || (atL r.pieces (p.off + i)).isSome) && (!p.fin || decide (r.final = p.off + bl p.data))
def sPart (s : Sd) (lo hi : Int) : Pt := ⟨lo, (s.data.drop lo.toNat).take (max lo (min (hi + 1) (bl s.data)) - lo).toNat, decide (hi = bl s.data)⟩
theorem recvd_iff (s : Sd) (r : Rv) (p : Pt) (h1 : p.off + bl p.data ≤ bl s.data) (h2 : p.fin = true → p.off + bl p.data = bl s.data) : recvd r p = true ↔ ∀ x, p.off ≤ x → x ≤ p.last → gotIt s r x = true := by
  simp only [recvd, Bool.and_eq_true, Bool.or_eq_true, List.all_eq_true, List.mem_range, decide_eq_true_eq, Bool.not_eq_true', Option.isSome_iff_ne_none]
  constructor
  · rintro ⟨ha, hb⟩ x hx1 hx2
    rw [gotIt_iff]
    rw [last_eq] at hx2
    cases hf : p.fin with
    | false =>
      rw [hf] at hx2
      simp only [Bool.false_eq_true, if_false] at hx2
      have := ha (x - p.off).toNat (by unfold bl at hx2; omega)
      rw [show p.off + ((x - p.off).toNat : Int) = x by omega] at this
      exact .inr ⟨by omega, this⟩
    | true =>
      rw [hf] at hx2 hb
      simp only [if_true] at hx2
      have he := h2 hf
      by_cases hxe : x = bl s.data
      · refine .inl ⟨hxe, ?_⟩
        rcases hb with hb | hb
        · cases hb
        · omega
      · have := ha (x - p.off).toNat (by unfold bl at *; omega)
        rw [show p.off + ((x - p.off).toNat : Int) = x by omega] at this
        exact .inr ⟨hxe, this⟩
  · intro h
    refine ⟨fun i hi => ?_, ?_⟩
    · have := h (p.off + i) (by omega) (by rw [last_eq]; unfold bl; split <;> omega)
      rw [gotIt_iff] at this
      rcases this with ⟨a, b⟩ | ⟨a, b⟩
      · unfold bl at *; omega
      · exact b
    · cases hf : p.fin with
      | false => exact .inl rfl
      | true =>
        right
        have he := h2 hf
        have := h (p.off + bl p.data) (by have := bl_nonneg p.data; omega) (by rw [last_eq, hf]; simp only [if_true]; omega)
        rw [gotIt_iff] at this
        rcases this with ⟨a, b⟩ | ⟨a, b⟩
        · exact b
        · omega
theorem recvd_sent {s : Sd} {r : Rv} {p : Pt} (h : Sent s p) : recvd r p = gotPart s r p := by
  rw [Bool.eq_iff_iff, gotPart_iff, recvd_iff s r p h.end_ (fun hf => (h.fin hf).2)]
theorem sPart_bl (s : Sd) {lo hi : Int} (h0 : 0 ≤ lo) (h1 : lo ≤ hi) (h2 : hi ≤ bl s.data) : lo + bl (sPart s lo hi).data = max lo (min (hi + 1) (bl s.data)) := by
  have : bl (sPart s lo hi).data = max lo (min (hi + 1) (bl s.data)) - lo := by
    unfold sPart
    simp only
    exact part_bl h0 (by omega) (by omega)
  omega
theorem recvd_range (s : Sd) (r : Rv) {lo hi : Int} (h0 : 0 ≤ lo) (h1 : lo ≤ hi) (h2 : hi ≤ bl s.data) : recvd r (sPart s lo hi) = true ↔ ∀ x, lo ≤ x → x ≤ hi → gotIt s r x = true := by
  have hb := sPart_bl s h0 h1 h2
  have hl : (sPart s lo hi).last = hi := by
    rw [last_eq]
    have : (sPart s lo hi).off = lo := rfl
    rw [this]
    have hf : (sPart s lo hi).fin = decide (hi = bl s.data) := rfl
    rw [hf]
    by_cases he : hi = bl s.data
    · rw [decide_eq_true he]; simp only [if_true]; omega
    · rw [decide_eq_false he]; simp only [Bool.false_eq_true, if_false]; omega
  have hoff : (sPart s lo hi).off = lo := rfl
  rw [recvd_iff s r (sPart s lo hi) (by rw [hoff]; omega) (fun hf => by
    have : hi = bl s.data := by simpa [sPart] using hf
    rw [hoff]; omega), hl, hoff]
def pcIn (s : Sd) (p : Pc) : Bool := decide (p.fin ≤ min s.next (bl s.data)) && ((s.data.drop p.off.toNat).take p.data.length == p.data)
def sStreamB (s : Sd) (r : Rv) (g : Bs) : Bool :=
  ((sdValid s && rvValid r) && ((decide (bl g = r.read) && decide (s.limit ≤ r.limit)) && (decide (r.read ≤ min s.next (bl s.data)) && (s.data.take r.read.toNat == g)))) &&
  ((r.pieces.all (pcIn s) && s.acked.all fun a => recvd r (sPart s a.lo a.hi)) && (decide (r.final = -1) || (s.fin && (decide (r.final = bl s.data) && decide (s.next = bl s.data + 1)))))
theorem rv_fin_all {r : Rv} (hr : r.read ≤ r.limit) (hpc : pcOk (r.read - 1) r.limit r.pieces) (B : Int) : r.fin ≤ B ↔ r.read ≤ B ∧ ∀ p ∈ r.pieces, p.fin ≤ B := by
  constructor
  · intro hB
    refine ⟨by have := (fin_bd hr hpc).1; omega, fun p hp => ?_⟩
    have h2 := (fin_char hr hpc B).1 hB
    have hne : p.data ≠ [] := by
      have : ∀ (l : List Pc) (a b : Int), pcOk a b l → ∀ p ∈ l, p.data ≠ [] := by
        intro l
        induction l with
        | nil => intro _ _ _ p hp; simp at hp
        | cons y ys ih =>
          intro a b ok p hp
          rcases List.mem_cons.1 hp with rfl | hp
          · exact ok.1
          · exact ih _ _ ok.2.2.2 p hp
      exact this _ _ _ hpc p hp
    have hpos := bl_pos hne
    have := h2.2 (p.fin - 1) (by
      have hs := get_isSome.2 (show p.off ≤ p.fin - 1 ∧ p.fin - 1 < p.fin from ⟨by unfold Pc.fin; omega, by omega⟩)
      intro e
      unfold atL at e
      rw [List.findSome?_eq_none_iff] at e
      rw [e p hp] at hs
      cases hs)
    omega
  · rintro ⟨a, b⟩
    rw [fin_char hr hpc]
    refine ⟨a, fun x hx => ?_⟩
    unfold atL at hx
    cases e : r.pieces.findSome? (·.get x) with
    | none => exact absurd e hx
    | some c =>
      obtain ⟨p, hp, hpx⟩ := List.exists_of_findSome?_eq_some e
      have := (get_isSome.1 (show (p.get x).isSome = true by rw [hpx]; rfl)).2
      have := b p hp
      omega
theorem sStream_eq (s : Sd) (r : Rv) (g : Bs) : sStreamB s r g = streamOk s r g := by
  rw [Bool.eq_iff_iff]
  simp only [sStreamB, streamOk, Bool.and_eq_true, Bool.or_eq_true, decide_eq_true_eq, beq_iff_eq, List.all_eq_true, pcIn]
  have hgl : bl g = r.read → g.length = r.read.toNat := fun h => by unfold bl at h; omega
  constructor
  · rintro ⟨⟨⟨h1, h2⟩, ⟨h3, h4⟩, h5, h6⟩, ⟨h7, h8⟩, h9⟩
    have hs := (sd_iff s).1 h1
    have hr := (rv_iff r).1 h2
    refine ⟨⟨⟨h1, h2⟩, ⟨h3, by rw [hgl h3]; exact h6⟩, h4⟩, ⟨(rv_fin_all hr.read.2 hr.pcs _).2 ⟨h5, fun p hp => (h7 p hp).1⟩, fun p hp => (h7 p hp).2⟩, fun i _ => ?_, h9⟩
    simp only [Bool.not_eq_true']
    cases hh : hasR s.acked (i : Int) with
    | false => exact .inl rfl
    | true =>
      right
      have hh' := hh
      simp only [hasR, List.any_eq_true, Bool.and_eq_true, decide_eq_true_eq] at hh'
      obtain ⟨a, ha, h10, h11⟩ := hh'
      have hb := hs.acked.2 a ha
      have hm := hs.nxt.2
      have hmm : s.many ≤ bl s.data + 1 := by unfold Sd.many; split <;> omega
      have hlo : 0 ≤ a.lo := by
        have hx : hasR s.acked a.lo = true := by
          simp only [hasR, List.any_eq_true, Bool.and_eq_true, decide_eq_true_eq]
          exact ⟨a, ha, Int.le_refl _, by omega⟩
        have := hasR_low hs.acked.1 hx
        omega
      exact (recvd_range s r hlo (by omega) (by omega)).1 (h8 a ha) _ h10 h11
  · rintro ⟨⟨⟨h1, h2⟩, ⟨h3, h4⟩, h5⟩, ⟨h6, h7⟩, h8, h9⟩
    have hs := (sd_iff s).1 h1
    have hr := (rv_iff r).1 h2
    have hf := (rv_fin_all hr.read.2 hr.pcs _).1 h6
    refine ⟨⟨⟨h1, h2⟩, ⟨h3, h5⟩, hf.1, by rw [← hgl h3]; exact h4⟩, ⟨fun p hp => ⟨hf.2 p hp, h7 p hp⟩, fun a ha => ?_⟩, h9⟩
    have hb := hs.acked.2 a ha
    have hm := hs.nxt.2
    have hmm : s.many ≤ bl s.data + 1 := by unfold Sd.many; split <;> omega
    have hle : a.lo ≤ a.hi := by
      have : ∀ (l : List Rg) (last : Int), rgOk last l → ∀ r ∈ l, r.lo ≤ r.hi := by
        intro l
        induction l with
        | nil => intro _ _ r hr; simp at hr
        | cons y ys ih =>
          intro last ok r hr
          rcases List.mem_cons.1 hr with rfl | hr
          · exact ok.2.1
          · exact ih _ ok.2.2.2 r hr
      exact this _ _ hs.acked.1 a ha
    have hin : ∀ x, a.lo ≤ x → x ≤ a.hi → hasR s.acked x = true := fun x hx1 hx2 => by
      simp only [hasR, List.any_eq_true, Bool.and_eq_true, decide_eq_true_eq]
      exact ⟨a, ha, hx1, hx2⟩
    have hlo : 0 ≤ a.lo := by have := hasR_low hs.acked.1 (hin a.lo (by omega) hle); omega
    rw [recvd_range s r hlo hle (by omega)]
    intro x hx1 hx2
    have := h8 x.toNat (List.mem_range.2 (by omega))
    rw [show ((x.toNat : Nat) : Int) = x by omega, hin x hx1 hx2] at this
    simpa using this
/-- The reference's form of a valid receiving side. -/
def sRvAt (r : Rv) (i : Nat) : Bool := !(r.pieces.getD i default).data.isEmpty && (decide (rvLast r i < (r.pieces.getD i default).off) && (decide ((r.pieces.getD i default).off ≤ 30) && decide (bl (r.pieces.getD i default).data ≤ 30)))
def sRecvB (r : Rv) : Bool := (List.range r.pieces.length).all (sRvAt r) && ((inB r.limit 0 30 && inB r.read 0 r.limit) && (decide (r.fin ≤ r.limit) && (decide (r.final = -1) || inB r.final r.fin r.limit)))
end Go.Proofs.Ytjpaoadbgmmoeaa
