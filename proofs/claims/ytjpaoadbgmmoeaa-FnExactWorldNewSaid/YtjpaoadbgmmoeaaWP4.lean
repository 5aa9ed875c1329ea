/- Both sides of a stream: what their validity says, and what waits to be read. No program in sight. -/
import Derived.Test.YtjpaoadbgmmoeaaWP3
namespace Go.Proofs.Ytjpaoadbgmmoeaa

theorem inB_iff {x a b : Int} : inB x a b = true ↔ a ≤ x ∧ x ≤ b := by simp [inB]
theorem bl_nonneg (l : Bs) : 0 ≤ bl l := by simp [bl]
theorem bl_append (a b : Bs) : bl (a ++ b) = bl a + bl b := by simp [bl]
/-! ### the sending side -/
structure SdOK (s : Sd) : Prop where
  len : bl s.data ≤ 30
  lim : 0 ≤ s.limit ∧ s.limit ≤ 30
  nxt : 0 ≤ s.next ∧ s.next ≤ s.many
  flow : min s.next (bl s.data) ≤ s.limit
  acked : rgOk (-2) s.acked ∧ rgBelow s.acked s.next
  lost : rgOk (-2) s.lost ∧ rgBelow s.lost s.next
  apart : ∀ x, hasR s.acked x = true → hasR s.lost x = true → False
theorem many_le {s : Sd} (h : bl s.data ≤ 30) : s.many ≤ 31 := by unfold Sd.many; split <;> omega
theorem few16 {l : List Rg} {x : Int} (h : rgOk (-2) l) (hb : rgBelow l x) (h0 : 0 ≤ x) (hx : x ≤ 31) : l.length ≤ 16 := by
  have := rg_few l (-2) x h hb (by omega)
  omega
theorem sd_iff (s : Sd) : sdValid s = true ↔ SdOK s := by
  simp only [sdValid, Bool.and_eq_true, decide_eq_true_eq, inB_iff, rgValid_iff]
  constructor
  · rintro ⟨⟨h1, h2, h3, h4⟩, ⟨⟨_, h5⟩, h6⟩, ⟨⟨_, h7⟩, h8⟩, h9⟩
    have h6' := (topB_iff _ _ _ h5).1 h6
    have h8' := (topB_iff _ _ _ h7).1 h8
    refine ⟨h1, h2, h3, h4, ⟨h5, h6'⟩, ⟨h7, h8'⟩, fun x ha hb => ?_⟩
    have hx0 := hasR_low h5 ha
    have hx1 := below_has h6' ha
    simp only [apartTo, List.all_eq_true, List.mem_range] at h9
    have := h9 x.toNat (by omega)
    rw [show ((x.toNat : Nat) : Int) = x by omega, ha, hb] at this
    simp at this
  · rintro ⟨h1, h2, h3, h4, ⟨h5, h6⟩, ⟨h7, h8⟩, h9⟩
    have hm := many_le h1
    refine ⟨⟨h1, h2, h3, h4⟩, ⟨⟨few16 h5 h6 h3.1 (by omega), h5⟩, (topB_iff _ _ _ h5).2 h6⟩, ⟨⟨few16 h7 h8 h3.1 (by omega), h7⟩, (topB_iff _ _ _ h7).2 h8⟩, ?_⟩
    simp only [apartTo, List.all_eq_true, List.mem_range]
    intro i _
    cases ha : hasR s.acked i with
    | false => rfl
    | true =>
      cases hb : hasR s.lost i with
      | false => rfl
      | true => exact (h9 _ ha hb).elim
/-! ### pieces -/
def pcOk : Int → Int → List Pc → Prop
  | _, _, [] => True
  | last, lim, p :: t => p.data ≠ [] ∧ last < p.off ∧ p.fin ≤ lim ∧ pcOk p.fin lim t
theorem pcOk_low : ∀ {l : List Pc} {a b lim : Int}, pcOk a lim l → b ≤ a → pcOk b lim l
  | [], _, _, _, _, _ => trivial
  | p :: t, a, b, lim, h, hb => ⟨h.1, by have := h.2.1; omega, h.2.2⟩
theorem pcOk_lim : ∀ {l : List Pc} {a x y : Int}, pcOk a x l → x ≤ y → pcOk a y l
  | [], _, _, _, _, _ => trivial
  | p :: t, a, x, y, h, hxy => ⟨h.1, h.2.1, by have := h.2.2.1; omega, pcOk_lim h.2.2.2 hxy⟩
theorem bl_pos {d : Bs} (h : d ≠ []) : 0 < bl d := by
  unfold bl
  have := List.length_pos_iff.2 h
  omega
def Pc.get (p : Pc) (x : Int) : Option UInt8 := if x < p.off then none else p.data[(x - p.off).toNat]?
def atL (l : List Pc) (x : Int) : Option UInt8 := l.findSome? (·.get x)
theorem get_some {p : Pc} {x : Int} {b : UInt8} : p.get x = some b ↔ p.off ≤ x ∧ p.data[(x - p.off).toNat]? = some b := by
  unfold Pc.get
  by_cases h : x < p.off
  · rw [if_pos h]; constructor
    · intro h'; cases h'
    · intro h'; omega
  · rw [if_neg h]; constructor
    · intro h'; exact ⟨by omega, h'⟩
    · intro h'; exact h'.2
theorem get_holds (p : Pc) (x : Int) : p.get x = if p.holds x = true then some (p.data.getD (x - p.off).toNat 0) else none := by
  unfold Pc.get Pc.holds Pc.fin bl
  by_cases h : x < p.off
  · rw [if_pos h, if_neg (by simp [inB]; omega)]
  · rw [if_neg h]
    by_cases h2 : (x - p.off).toNat < p.data.length
    · rw [if_pos (by simp [inB]; omega), List.getD_eq_getElem?_getD, List.getElem?_eq_getElem h2]; rfl
    · rw [if_neg (by simp [inB]; omega), List.getElem?_eq_none (by omega)]
theorem get_isSome {p : Pc} {x : Int} : (p.get x).isSome = true ↔ p.off ≤ x ∧ x < p.fin := by
  rw [get_holds]
  have : p.holds x = true ↔ p.off ≤ x ∧ x < p.fin := by simp [Pc.holds, inB]; omega
  by_cases h : p.holds x = true
  · rw [if_pos h]; simp [this.1 h]
  · rw [if_neg h]
    constructor
    · intro h'; cases h'
    · intro h'; exact absurd (this.2 h') h
theorem get_none {p : Pc} {x : Int} : p.get x = none ↔ x < p.off ∨ p.fin ≤ x := by
  cases h : p.get x with
  | none =>
    have : ¬ (p.get x).isSome = true := by rw [h]; simp
    rw [get_isSome] at this
    simp only [true_iff]
    omega
  | some b =>
    have := get_isSome.1 (show (p.get x).isSome = true by rw [h]; rfl)
    simp only [reduceCtorEq, false_iff]
    omega
theorem atL_nil (x : Int) : atL [] x = none := rfl
theorem atL_cons (p : Pc) (t : List Pc) (x : Int) : atL (p :: t) x = (p.get x).or (atL t x) := by
  unfold atL
  rw [List.findSome?_cons]
  cases p.get x <;> rfl
theorem waits_eq (r : Rv) (x : Int) : waits r x = atL r.pieces x := by
  unfold waits
  generalize r.pieces = l
  induction l with
  | nil => rfl
  | cons p t ih =>
    rw [atL_cons, List.find?_cons, get_holds]
    cases h : p.holds x with
    | true => rfl
    | false => simpa using ih
theorem atL_bd : ∀ {l : List Pc} {last lim x : Int}, pcOk last lim l → atL l x ≠ none → last < x ∧ x < lim
  | [], _, _, _, _, h => absurd rfl h
  | p :: t, last, lim, x, ok, h => by
    rw [atL_cons] at h
    cases hp : p.get x with
    | some b =>
      have := get_isSome.1 (show (p.get x).isSome = true by rw [hp]; rfl)
      have := ok.2.1
      have := ok.2.2.1
      omega
    | none =>
      rw [hp] at h
      have := atL_bd ok.2.2.2 (by simpa using h)
      have h1 := ok.2.1
      have h2 := bl_pos ok.1
      unfold Pc.fin at this
      omega
theorem atL_low {l : List Pc} {last lim x : Int} (ok : pcOk last lim l) (h : x ≤ last) : atL l x = none := by
  cases e : atL l x with
  | none => rfl
  | some b => have := (atL_bd ok (x := x) (by rw [e]; simp)).1; omega
/-- Pieces are told by what they hold. -/
theorem pc_ext : ∀ {l l' : List Pc} {a b x y : Int}, pcOk a x l → pcOk b y l' → (∀ z, atL l z = atL l' z) → l = l'
  | [], [], _, _, _, _, _, _, _ => rfl
  | [], p :: t, a, b, x, y, _, ok, h => by
    have h1 := h p.off
    rw [atL_nil, atL_cons] at h1
    have := get_isSome.2 (show p.off ≤ p.off ∧ p.off < p.fin from ⟨by omega, by have := bl_pos ok.1; unfold Pc.fin; omega⟩)
    cases hp : p.get p.off with
    | none => rw [hp] at this; cases this
    | some c => rw [hp] at h1; cases h1
  | p :: t, [], a, b, x, y, ok, _, h => by
    have h1 := h p.off
    rw [atL_nil, atL_cons] at h1
    have := get_isSome.2 (show p.off ≤ p.off ∧ p.off < p.fin from ⟨by omega, by have := bl_pos ok.1; unfold Pc.fin; omega⟩)
    cases hp : p.get p.off with
    | none => rw [hp] at this; cases this
    | some c => rw [hp] at h1; cases h1
  | p :: t, q :: u, a, b, x, y, ok, ok', h => by
    have hp0 := bl_pos ok.1
    have hq0 := bl_pos ok'.1
    have key : ∀ z, atL (p :: t) z = atL (q :: u) z := h
    have someP : (atL (p :: t) p.off).isSome = true := by
      rw [atL_cons]
      have := get_isSome.2 (show p.off ≤ p.off ∧ p.off < p.fin from ⟨by omega, by unfold Pc.fin; omega⟩)
      cases hp : p.get p.off with
      | none => rw [hp] at this; cases this
      | some c => rfl
    have someQ : (atL (q :: u) q.off).isSome = true := by
      rw [atL_cons]
      have := get_isSome.2 (show q.off ≤ q.off ∧ q.off < q.fin from ⟨by omega, by unfold Pc.fin; omega⟩)
      cases hp : q.get q.off with
      | none => rw [hp] at this; cases this
      | some c => rfl
    have okp : pcOk (p.off - 1) x (p :: t) := ⟨ok.1, by omega, ok.2.2⟩
    have okq : pcOk (q.off - 1) y (q :: u) := ⟨ok'.1, by omega, ok'.2.2⟩
    have hoff : p.off = q.off := by
      have h1 := (atL_bd okq (x := p.off) (by intro e; rw [key, e] at someP; cases someP)).1
      have h2 := (atL_bd okp (x := q.off) (by intro e; rw [← key, e] at someQ; cases someQ)).1
      omega
    have okt := ok.2.2.2
    have oku := ok'.2.2.2
    have atEnd : ∀ {p : Pc} {t : List Pc} {x : Int}, pcOk p.fin x t → atL (p :: t) p.fin = none := by
      intro p t x okt
      rw [atL_cons, get_none.2 (.inr (Int.le_refl _))]
      exact atL_low okt (Int.le_refl _)
    have hfin : p.fin = q.fin := by
      rcases Int.lt_trichotomy p.fin q.fin with hlt | he | hlt
      · have e1 := atEnd okt
        rw [key, atL_cons] at e1
        have := get_isSome.2 (show q.off ≤ p.fin ∧ p.fin < q.fin from ⟨by unfold Pc.fin; omega, hlt⟩)
        cases hp : q.get p.fin with
        | none => rw [hp] at this; cases this
        | some c => rw [hp] at e1; cases e1
      · exact he
      · have e1 := atEnd oku
        rw [← key, atL_cons] at e1
        have := get_isSome.2 (show p.off ≤ q.fin ∧ q.fin < p.fin from ⟨by unfold Pc.fin; omega, hlt⟩)
        cases hp : p.get q.fin with
        | none => rw [hp] at this; cases this
        | some c => rw [hp] at e1; cases e1
    have hlen : p.data.length = q.data.length := by unfold Pc.fin bl at hfin; omega
    have hdata : p.data = q.data := by
      apply List.ext_getElem hlen
      intro i h1 h2
      have e := key (p.off + i)
      rw [atL_cons, atL_cons] at e
      have g1 : p.get (p.off + i) = some p.data[i] := get_some.2 ⟨by omega, by rw [show (p.off + i - p.off).toNat = i by omega]; exact List.getElem?_eq_getElem h1⟩
      have g2 : q.get (p.off + i) = some q.data[i] := get_some.2 ⟨by omega, by rw [show (p.off + i - q.off).toNat = i by omega]; exact List.getElem?_eq_getElem h2⟩
      rw [g1, g2] at e
      simpa using e
    have hpq : p = q := by
      cases p; cases q; simp only at hoff hdata; subst hoff; subst hdata; rfl
    subst hpq
    have ht : ∀ z, atL t z = atL u z := by
      intro z
      by_cases hz : z ≤ p.fin
      · rw [atL_low okt hz, atL_low oku hz]
      · have e := key z
        rw [atL_cons, atL_cons, get_none.2 (.inr (by omega))] at e
        simpa using e
    rw [pc_ext okt oku ht]
/-! ### merging -/
theorem fin_eq (p : Pc) : p.fin = p.off + (p.data.length : Int) := rfl
theorem join_off (q p : Pc) : (joinPc q p).off = min q.off p.off := by
  unfold joinPc
  by_cases h : q.off < p.off
  · simp only [if_pos h]; split <;> (try simp only) <;> omega
  · simp only [if_neg h]; split <;> (try simp only) <;> omega
theorem join_fin (q p : Pc) (h1 : p.off ≤ q.fin) (h2 : q.off ≤ p.fin) : (joinPc q p).fin = max q.fin p.fin := by
  have a := fin_eq p
  have b := fin_eq q
  unfold joinPc
  by_cases h : q.off < p.off
  · simp only [if_pos h]
    have e : (⟨q.off, q.data.take (p.off - q.off).toNat ++ p.data⟩ : Pc).fin = p.fin := by
      simp only [fin_eq, List.length_append, List.length_take]; omega
    rw [e]
    split
    · simp only [fin_eq, List.length_append, List.length_take, List.length_drop]; omega
    · rw [e]; omega
  · simp only [if_neg h]
    split
    · simp only [fin_eq, List.length_append, List.length_drop]; omega
    · omega
theorem join_get (q p : Pc) (x : Int) (h1 : p.off ≤ q.fin) (h2 : q.off ≤ p.fin) : (joinPc q p).get x = (p.get x).or (q.get x) := by
  have a := fin_eq p
  have b := fin_eq q
  have ho := join_off q p
  have hf := join_fin q p h1 h2
  by_cases hx : x < min q.off p.off ∨ max q.fin p.fin ≤ x
  · rw [get_none.2 (by omega), get_none.2 (show x < p.off ∨ p.fin ≤ x by omega), get_none.2 (show x < q.off ∨ q.fin ≤ x by omega)]; rfl
  · have hin : q.off ≤ x ∧ x < q.fin ∨ p.off ≤ x ∧ x < p.fin := by omega
    unfold joinPc
    by_cases h : q.off < p.off
    · simp only [if_pos h]
      have e : (⟨q.off, q.data.take (p.off - q.off).toNat ++ p.data⟩ : Pc).fin = p.fin := by
        simp only [fin_eq, List.length_append, List.length_take]; omega
      rw [e]
      have hl : (q.data.take (p.off - q.off).toNat).length = (p.off - q.off).toNat := by rw [List.length_take]; omega
      have hx0 : ¬ x < q.off := by omega
      have g1 : ∀ R : Bs, x < p.fin → (⟨q.off, q.data.take (p.off - q.off).toNat ++ p.data ++ R⟩ : Pc).get x = (p.get x).or (q.get x) := by
        intro R hxp
        unfold Pc.get
        simp only [if_neg hx0]
        by_cases hxo : x < p.off
        · rw [if_pos hxo, List.append_assoc, List.getElem?_append_left (by omega), List.getElem?_take_of_lt (by omega)]; rfl
        · rw [if_neg hxo, List.getElem?_append_left (by simp only [List.length_append]; omega), List.getElem?_append_right (by omega), hl]
          rw [show (x - q.off).toNat - (p.off - q.off).toNat = (x - p.off).toNat by omega, List.getElem?_eq_getElem (show (x - p.off).toNat < p.data.length by omega)]; rfl
      split
      · rename_i hlt
        by_cases hxp : x < p.fin
        · exact g1 _ hxp
        · rw [get_none.2 (show x < p.off ∨ p.fin ≤ x by omega), Option.none_or]
          unfold Pc.get
          simp only [if_neg hx0]
          rw [List.getElem?_append_right (by simp only [List.length_append]; omega), List.getElem?_drop]
          congr 1
          simp only [List.length_append]; omega
      · rename_i hlt
        have := g1 [] (by omega)
        rwa [List.append_nil] at this
    · simp only [if_neg h]
      have hx0 : ¬ x < p.off := by omega
      split
      · rename_i hlt
        by_cases hxp : x < p.fin
        · have : (⟨p.off, p.data ++ q.data.drop (p.fin - q.off).toNat⟩ : Pc).get x = p.get x := by
            unfold Pc.get
            simp only [if_neg hx0]
            rw [List.getElem?_append_left (by omega)]
          rw [this]
          cases hg : p.get x with
          | some c => rfl
          | none => rcases get_none.1 hg with h' | h' <;> omega
        · rw [get_none.2 (show x < p.off ∨ p.fin ≤ x by omega), Option.none_or]
          unfold Pc.get
          simp only [if_neg hx0, if_neg (show ¬ x < q.off by omega)]
          rw [List.getElem?_append_right (by omega), List.getElem?_drop]
          congr 1
          omega
      · cases hg : p.get x with
        | some c => rfl
        | none => rcases get_none.1 hg with h' | h' <;> omega
theorem join_ne (q p : Pc) (h : p.data ≠ []) : (joinPc q p).data ≠ [] := by
  unfold joinPc
  by_cases h1 : q.off < p.off
  · simp only [if_pos h1]; split <;> simp [h]
  · simp only [if_neg h1]; split <;> simp [h]
theorem mrgM_all : ∀ (l : List Pc) (p : Pc) (last lim : Int), pcOk last lim l → last < p.off → p.data ≠ [] → p.fin ≤ lim → (∀ q ∈ l.head?, p.off ≤ q.fin) → pcOk last lim (mrgM l p) ∧ ∀ x, atL (mrgM l p) x = (p.get x).or (atL l x)
  | [], p, last, lim, _, h1, h2, h3, _ => ⟨⟨h2, h1, h3, trivial⟩, fun x => by rw [mrgM, atL_cons]⟩
  | q :: t, p, last, lim, ok, h1, h2, h3, h4 => by
    have h4' := h4 q rfl
    have hq := fin_eq q
    have hq0 := bl_pos ok.1
    unfold bl at hq0
    unfold mrgM
    split
    · rename_i hle
      have ih := mrgM_all t (joinPc q p) last lim (pcOk_low ok.2.2.2 (by have := ok.2.1; omega)) (by rw [join_off]; have := ok.2.1; omega) (join_ne q p h2) (by rw [join_fin q p h4' hle]; have := ok.2.2.1; omega) (fun y hy => by
        cases t with
        | nil => simp at hy
        | cons z zs =>
          simp at hy; subst hy
          have := ok.2.2.2.2.1
          have := bl_pos ok.2.2.2.1
          unfold bl at this
          rw [join_off, fin_eq z]; omega)
      refine ⟨ih.1, fun x => ?_⟩
      rw [ih.2, join_get q p x h4' hle, atL_cons, Option.or_assoc]
    · rename_i hle
      exact ⟨⟨h2, h1, h3, ok.1, by omega, ok.2.2⟩, fun x => by rw [atL_cons]⟩
theorem mrg_all : ∀ (l : List Pc) (p : Pc) (last lim : Int), pcOk last lim l → last < p.off → p.data ≠ [] → p.fin ≤ lim → pcOk last lim (mrg l p) ∧ ∀ x, atL (mrg l p) x = (p.get x).or (atL l x)
  | [], p, last, lim, _, h1, h2, h3 => ⟨⟨h2, h1, h3, trivial⟩, fun x => by rw [mrg, atL_cons]⟩
  | q :: t, p, last, lim, ok, h1, h2, h3 => by
    unfold mrg
    split
    · rename_i hlt
      have ih := mrg_all t p q.fin lim ok.2.2.2 hlt h2 h3
      refine ⟨⟨ok.1, ok.2.1, ok.2.2.1, ih.1⟩, fun x => ?_⟩
      rw [atL_cons, ih.2, atL_cons]
      cases hq : q.get x with
      | none => simp
      | some c =>
        have := get_isSome.1 (show (q.get x).isSome = true by rw [hq]; rfl)
        rw [get_none.2 (show x < p.off ∨ p.fin ≤ x by omega)]; rfl
    · rename_i hlt
      exact mrgM_all (q :: t) p last lim ok h1 h2 h3 (fun y hy => by simp at hy; subst hy; omega)
/-! ### the receiving side -/
structure RvOK (r : Rv) : Prop where
  lim : 0 ≤ r.limit ∧ r.limit ≤ 30
  read : 0 ≤ r.read ∧ r.read ≤ r.limit
  pcs : pcOk (r.read - 1) r.limit r.pieces
  fin : r.final = -1 ∨ (r.fin ≤ r.final ∧ r.final ≤ r.limit)
theorem rvTo_iff (r : Rv) : rvTo r r.pieces.length = true ↔ pcOk (r.read - 1) r.limit r.pieces := by
  have key : ∀ (l : List Pc) (last : Int), (∀ i, i < l.length → (l.getD i default).data ≠ [] ∧ (if i = 0 then last else (l.getD (i - 1) default).fin) < (l.getD i default).off ∧ bl (l.getD i default).data ≤ r.limit - (l.getD i default).off) ↔ pcOk last r.limit l := by
    intro l
    induction l with
    | nil => intro last; simp [pcOk]
    | cons p t ih =>
      intro last
      simp only [pcOk]
      rw [← ih p.fin]
      constructor
      · intro h
        have h0 := h 0 (by simp)
        simp only [if_pos, List.getD_cons_zero] at h0
        refine ⟨h0.1, h0.2.1, by have := h0.2.2; unfold Pc.fin; omega, fun i hi => ?_⟩
        have h1 := h (i + 1) (by simp; omega)
        simp only [if_neg (show i + 1 ≠ 0 by omega), Nat.add_sub_cancel, List.getD_cons_succ] at h1
        by_cases hi0 : i = 0
        · subst hi0; simpa using h1
        · rw [if_neg hi0]
          have e : (p :: t).getD i default = t.getD (i - 1) default := by
            obtain ⟨j, rfl⟩ : ∃ j, i = j + 1 := ⟨i - 1, by omega⟩
            rw [List.getD_cons_succ, Nat.add_sub_cancel]
          rw [e] at h1
          exact h1
      · rintro ⟨h1, h2, h3, h4⟩ i hi
        by_cases hi0 : i = 0
        · subst hi0; simp only [if_pos, List.getD_cons_zero]; exact ⟨h1, h2, by unfold Pc.fin at h3; omega⟩
        · obtain ⟨j, rfl⟩ : ∃ j, i = j + 1 := ⟨i - 1, by omega⟩
          have h5 := h4 j (by simp at hi; omega)
          rw [if_neg hi0, Nat.add_sub_cancel, List.getD_cons_succ]
          by_cases hj0 : j = 0
          · subst hj0; simpa using h5
          · rw [if_neg hj0] at h5
            obtain ⟨m, rfl⟩ : ∃ m, j = m + 1 := ⟨j - 1, by omega⟩
            rw [List.getD_cons_succ]
            simpa using h5
  rw [← key r.pieces (r.read - 1)]
  simp only [rvTo, List.all_eq_true, List.mem_range, rvAt, Bool.and_eq_true, Bool.not_eq_true', List.isEmpty_eq_false_iff, decide_eq_true_eq, ne_eq]
  simp only [rvLast]
theorem rv_iff (r : Rv) : rvValid r = true ↔ RvOK r := by
  simp only [rvValid, Bool.and_eq_true, Bool.or_eq_true, decide_eq_true_eq, inB_iff, rvTo_iff]
  constructor
  · rintro ⟨⟨h1, h2⟩, h3, h4⟩; exact ⟨h1, h2, h3, h4⟩
  · rintro ⟨h1, h2, h3, h4⟩; exact ⟨⟨h1, h2⟩, h3, h4⟩
theorem fin_le : ∀ {l : List Pc} {last lim : Int}, pcOk last lim l → last ≤ lim → (match l.getLast? with | none => last | some p => p.fin) ≤ lim
  | [], _, _, _, h => h
  | [p], _, _, ok, _ => ok.2.2.1
  | p :: q :: t, _, lim, ok, _ => by
    have := fin_le ok.2.2.2 ok.2.2.1
    rw [List.getLast?_cons_cons]
    cases h : (q :: t).getLast? with
    | none => simp at h
    | some z => rw [h] at this; exact this
/-- The end of what was received: all that waits is ahead of it. -/
theorem fin_last : ∀ {l : List Pc} {last lim : Int}, pcOk last lim l → l ≠ [] → ∃ p, l.getLast? = some p ∧ last < p.fin ∧ atL l (p.fin - 1) ≠ none ∧ ∀ x, atL l x ≠ none → x < p.fin
  | [], _, _, _, h => absurd rfl h
  | [p], last, lim, ok, _ => by
    have := bl_pos ok.1
    refine ⟨p, rfl, by have := ok.2.1; unfold Pc.fin; omega, ?_, fun x hx => ?_⟩
    · rw [atL_cons, atL_nil]
      have := get_isSome.2 (show p.off ≤ p.fin - 1 ∧ p.fin - 1 < p.fin from ⟨by unfold Pc.fin; omega, by omega⟩)
      intro e
      cases hp : p.get (p.fin - 1) with
      | none => rw [hp] at this; cases this
      | some c => rw [hp] at e; cases e
    · rw [atL_cons, atL_nil, Option.or_none] at hx
      cases hp : p.get x with
      | none => exact absurd hp hx
      | some c => exact (get_isSome.1 (show (p.get x).isSome = true by rw [hp]; rfl)).2
  | p :: q :: t, last, lim, ok, _ => by
    obtain ⟨z, h1, h2, h3, h4⟩ := fin_last ok.2.2.2 (by simp)
    have hp0 := bl_pos ok.1
    have h21 := ok.2.1
    refine ⟨z, by rw [List.getLast?_cons_cons]; exact h1, by unfold Pc.fin at h2 ⊢; omega, ?_, fun x hx => ?_⟩
    · rw [atL_cons, get_none.2 (.inr (by omega))]; simpa using h3
    · rw [atL_cons] at hx
      cases hp : p.get x with
      | none => rw [hp] at hx; exact h4 x (by simpa using hx)
      | some c => have := (get_isSome.1 (show (p.get x).isSome = true by rw [hp]; rfl)).2; omega
theorem fin_bd {r : Rv} (hr : r.read ≤ r.limit) (hp : pcOk (r.read - 1) r.limit r.pieces) : r.read ≤ r.fin ∧ r.fin ≤ r.limit ∧ (∀ x, atL r.pieces x ≠ none → r.read ≤ x ∧ x < r.fin) ∧ (r.read < r.fin → atL r.pieces (r.fin - 1) ≠ none) := by
  unfold Rv.fin
  by_cases hn : r.pieces = []
  · rw [hn]
    simp only [List.getLast?_nil]
    exact ⟨by omega, hr, fun x hx => absurd rfl hx, fun h' => by omega⟩
  · obtain ⟨p, h1, h2, h3, h4⟩ := fin_last hp hn
    have h5 := fin_le hp (by omega)
    rw [h1] at h5 ⊢
    simp only at h5 ⊢
    exact ⟨by omega, h5, fun x hx => ⟨by have := (atL_bd hp hx).1; omega, h4 x hx⟩, fun _ => h3⟩
theorem fin_char {r : Rv} (hr : r.read ≤ r.limit) (hp : pcOk (r.read - 1) r.limit r.pieces) (B : Int) : r.fin ≤ B ↔ r.read ≤ B ∧ ∀ x, atL r.pieces x ≠ none → x < B := by
  obtain ⟨h1, h2, h3, h4⟩ := fin_bd hr hp
  constructor
  · intro h; exact ⟨by omega, fun x hx => by have := (h3 x hx).2; omega⟩
  · rintro ⟨a, b⟩
    by_cases hlt : r.read < r.fin
    · have := b _ (h4 hlt); omega
    · omega
end Go.Proofs.Ytjpaoadbgmmoeaa
