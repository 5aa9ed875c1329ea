/- What the validity of a run says, as propositions. No program in sight. -/
import Derived.Test.YtjpaoadbgmmoeaaWP6
namespace Go.Proofs.Ytjpaoadbgmmoeaa

section
variable {α β γ : Type}
def F2 (R : α → β → Prop) : List α → List β → Prop
  | [], [] => True
  | a :: l, b :: m => R a b ∧ F2 R l m
  | _, _ => False
theorem F2.append {R : α → β → Prop} : ∀ {l l' : List α} {m m' : List β}, F2 R l m → F2 R l' m' → F2 R (l ++ l') (m ++ m')
  | [], _, [], _, _, h => h
  | _ :: _, _, _ :: _, _, h, h' => ⟨h.1, F2.append h.2 h'⟩
theorem F2.split {R : α → β → Prop} : ∀ {l l' : List α} {m : List β}, F2 R (l ++ l') m → ∃ m1 m2, m = m1 ++ m2 ∧ F2 R l m1 ∧ F2 R l' m2
  | [], _, m, h => ⟨[], m, rfl, trivial, h⟩
  | a :: l, l', [], h => h.elim
  | a :: l, l', b :: m, h => by
    obtain ⟨m1, m2, rfl, h1, h2⟩ := F2.split h.2
    exact ⟨b :: m1, m2, rfl, ⟨h.1, h1⟩, h2⟩
theorem F2.mono {R Q : α → β → Prop} (hRQ : ∀ a b, R a b → Q a b) : ∀ {l : List α} {m : List β}, F2 R l m → F2 Q l m
  | [], [], _ => trivial
  | _ :: _, _ :: _, h => ⟨hRQ _ _ h.1, F2.mono hRQ h.2⟩
theorem F2.mono' {R Q : α → β → Prop} : ∀ {l : List α} {m : List β}, (∀ a b, a ∈ l → b ∈ m → R a b → Q a b) → F2 R l m → F2 Q l m
  | [], [], _, _ => trivial
  | _ :: _, _ :: _, hRQ, h => ⟨hRQ _ _ List.mem_cons_self List.mem_cons_self h.1, F2.mono' (fun x y hx hy => hRQ x y (List.mem_cons_of_mem _ hx) (List.mem_cons_of_mem _ hy)) h.2⟩
theorem F2.filter {R : α → β → Prop} (f : α → Bool) (g : β → Bool) (hfg : ∀ a b, R a b → f a = g b) : ∀ {l : List α} {m : List β}, F2 R l m → F2 R (l.filter f) (m.filter g)
  | [], [], _ => trivial
  | a :: l, b :: m, h => by
    have ih := F2.filter f g hfg h.2
    have e := hfg a b h.1
    cases hb : g b with
    | true => rw [List.filter_cons_of_pos (by rw [e, hb]), List.filter_cons_of_pos hb]; exact ⟨h.1, ih⟩
    | false => rw [List.filter_cons_of_neg (by rw [e, hb]; simp), List.filter_cons_of_neg (by rw [hb]; simp)]; exact ih
theorem F2.mem {R : α → β → Prop} : ∀ {l : List α} {m : List β}, F2 R l m → ∀ b ∈ m, ∃ a ∈ l, R a b
  | [], [], _, _, hb => by simp at hb
  | a :: l, b :: m, h, y, hy => by
    rcases List.mem_cons.1 hy with rfl | hy
    · exact ⟨a, List.mem_cons_self, h.1⟩
    · obtain ⟨x, hx, hr⟩ := F2.mem h.2 y hy
      exact ⟨x, List.mem_cons_of_mem _ hx, hr⟩
theorem F2.memL {R : α → β → Prop} : ∀ {l : List α} {m : List β}, F2 R l m → ∀ a ∈ l, ∃ b ∈ m, R a b
  | [], [], _, _, hb => by simp at hb
  | a :: l, b :: m, h, y, hy => by
    rcases List.mem_cons.1 hy with rfl | hy
    · exact ⟨b, List.mem_cons_self, h.1⟩
    · obtain ⟨x, hx, hr⟩ := F2.memL h.2 y hy
      exact ⟨x, List.mem_cons_of_mem _ hx, hr⟩
theorem F2.maps {R : α → β → Prop} (f : α → γ) (g : β → γ) (hfg : ∀ a b, R a b → f a = g b) : ∀ {l : List α} {m : List β}, F2 R l m → l.map f = m.map g
  | [], [], _ => rfl
  | a :: l, b :: m, h => by rw [List.map_cons, List.map_cons, hfg a b h.1, F2.maps f g hfg h.2]
theorem F2.len {R : α → β → Prop} : ∀ {l : List α} {m : List β}, F2 R l m → l.length = m.length
  | [], [], _ => rfl
  | a :: l, b :: m, h => by rw [List.length_cons, List.length_cons, F2.len h.2]
end

/-! ### paths -/
structure LsOK (l : Ls) : Prop where
  next : 0 ≤ l.next ∧ l.next ≤ 1000
  top : -1 ≤ l.largest ∧ l.largest ≤ l.next - 1
  few : l.flight.length ≤ 12
  pk : ∀ k ∈ l.flight, (0 ≤ k.num ∧ k.num ≤ l.next - 1) ∧ k.num ≠ l.largest ∧ (0 ≤ k.time ∧ k.time ≤ 999) ∧ 1 ≤ k.size ∧ k.size ≤ 99
  asc : l.flight.Pairwise fun a b => a.num < b.num ∧ a.time ≤ b.time
theorem pw_iff {α : Type} [Inhabited α] {R : α → α → Prop} (tr : ∀ a b c, R a b → R b c → R a c) : ∀ (l : List α), (∀ i, i + 1 < l.length → R (l.getD i default) (l.getD (i + 1) default)) ↔ l.Pairwise R
  | [] => by simp
  | [a] => by simp
  | a :: b :: t => by
    have ih := pw_iff tr (b :: t)
    rw [List.pairwise_cons, ← ih]
    constructor
    · intro h
      have h0 := h 0 (by simp)
      simp only [List.getD_cons_zero, List.getD_cons_succ, Nat.zero_add] at h0
      have hr : ∀ i, i + 1 < (b :: t).length → R ((b :: t).getD i default) ((b :: t).getD (i + 1) default) := fun i hi => by
        have := h (i + 1) (by simp at hi ⊢; omega)
        rwa [List.getD_cons_succ, List.getD_cons_succ] at this
      refine ⟨fun c hc => ?_, hr⟩
      rcases List.mem_cons.1 hc with rfl | hc
      · exact h0
      · have := ih.1 hr
        rw [List.pairwise_cons] at this
        exact tr _ _ _ h0 (this.1 c hc)
    · rintro ⟨h1, h2⟩ i hi
      cases i with
      | zero =>
        simp only [List.getD_cons_zero, List.getD_cons_succ, Nat.zero_add]
        exact h1 b List.mem_cons_self
      | succ i =>
        have := h2 i (by simp at hi ⊢; omega)
        rwa [List.getD_cons_succ, List.getD_cons_succ]
theorem getD_mem_iff {α : Type} [Inhabited α] {l : List α} {P : α → Prop} : (∀ i, i < l.length → P (l.getD i default)) ↔ ∀ x ∈ l, P x := by
  constructor
  · intro h x hx
    obtain ⟨i, hi, rfl⟩ := List.mem_iff_getElem.1 hx
    have := h i hi
    rwa [List.getD_eq_getElem?_getD, List.getElem?_eq_getElem hi] at this
  · intro h i hi
    rw [List.getD_eq_getElem?_getD, List.getElem?_eq_getElem hi]
    exact h _ (List.getElem_mem hi)
theorem ls_iff (l : Ls) : lsValid l = true ↔ LsOK l := by
  have key : pkTo l l.flight.length = true ↔ (∀ k ∈ l.flight, (0 ≤ k.num ∧ k.num ≤ l.next - 1) ∧ k.num ≠ l.largest ∧ (0 ≤ k.time ∧ k.time ≤ 999) ∧ 1 ≤ k.size ∧ k.size ≤ 99) ∧ l.flight.Pairwise fun a b => a.num < b.num ∧ a.time ≤ b.time := by
    rw [← pw_iff (fun a b c h1 h2 => ⟨by have := h1.1; have := h2.1; omega, by have := h1.2; have := h2.2; omega⟩) l.flight, ← getD_mem_iff]
    simp only [pkTo, List.all_eq_true, List.mem_range, pkAt, Bool.and_eq_true, Bool.or_eq_true, decide_eq_true_eq, inB_iff]
    constructor
    · intro h
      refine ⟨fun i hi => ?_, fun i hi => ?_⟩
      · have := (h i hi).1
        exact ⟨this.1, this.2.1, this.2.2.1, this.2.2.2⟩
      · have := (h (i + 1) hi).2
        rw [Nat.add_sub_cancel] at this
        rcases this with this | this
        · omega
        · exact this
    · rintro ⟨h1, h2⟩ i hi
      have a := h1 i hi
      refine ⟨⟨a.1, a.2.1, a.2.2.1, a.2.2.2⟩, ?_⟩
      by_cases h0 : i = 0
      · exact .inl h0
      · right
        have := h2 (i - 1) (by omega)
        rwa [show i - 1 + 1 = i by omega] at this
  simp only [lsValid, Bool.and_eq_true, decide_eq_true_eq, inB_iff, key]
  constructor
  · rintro ⟨⟨⟨h1, h2⟩, h3⟩, h4, h5⟩; exact ⟨h1, h2, h3, h4, h5⟩
  · rintro ⟨h1, h2, h3, h4, h5⟩; exact ⟨⟨⟨h1, h2⟩, h3⟩, h4, h5⟩

/-! ### runs -/
structure PathOK (W : Wd) (p : Int) : Prop where
  ls : LsOK (W.ls p)
  rt : rtValid (W.rt p) = true
  sn : (W.sn p).length ≤ 16 ∧ rgOk (-2) (W.sn p) ∧ rgBelow (W.sn p) (W.ls p).next
theorem path_iff (W : Wd) (p : Int) : pathOk W p = true ↔ PathOK W p := by
  simp only [pathOk, Bool.and_eq_true, ls_iff, rgValid_iff]
  constructor
  · rintro ⟨⟨h1, h2⟩, ⟨h3, h4⟩, h5⟩; exact ⟨h1, h2, h3, h4, (topB_iff _ _ _ h4).1 h5⟩
  · rintro ⟨h1, h2, h3, h4, h5⟩; exact ⟨⟨h1, h2⟩, ⟨h3, h4⟩, (topB_iff _ _ _ h4).2 h5⟩
structure FlightOK (W : Wd) (a : Nat × Pk) (c : Cd) : Prop where
  time : a.2.time ≤ W.now
  path : c.path = a.1
  num : c.num = a.2.num
  stream : 0 ≤ c.stream ∧ c.stream ≤ 2
  sent : Sent (W.sd c.stream) c.part
  got : hasR (W.sn a.1) c.num = true → gotPart (W.sd c.stream) (W.rv c.stream) c.part = true
theorem flight_iff (W : Wd) (p : Nat) (k : Pk) (c : Cd) : flightOk W p k c = true ↔ FlightOK W (p, k) c := by
  simp only [flightOk, Bool.and_eq_true, Bool.or_eq_true, decide_eq_true_eq, inB_iff, sent_iff, Bool.not_eq_true']
  constructor
  · rintro ⟨⟨h1, ⟨h2, h3⟩, h4⟩, h5, h6⟩
    exact ⟨h1, h2, h3, h4, h5, fun h => by rcases h6 with h6 | h6; (· rw [h] at h6; cases h6); exact h6⟩
  · rintro ⟨h1, h2, h3, h4, h5, h6⟩
    refine ⟨⟨h1, ⟨h2, h3⟩, h4⟩, h5, ?_⟩
    cases hh : hasR (W.sn p) c.num with
    | false => exact .inl rfl
    | true => exact .inr (h6 hh)
def flightsTo (W : Wd) (n : Nat) : List (Nat × Pk) := (List.range n).flatMap fun (p : Nat) => (W.ls (p : Int)).flight.map fun k => (p, k)
def flights (W : Wd) : List (Nat × Pk) := flightsTo W 4
theorem flightsTo_succ (W : Wd) (n : Nat) : flightsTo W (n + 1) = flightsTo W n ++ (W.ls n).flight.map fun k => (n, k) := by
  simp [flightsTo, List.range_succ]
theorem flightsOk_iff (W : Wd) (p : Nat) : ∀ (fl : List Pk) (cs r : List Cd), flightsOk W p fl cs = some r ↔ ∃ c1, cs = c1 ++ r ∧ F2 (FlightOK W) (fl.map fun k => (p, k)) c1
  | [], cs, r => by
    simp only [flightsOk, Option.some.injEq, List.map_nil]
    constructor
    · intro h; exact ⟨[], by simp [h], trivial⟩
    · rintro ⟨c1, rfl, h⟩
      cases c1 with
      | nil => rfl
      | cons => exact h.elim
  | k :: t, [], r => by
    simp only [flightsOk, List.map_cons]
    constructor
    · intro h; cases h
    · rintro ⟨c1, h1, h⟩
      cases c1 with
      | nil => exact h.elim
      | cons => simp at h1
  | k :: t, c :: cs, r => by
    simp only [flightsOk, List.map_cons]
    by_cases hk : flightOk W p k c = true
    · rw [if_pos hk, flightsOk_iff W p t cs r]
      constructor
      · rintro ⟨c1, rfl, h⟩; exact ⟨c :: c1, rfl, (flight_iff W p k c).1 hk, h⟩
      · rintro ⟨c1, h1, h⟩
        cases c1 with
        | nil => exact h.elim
        | cons d c1 =>
          simp only [List.cons_append, List.cons.injEq] at h1
          exact ⟨c1, h1.2, h.2⟩
    · rw [if_neg hk]
      constructor
      · intro h; cases h
      · rintro ⟨c1, h1, h⟩
        cases c1 with
        | nil => exact h.elim
        | cons d c1 =>
          simp only [List.cons_append, List.cons.injEq] at h1
          rw [← h1.1] at h
          exact absurd ((flight_iff W p k c).2 h.1) hk
theorem pathsOk_iff (W : Wd) (cs : List Cd) : ∀ (n : Nat) (r : List Cd), pathsOk W n cs = some r ↔ (∀ p : Nat, p < n → PathOK W p) ∧ ∃ c1, cs = c1 ++ r ∧ F2 (FlightOK W) (flightsTo W n) c1
  | 0, r => by
    simp only [pathsOk, Option.some.injEq]
    constructor
    · intro h; exact ⟨fun p hp => by omega, [], by simp [h], trivial⟩
    · rintro ⟨_, c1, rfl, h⟩
      cases c1 with
      | nil => rfl
      | cons => exact h.elim
  | n + 1, r => by
    simp only [pathsOk]
    constructor
    · intro h
      cases hn : pathsOk W n cs with
      | none => rw [hn] at h; cases h
      | some r1 =>
        rw [hn] at h
        simp only at h
        by_cases hp : pathOk W (n : Nat) = true
        · rw [if_pos hp] at h
          obtain ⟨h1, c1, e1, f1⟩ := (pathsOk_iff W cs n r1).1 hn
          obtain ⟨c2, e2, f2⟩ := (flightsOk_iff W n _ _ _).1 h
          refine ⟨fun p hpn => ?_, c1 ++ c2, by rw [e1, e2, List.append_assoc], by rw [flightsTo_succ]; exact F2.append f1 f2⟩
          by_cases hlt : p < n
          · exact h1 p hlt
          · obtain rfl : p = n := by omega
            exact (path_iff W p).1 hp
        · rw [if_neg hp] at h; cases h
    · rintro ⟨h1, c1, e1, f1⟩
      rw [flightsTo_succ] at f1
      obtain ⟨m1, m2, rfl, f2, f3⟩ := F2.split f1
      have hn := (pathsOk_iff W cs n (m2 ++ r)).2 ⟨fun p hp => h1 p (by omega), m1, by rw [e1, List.append_assoc], f2⟩
      rw [hn]
      simp only
      rw [if_pos ((path_iff W n).2 (h1 n (by omega)))]
      exact (flightsOk_iff W n _ _ _).2 ⟨m2, rfl, f3⟩
/-- A packet in transit, as a proposition. -/
structure WireOK (W : Wd) (x : Wi) : Prop where
  path : 0 ≤ x.path ∧ x.path ≤ 3
  frame : fmValid x.frame = true
  num : -1 ≤ x.num ∧ x.num ≤ 999
  gen : x.genuine = true →
    (x.frame.kind = 3 ∧ 0 ≤ x.num ∧ x.num ≤ (W.ls x.path).next - 1 ∧ Sent (W.sd x.frame.a) (fmPart x.frame) ∧ ∀ c ∈ W.carried, c.path = x.path → c.num = x.num → c.stream = x.frame.a ∧ c.part = fmPart x.frame) ∨
    (x.frame.kind = 4 ∧ x.num = -1 ∧ x.frame.b ≤ (W.rv x.frame.a).limit) ∨
    (x.frame.kind = 2 ∧ x.num = -1 ∧ rgBelow x.frame.ranges (W.ls x.frame.a).next ∧ ∀ c ∈ W.carried, c.path = x.frame.a → hasR x.frame.ranges c.num = true → gotPart (W.sd c.stream) (W.rv c.stream) c.part = true)
/-- No two parts in flight have the same path and number. -/
def OneKey (l : List Cd) : Prop := l.Pairwise fun a b => ¬ (a.path = b.path ∧ a.num = b.num)
theorem OneKey.eq {l : List Cd} (h : OneKey l) {c d : Cd} (hc : c ∈ l) (hd : d ∈ l) (hp : c.path = d.path) (hn : c.num = d.num) : c = d := by
  unfold OneKey at h
  induction l with
  | nil => simp at hc
  | cons x xs ih =>
    rw [List.pairwise_cons] at h
    rcases List.mem_cons.1 hc with rfl | hc' <;> rcases List.mem_cons.1 hd with rfl | hd'
    · rfl
    · exact (h.1 d hd' ⟨hp, hn⟩).elim
    · exact (h.1 c hc' ⟨hp.symm, hn.symm⟩).elim
    · exact ih h.2 hc' hd'
theorem fm2 {f : Fm} (h : fmValid f = true) (hk : f.kind = 2) : (0 ≤ f.a ∧ f.a ≤ 3) ∧ f.ranges ≠ [] ∧ f.ranges.length ≤ 16 ∧ rgOk (-2) f.ranges := by
  simp only [fmValid, hk, Bool.and_eq_true] at h
  have h2 := h.2
  simp [fieldsOk, inB_iff, rgValid_iff] at h2
  exact ⟨⟨by omega, by omega⟩, h2.2.1, h2.2.2⟩
theorem fm3 {f : Fm} (h : fmValid f = true) (hk : f.kind = 3) : (0 ≤ f.a ∧ f.a ≤ 2) ∧ (0 ≤ f.b ∧ f.b ≤ 30 - bl f.data) ∧ (0 ≤ f.c ∧ f.c ≤ 1) ∧ f.data.length ≤ 12 := by
  simp only [fmValid, hk, Bool.and_eq_true] at h
  have h1 := h.1.1.1
  have h2 := h.2
  simp [fieldsOk, inB_iff] at h1 h2
  exact ⟨⟨by omega, by omega⟩, ⟨by omega, by omega⟩, ⟨by omega, by omega⟩, h1⟩
theorem fm4 {f : Fm} (h : fmValid f = true) (hk : f.kind = 4) : (0 ≤ f.a ∧ f.a ≤ 2) ∧ (0 ≤ f.b ∧ f.b ≤ 30) := by
  simp only [fmValid, hk, Bool.and_eq_true] at h
  have h2 := h.2
  simp [fieldsOk, inB_iff] at h2
  exact ⟨⟨by omega, by omega⟩, ⟨by omega, by omega⟩⟩
theorem wire_iff {W : Wd} (hK : OneKey W.carried) (x : Wi) : wireOk W x = true ↔ WireOK W x := by
  have hcar : ∀ p n (Q : Cd → Bool), (match carAt W p n with | none => true | some k => Q (W.carried.getD k default)) = true ↔ ∀ c ∈ W.carried, c.path = p → c.num = n → Q c = true := by
    intro p n Q
    cases hf : carAt W p n with
    | none =>
      simp only [true_iff]
      intro c hc h1 h2
      unfold carAt at hf
      rw [List.findIdx?_eq_none_iff] at hf
      have := hf c hc
      simp [h1, h2] at this
    | some k =>
      unfold carAt at hf
      obtain ⟨hk, hk2, _⟩ := List.findIdx?_eq_some_iff_getElem.1 hf
      simp only [Bool.and_eq_true, decide_eq_true_eq] at hk2
      have hg : W.carried.getD k default = W.carried[k] := by rw [List.getD_eq_getElem?_getD, List.getElem?_eq_getElem hk]; rfl
      simp only [hg]
      constructor
      · intro h c hc h1 h2
        rw [hK.eq hc (List.getElem_mem hk) (by rw [h1, hk2.1]) (by rw [h2, hk2.2])]
        exact h
      · intro h; exact h _ (List.getElem_mem hk) hk2.1 hk2.2
  have h3 := hcar x.path x.num (fun c => decide (c.stream = x.frame.a) && decide (c.part = fmPart x.frame))
  simp only [Bool.and_eq_true, decide_eq_true_eq] at h3
  have hcases : (x.frame.kind = 3 ∨ x.frame.kind = 4 ∨ x.frame.kind = 2) ∨ (x.frame.kind ≠ 3 ∧ x.frame.kind ≠ 4 ∧ x.frame.kind ≠ 2) := by omega
  constructor
  · intro h
    simp only [wireOk, Bool.and_eq_true, inB_iff] at h
    obtain ⟨⟨h1, h2, h4⟩, h5⟩ := h
    refine ⟨h1, h2, h4, fun hg => ?_⟩
    rw [hg] at h5
    simp only [Bool.not_true, Bool.false_or] at h5
    rcases hcases with (hk | hk | hk) | ⟨k1, k2, k3⟩
    · rw [if_pos hk] at h5
      simp only [Bool.and_eq_true, inB_iff, sent_iff] at h5
      refine .inl ⟨hk, h5.1.1.1, h5.1.1.2, h5.1.2, ?_⟩
      exact h3.1 h5.2
    · rw [if_neg (by omega), if_pos hk] at h5
      simp only [Bool.and_eq_true, decide_eq_true_eq] at h5
      exact .inr (.inl ⟨hk, h5.1, h5.2⟩)
    · rw [if_neg (by omega), if_neg (by omega), if_pos hk] at h5
      simp only [Bool.and_eq_true, decide_eq_true_eq, ackOk, List.all_eq_true] at h5
      have hr := fm2 h2 hk
      refine .inr (.inr ⟨hk, h5.1, (topB_iff _ _ _ hr.2.2.2).1 h5.2.1, fun c hc hp hh => ?_⟩)
      have := h5.2.2 c hc
      simp [hp, hh] at this
      exact this
    · rw [if_neg k1, if_neg k2, if_neg k3] at h5; cases h5
  · rintro ⟨h1, h2, h4, h5⟩
    simp only [wireOk, Bool.and_eq_true, inB_iff]
    refine ⟨⟨h1, h2, h4⟩, ?_⟩
    cases hg : x.genuine with
    | false => rfl
    | true =>
      simp only [Bool.not_true, Bool.false_or]
      rcases h5 hg with ⟨hk, a, b, c, d⟩ | ⟨hk, a, b⟩ | ⟨hk, a, b, c⟩
      · rw [if_pos hk]
        simp only [Bool.and_eq_true, inB_iff, sent_iff]
        refine ⟨⟨⟨a, b⟩, c⟩, ?_⟩
        exact h3.2 d
      · rw [if_neg (by omega), if_pos hk]
        simp only [Bool.and_eq_true, decide_eq_true_eq]
        exact ⟨a, b⟩
      · rw [if_neg (by omega), if_neg (by omega), if_pos hk]
        simp only [Bool.and_eq_true, decide_eq_true_eq, ackOk, List.all_eq_true]
        refine ⟨a, (topB_iff _ _ _ (fm2 h2 hk).2.2.2).2 b, fun y hy => ?_⟩
        by_cases hq : y.path = x.frame.a ∧ hasR x.frame.ranges y.num = true
        · rw [c y hy hq.1 hq.2]; simp
        · simp only [Bool.or_eq_true, Bool.not_eq_true', Bool.and_eq_false_iff, decide_eq_false_iff_not]
          left
          by_cases hq1 : y.path = x.frame.a
          · right; cases hh : hasR x.frame.ranges y.num with
            | false => rfl
            | true => exact absurd ⟨hq1, hh⟩ hq
          · exact .inl hq1
/-- A valid run. -/
structure WdOK (W : Wd) : Prop where
  now : 0 ≤ W.now ∧ W.now ≤ 999
  sends : W.sends.length = 3
  recvs : W.recvs.length = 3
  got : W.got.length = 3
  paths : W.paths.length = 4
  rtts : W.rtts.length = 4
  windows : W.windows.length = 4
  seen : W.seen.length = 4
  wns : wnsValid W.windows = true
  net : W.net.length ≤ 10
  streams : ∀ i : Nat, i < 3 → StOK (W.sends.getD i default) (W.recvs.getD i default) (W.got.getD i default)
  path : ∀ p : Nat, p < 4 → PathOK W p
  cars : F2 (FlightOK W) (flights W) W.carried
  wires : ∀ x ∈ W.net, WireOK W x
theorem keys_pw (W : Wd) (n : Nat) (h : ∀ p : Nat, p < n → (W.ls p).flight.Pairwise fun a b => a.num < b.num ∧ a.time ≤ b.time) : (flightsTo W n).Pairwise fun a b => ¬ (a.1 = b.1 ∧ a.2.num = b.2.num) := by
  induction n with
  | zero => simp [flightsTo]
  | succ n ih =>
    rw [flightsTo_succ, List.pairwise_append]
    refine ⟨ih fun p hp => h p (by omega), ?_, ?_⟩
    · rw [List.pairwise_map]
      exact (h n (by omega)).imp fun hab => by rintro ⟨_, e⟩; simp only at e; omega
    · intro a ha b hb
      simp only [List.mem_map] at hb
      obtain ⟨k, _, rfl⟩ := hb
      simp only [flightsTo, List.mem_flatMap, List.mem_range, List.mem_map] at ha
      obtain ⟨q, hq, k', _, rfl⟩ := ha
      simp only
      omega
theorem pw_f2 {α β : Type} {R : α → β → Prop} {Q : α → α → Prop} {T : β → β → Prop} (hq : ∀ a b c d, R a b → R c d → Q a c → T b d) : ∀ {l : List α} {m : List β}, F2 R l m → l.Pairwise Q → m.Pairwise T
  | [], [], _, _ => List.Pairwise.nil
  | a :: l, b :: m, h, hp => by
    rw [List.pairwise_cons] at hp ⊢
    refine ⟨fun y hy => ?_, pw_f2 hq h.2 hp.2⟩
    obtain ⟨x, hx, hr⟩ := F2.mem h.2 y hy
    exact hq _ _ _ _ h.1 hr (hp.1 x hx)
theorem oneKey_of {W : Wd} (hp : ∀ p : Nat, p < 4 → PathOK W p) (hc : F2 (FlightOK W) (flights W) W.carried) : OneKey W.carried := by
  have := keys_pw W 4 fun p h => (hp p h).ls.asc
  refine pw_f2 (fun a b c d h1 h2 h3 => ?_) hc this
  rintro ⟨e1, e2⟩
  rw [h1.path, h2.path] at e1
  rw [h1.num, h2.num] at e2
  exact h3 ⟨by omega, e2⟩
theorem WdOK.key {W : Wd} (h : WdOK W) : OneKey W.carried := oneKey_of h.path h.cars
theorem wd_iff (W : Wd) : wdValid W = true ↔ WdOK W := by
  have hst : ((List.range 3).all fun i => streamOk (W.sends.getD i default) (W.recvs.getD i default) (W.got.getD i default)) = true ↔ ∀ i : Nat, i < 3 → StOK (W.sends.getD i default) (W.recvs.getD i default) (W.got.getD i default) := by
    simp only [List.all_eq_true, List.mem_range, st_iff]
  have hpa : pathsOk W 4 W.carried = some [] ↔ (∀ p : Nat, p < 4 → PathOK W p) ∧ F2 (FlightOK W) (flights W) W.carried := by
    rw [pathsOk_iff]
    constructor
    · rintro ⟨h1, c1, e, h2⟩
      rw [List.append_nil] at e
      rw [e]
      exact ⟨h1, h2⟩
    · rintro ⟨h1, h2⟩; exact ⟨h1, W.carried, by simp, h2⟩
  simp only [wdValid, Bool.and_eq_true, decide_eq_true_eq, hst, hpa, sizesOk, inB_iff, List.all_eq_true]
  constructor
  · rintro ⟨⟨⟨⟨a1, a2, a3, a4⟩, ⟨a5, a6, a7, a8⟩, a9, a10⟩, b⟩, ⟨c1, c2⟩, d⟩
    exact ⟨a1, a2, a3, a4, a5, a6, a7, a8, a9, a10, b, c1, c2, fun x hx => (wire_iff (oneKey_of c1 c2) x).1 (d x hx)⟩
  · rintro ⟨a1, a2, a3, a4, a5, a6, a7, a8, a9, a10, b, c1, c2, d⟩
    exact ⟨⟨⟨⟨a1, a2, a3, a4⟩, ⟨a5, a6, a7, a8⟩, a9, a10⟩, b⟩, ⟨c1, c2⟩, fun x hx => (wire_iff (oneKey_of c1 c2) x).2 (d x hx)⟩
end Go.Proofs.Ytjpaoadbgmmoeaa
