/- Sending, acknowledging and giving up: a valid run stays valid. No program in sight. -/
import Derived.Test.YtjpaoadbgmmoeaaWP8
namespace Go.Proofs.Ytjpaoadbgmmoeaa

def flightsFrom (W : Wd) (p : Nat) : List (Nat × Pk) := ((List.range 4).drop (p + 1)).flatMap fun (q : Nat) => (W.ls (q : Int)).flight.map fun k => (q, k)
theorem flights_split (W : Wd) {p : Nat} (hp : p < 4) : flights W = flightsTo W (p + 1) ++ flightsFrom W p := by
  have e : List.range 4 = List.range (p + 1) ++ (List.range 4).drop (p + 1) := by
    match p, hp with
    | 0, _ => rfl
    | 1, _ => rfl
    | 2, _ => rfl
    | 3, _ => rfl
  unfold flights flightsTo flightsFrom
  rw [← List.flatMap_append, ← e]
theorem drop_gt {p q : Nat} (hp : p < 4) (hq : q ∈ (List.range 4).drop (p + 1)) : p < q ∧ q < 4 := by
  match p, hp with
  | 0, _ => have : q ∈ [1, 2, 3] := hq; simp at this; omega
  | 1, _ => have : q ∈ [2, 3] := hq; simp at this; omega
  | 2, _ => have : q ∈ [3] := hq; simp at this; omega
  | 3, _ => have : q ∈ ([] : List Nat) := hq; simp at this
theorem flatMap_congr' {β : Type} {l : List Nat} {f g : Nat → List β} (h : ∀ x ∈ l, f x = g x) : l.flatMap f = l.flatMap g := by
  induction l with
  | nil => rfl
  | cons x xs ih => rw [List.flatMap_cons, List.flatMap_cons, h x List.mem_cons_self, ih (fun y hy => h y (List.mem_cons_of_mem _ hy))]
theorem takeWhile_parts {α : Type} {P : α → Bool} : ∀ {a b : List α}, (∀ x ∈ a, P x = true) → (∀ x ∈ b, P x = false) → (a ++ b).takeWhile P = a
  | [], [], _, _ => rfl
  | [], y :: t, _, h => by rw [List.nil_append, List.takeWhile_cons, h y List.mem_cons_self]; rfl
  | x :: a, b, h, h' => by rw [List.cons_append, List.takeWhile_cons, h x List.mem_cons_self]; simp only [if_true]; rw [takeWhile_parts (fun y hy => h y (List.mem_cons_of_mem _ hy)) h']
theorem ls_set (W : Wd) (P : List Ls) (hl : W.paths.length = 4) {p : Nat} (hp : p < 4) (l : Ls) (hP : P = W.paths.set p l) (q : Int) (hq : 0 ≤ q) : P.getD q.toNat default = if q = (p : Int) then l else W.ls q := by
  rw [hP, getD_set]
  by_cases h : q = (p : Int)
  · rw [if_pos h, if_pos ⟨by omega, by omega⟩]
  · rw [if_neg h, if_neg (by omega)]; rfl
/-- A packet more in flight. -/
theorem wd_fly {W : Wd} (h : WdOK W) {p : Nat} (hp : p < 4) {size : Int} (hs : 1 ≤ size ∧ size ≤ 99) (hn : (W.ls p).next ≤ 999) (hl : (W.ls p).flight.length < 12) {i : Int} (hi : 0 ≤ i ∧ i ≤ 2) {q : Pt} (hq : Sent (W.sd i) q)
    {W' : Wd} (hW : W' = { W with paths := W.paths.set p { W.ls p with flight := (W.ls p).flight ++ [⟨(W.ls p).next, W.now, size⟩], next := (W.ls p).next + 1 }, carried := W.carried.take (W.carried.takeWhile fun c => decide (c.path ≤ (p : Int))).length ++ ⟨p, (W.ls p).next, i, q⟩ :: W.carried.drop (W.carried.takeWhile fun c => decide (c.path ≤ (p : Int))).length }) :
    WdOK W' ∧ Grow W W' ∧ ∀ c ∈ W'.carried, c ∈ W.carried ∨ (c = ⟨p, (W.ls p).next, i, q⟩ ∧ c.num = (W.ls c.path).next) := by
  have hP := h.path p hp
  obtain ⟨l', hl'⟩ : ∃ l' : Ls, l' = { W.ls p with flight := (W.ls p).flight ++ [⟨(W.ls p).next, W.now, size⟩], next := (W.ls p).next + 1 } := ⟨_, rfl⟩
  have hls : ∀ x : Int, 0 ≤ x → W'.ls x = if x = (p : Int) then l' else W.ls x := fun x hx => by
    have := ls_set W (W.paths.set p l') h.paths hp l' rfl x hx
    rw [hW, hl'] at *
    exact this
  have hsp := flights_split W hp
  have hcars := h.cars
  rw [hsp] at hcars
  obtain ⟨C1, C2, hC, f1, f2⟩ := F2.split hcars
  have hc1 : ∀ c ∈ C1, decide (c.path ≤ (p : Int)) = true := by
    intro c hc
    obtain ⟨a, ha, hr⟩ := F2.mem f1 c hc
    simp only [flightsTo, List.mem_flatMap, List.mem_range, List.mem_map] at ha
    obtain ⟨q, hq, k, _, rfl⟩ := ha
    rw [hr.path]
    simp only [decide_eq_true_eq]
    omega
  have hc2 : ∀ c ∈ C2, decide (c.path ≤ (p : Int)) = false := by
    intro c hc
    obtain ⟨a, ha, hr⟩ := F2.mem f2 c hc
    simp only [flightsFrom, List.mem_flatMap, List.mem_map] at ha
    obtain ⟨q, hq, k, _, rfl⟩ := ha
    have := drop_gt hp hq
    rw [hr.path]
    simp only [decide_eq_false_iff_not]
    omega
  have htw : W.carried.takeWhile (fun c => decide (c.path ≤ (p : Int))) = C1 := by rw [hC]; exact takeWhile_parts hc1 hc2
  have hcar' : W'.carried = C1 ++ ⟨p, (W.ls p).next, i, q⟩ :: C2 := by
    rw [hW]
    simp only
    rw [htw, hC]
    simp
  have hmem : ∀ c ∈ W'.carried, c ∈ W.carried ∨ (c = ⟨p, (W.ls p).next, i, q⟩ ∧ c.num = (W.ls c.path).next) := by
    intro c hc
    rw [hcar'] at hc
    rw [hC]
    rcases List.mem_append.1 hc with hc | hc
    · exact .inl (List.mem_append_left _ hc)
    · rcases List.mem_cons.1 hc with rfl | hc
      · exact .inr ⟨rfl, rfl⟩
      · exact .inl (List.mem_append_right _ hc)
  have hg : Grow W W' := by
    refine ⟨by rw [hW]; exact Int.le_refl _, fun j hj => by rw [hW]; exact StLe.refl _ _, fun x hx => ?_⟩
    rw [hls x hx.1]
    by_cases hxp : x = (p : Int)
    · rw [if_pos hxp, hl', hxp]; simp only; omega
    · rw [if_neg hxp]; exact Int.le_refl _
  have hsd : ∀ j, W'.sd j = W.sd j := fun j => by rw [hW]; rfl
  have hrv : ∀ j, W'.rv j = W.rv j := fun j => by rw [hW]; rfl
  have hsn : ∀ j, W'.sn j = W.sn j := fun j => by rw [hW]; rfl
  have hnow : W'.now = W.now := by rw [hW]
  have hold : ∀ a c, FlightOK W a c → FlightOK W' a c := fun a c hr => ⟨by rw [hnow]; exact hr.time, hr.path, hr.num, hr.stream, by rw [hsd]; exact hr.sent, by rw [hsd, hrv, hsn]; exact hr.got⟩
  have hfl : flights W' = flightsTo W (p + 1) ++ (p, (⟨(W.ls p).next, W.now, size⟩ : Pk)) :: flightsFrom W p := by
    rw [flights_split W' hp, flightsTo_succ, flightsTo_succ]
    have e1 : flightsTo W' p = flightsTo W p := by
      unfold flightsTo
      refine flatMap_congr' (fun x hx => ?_)
      rw [List.mem_range] at hx; rw [hls x (by omega), if_neg (by omega)]
    have e2 : flightsFrom W' p = flightsFrom W p := by
      unfold flightsFrom
      refine flatMap_congr' (fun x hx => ?_)
      have := drop_gt hp hx
      rw [hls x (by omega), if_neg (by omega)]
    rw [e1, e2, hls p (by omega), if_pos rfl, hl']
    simp
  have hnew : FlightOK W' (p, (⟨(W.ls p).next, W.now, size⟩ : Pk)) ⟨p, (W.ls p).next, i, q⟩ := by
    refine ⟨by rw [hnow]; exact Int.le_refl _, rfl, rfl, hi, by rw [hsd]; exact hq, fun hh => ?_⟩
    rw [hsn] at hh
    have := below_has hP.sn.2.2 hh
    simp only at this
    omega
  refine ⟨⟨by rw [hnow]; exact h.now, by rw [hW]; exact h.sends, by rw [hW]; exact h.recvs, by rw [hW]; exact h.got, by rw [hW]; simp [h.paths], by rw [hW]; exact h.rtts, by rw [hW]; exact h.windows, by rw [hW]; exact h.seen, by rw [hW]; exact h.wns, by rw [hW]; exact h.net, by rw [hW]; exact h.streams, fun x hx => ?_, ?_, fun y hy => ?_⟩, hg, hmem⟩
  · have hx' := h.path x hx
    refine ⟨?_, by have := hx'.rt; rw [hW]; exact this, ?_⟩
    · rw [hls x (by omega)]
      by_cases hxp : (x : Int) = (p : Int)
      · rw [if_pos hxp, hl']
        have q0 := hP.ls
        refine ⟨by simp only; have := q0.next; omega, by simp only; have := q0.top; omega, by simp; omega, fun k hk => ?_, ?_⟩
        · simp only at hk ⊢
          rcases List.mem_append.1 hk with hk | hk
          · have := q0.pk k hk; omega
          · simp at hk; subst hk
            have h0 := h.now
            have := q0.next
            have := q0.top
            simp only
            omega
        · simp only
          rw [List.pairwise_append]
          refine ⟨q0.asc, by simp, fun a ha b hb => ?_⟩
          simp at hb; subst hb
          have h9 := q0.pk a ha
          obtain ⟨c, _, hr⟩ := F2.memL h.cars (p, a) (by
            simp only [flights, flightsTo, List.mem_flatMap, List.mem_range, List.mem_map]
            exact ⟨p, hp, a, ha, rfl⟩)
          have := hr.time
          simp only at this ⊢
          omega
      · rw [if_neg hxp]; exact hx'.ls
    · rw [hsn, hls x (by omega)]
      by_cases hxp : (x : Int) = (p : Int)
      · rw [if_pos hxp, hl', hxp]
        exact ⟨hP.sn.1, hP.sn.2.1, rgBelow_mono hP.sn.2.2 (by simp only; omega)⟩
      · rw [if_neg hxp]; exact hx'.sn
  · rw [hfl, hcar']
    exact F2.append (F2.mono hold f1) ⟨hnew, F2.mono hold f2⟩
  · exact wire_grow h hg (fun c hc => by rcases hmem c hc with h' | h'; (· exact .inl h'); exact .inr h'.2) (h.wires y (by rw [hW] at hy; exact hy))

theorem lsSend_some {l l' : Ls} {time size n : Int} (h : lsSend l time size = some (l', n)) : l' = { l with flight := l.flight ++ [⟨l.next, time, size⟩], next := l.next + 1 } ∧ n = l.next ∧ l.next ≤ 999 ∧ l.flight.length ≠ 12 := by
  unfold lsSend at h
  rw [Option.ite_none_left_eq_some] at h
  obtain ⟨h1, h2⟩ := h
  simp only [Option.some.injEq, Prod.mk.injEq] at h2
  simp only [Bool.or_eq_true, decide_eq_true_eq, not_or] at h1
  exact ⟨h2.1.symm, h2.2.symm, by omega, h1.2.1⟩
theorem wd_send {W : Wd} (h : WdOK W) (i p size : Int) : WdOK (doSend W i p size) := by
  unfold doSend
  by_cases hc : (!(inB i 0 2 && inB p 0 3) || decide ((W.windows.getD p.toNat default).size ≤ ((W.ls p).flight.length : Int)) || !inB size 1 12) = true
  · rw [if_pos hc]; exact h
  · rw [if_neg hc]
    have hi : 0 ≤ i ∧ i ≤ 2 := by
      refine inB_iff.1 ?_
      cases hh : inB i 0 2 with
      | true => rfl
      | false => rw [hh] at hc; simp at hc
    have hp : 0 ≤ p ∧ p ≤ 3 := by
      refine inB_iff.1 ?_
      cases hh : inB p 0 3 with
      | true => rfl
      | false => rw [hh] at hc; simp at hc
    have hz : 1 ≤ size ∧ size ≤ 12 := by
      refine inB_iff.1 ?_
      cases hh : inB size 1 12 with
      | true => rfl
      | false => rw [hh] at hc; simp at hc
    cases hn : sdNext (W.sd i) size with
    | none => exact h
    | some sq =>
      obtain ⟨s, q⟩ := sq
      simp only
      obtain ⟨hst, hle, hsent, hbl, _⟩ := st_next (h.st hi) hz.1 hn
      have h1 := wd_stream h (i := i.toNat) (by omega) hst hle
      have e1 : W.recvs.set i.toNat (W.rv i) = W.recvs := set_getD_self _ _
      have e2 : W.got.set i.toNat (W.got.getD i.toNat default) = W.got := set_getD_self _ _
      rw [e1, e2] at h1
      obtain ⟨h1, _⟩ := h1
      cases hsd : lsSend (W.ls p) W.now (5 + bl q.data) with
      | none => exact h
      | some ln =>
        obtain ⟨l, n⟩ := ln
        simp only
        obtain ⟨P, rfl⟩ : ∃ P : Nat, p = (P : Int) := ⟨p.toNat, by omega⟩
        obtain ⟨rfl, rfl, hcc1, hcc2⟩ := lsSend_some hsd
        all_goals
          have hfew := (h.path P (by omega)).ls.few
          obtain ⟨W1, hW1⟩ : ∃ W1 : Wd, W1 = { W with sends := W.sends.set i.toNat s } := ⟨_, rfl⟩
          rw [← hW1] at h1
          have hls : W1.ls P = W.ls P := by rw [hW1]; rfl
          have hsdi : W1.sd i = s := by rw [hW1]; unfold Wd.sd; simp only; rw [getD_set, if_pos ⟨rfl, by rw [h.sends]; omega⟩]
          have hb0 := bl_nonneg q.data
          obtain ⟨h2, hg, hmem⟩ := wd_fly h1 (p := P) (by omega) (size := 5 + bl q.data) (by omega) (by rw [hls]; omega) (by rw [hls]; omega) hi (q := q) (by rw [hsdi]; exact hsent) rfl
          rw [hls] at h2 hmem hg
          obtain ⟨W2, hW2⟩ : ∃ W2 : Wd, W2 = { W1 with paths := W1.paths.set P { W.ls P with flight := (W.ls P).flight ++ [⟨(W.ls P).next, W1.now, 5 + bl q.data⟩], next := (W.ls P).next + 1 }, carried := W1.carried.take (W1.carried.takeWhile fun c => decide (c.path ≤ (P : Int))).length ++ ⟨P, (W.ls P).next, i, q⟩ :: W1.carried.drop (W1.carried.takeWhile fun c => decide (c.path ≤ (P : Int))).length } := ⟨_, rfl⟩
          rw [← hW2] at h2 hmem hg
          have heq : ({ W with sends := W.sends.set i.toNat s, paths := W.paths.set (P : Int).toNat { W.ls P with flight := (W.ls P).flight ++ [⟨(W.ls P).next, W.now, 5 + bl q.data⟩], next := (W.ls P).next + 1 }, carried := W.carried.take (W.carried.takeWhile fun c => decide (c.path ≤ (P : Int))).length ++ ⟨P, (W.ls P).next, i, q⟩ :: W.carried.drop (W.carried.takeWhile fun c => decide (c.path ≤ (P : Int))).length } : Wd) = W2 := by
            rw [hW2, hW1, Int.toNat_natCast]
          rw [heq]
          have hfp : fmPart ⟨3, i, q.off, if q.fin then 1 else 0, q.data, []⟩ = q := by
            cases q with
            | mk a b c => cases c <;> rfl
          have hsd2 : W2.sd i = s := by rw [hW2]; exact hsdi
          have hls2 : (W2.ls P).next = (W.ls P).next + 1 := by
            have := ls_set W1 W2.paths h1.paths (p := P) (by omega) { W.ls P with flight := (W.ls P).flight ++ [⟨(W.ls P).next, W1.now, 5 + bl q.data⟩], next := (W.ls P).next + 1 } (by rw [hW2]) P (by omega)
            rw [if_pos rfl] at this
            unfold Wd.ls
            unfold Wd.ls at this
            rw [this]
          have hnx := (h.path P (by omega)).ls.next
          refine wd_post h2 ⟨⟨by simp only; omega, by simp only; omega⟩, ?_, by simp only; omega, fun _ => .inl ⟨rfl, by simp only; omega, by simp only; rw [hls2]; omega, by simp only; rw [hfp, hsd2]; exact hsent, ?_⟩⟩
          · have he := hsent.end_
            have ho := hsent.off
            have hlen : bl s.data ≤ 30 := hst.sd.len
            have hbl12 : bl q.data ≤ 12 := by omega
            simp only [fmValid]
            have c0 : 0 ≤ (if q.fin = true then (1 : Int) else 0) ∧ (if q.fin = true then (1 : Int) else 0) ≤ 1 := by split <;> omega
            simp only [fieldsOk, inB]
            simp
            refine ⟨by unfold bl at hbl12; omega, ⟨by omega, by omega⟩, ⟨by omega, by omega⟩, ?_⟩
            exact c0
          · intro c hc h3 h4
            simp only at h3 h4 ⊢
            rw [hfp]
            rcases hmem c hc with h5 | h5
            · exfalso
              obtain ⟨p', hp', k, hk, hr⟩ := h1.carMem h5
              have := hr.path
              have h6 := ((h1.path p' hp').ls.pk k hk).1.2
              have h7 := hr.num
              rw [h3] at this
              simp only at this h7
              rw [← this, hls] at h6
              omega
            · rw [h5.1]; exact ⟨rfl, rfl⟩
end Go.Proofs.Ytjpaoadbgmmoeaa
