/- Events that change one stream, that put a packet in transit or take it away, or that let time pass: a valid run stays valid. No program in sight. -/
import Derived.Test.YtjpaoadbgmmoeaaWP7
namespace Go.Proofs.Ytjpaoadbgmmoeaa

theorem getD_set {α : Type} [Inhabited α] (l : List α) (i j : Nat) (x : α) : (l.set i x).getD j default = if i = j ∧ i < l.length then x else l.getD j default := by
  rw [List.getD_eq_getElem?_getD, List.getElem?_set, List.getD_eq_getElem?_getD]
  by_cases h : i = j
  · subst h
    rw [if_pos rfl]
    by_cases h2 : i < l.length
    · rw [if_pos h2, if_pos ⟨rfl, h2⟩]; rfl
    · rw [if_neg h2, if_neg (fun h' => h2 h'.2), List.getElem?_eq_none (by omega)]
  · rw [if_neg h, if_neg (fun h' => h h'.1)]
theorem set_getD_self {α : Type} [Inhabited α] (l : List α) (i : Nat) : l.set i (l.getD i default) = l := by
  apply List.ext_getElem?
  intro j
  rw [List.getElem?_set]
  by_cases h : i = j
  · subst h
    rw [if_pos rfl]
    by_cases h2 : i < l.length
    · rw [if_pos h2, List.getD_eq_getElem?_getD, List.getElem?_eq_getElem h2]; rfl
    · rw [if_neg h2, List.getElem?_eq_none (by omega)]
  · rw [if_neg h]
/-- A run goes on: what was sent stays so, and what was received. -/
structure Grow (W W' : Wd) : Prop where
  now : W.now ≤ W'.now
  st : ∀ i : Int, 0 ≤ i ∧ i ≤ 2 → StLe (W.sd i) (W.rv i) (W'.sd i) (W'.rv i)
  next : ∀ p : Int, 0 ≤ p ∧ p ≤ 3 → (W.ls p).next ≤ (W'.ls p).next
theorem WdOK.carMem {W : Wd} (h : WdOK W) {c : Cd} (hc : c ∈ W.carried) : ∃ p : Nat, p < 4 ∧ ∃ k ∈ (W.ls p).flight, FlightOK W (p, k) c := by
  obtain ⟨a, ha, hr⟩ := F2.mem h.cars c hc
  simp only [flights, flightsTo, List.mem_flatMap, List.mem_range, List.mem_map] at ha
  obtain ⟨p, hp, k, hk, rfl⟩ := ha
  exact ⟨p, hp, k, hk, hr⟩
theorem wire_grow {W W' : Wd} (h : WdOK W) (g : Grow W W') (hc : ∀ c ∈ W'.carried, c ∈ W.carried ∨ c.num = (W.ls c.path).next) {x : Wi} (hx : WireOK W x) : WireOK W' x := by
  refine ⟨hx.path, hx.frame, hx.num, fun hg => ?_⟩
  rcases hx.gen hg with ⟨hk, a, b, c, d⟩ | ⟨hk, a, b⟩ | ⟨hk, a, b, c⟩
  · have hf := fm3 hx.frame hk
    refine .inl ⟨hk, a, by have := g.next x.path hx.path; omega, (g.st _ hf.1).sent _ c, fun y hy h1 h2 => ?_⟩
    rcases hc y hy with h3 | h3
    · exact d y h3 h1 h2
    · rw [h2, h1] at h3; omega
  · have hf := fm4 hx.frame hk
    exact .inr (.inl ⟨hk, a, Int.le_trans b (g.st _ hf.1).limit⟩)
  · have hf := fm2 hx.frame hk
    refine .inr (.inr ⟨hk, a, rgBelow_mono b (g.next _ hf.1), fun y hy h1 h2 => ?_⟩)
    rcases hc y hy with h3 | h3
    · obtain ⟨p, _, k, _, hr⟩ := h.carMem h3
      exact (g.st _ hr.stream).part hr.sent (c y h3 h1 h2)
    · have := below_has b h2
      rw [h3, h1] at this
      omega
theorem flights_same {W W' : Wd} (h : ∀ p : Nat, p < 4 → (W'.ls p).flight = (W.ls p).flight) : flights W' = flights W := by
  simp only [flights, flightsTo]
  have : ∀ l : List Nat, (∀ p ∈ l, p < 4) → (l.flatMap fun (p : Nat) => (W'.ls (p : Int)).flight.map fun k => (p, k)) = l.flatMap fun (p : Nat) => (W.ls (p : Int)).flight.map fun k => (p, k) := by
    intro l hl
    induction l with
    | nil => rfl
    | cons p t ih => rw [List.flatMap_cons, List.flatMap_cons, ih (fun q hq => hl q (List.mem_cons_of_mem _ hq)), h p (hl p List.mem_cons_self)]
  exact this _ (fun p hp => by simpa using hp)
/-- One stream changes. -/
theorem wd_stream {W : Wd} (h : WdOK W) {i : Nat} (hi : i < 3) {s' : Sd} {r' : Rv} {g' : Bs} (hs : StOK s' r' g') (hl : StLe (W.sends.getD i default) (W.recvs.getD i default) s' r') :
    WdOK { W with sends := W.sends.set i s', recvs := W.recvs.set i r', got := W.got.set i g' } ∧ Grow W { W with sends := W.sends.set i s', recvs := W.recvs.set i r', got := W.got.set i g' } := by
  have hg : Grow W { W with sends := W.sends.set i s', recvs := W.recvs.set i r', got := W.got.set i g' } := by
    refine ⟨Int.le_refl _, fun j hj => ?_, fun _ _ => Int.le_refl _⟩
    unfold Wd.sd Wd.rv
    simp only
    rw [getD_set, getD_set]
    by_cases hij : i = j.toNat
    · rw [if_pos ⟨hij, by rw [h.sends]; exact hi⟩, if_pos ⟨hij, by rw [h.recvs]; exact hi⟩, ← hij]; exact hl
    · rw [if_neg (fun h' => hij h'.1), if_neg (fun h' => hij h'.1)]; exact StLe.refl _ _
  refine ⟨⟨h.now, by simp [h.sends], by simp [h.recvs], by simp [h.got], h.paths, h.rtts, h.windows, h.seen, h.wns, h.net, fun j hj => ?_, fun p hp => ?_, ?_, fun x hx => wire_grow h hg (fun c hc => .inl hc) (h.wires x hx)⟩, hg⟩
  · simp only
    rw [getD_set, getD_set, getD_set]
    by_cases hij : i = j
    · rw [if_pos ⟨hij, by rw [h.sends]; exact hi⟩, if_pos ⟨hij, by rw [h.recvs]; exact hi⟩, if_pos ⟨hij, by rw [h.got]; exact hi⟩]; exact hs
    · rw [if_neg (fun h' => hij h'.1), if_neg (fun h' => hij h'.1), if_neg (fun h' => hij h'.1)]; exact h.streams j hj
  · have := h.path p hp
    exact ⟨this.ls, this.rt, this.sn⟩
  · have e : flights { W with sends := W.sends.set i s', recvs := W.recvs.set i r', got := W.got.set i g' } = flights W := flights_same (fun _ _ => rfl)
    rw [e]
    refine F2.mono' (fun a c _ hc hr => ?_) h.cars
    exact ⟨hr.time, hr.path, hr.num, hr.stream, (hg.st _ hr.stream).sent _ hr.sent, fun hh => (hg.st _ hr.stream).part hr.sent (hr.got hh)⟩
theorem StLe.trans {s s' s'' : Sd} {r r' r'' : Rv} (h : StLe s r s' r') (h' : StLe s' r' s'' r'') : StLe s r s'' r'' :=
  ⟨fun p hp => h'.sent p (h.sent p hp), fun x hx hh => h'.got x (by have := h.next; omega) (h.got x hx hh), Int.le_trans h.limit h'.limit, Int.le_trans h.next h'.next⟩
theorem wire_net {W : Wd} {n : List Wi} {x : Wi} (h : WireOK W x) : WireOK { W with net := n } x := ⟨h.path, h.frame, h.num, h.gen⟩
theorem wd_net {W : Wd} (h : WdOK W) {n : List Wi} (hl : n.length ≤ 10) (hn : ∀ x ∈ n, WireOK W x) : WdOK { W with net := n } :=
  ⟨h.now, h.sends, h.recvs, h.got, h.paths, h.rtts, h.windows, h.seen, h.wns, hl, h.streams, fun p hp => ⟨(h.path p hp).ls, (h.path p hp).rt, (h.path p hp).sn⟩,
    by
      have e : flights { W with net := n } = flights W := flights_same (fun _ _ => rfl)
      rw [e]
      exact F2.mono (fun a c hr => ⟨hr.time, hr.path, hr.num, hr.stream, hr.sent, hr.got⟩) h.cars, fun x hx => wire_net (hn x hx)⟩
theorem wd_post {W : Wd} (h : WdOK W) {x : Wi} (hx : WireOK W x) : WdOK (post W x) := by
  unfold post
  by_cases hl : W.net.length < 10
  · rw [if_pos hl]
    refine wd_net h (by simp; omega) fun y hy => ?_
    rcases List.mem_append.1 hy with hy | hy
    · exact h.wires y hy
    · simp at hy; subst hy; exact hx
  · rw [if_neg hl]; exact h
theorem wd_erase {W : Wd} (h : WdOK W) (k : Nat) : WdOK { W with net := W.net.eraseIdx k } :=
  wd_net h (by have := List.length_eraseIdx_le W.net k; have := h.net; omega) fun y hy => h.wires y (List.mem_of_mem_eraseIdx hy)
theorem wd_tick {W : Wd} (h : WdOK W) : WdOK { W with now := min (W.now + 1) 999 } := by
  have h0 := h.now
  have hg : Grow W { W with now := min (W.now + 1) 999 } := ⟨by simp only; omega, fun i _ => StLe.refl _ _, fun _ _ => Int.le_refl _⟩
  refine ⟨by simp only; omega, h.sends, h.recvs, h.got, h.paths, h.rtts, h.windows, h.seen, h.wns, h.net, h.streams, fun p hp => ⟨(h.path p hp).ls, (h.path p hp).rt, (h.path p hp).sn⟩, ?_, fun x hx => wire_grow h hg (fun c hc => .inl hc) (h.wires x hx)⟩
  have e : flights { W with now := min (W.now + 1) 999 } = flights W := flights_same (fun _ _ => rfl)
  rw [e]
  exact F2.mono (fun a c hr => ⟨by have := hr.time; simp only; omega, hr.path, hr.num, hr.stream, hr.sent, hr.got⟩) h.cars
theorem wire_forged {W : Wd} {x : Wi} (h1 : 0 ≤ x.path ∧ x.path ≤ 3) (h2 : fmValid x.frame = true) (h3 : -1 ≤ x.num ∧ x.num ≤ 999) (hg : x.genuine = false) : WireOK W x :=
  ⟨h1, h2, h3, fun h => by rw [hg] at h; cases h⟩
theorem WdOK.st {W : Wd} (h : WdOK W) {i : Int} (hi : 0 ≤ i ∧ i ≤ 2) : StOK (W.sd i) (W.rv i) (W.got.getD i.toNat default) := h.streams i.toNat (by omega)
theorem WdOK.pt {W : Wd} (h : WdOK W) {p : Int} (hp : 0 ≤ p ∧ p ≤ 3) : PathOK W p := by
  have := h.path p.toNat (by omega)
  rwa [show ((p.toNat : Nat) : Int) = p by omega] at this
/-- Receiving a stream frame that was sent. -/
theorem wd_data {W : Wd} (h : WdOK W) {x : Wi} (hx : WireOK W x) (hg : x.genuine = true) (hk : x.frame.kind = 3) :
    WdOK { W with recvs := W.recvs.set x.frame.a.toNat (rvPut (W.rv x.frame.a) x.frame.b x.frame.data (decide (x.frame.c = 1))).1, seen := W.seen.set x.path.toNat (seenAdd (W.sn x.path) x.num) } := by
  have hf := fm3 hx.frame hk
  obtain ⟨hn0, hn1, hsent, hcar⟩ : 0 ≤ x.num ∧ x.num ≤ (W.ls x.path).next - 1 ∧ Sent (W.sd x.frame.a) (fmPart x.frame) ∧ ∀ c ∈ W.carried, c.path = x.path → c.num = x.num → c.stream = x.frame.a ∧ c.part = fmPart x.frame := by
    rcases hx.gen hg with ⟨_, a⟩ | ⟨hk', _⟩ | ⟨hk', _⟩
    · exact a
    · omega
    · omega
  have hput := st_put (h.st hf.1) hsent
  obtain ⟨r', hr'⟩ : ∃ r', r' = (rvPut (W.rv x.frame.a) x.frame.b x.frame.data (decide (x.frame.c = 1))).1 := ⟨_, rfl⟩
  have e0 : (rvPut (W.rv x.frame.a) (fmPart x.frame).off (fmPart x.frame).data (fmPart x.frame).fin).1 = r' := hr'.symm
  rw [e0] at hput
  rw [← hr']
  obtain ⟨_, hst, hle, hgot⟩ := hput
  have h1 := wd_stream h (i := x.frame.a.toNat) (by omega) hst hle
  have e1 : W.sends.set x.frame.a.toNat (W.sd x.frame.a) = W.sends := set_getD_self _ _
  have e2 : W.got.set x.frame.a.toNat (W.got.getD x.frame.a.toNat default) = W.got := set_getD_self _ _
  rw [e1, e2] at h1
  obtain ⟨h1, hgr⟩ := h1
  have hpt := h.pt hx.path
  have hsn := hpt.sn
  have hadd := addP_ok (W.sn x.path) (-2) x.num x.num hsn.2.1 (by omega) (by omega) (by have := hx.num; omega)
  have haddb := below_addP (W.sn x.path) (W.ls x.path).next x.num x.num hsn.2.2 (by omega)
  have haddl := addP_len (W.sn x.path) x.num x.num
  have hhas := fun n => hasR_addP (W.sn x.path) (-2) x.num x.num n hsn.2.1 (by omega)
  have hseen : ((seenAdd (W.sn x.path) x.num).length ≤ 16 ∧ rgOk (-2) (seenAdd (W.sn x.path) x.num) ∧ rgBelow (seenAdd (W.sn x.path) x.num) (W.ls x.path).next) ∧ ∀ n, hasR (seenAdd (W.sn x.path) x.num) n = true → hasR (W.sn x.path) n = true ∨ n = x.num := by
    unfold seenAdd
    simp only
    by_cases hc : 16 < (addP (W.sn x.path) x.num x.num).length
    · rw [if_pos hc]
      cases hm : addP (W.sn x.path) x.num x.num with
      | nil => rw [hm] at hc; simp at hc
      | cons y ys =>
        rw [hm] at hadd haddb haddl
        simp only [List.drop_succ_cons, List.drop_zero]
        refine ⟨⟨by simp at haddl; omega, rgOk_low ys y.hi (-2) hadd.2.2.2 (by have := hadd.1; have := hadd.2.1; omega), fun z hz => haddb z (List.mem_cons_of_mem _ hz)⟩, fun n hn => ?_⟩
        have := (hhas n).1 (by rw [hm, hasR_cons]; exact .inr hn)
        rcases this with h' | h'
        · exact .inl h'
        · exact .inr (by omega)
    · rw [if_neg hc]
      refine ⟨⟨by omega, hadd, haddb⟩, fun n hn => ?_⟩
      rcases (hhas n).1 hn with h' | h'
      · exact .inl h'
      · exact .inr (by omega)
  obtain ⟨hsk, hsub⟩ := hseen
  have hsnq : ∀ p : Nat, p < 4 → (W.seen.set x.path.toNat (seenAdd (W.sn x.path) x.num)).getD p default = if (p : Int) = x.path then seenAdd (W.sn x.path) x.num else W.sn p := by
    intro p hp
    rw [getD_set]
    by_cases hpp : (p : Int) = x.path
    · rw [if_pos hpp, if_pos ⟨by omega, by rw [h.seen]; omega⟩]
    · rw [if_neg hpp, if_neg (by have := hx.path; omega)]; rfl
  obtain ⟨W', hW'⟩ : ∃ W' : Wd, W' = { W with recvs := W.recvs.set x.frame.a.toNat r', seen := W.seen.set x.path.toNat (seenAdd (W.sn x.path) x.num) } := ⟨_, rfl⟩
  rw [← hW']
  have hg' : Grow W W' := by subst hW'; exact ⟨hgr.now, hgr.st, hgr.next⟩
  have hgp : gotPart (W'.sd x.frame.a) (W'.rv x.frame.a) (fmPart x.frame) = true := by
    subst hW'
    have : (W.recvs.set x.frame.a.toNat r').getD x.frame.a.toNat default = r' := by rw [getD_set, if_pos ⟨rfl, by rw [h.recvs]; omega⟩]
    show gotPart (W.sd x.frame.a) ((W.recvs.set x.frame.a.toNat r').getD x.frame.a.toNat default) (fmPart x.frame) = true
    rw [this]
    exact hgot
  have hls : ∀ p : Int, W'.ls p = W.ls p := fun p => by subst hW'; rfl
  have hsn' : ∀ p : Nat, p < 4 → W'.sn p = if (p : Int) = x.path then seenAdd (W.sn x.path) x.num else W.sn p := by subst hW'; exact hsnq
  have hcars : F2 (FlightOK W') (flights W') W'.carried := by
    rw [flights_same (W := W) (fun p _ => by rw [hls])]
    have hcw : W'.carried = W.carried := by rw [hW']
    rw [hcw]
    refine F2.mono' (fun a c ha hc hr => ?_) h.cars
    refine ⟨by have := hr.time; subst hW'; exact this, hr.path, hr.num, hr.stream, (hg'.st _ hr.stream).sent _ hr.sent, fun hh => ?_⟩
    have ha4 : a.1 < 4 := by
      simp only [flights, flightsTo, List.mem_flatMap, List.mem_range, List.mem_map] at ha
      obtain ⟨p, hp, k, _, rfl⟩ := ha
      exact hp
    rw [hsn' a.1 ha4] at hh
    by_cases hpp : (a.1 : Int) = x.path
    · rw [if_pos hpp] at hh
      rcases hsub _ hh with h' | h'
      · rw [← hpp] at h'
        exact (hg'.st _ hr.stream).part hr.sent (hr.got h')
      · have := hcar c hc (by rw [hr.path, hpp]) h'
        rw [this.1, this.2]
        exact hgp
    · rw [if_neg hpp] at hh
      exact (hg'.st _ hr.stream).part hr.sent (hr.got hh)
  subst hW'
  refine ⟨h.now, h.sends, by simp [h.recvs], h.got, h.paths, h.rtts, h.windows, by simp [h.seen], h.wns, h.net, h1.streams, fun p hp => ?_, hcars, fun y hy => wire_grow h hg' (fun c hc => .inl hc) (h.wires y hy)⟩
  refine ⟨(h.path p hp).ls, (h.path p hp).rt, ?_⟩
  rw [hsn' p hp, hls]
  by_cases hpp : (p : Int) = x.path
  · rw [if_pos hpp, hpp]; exact hsk
  · rw [if_neg hpp]; exact (h.path p hp).sn
end Go.Proofs.Ytjpaoadbgmmoeaa
