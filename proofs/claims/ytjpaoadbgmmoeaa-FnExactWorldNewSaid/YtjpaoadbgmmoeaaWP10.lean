/- Acknowledging and giving up packets in flight: a valid run stays valid. No program in sight. -/
import Derived.Test.YtjpaoadbgmmoeaaWP9
namespace Go.Proofs.Ytjpaoadbgmmoeaa

def keep (p : Int) (D : List Int) (c : Cd) : Bool := !(decide (c.path = p) && D.contains c.num)
theorem erase_key {p n : Int} : ∀ {l : List Cd} {c : Cd}, OneKey l → c ∈ l → c.path = p → c.num = n →
    ∃ k, l.findIdx? (fun d => decide (d.path = p) && decide (d.num = n)) = some k ∧ k < l.length ∧ l.getD k default = c ∧ l.eraseIdx k = l.filter (fun d => !(decide (d.path = p) && decide (d.num = n)))
  | [], c, _, hc, _, _ => by simp at hc
  | x :: t, c, ok, hc, h1, h2 => by
    have ok' := ok
    unfold OneKey at ok'
    rw [List.pairwise_cons] at ok'
    by_cases hx : (decide (x.path = p) && decide (x.num = n)) = true
    · have hx' := hx
      simp only [Bool.and_eq_true, decide_eq_true_eq] at hx'
      have hcx : c = x := ok.eq hc List.mem_cons_self (by rw [h1, hx'.1]) (by rw [h2, hx'.2])
      refine ⟨0, by rw [List.findIdx?_cons, if_pos hx], by simp, by rw [hcx]; rfl, ?_⟩
      rw [List.eraseIdx_cons_zero, List.filter_cons_of_neg (by rw [hx]; simp)]
      symm
      rw [List.filter_eq_self]
      intro d hd
      have := ok'.1 d hd
      rw [hx'.1, hx'.2] at this
      cases hdd : (decide (d.path = p) && decide (d.num = n)) with
      | false => rfl
      | true =>
        simp only [Bool.and_eq_true, decide_eq_true_eq] at hdd
        exact absurd ⟨hdd.1.symm, hdd.2.symm⟩ this
    · have hct : c ∈ t := by
        rcases List.mem_cons.1 hc with rfl | hc
        · simp [h1, h2] at hx
        · exact hc
      obtain ⟨k, e1, e2, e3, e4⟩ := erase_key ok'.2 hct h1 h2
      refine ⟨k + 1, by rw [List.findIdx?_cons, if_neg hx, e1]; rfl, by simp; omega, by rw [List.getD_cons_succ]; exact e3, ?_⟩
      rw [List.eraseIdx_cons_succ, e4, List.filter_cons_of_pos (by show (!(decide (x.path = p) && decide (x.num = n))) = true; rw [Bool.not_eq_true']; simpa only [Bool.not_eq_true] using hx)]
/-- A run in the midst of dropping packets of path p. -/
structure Mid (W V : Wd) (p : Int) (D : List Int) (P : List Ls) : Prop where
  now : V.now = W.now
  recvs : V.recvs = W.recvs
  got : V.got = W.got
  paths : V.paths = P
  rtts : V.rtts = W.rtts
  seen : V.seen = W.seen
  net : V.net = W.net
  sends : V.sends.length = 3
  wins : V.windows.length = 4 ∧ wnsValid V.windows = true
  streams : ∀ i : Nat, i < 3 → StOK (V.sends.getD i default) (W.recvs.getD i default) (W.got.getD i default) ∧ StLe (W.sends.getD i default) (W.recvs.getD i default) (V.sends.getD i default) (W.recvs.getD i default)
  carried : V.carried = W.carried.filter (keep p D)
theorem mid_start {W : Wd} (h : WdOK W) (p : Int) (P : List Ls) : Mid W { W with paths := P } p [] P :=
  ⟨rfl, rfl, rfl, rfl, rfl, rfl, rfl, h.sends, ⟨h.windows, h.wns⟩, fun i hi => ⟨h.streams i hi, StLe.refl _ _⟩, by
    symm
    rw [List.filter_eq_self]
    intro c _
    simp [keep]⟩
theorem keep_snoc (p n : Int) (D : List Int) (l : List Cd) : (l.filter (keep p D)).filter (fun d => !(decide (d.path = p) && decide (d.num = n))) = l.filter (keep p (D ++ [n])) := by
  rw [List.filter_filter]
  congr 1
  funext d
  simp only [keep, List.contains_append]
  cases decide (d.path = p) <;> simp [Bool.and_comm]
theorem mid_drop {W V : Wd} {p n : Int} {D : List Int} {P : List Ls} (h : WdOK W) (m : Mid W V p D P) {c : Cd} (hc : c ∈ W.carried) (h1 : c.path = p) (h2 : c.num = n) (hn : n ∉ D) :
    ∃ k, carAt V p n = some k ∧ k < V.carried.length ∧ V.carried.getD k default = c ∧ V.carried.eraseIdx k = W.carried.filter (keep p (D ++ [n])) ∧ (0 ≤ c.stream ∧ c.stream ≤ 2) ∧ Sent (V.sd c.stream) c.part ∧ StOK (V.sd c.stream) (W.rv c.stream) (W.got.getD c.stream.toNat default) := by
  have hk : OneKey V.carried := by rw [m.carried]; exact h.key.filter _
  have hcv : c ∈ V.carried := by
    rw [m.carried, List.mem_filter]
    refine ⟨hc, ?_⟩
    simp [keep, h2, hn]
  obtain ⟨k, e1, e2, e3, e4⟩ := erase_key hk hcv h1 h2
  obtain ⟨q, _, pk, _, hr⟩ := h.carMem hc
  have hst := hr.stream
  have hs := m.streams c.stream.toNat (by omega)
  refine ⟨k, e1, e2, e3, ?_, hst, hs.2.sent _ hr.sent, hs.1⟩
  rw [e4, m.carried, keep_snoc]
theorem mid_set {W V : Wd} {p n : Int} {D : List Int} {P : List Ls} (m : Mid W V p D P) {i : Int} (_hi : 0 ≤ i ∧ i ≤ 2) {s' : Sd} (hs : StOK s' (W.rv i) (W.got.getD i.toNat default)) (hle : StLe (V.sd i) (W.rv i) s' (W.rv i)) {cs : List Cd} (hcs : cs = W.carried.filter (keep p (D ++ [n]))) {ws : List Wn} (hw : ws.length = 4 ∧ wnsValid ws = true) :
    Mid W { V with carried := cs, sends := V.sends.set i.toNat s', windows := ws } p (D ++ [n]) P := by
  refine ⟨m.now, m.recvs, m.got, m.paths, m.rtts, m.seen, m.net, by simp [m.sends], hw, fun j hj => ?_, hcs⟩
  simp only
  rw [getD_set]
  by_cases hij : i.toNat = j
  · rw [if_pos ⟨hij, by rw [m.sends]; omega⟩, ← hij]
    exact ⟨hs, (m.streams i.toNat (by omega)).2.trans hle⟩
  · rw [if_neg (fun h' => hij h'.1)]; exact m.streams j hj
theorem mid_lose {W V : Wd} {p n : Int} {D : List Int} {P : List Ls} (h : WdOK W) (m : Mid W V p D P) {c : Cd} (hc : c ∈ W.carried) (h1 : c.path = p) (h2 : c.num = n) (hn : n ∉ D) : Mid W (loseOne V p n) p (D ++ [n]) P := by
  obtain ⟨k, e1, e2, e3, e4, hst, hs, hok⟩ := mid_drop h m hc h1 h2 hn
  unfold loseOne dropCd
  rw [e1]
  simp only
  rw [e3]
  have := st_loss hok hs
  exact mid_set m hst this.1 this.2 e4 m.wins
theorem wnInc_bd {l : List Wn} (h : wnsValid l = true) (i : Nat) (hi : i < l.length) : 0 ≤ wnInc l i ∧ wnInc l i ≤ 1000 := by
  have hok : ∀ x ∈ l, 1 ≤ x.size ∧ x.size ≤ 64 ∧ 1 ≤ x.rtt ∧ x.rtt ≤ 99 := by
    simp only [wnsValid, Bool.and_eq_true, List.all_eq_true] at h
    intro x hx
    have := h.1 x hx
    simp [wnOk, inB] at this
    omega
  have hg : l.getD i default ∈ l := by rw [List.getD_eq_getElem?_getD, List.getElem?_eq_getElem hi]; exact List.getElem_mem hi
  have hs := hok _ hg
  have hbest : ∀ (m : List Wn) (b : Int), 0 ≤ b → 0 ≤ m.foldl (fun b x => max b (x.size * 100000000 / (x.rtt * x.rtt))) b := by
    intro m
    induction m with
    | nil => intro b hb; exact hb
    | cons x t ih => intro b hb; exact ih _ (Int.le_trans hb (Int.le_max_left _ _))
  have h1 : 0 ≤ 1000 * wnBest l := by have := hbest l 0 (by omega); unfold wnBest; omega
  have h2 : 0 ≤ wnSum l * wnSum l := by
    rcases Int.le_total 0 (wnSum l) with h0 | h0
    · exact Int.mul_nonneg h0 h0
    · exact Int.mul_nonneg_of_nonpos_of_nonpos h0 h0
  have h3 : 0 ≤ 1000 * wnBest l / (wnSum l * wnSum l) := Int.ediv_nonneg h1 h2
  have h4 : 0 ≤ 1000 / (l.getD i default).size := Int.ediv_nonneg (by omega) (by omega)
  have h5 : 1000 / (l.getD i default).size ≤ 1000 := Int.ediv_le_self _ (by omega)
  unfold wnInc
  omega
theorem wns_set {l : List Wn} (h : wnsValid l = true) (i : Nat) {x : Wn} (hx : wnOk x = true) : wnsValid (l.set i x) = true := by
  simp only [wnsValid, Bool.and_eq_true, List.all_eq_true, List.length_set] at h ⊢
  refine ⟨fun y hy => ?_, h.2⟩
  rcases List.mem_or_eq_of_mem_set hy with hy | hy
  · exact h.1 y hy
  · rw [hy]; exact hx
theorem wnsAt {l : List Wn} (h : wnsValid l = true) {i : Nat} (hi : i < l.length) : wnOk (l.getD i default) = true := by
  simp only [wnsValid, Bool.and_eq_true, List.all_eq_true] at h
  exact h.1 _ (by rw [List.getD_eq_getElem?_getD, List.getElem?_eq_getElem hi]; exact List.getElem_mem hi)
theorem wns_ack {l : List Wn} (h : wnsValid l = true) {i : Nat} (hi : i < l.length) : wnsValid (wnAck l i) = true ∧ (wnAck l i).length = l.length := by
  have h1 := wnsAt h hi
  have h2 := wnInc_bd h i hi
  unfold wnAck
  simp only
  generalize l.getD i default = x at h1 ⊢
  simp [wnOk, inB] at h1
  split
  · exact ⟨wns_set h i (by simp [wnOk, inB]; omega), by simp⟩
  · split
    · exact ⟨wns_set h i (by simp [wnOk, inB]; omega), by simp⟩
    · exact ⟨wns_set h i (by simp [wnOk, inB]; omega), by simp⟩
theorem wns_loss {l : List Wn} (h : wnsValid l = true) {i : Nat} (hi : i < l.length) : wnsValid (wnLoss l i) = true ∧ (wnLoss l i).length = l.length := by
  have h1 := wnsAt h hi
  unfold wnLoss
  simp only
  generalize l.getD i default = x at h1 ⊢
  simp [wnOk, inB] at h1
  exact ⟨wns_set h i (by simp [wnOk, inB]; omega), by simp⟩
theorem mid_ack {W V : Wd} {p n : Int} {D : List Int} {P : List Ls} (h : WdOK W) (hp : 0 ≤ p ∧ p ≤ 3) (m : Mid W V p D P) {c : Cd} (hc : c ∈ W.carried) (h1 : c.path = p) (h2 : c.num = n) (hn : n ∉ D) (hg : gotPart (W.sd c.stream) (W.rv c.stream) c.part = true) : Mid W (ackOne V p n) p (D ++ [n]) P := by
  obtain ⟨k, e1, e2, e3, e4, hst, hs, hok⟩ := mid_drop h m hc h1 h2 hn
  obtain ⟨q, _, pk, _, hr⟩ := h.carMem hc
  unfold ackOne dropCd
  rw [e1]
  simp only
  rw [e3]
  have hle := (m.streams c.stream.toNat (by omega)).2
  have := st_ack hok hs (hle.part hr.sent hg)
  have hw := wns_ack m.wins.2 (i := p.toNat) (by rw [m.wins.1]; omega)
  exact mid_set m hst this.1 this.2 e4 ⟨by rw [hw.2]; exact m.wins.1, hw.1⟩
theorem mid_loseAll {W : Wd} (h : WdOK W) {p : Int} {P : List Ls} : ∀ (l D : List Int) {V : Wd}, Mid W V p D P → (∀ n ∈ l, ∃ c ∈ W.carried, c.path = p ∧ c.num = n) → (D ++ l).Nodup → Mid W (loseAll V p l) p (D ++ l) P
  | [], D, V, m, _, _ => by simpa [loseAll] using m
  | n :: t, D, V, m, hl, hd => by
    obtain ⟨c, hc, h1, h2⟩ := hl n List.mem_cons_self
    have hn : n ∉ D := fun hh => by
      have := (List.nodup_append.1 hd).2.2 n hh n List.mem_cons_self
      exact this rfl
    have m' := mid_lose h m hc h1 h2 hn
    have := mid_loseAll h t (D ++ [n]) m' (fun x hx => hl x (List.mem_cons_of_mem _ hx)) (by simpa using hd)
    simpa [loseAll] using this
theorem mid_ackAll {W : Wd} (h : WdOK W) {p : Int} (hp : 0 ≤ p ∧ p ≤ 3) {P : List Ls} : ∀ (l D : List Int) {V : Wd}, Mid W V p D P → (∀ n ∈ l, ∃ c ∈ W.carried, c.path = p ∧ c.num = n ∧ gotPart (W.sd c.stream) (W.rv c.stream) c.part = true) → (D ++ l).Nodup → Mid W (ackAll V p l) p (D ++ l) P
  | [], D, V, m, _, _ => by simpa [ackAll] using m
  | n :: t, D, V, m, hl, hd => by
    obtain ⟨c, hc, h1, h2, h3⟩ := hl n List.mem_cons_self
    have hn : n ∉ D := fun hh => by
      have := (List.nodup_append.1 hd).2.2 n hh n List.mem_cons_self
      exact this rfl
    have m' := mid_ack h hp m hc h1 h2 hn h3
    have := mid_ackAll h hp t (D ++ [n]) m' (fun x hx => hl x (List.mem_cons_of_mem _ hx)) (by simpa using hd)
    simpa [ackAll] using this
/-- When the packets are dropped on the path as well, the run is valid. -/
theorem mid_end {W V : Wd} {p : Nat} {D : List Int} {P : List Ls} (h : WdOK W) (hp : p < 4) (m : Mid W V p D P) {l' : Ls} (hP : P = W.paths.set p l') (hok : LsOK l') (hnx : l'.next = (W.ls p).next) (hfl : l'.flight = (W.ls p).flight.filter fun k => !D.contains k.num)
    {ws : List Wn} (hw : ws.length = 4 ∧ wnsValid ws = true) {rs : List Rt} (hr : rs.length = 4 ∧ ∀ q : Nat, q < 4 → rtValid (rs.getD q default) = true) : WdOK { V with windows := ws, rtts := rs } := by
  obtain ⟨W', hW⟩ : ∃ W' : Wd, W' = { V with windows := ws, rtts := rs } := ⟨_, rfl⟩
  rw [← hW]
  have hls : ∀ x : Int, 0 ≤ x → W'.ls x = if x = (p : Int) then l' else W.ls x := fun x hx => by
    have := ls_set W P h.paths hp l' hP x hx
    unfold Wd.ls at *
    rw [hW]
    simp only
    rw [m.paths]
    exact this
  have hsd : ∀ i : Int, 0 ≤ i ∧ i ≤ 2 → W'.sd i = V.sd i := fun i _ => by rw [hW]; rfl
  have hrv : ∀ i : Int, W'.rv i = W.rv i := fun i => by rw [hW]; unfold Wd.rv; simp only; rw [m.recvs]
  have hsn : ∀ i : Int, W'.sn i = W.sn i := fun i => by rw [hW]; unfold Wd.sn; simp only; rw [m.seen]
  have hnow : W'.now = W.now := by rw [hW]; exact m.now
  have hg : Grow W W' := by
    refine ⟨by rw [hnow]; exact Int.le_refl _, fun i hi => ?_, fun x hx => ?_⟩
    · rw [hsd i hi, hrv]; exact (m.streams i.toNat (by omega)).2
    · rw [hls x hx.1]
      by_cases hxp : x = (p : Int)
      · rw [if_pos hxp, hnx, hxp]; exact Int.le_refl _
      · rw [if_neg hxp]; exact Int.le_refl _
  have hcar : W'.carried = W.carried.filter (keep p D) := by rw [hW]; exact m.carried
  have hflights : flights W' = (flights W).filter fun a => !(decide ((a.1 : Int) = (p : Int)) && D.contains a.2.num) := by
    unfold flights flightsTo
    rw [List.filter_flatMap]
    refine flatMap_congr' fun x hx => ?_
    rw [List.mem_range] at hx
    rw [hls x (by omega), List.filter_map]
    by_cases hxp : (x : Int) = (p : Int)
    · rw [if_pos hxp, hfl, hxp]
      congr 1
      apply List.filter_congr
      intro k _
      simp [hxp]
    · rw [if_neg hxp]
      congr 1
      symm
      rw [List.filter_eq_self]
      intro k _
      simp [hxp]
  have hcars : F2 (FlightOK W') (flights W') W'.carried := by
    rw [hflights, hcar]
    refine F2.mono (fun a c hr => ?_) (F2.filter _ _ (fun a c hr => ?_) h.cars)
    · exact ⟨by rw [hnow]; exact hr.time, hr.path, hr.num, hr.stream, (hg.st _ hr.stream).sent _ hr.sent, fun hh => by rw [hsn] at hh; exact (hg.st _ hr.stream).part hr.sent (hr.got hh)⟩
    · rw [keep, hr.path, hr.num]
  refine ⟨by rw [hnow]; exact h.now, by rw [hW]; exact m.sends, by rw [hW]; simp only; rw [m.recvs]; exact h.recvs, by rw [hW]; simp only; rw [m.got]; exact h.got, by rw [hW]; simp only; rw [m.paths, hP]; simp [h.paths], by rw [hW]; exact hr.1, by rw [hW]; exact hw.1, by rw [hW]; simp only; rw [m.seen]; exact h.seen, by rw [hW]; exact hw.2, by rw [hW]; simp only; rw [m.net]; exact h.net, fun i hi => ?_, fun x hx => ?_, hcars, fun y hy => ?_⟩
  · rw [hW]; simp only; rw [m.recvs, m.got]; exact (m.streams i hi).1
  · have hx' := h.path x hx
    refine ⟨?_, ?_, ?_⟩
    · rw [hls x (by omega)]
      by_cases hxp : (x : Int) = (p : Int)
      · rw [if_pos hxp]; exact hok
      · rw [if_neg hxp]; exact hx'.ls
    · rw [hW]; exact hr.2 x hx
    · rw [hsn, hls x (by omega)]
      by_cases hxp : (x : Int) = (p : Int)
      · rw [if_pos hxp, hnx, hxp]; exact (h.path p hp).sn
      · rw [if_neg hxp]; exact hx'.sn
  · refine wire_grow h hg (fun c hc => .inl ?_) (h.wires y (by rw [hW] at hy; simp only at hy; rw [m.net] at hy; exact hy))
    rw [hcar] at hc
    exact (List.mem_filter.1 hc).1
theorem carOf {W : Wd} (h : WdOK W) {p : Nat} (hp : p < 4) {k : Pk} (hk : k ∈ (W.ls p).flight) : ∃ c ∈ W.carried, c.path = (p : Int) ∧ c.num = k.num := by
  obtain ⟨c, hc, hr⟩ := F2.memL h.cars (p, k) (by
    simp only [flights, flightsTo, List.mem_flatMap, List.mem_range, List.mem_map]
    exact ⟨p, hp, k, hk, rfl⟩)
  exact ⟨c, hc, hr.path, hr.num⟩
theorem nums_nodup {l : Ls} (h : LsOK l) : (l.flight.map Pk.num).Nodup := by
  unfold List.Nodup
  rw [List.pairwise_map]
  exact h.asc.imp fun hab e => by have := hab.1; omega
theorem wd_timeout {W : Wd} (h : WdOK W) {p : Int} (hp : 0 ≤ p ∧ p ≤ 3) : WdOK (doTimeout W p) := by
  obtain ⟨P, rfl⟩ : ∃ P : Nat, p = (P : Int) := ⟨p.toNat, by omega⟩
  have hP : P < 4 := by omega
  have hls := (h.path P hP).ls
  unfold doTimeout
  simp only [Int.toNat_natCast]
  have m := mid_loseAll h ((W.ls P).flight.map Pk.num) [] (mid_start h P (W.paths.set P { W.ls P with flight := [] })) (fun n hn => by
    obtain ⟨k, hk, rfl⟩ := List.mem_map.1 hn
    exact carOf h hP hk) (by simpa using nums_nodup hls)
  rw [List.nil_append] at m
  have hok : LsOK { W.ls P with flight := [] } := ⟨hls.next, hls.top, by simp, by simp, by simp⟩
  have hfl : ([] : List Pk) = (W.ls P).flight.filter fun k => !((W.ls P).flight.map Pk.num).contains k.num := by
    symm
    rw [List.filter_eq_nil_iff]
    intro k hk
    simp only [Bool.not_eq_true', Bool.not_eq_false, List.contains_iff_mem]
    exact List.mem_map_of_mem hk
  have hrs : W.rtts.length = 4 ∧ ∀ q : Nat, q < 4 → rtValid (W.rtts.getD q default) = true := ⟨h.rtts, fun q hq => (h.path q hq).rt⟩
  have fin := fun {ws : List Wn} (hw : ws.length = 4 ∧ wnsValid ws = true) => mid_end h hP m rfl hok rfl hfl hw hrs
  obtain ⟨V, hV⟩ : ∃ V : Wd, V = loseAll { W with paths := W.paths.set P { W.ls P with flight := [] } } P ((W.ls P).flight.map Pk.num) := ⟨_, rfl⟩
  rw [← hV] at m fin ⊢
  have hVr : V.rtts = W.rtts := m.rtts
  by_cases he : (W.ls P).flight.isEmpty = true
  · rw [if_pos he]
    have := fin m.wins
    rw [← hVr] at this
    exact this
  · rw [if_neg he]
    have hw := wns_loss m.wins.2 (i := P) (by rw [m.wins.1]; omega)
    have := fin (ws := wnLoss V.windows P) ⟨by rw [hw.2]; exact m.wins.1, hw.1⟩
    rw [← hVr] at this
    exact this
theorem rt_upd {r : Rt} (h : rtValid r = true) {x : Int} (hx : 1 ≤ x ∧ x ≤ 999) : rtValid (rtUpd r x) = true := by
  unfold rtUpd
  by_cases h0 : r = rtZero
  · rw [if_pos h0]
    simp [rtValid, inB]
    omega
  · rw [if_neg h0]
    simp [rtValid, inB, h0] at h
    simp [rtValid, inB]
    omega
theorem topOf_lt {l : List Rg} {x : Int} (h : rgBelow l x) (h0 : 0 ≤ x) : topOf l < x := by
  unfold topOf
  cases hl : l.getLast? with
  | none => simp only; omega
  | some r => exact h r (List.mem_of_getLast? hl)
theorem top_has {l : List Rg} {last : Int} (ok : rgOk last l) (hl : l ≠ []) : hasR l (topOf l) = true := by
  unfold topOf
  cases hg : l.getLast? with
  | none => exact absurd (List.getLast?_eq_none_iff.1 hg) hl
  | some r =>
    simp only
    have hm := List.mem_of_getLast? hg
    simp only [hasR, List.any_eq_true, Bool.and_eq_true, decide_eq_true_eq]
    have : ∀ (l : List Rg) (last : Int), rgOk last l → ∀ r ∈ l, r.lo ≤ r.hi := by
      intro l
      induction l with
      | nil => intro _ _ r hr; simp at hr
      | cons y ys ih =>
        intro last ok r hr
        rcases List.mem_cons.1 hr with rfl | hr
        · exact ok.2.1
        · exact ih _ ok.2.2.2 r hr
    exact ⟨r, hm, this l last ok r hm, Int.le_refl _⟩
theorem nodup_filter_two {l : List Pk} (h : (l.map Pk.num).Nodup) (f g : Pk → Bool) (hfg : ∀ k ∈ l, f k = true → g k = false) : ((l.filter f).map Pk.num ++ (l.filter g).map Pk.num).Nodup := by
  rw [List.nodup_append]
  refine ⟨(List.Sublist.map _ List.filter_sublist).nodup h, (List.Sublist.map _ List.filter_sublist).nodup h, ?_⟩
  intro a ha b hb hab
  obtain ⟨k, hk, rfl⟩ := List.mem_map.1 ha
  obtain ⟨k', hk', e⟩ := List.mem_map.1 hb
  rw [List.mem_filter] at hk hk'
  have hinj : ∀ {l : List Pk}, (l.map Pk.num).Nodup → ∀ x ∈ l, ∀ y ∈ l, x.num = y.num → x = y := by
    intro l
    induction l with
    | nil => intro _ x hx; simp at hx
    | cons z zs ih =>
      intro hn x hx y hy hxy
      rw [List.map_cons, List.nodup_cons] at hn
      rcases List.mem_cons.1 hx with rfl | hx' <;> rcases List.mem_cons.1 hy with rfl | hy'
      · rfl
      · exact (hn.1 (by rw [hxy]; exact List.mem_map_of_mem hy')).elim
      · exact (hn.1 (by rw [← hxy]; exact List.mem_map_of_mem hx')).elim
      · exact ih hn.2 x hx' y hy' hxy
  have := hinj h k hk.1 k' hk'.1 (by rw [e, hab])
  subst this
  have := hfg k hk.1 hk.2
  rw [hk'.2] at this
  cases this
theorem num_inj {l : Ls} (h : LsOK l) {x y : Pk} (hx : x ∈ l.flight) (hy : y ∈ l.flight) (e : x.num = y.num) : x = y := by
  have := h.asc
  generalize l.flight = f at this hx hy
  induction f with
  | nil => simp at hx
  | cons z zs ih =>
    rw [List.pairwise_cons] at this
    rcases List.mem_cons.1 hx with rfl | hx' <;> rcases List.mem_cons.1 hy with rfl | hy'
    · rfl
    · have := (this.1 y hy').1; omega
    · have := (this.1 x hx').1; omega
    · exact ih this.2 hx' hy'
theorem ls_ack {l : Ls} (h : LsOK l) {acked : List Rg} (ha : rgOk (-2) acked) (hb : rgBelow acked l.next) (now delay : Int) :
    LsOK (lsAck l acked now delay).1 ∧ (lsAck l acked now delay).1.next = l.next ∧ (lsAck l acked now delay).1.flight = l.flight.filter (fun k => !((lsAck l acked now delay).2.1 ++ (lsAck l acked now delay).2.2).contains k.num) ∧
    ((lsAck l acked now delay).2.1 ++ (lsAck l acked now delay).2.2).Nodup ∧ (∀ n ∈ (lsAck l acked now delay).2.1, hasR acked n = true ∧ ∃ k ∈ l.flight, k.num = n) ∧ (∀ n ∈ (lsAck l acked now delay).2.2, ∃ k ∈ l.flight, k.num = n) := by
  unfold lsAck
  simp only
  obtain ⟨top, htop⟩ : ∃ top, top = max l.largest (topOf acked) := ⟨_, rfl⟩
  rw [← htop]
  have ht1 := topOf_lt hb h.next.1
  have ht2 := h.top
  have hcon : ∀ k ∈ l.flight, ((l.flight.filter (isDone acked)).map Pk.num ++ (l.flight.filter (isLost acked top now delay)).map Pk.num).contains k.num = (isDone acked k || isLost acked top now delay k) := by
    intro k hk
    rw [Bool.eq_iff_iff, List.contains_iff_mem, Bool.or_eq_true]
    constructor
    · intro hm
      rcases List.mem_append.1 hm with hm | hm
      · obtain ⟨k', hk', e⟩ := List.mem_map.1 hm
        rw [List.mem_filter] at hk'
        rw [← num_inj h hk'.1 hk e]
        exact .inl hk'.2
      · obtain ⟨k', hk', e⟩ := List.mem_map.1 hm
        rw [List.mem_filter] at hk'
        rw [← num_inj h hk'.1 hk e]
        exact .inr hk'.2
    · rintro (hd | hd)
      · exact List.mem_append_left _ (List.mem_map_of_mem (List.mem_filter.2 ⟨hk, hd⟩))
      · exact List.mem_append_right _ (List.mem_map_of_mem (List.mem_filter.2 ⟨hk, hd⟩))
  refine ⟨⟨h.next, by simp only; omega, ?_, fun k hk => ?_, h.asc.filter _⟩, trivial, ?_, ?_, fun n hn => ?_, fun n hn => ?_⟩
  · have := List.length_filter_le (fun p => !isDone acked p && !isLost acked top now delay p) l.flight
    have := h.few
    simp only
    omega
  · simp only at hk ⊢
    rw [List.mem_filter] at hk
    have hk' := h.pk k hk.1
    refine ⟨hk'.1, ?_, hk'.2.2⟩
    intro e
    simp only [Bool.and_eq_true, Bool.not_eq_true', isDone] at hk
    by_cases hl : acked = []
    · rw [hl] at htop
      have : topOf [] = -1 := rfl
      rw [this] at htop
      omega
    · have := top_has ha hl
      by_cases hc : l.largest ≤ topOf acked
      · rw [show k.num = topOf acked by omega, this] at hk
        cases hk.2.1
      · omega
  · apply List.filter_congr
    intro k hk
    rw [hcon k hk]
    simp
  · refine nodup_filter_two (nums_nodup h) _ _ fun k _ hd => ?_
    unfold isDone at hd
    simp [isLost, hd]
  · obtain ⟨k, hk, rfl⟩ := List.mem_map.1 hn
    rw [List.mem_filter] at hk
    exact ⟨hk.2, k, hk.1, rfl⟩
  · obtain ⟨k, hk, rfl⟩ := List.mem_map.1 hn
    rw [List.mem_filter] at hk
    exact ⟨k, hk.1, rfl⟩
theorem wd_ack {W : Wd} (h : WdOK W) {p : Int} (hp : 0 ≤ p ∧ p ≤ 3) {acked : List Rg} (ha : rgOk (-2) acked) (hb : rgBelow acked (W.ls p).next) (hg : ∀ c ∈ W.carried, c.path = p → hasR acked c.num = true → gotPart (W.sd c.stream) (W.rv c.stream) c.part = true) : WdOK (doAck W p acked) := by
  obtain ⟨P, rfl⟩ : ∃ P : Nat, p = (P : Int) := ⟨p.toNat, by omega⟩
  have hP : P < 4 := by omega
  have hpt := h.path P hP
  obtain ⟨a1, a2, a3, a4, a5, a6⟩ := ls_ack hpt.ls ha hb W.now (rtDelay (W.rt P))
  unfold doAck
  generalize lsAck (W.ls P) acked W.now (rtDelay (W.rt P)) = res at a1 a2 a3 a4 a5 a6 ⊢
  obtain ⟨l, done, lost⟩ := res
  simp only [Int.toNat_natCast] at a1 a2 a3 a4 a5 a6 ⊢
  have m1 := mid_ackAll h hp done [] (mid_start h P (W.paths.set P l)) (fun n hn => by
    obtain ⟨hh, k, hk, e⟩ := a5 n hn
    obtain ⟨c, hc, c1, c2⟩ := carOf h hP hk
    exact ⟨c, hc, c1, by rw [c2, e], hg c hc c1 (by rw [c2, e]; exact hh)⟩) (by rw [List.nil_append]; exact (List.nodup_append.1 a4).1)
  rw [List.nil_append] at m1
  have m := mid_loseAll h lost done m1 (fun n hn => by
    obtain ⟨k, hk, e⟩ := a6 n hn
    obtain ⟨c, hc, c1, c2⟩ := carOf h hP hk
    exact ⟨c, hc, c1, by rw [c2, e]⟩) a4
  generalize loseAll (ackAll { W with paths := W.paths.set P l } P done) P lost = V at m ⊢
  have fin := fun {ws : List Wn} {rs : List Rt} hw hr => mid_end h hP m (l' := l) rfl a1 a2 a3 (ws := ws) hw (rs := rs) hr
  have hr0 : V.rtts.length = 4 ∧ ∀ q : Nat, q < 4 → rtValid (V.rtts.getD q default) = true := by rw [m.rtts]; exact ⟨h.rtts, fun q hq => (h.path q hq).rt⟩
  have hw := wns_loss m.wins.2 (i := P) (by rw [m.wins.1]; omega)
  obtain ⟨ws, hws, hU⟩ : ∃ ws, (ws.length = 4 ∧ wnsValid ws = true) ∧ (if lost.isEmpty then V else { V with windows := wnLoss V.windows P }) = { V with windows := ws } := by
    by_cases he : lost.isEmpty = true
    · rw [if_pos he]; exact ⟨V.windows, m.wins, rfl⟩
    · rw [if_neg he]; exact ⟨_, ⟨by rw [hw.2]; exact m.wins.1, hw.1⟩, rfl⟩
  rw [hU]
  have base := fin hws hr0
  cases hd : done.getLast? with
  | none => exact base
  | some n =>
    simp only
    cases ht : timeOf (W.ls P).flight n with
    | none => exact base
    | some t =>
      simp only
      by_cases hlt : t < W.now
      · rw [if_pos hlt]
        have htime : 0 ≤ t := by
          unfold timeOf at ht
          rw [Option.map_eq_some_iff] at ht
          obtain ⟨k, hk, rfl⟩ := ht
          exact (hpt.ls.pk k (List.mem_of_find?_eq_some hk)).2.2.1.1
        have hnow := h.now
        refine fin hws ⟨by simp [hr0.1], fun q hq => ?_⟩
        rw [getD_set]
        by_cases hqp : P = q ∧ P < V.rtts.length
        · rw [if_pos hqp]; exact rt_upd hpt.rt (by omega)
        · rw [if_neg hqp]; exact hr0.2 q hq
      · rw [if_neg hlt]; exact base
end Go.Proofs.Ytjpaoadbgmmoeaa
