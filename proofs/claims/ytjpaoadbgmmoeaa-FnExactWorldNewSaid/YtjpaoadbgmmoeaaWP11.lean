/- Every event keeps a run valid, and a new run is valid. No program in sight. -/
import Derived.Test.YtjpaoadbgmmoeaaWP10
namespace Go.Proofs.Ytjpaoadbgmmoeaa

theorem wd_deliver {W : Wd} (h : WdOK W) {x : Wi} (hx : WireOK W x) : WdOK (deliver W x) := by
  unfold deliver
  cases hg : x.genuine with
  | false => exact h
  | true =>
    simp only [Bool.not_true, Bool.false_eq_true, if_false]
    rcases hx.gen hg with ⟨hk, _⟩ | ⟨hk, a, b⟩ | ⟨hk, a, b, c⟩
    · rw [if_pos hk]
      by_cases hh : hasR (W.sn x.path) x.num = true
      · rw [if_pos hh]; exact h
      · rw [if_neg hh]; exact wd_data h hx hg hk
    · rw [if_neg (by omega), if_pos hk]
      have hf := fm4 hx.frame hk
      have := st_limit (h.st hf.1) hf.2.1 b
      have h1 := (wd_stream h (i := x.frame.a.toNat) (by omega) this.1 this.2).1
      have e1 : W.recvs.set x.frame.a.toNat (W.rv x.frame.a) = W.recvs := set_getD_self _ _
      have e2 : W.got.set x.frame.a.toNat (W.got.getD x.frame.a.toNat default) = W.got := set_getD_self _ _
      rw [e1, e2] at h1
      exact h1
    · rw [if_neg (by omega), if_neg (by omega), if_pos hk]
      have hf := fm2 hx.frame hk
      exact wd_ack h hf.1 hf.2.2.2 b c
theorem fm_lim {a b : Int} (h : 0 ≤ a ∧ a ≤ 2) (h' : 0 ≤ b ∧ b ≤ 30) : fmValid ⟨4, a, b, 0, [], []⟩ = true := by
  simp [fmValid, fieldsOk, inB]
  omega
theorem fm_ack {a : Int} {l : List Rg} (h : 0 ≤ a ∧ a ≤ 3) (hl : l ≠ []) (hv : l.length ≤ 16 ∧ rgOk (-2) l) : fmValid ⟨2, a, 0, 0, [], l⟩ = true := by
  have := (rgValid_iff l).2 hv
  simp [fmValid, fieldsOk, inB, this, hl]
  omega
theorem wd_do {W : Wd} (h : WdOK W) (e : Ev) : WdOK (doW W e) := by
  unfold doW
  have er : ∀ i : Nat, W.recvs.set i (W.recvs.getD i default) = W.recvs := fun i => set_getD_self _ _
  have es : ∀ i : Nat, W.sends.set i (W.sends.getD i default) = W.sends := fun i => set_getD_self _ _
  have eg : ∀ i : Nat, W.got.set i (W.got.getD i default) = W.got := fun i => set_getD_self _ _
  split
  · split
    · exact h
    · rename_i ha
      simp only [Bool.not_eq_true', Bool.not_eq_false, inB_iff] at ha
      have hi : e.a.toNat < 3 := by omega
      have hst := h.st ha
      split
      · have := st_write hst e.data
        have h1 := (wd_stream h hi this.1 this.2).1
        rw [show W.rv e.a = W.recvs.getD e.a.toNat default from rfl, er, eg] at h1
        exact h1
      · split
        · have := st_finish hst
          have h1 := (wd_stream h hi this.1 this.2).1
          rw [show W.rv e.a = W.recvs.getD e.a.toNat default from rfl, er, eg] at h1
          exact h1
        · split
          · split
            · rename_i hb
              rw [inB_iff] at hb
              have := st_read hst hb.1
              have h1 := (wd_stream h hi this.1 this.2).1
              rw [show W.sd e.a = W.sends.getD e.a.toNat default from rfl, es] at h1
              exact h1
            · exact h
          · split
            · rename_i hb
              rw [inB_iff] at hb
              have := st_grant hst hb.1 hb.2
              have h1 := (wd_stream h hi this.1 this.2).1
              rw [show W.sd e.a = W.sends.getD e.a.toNat default from rfl, es, eg] at h1
              have hl := hst.rv.lim
              refine wd_post h1 ⟨⟨by simp only; omega, by simp only; omega⟩, fm_lim ha (by omega), by simp only; omega, fun _ => .inr (.inl ⟨rfl, rfl, ?_⟩)⟩
              show e.b ≤ ((W.recvs.set e.a.toNat _).getD e.a.toNat default).limit
              rw [getD_set, if_pos ⟨rfl, by rw [h.recvs]; omega⟩]
              exact Int.le_refl _
            · exact h
  · split
    · exact wd_send h _ _ _
    · split
      · split
        · exact h
        · rename_i ha
          simp only [Bool.not_eq_true', Bool.not_eq_false, inB_iff] at ha
          have hm : W.net.getD e.a.toNat default ∈ W.net := by
            have : e.a.toNat < W.net.length := by omega
            rw [List.getD_eq_getElem?_getD, List.getElem?_eq_getElem this]
            exact List.getElem_mem this
          have hw := h.wires _ hm
          split
          · exact wd_post h hw
          · split
            · exact wd_deliver (wd_erase h _) (wire_net hw)
            · exact wd_erase h _
      · split
        · split
          · rename_i ha
            simp only [Bool.and_eq_true, inB_iff, Bool.not_eq_true', List.isEmpty_eq_false_iff] at ha
            have hpt := h.pt ha.1
            refine wd_post h ⟨ha.1, fm_ack ha.1 ha.2 ⟨hpt.sn.1, hpt.sn.2.1⟩, by simp only; omega, fun _ => .inr (.inr ⟨rfl, rfl, hpt.sn.2.2, fun c hc h1 h2 => ?_⟩)⟩
            obtain ⟨p, _, k, _, hr⟩ := h.carMem hc
            refine hr.got ?_
            have := hr.path
            simp only at h1 h2 this ⊢
            rw [← this, h1]
            exact h2
          · exact h
        · split
          · split
            · rename_i ha
              exact wd_timeout h (inB_iff.1 ha)
            · exact h
          · split
            · exact wd_tick h
            · split
              · split
                · rename_i ha
                  simp only [Bool.and_eq_true, inB_iff] at ha
                  exact wd_post h (wire_forged ha.1 ha.2.2 (by simp only; omega) rfl)
                · exact h
              · exact h
theorem wd_play : ∀ (l : List Ev) {W : Wd}, WdOK W → WdOK (playW W l)
  | [], _, h => h
  | e :: t, _, h => wd_play t (wd_do h e)
theorem wd_new {limit : Int} (h : 0 ≤ limit ∧ limit ≤ 30) : WdOK (wdNew limit) := by
  have hst : StOK (sd0 limit) (rv0 limit) [] := by
    refine ⟨⟨by simp [bl, sd0], h, by simp [sd0, Sd.many, bl], by simp [sd0, bl]; omega, ⟨trivial, by simp [sd0, rgBelow]⟩, ⟨trivial, by simp [sd0, rgBelow]⟩, fun x hx => by simp [sd0, hasR_nil] at hx⟩, ⟨h, by simp [rv0]; omega, trivial, .inl rfl⟩, rfl, rfl, Int.le_refl _, by simp [rv0, Rv.fin, sd0, bl], fun x b hx => by simp [rv0, atL_nil] at hx, fun x hx => by simp [sd0, hasR_nil] at hx, .inl rfl⟩
  have hls : ∀ p : Nat, p < 4 → (wdNew limit).ls p = ⟨0, [], -1⟩ := fun p hp => by
    match p, hp with
    | 0, _ => rfl
    | 1, _ => rfl
    | 2, _ => rfl
    | 3, _ => rfl
  refine ⟨by simp [wdNew], rfl, rfl, rfl, rfl, rfl, rfl, rfl, (show wnsValid [⟨4, 8, 0, 10⟩, ⟨4, 8, 0, 20⟩, ⟨4, 8, 0, 30⟩, ⟨4, 8, 0, 40⟩] = true by decide), by simp [wdNew], fun i hi => ?_, fun p hp => ⟨?_, ?_, ?_⟩, ?_, by simp [wdNew]⟩
  · match i, hi with
    | 0, _ => exact hst
    | 1, _ => exact hst
    | 2, _ => exact hst
  · rw [hls p hp]
    exact ⟨by simp, by simp, by simp, by simp, by simp⟩
  · match p, hp with
    | 0, _ => exact (show rtValid rtZero = true by decide)
    | 1, _ => exact (show rtValid rtZero = true by decide)
    | 2, _ => exact (show rtValid rtZero = true by decide)
    | 3, _ => exact (show rtValid rtZero = true by decide)
  · rw [hls p hp]
    have : (wdNew limit).sn p = [] := by
      match p, hp with
      | 0, _ => rfl
      | 1, _ => rfl
      | 2, _ => rfl
      | 3, _ => rfl
    rw [this]
    exact ⟨by simp, trivial, by simp [rgBelow]⟩
  · have : flights (wdNew limit) = [] := by
      unfold flights flightsTo
      have e : (List.range 4).flatMap (fun (p : Nat) => ((wdNew limit).ls (p : Int)).flight.map fun k => (p, k)) = (List.range 4).flatMap fun _ => ([] : List (Nat × Pk)) := by
        refine flatMap_congr' (fun x hx => ?_)
        rw [List.mem_range] at hx
        rw [hls x hx]; rfl
      rw [e]
      rfl
    rw [this]
    trivial
end Go.Proofs.Ytjpaoadbgmmoeaa
