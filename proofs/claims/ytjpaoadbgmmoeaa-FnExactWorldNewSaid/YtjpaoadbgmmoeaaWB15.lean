/- The contract of the program's pathValid. Condition: the pointer leads to a run that reads as plain data, the other to the number of parts counted so far. -/
import Derived.Test.YtjpaoadbgmmoeaaWO
namespace Go.Proofs.Ytjpaoadbgmmoeaa
open Go.RowKit

theorem sn_at {w : World} {ok : Nat → Prop} {A : Option Addr} {n c : Nat} {l : List (List Rg)} (h : SliceR SnR 1 w ok A n c l) {k : Nat} (hk : k < n) : ∃ b o x A' n' c', A = some ⟨b, o, none⟩ ∧ ok b ∧ l[k]? = some x ∧ RgS w ok A' n' c' x ∧ w.cell? ⟨b, o + k, none⟩ = some (.slice A' n' c') := by
  obtain ⟨b, o, cs, x, e, hb, hx, _, ⟨A', n', c', rfl, h1⟩, hc⟩ := h.at_ hk
  exact ⟨b, o, x, A', n', c', e, hb, hx, h1, by have := hc 0 _ rfl; rwa [Nat.add_zero, Nat.mul_one] at this⟩
theorem rt_at {w : World} {ok : Nat → Prop} {A : Option Addr} {n c : Nat} {l : List Rt} (h : SliceR RtR 4 w ok A n c l) {k : Nat} (hk : k < n) : ∃ b o x, A = some ⟨b, o, none⟩ ∧ ok b ∧ l[k]? = some x ∧ (I64 x.latest ∧ I64 x.least ∧ I64 x.smooth ∧ I64 x.vary) ∧ w.cell? ⟨b, o + k * 4, none⟩ = some (.int .i64 x.latest) ∧ w.cell? ⟨b, o + k * 4 + 1, none⟩ = some (.int .i64 x.least) ∧ w.cell? ⟨b, o + k * 4 + 2, none⟩ = some (.int .i64 x.smooth) ∧ w.cell? ⟨b, o + k * 4 + 3, none⟩ = some (.int .i64 x.vary) := by
  obtain ⟨b, o, cs, x, e, hb, hx, _, ⟨rfl, h1⟩, hc⟩ := h.at_ hk
  exact ⟨b, o, x, e, hb, hx, h1, by have := hc 0 _ rfl; rwa [Nat.add_zero] at this, hc 1 _ rfl, hc 2 _ rfl, hc 3 _ rfl⟩
theorem lossValid_dec {x : Ls} {b : Bool} (hb : lsValid x = b) {A : Option Addr} {n c : Nat} {W y : World} {ok : Nat → Prop} (h : SliceR PkR 3 W ok A n c x.flight) (hok : Sub ok (Old W)) (hn : I64 x.next) (hl : I64 x.largest) :
    Calls Try.prog 70 #[.agg #[.int .i64 x.next, .slice A n c, .int .i64 x.largest]] (grew W y) fun e w' => e = .returned (.bool b) ∧ Below (grew W y).heap.size (grew W y) w' := by
  rw [← hb]; exact lossValid_any x A n c (grew W y) ok (h.grew pkCar hok) hok.grew hn hl
theorem isStream_dec {p : Int} {b : Bool} (hb : inB p 0 2 = b) {w : World} : Calls Try.prog 73 #[.int .i64 p] w fun e w' => e = .returned (.bool b) ∧ w = w' := by rw [← hb]; exact isStream_any p w
theorem rttValid_dec {x : Rt} {b : Bool} (hb : rtValid x = b) {w : World} :
    Calls Try.prog 71 #[.agg #[.int .i64 x.latest, .int .i64 x.least, .int .i64 x.smooth, .int .i64 x.vary]] w fun e w' => e = .returned (.bool b) ∧ Below w.heap.size w w' := by rw [← hb]; exact rttValid_any x w
theorem drop_at {α : Type} {l : List α} {k : Nat} {x : α} (h : l[k]? = some x) : l.drop k = x :: l.drop (k + 1) := by
  obtain ⟨hlt, rfl⟩ := List.getElem?_eq_some_iff.1 h
  exact List.drop_eq_getElem_cons hlt
theorem fl_step {W : Wd} {p : Int} {fl : List Pk} {cs : List Cd} {k cc : Nat} {kk : Pk} {cd : Cd} (hk : fl[k]? = some kk) (hc : cs[cc]? = some cd) :
    flightsOk W p (fl.drop k) (cs.drop cc) = if flightOk W p kk cd then flightsOk W p (fl.drop (k + 1)) (cs.drop (cc + 1)) else none := by rw [drop_at hk, drop_at hc]; rfl
theorem fl_none {W : Wd} {p : Int} {fl : List Pk} {cs : List Cd} {k cc : Nat} {kk : Pk} (hk : fl[k]? = some kk) (h : cs.length ≤ cc ∨ W.now < kk.time) : flightsOk W p (fl.drop k) (cs.drop cc) = none := by
  cases hc : cs[cc]? with
  | none => rw [drop_at hk, List.drop_eq_nil_of_le (List.getElem?_eq_none_iff.1 hc)]; rfl
  | some cd =>
    have hlt := (List.getElem?_eq_some_iff.1 hc).1
    have ht : decide (kk.time ≤ W.now) = false := by simp; omega
    rw [fl_step hk hc, if_neg]
    simp [flightOk, ht]
theorem fl_end {W : Wd} {p : Int} {fl : List Pk} {cs : List Cd} {k cc : Nat} (h : fl.length ≤ k) : flightsOk W p (fl.drop k) (cs.drop cc) = some (cs.drop cc) := by rw [List.drop_eq_nil_of_le h]; rfl
theorem fo_no {W : Wd} {p : Int} {k : Pk} {c : Cd} (h : ¬ c.path = p ∨ ¬ c.num = k.num ∨ inB c.stream 0 2 = false ∨ sent (W.sd c.stream) c.part = false ∨ (hasR (W.sn p) c.num = true ∧ gotPart (W.sd c.stream) (W.rv c.stream) c.part = false)) : flightOk W p k c = false := by
  rcases h with h | h | h | h | ⟨h, h'⟩ <;> simp [flightOk, h]
  simp [h']
theorem fo_yes {W : Wd} {p : Int} {k : Pk} {c : Cd} (h0 : k.time ≤ W.now) (h1 : c.path = p) (h2 : c.num = k.num) (h3 : inB c.stream 0 2 = true) (h4 : sent (W.sd c.stream) c.part = true) (h5 : hasR (W.sn p) c.num = false ∨ gotPart (W.sd c.stream) (W.rv c.stream) c.part = true) : flightOk W p k c = true := by
  have h1' : decide (c.path = p) = true := decide_eq_true h1
  have h2' : decide (c.num = k.num) = true := decide_eq_true h2
  rcases h5 with h5 | h5 <;> simp [flightOk, h0, h1', h2', h3, h4, h5]
/-- What pathValid reads of a run. -/
structure PaR (w : World) (ok : Nat → Prop) (h : Hd) (W : Wd) : Prop where
  st : StR w ok h W
  paths : SliceR LsR 3 w ok h.A4 h.n4 h.c4 W.paths
  rtts : SliceR RtR 4 w ok h.A5 h.n5 h.c5 W.rtts
  seen : SliceR SnR 1 w ok h.A7 h.n7 h.c7 W.seen
  carried : SliceR CdR 6 w ok h.A8 h.n8 h.c8 W.carried
  n4 : h.n4 = 4
  n5 : h.n5 = 4
  n7 : h.n7 = 4
theorem PaR.below {w w' : World} {ok : Nat → Prop} {h : Hd} {W : Wd} (x : PaR w ok h W) (hok : Sub ok (Old w)) (hb : Below w.heap.size w w') : PaR w' ok h W :=
  ⟨x.st.below hok hb, x.paths.below lsCar hok hb (Nat.le_refl _), x.rtts.below rtCar hok hb (Nat.le_refl _), x.seen.below snCar hok hb (Nat.le_refl _), x.carried.below cdCar hok hb (Nat.le_refl _), x.n4, x.n5, x.n7⟩
/-- The answer of pathValid, and the counter behind it. -/
def PathRes (W : Wd) (p bc K : Nat) (w : World) (e : Ending) (w' : World) : Prop :=
  Below bc w w' ∧ ((e = .returned (.bool true) ∧ pathOk W p = true ∧ ∃ K', K' ≤ W.carried.length ∧ flightsOk W p (W.ls p).flight (W.carried.drop K) = some (W.carried.drop K') ∧ w'.cell? ⟨bc, 0, none⟩ = some (.int .i64 (K' : Int)) ∧ w'.frozen? ⟨bc, 0, none⟩ = false) ∨
    (e = .returned (.bool false) ∧ (pathOk W p = false ∨ flightsOk W p (W.ls p).flight (W.carried.drop K) = none)))
set_option maxRecDepth 10000 in
set_option maxHeartbeats 4000000 in
theorem pathValid_any (h : Hd) (W : Wd) (bw p bc K : Nat) (w : World) (ok : Nat → Prop) (hp : AtP w bw h W.now) (hpr : PaR w ok h W) (hok : Sub ok (Old w)) (hokc : ∀ b, ok b → b < bc) (hbw : bw < bc) (hbc : bc < w.heap.size) (hk0 : w.cell? ⟨bc, 0, none⟩ = some (.int .i64 (K : Int))) (hfz : w.frozen? ⟨bc, 0, none⟩ = false) (hK : K ≤ W.carried.length) (hp4 : p < 4) (hnow : I64 W.now)
    (hst : ∀ i : Nat, i < 3 → SdOK (W.sd i) ∧ PcsBd (W.rv i).pieces) :
    Calls Try.prog 32 #[.pointer (some ⟨bw, 0, none⟩), .int .i64 (p : Int), .pointer (some ⟨bc, 0, none⟩)] w (PathRes W p bc K w) := by
  obtain ⟨b4, o4, l, A', n', c', hA4, hb4, hl, ⟨l1, l2⟩, hfl, c0, c1, c2⟩ := ls_at hpr.paths (k := p) (by rw [hpr.n4]; exact hp4)
  obtain ⟨b7, o7, sn, A7, m7, e7, hA7, hb7, hsn, hsr, f0⟩ := sn_at hpr.seen (k := p) (by rw [hpr.n7]; exact hp4)
  have hls : W.ls (p : Int) = l := getD_of? hl
  have hss : W.sn (p : Int) = sn := getD_of? hsn
  have p4 := hp.2 4 _ rfl
  have p7 := hp.2 7 _ rfl
  rw [hA4, hpr.n4] at p4
  rw [hA7, hpr.n7] at p7
  have hob4 : b4 < w.heap.size := hok b4 hb4
  have hob7 : b7 < w.heap.size := hok b7 hb7
  have hbwl := hp.1
  have q1 : (0 : Int) ≤ (p : Int) := by omega
  have q2 : (p : Int) < 4 := by omega
  clear hl hsn hA4 hA7
  go_enter Try.func32, Try.ntmps32
  go_wp2_with fail
  have HS : Hid (∀ w', Below w.heap.size w w' → Below w.heap.size w w' ∧ w'.cell? ⟨bw, 4, none⟩ = some (.slice (some ⟨b4, o4, none⟩) 4 h.c4) ∧ w'.cell? ⟨bw, 7, none⟩ = some (.slice (some ⟨b7, o7, none⟩) 4 h.c7) ∧ w'.cell? ⟨b4, o4 + p * 3, none⟩ = some (.int .i64 l.next) ∧ w'.cell? ⟨b4, o4 + p * 3 + 1, none⟩ = some (.slice A' n' c') ∧ w'.cell? ⟨b4, o4 + p * 3 + 2, none⟩ = some (.int .i64 l.largest) ∧ w'.cell? ⟨b7, o7 + p, none⟩ = some (.slice A7 m7 e7)) := fun w' hb' =>
    ⟨hb', (hb'.cell (p := ⟨bw, 4, none⟩) hbwl).trans p4, (hb'.cell (p := ⟨bw, 7, none⟩) hbwl).trans p7, (hb'.cell (p := ⟨b4, o4 + p * 3, none⟩) hob4).trans c0, (hb'.cell (p := ⟨b4, o4 + p * 3 + 1, none⟩) hob4).trans c1, (hb'.cell (p := ⟨b4, o4 + p * 3 + 2, none⟩) hob4).trans c2, (hb'.cell (p := ⟨b7, o7 + p, none⟩) hob7).trans f0⟩
  clear p4 p7 c0 c1 c2 f0
  go_region_held (fun w' => Below w.heap.size w w' ∧ w'.cell? ⟨bw, 4, none⟩ = some (.slice (some ⟨b4, o4, none⟩) 4 h.c4) ∧ w'.cell? ⟨bw, 7, none⟩ = some (.slice (some ⟨b7, o7, none⟩) 4 h.c7) ∧ w'.cell? ⟨b4, o4 + p * 3, none⟩ = some (.int .i64 l.next) ∧ w'.cell? ⟨b4, o4 + p * 3 + 1, none⟩ = some (.slice A' n' c') ∧ w'.cell? ⟨b4, o4 + p * 3 + 2, none⟩ = some (.int .i64 l.largest) ∧ w'.cell? ⟨b7, o7 + p, none⟩ = some (.slice A7 m7 e7))
    (first | assumption | exact HS.out _ (b_self _) | exact HS.out _ (b_drew _) | exact HS.out _ (b_grow (And.left (by assumption)) _) | exact HS.out _ (b_grow (b_self _) _) | exact HS.out _ (b_grow (b_drew _) _))
    (fail)
  rename_i hHeld
  clear hHeld
  obtain ⟨x7, hx7⟩ : ∃ x7, x7 = w.heap.size := ⟨_, rfl⟩
  obtain ⟨W1, hW1⟩ : ∃ W1 : World, W1 = (w.alloc (.cells #[.int .i64 l.next, .slice A' n' c', .int .i64 l.largest] 57)).drew := ⟨_, rfl⟩
  rw [← hW1, ← hx7]
  have hb1 : Below w.heap.size w W1 := by rw [hW1]; exact (b_alloc _ _).drew
  have hl7 : x7 < W1.heap.size := by rw [hx7, hW1]; simp
  have k0 : W1.cell? ⟨x7, 0, none⟩ = some (.int .i64 l.next) := by rw [hx7, hW1]; simp
  have k1 : W1.cell? ⟨x7, 1, none⟩ = some (.slice A' n' c') := by rw [hx7, hW1]; simp
  have k2 : W1.cell? ⟨x7, 2, none⟩ = some (.int .i64 l.largest) := by rw [hx7, hW1]; simp
  have hp1 := hp.below hb1
  have hpr1 := hpr.below hok hb1
  have hfl1 := hfl.below pkCar hok hb1 (Nat.le_refl _)
  have hsr1 := hsr.below rgCar hok hb1 (Nat.le_refl _)
  have hok1 : Sub ok (Old W1) := hok.old hb1.size
  have hbcW : bc < W1.heap.size := by have := hb1.size; omega
  have kc := (hb1.cell (p := ⟨bc, 0, none⟩) hbc).trans hk0
  have kf := (hb1.frozen (p := ⟨bc, 0, none⟩) hbc).trans hfz
  have Hb1 := Lib.hid (hb1.mono (show bc ≤ w.heap.size by omega))
  have hx7b : bc < x7 := by omega
  clear hx7
  have hs1 := hb1.size
  obtain ⟨b5, o5, rt, hA5, hb5, hrt, _, r0, r1, r2, r3⟩ := rt_at hpr1.rtts (k := p) (by rw [hpr.n5]; exact hp4)
  have hrr : W.rt (p : Int) = rt := getD_of? hrt
  have p5 := hp1.2 5 _ rfl
  rw [hA5, hpr.n5] at p5
  have hval : Hid (pathOk W (p : Int) = ((lsValid l && rtValid rt) && (rgValid sn && topB sn l.next))) := by unfold Hid pathOk; rw [hls, hss, hrr]
  have Hls := Lib.hid hls
  have Hss := Lib.hid hss
  have hsl := Lib.hid hsr1.len
  have hscap := hsr1.cap
  unfold I64 at l1 l2
  clear hW1 HS hp hpr hfl hsr hb1 hrt hA5 hrr hls hss hk0 hfz
  cases hv1 : lsValid l with
  | false =>
    have Hno := Lib.hid (show pathOk W (p : Int) = false by rw [hval.out, hv1]; rfl)
    have hv2 : rtValid rt = rtValid rt := rfl
    have hv3 : rgValid sn = rgValid sn := rfl
    go_wp2_with fail
    refine wp_region_calm (by kernel_rfl) (by kernel_rfl) ?_
    repeat (go_big_quiet_step (first
      | (go_at_call 70; exact calm_of (lossValid_dec hv1 hfl1 hok1 l1 l2))
      | (go_at_call 71; exact calm_of (rttValid_dec hv2))
      | (go_at_call 72; exact calm_of (rangesValid_dec hv3 hsr1 hok1))))
    refine wpQuiet_nil ?_
    intro _ hw'
    obtain ⟨nq, hw''⟩ := hw'
    subst hw''
    have Hb := Lib.hid (Hb1.out.trans ((grew_below W1 nq).mono (by omega)))
    go_wp2
    go_ret
    exact ⟨Hb.out, .inr ⟨rfl, .inl Hno.out⟩⟩
  | true =>
    cases hv2 : rtValid rt with
    | false =>
      have Hno := Lib.hid (show pathOk W (p : Int) = false by rw [hval.out, hv1, hv2]; rfl)
      have hv3 : rgValid sn = rgValid sn := rfl
      go_wp2_with fail
      refine wp_region_calm (by kernel_rfl) (by kernel_rfl) ?_
      repeat (go_big_quiet_step (first
        | (go_at_call 70; exact calm_of (lossValid_dec hv1 hfl1 hok1 l1 l2))
        | (go_at_call 71; exact calm_of (rttValid_dec hv2))
        | (go_at_call 72; exact calm_of (rangesValid_dec hv3 hsr1 hok1))))
      refine wpQuiet_nil ?_
      intro _ hw'
      obtain ⟨nq, hw''⟩ := hw'
      subst hw''
      have Hb := Lib.hid (Hb1.out.trans ((grew_below W1 nq).mono (by omega)))
      go_wp2
      go_ret
      exact ⟨Hb.out, .inr ⟨rfl, .inl Hno.out⟩⟩
    | true =>
      cases hv3 : rgValid sn with
      | false =>
        have Hno := Lib.hid (show pathOk W (p : Int) = false by rw [hval.out, hv1, hv2, hv3]; rfl)
        go_wp2_with fail
        refine wp_region_calm (by kernel_rfl) (by kernel_rfl) ?_
        repeat (go_big_quiet_step (first
          | (go_at_call 70; exact calm_of (lossValid_dec hv1 hfl1 hok1 l1 l2))
          | (go_at_call 71; exact calm_of (rttValid_dec hv2))
          | (go_at_call 72; exact calm_of (rangesValid_dec hv3 hsr1 hok1))))
        refine wpQuiet_nil ?_
        intro _ hw'
        obtain ⟨nq, hw''⟩ := hw'
        subst hw''
        have Hb := Lib.hid (Hb1.out.trans ((grew_below W1 nq).mono (by omega)))
        go_wp2
        go_ret
        exact ⟨Hb.out, .inr ⟨rfl, .inl Hno.out⟩⟩
      | true =>
        have hrg2 := ((rgValid_iff sn).1 hv3).2
        have l3 := ((ls_iff l).1 hv1).next
        have hpath : Hid (topB sn l.next = true → pathOk W (p : Int) = true) := fun ht => by rw [hval.out, hv1, hv2, hv3, ht]; rfl
        by_cases hn0 : m7 = 0
        rotate_left
        obtain ⟨b8, o8, y, rfl, hbo8, hlast, y1, y2, cy⟩ := rg_last hsr1 (show 0 < m7 by omega)
        have htop : topB sn l.next = decide (y.hi < l.next) := by unfold topB; rw [hlast]
        have q3 : (0 : Int) ≤ (m7 : Int) - 1 := by omega
        have q4 : (m7 : Int) - 1 < (m7 : Int) := by omega
        have q5 : ((m7 : Int) - 1).toNat = m7 - 1 := by omega
        have q7 : IntKind.i64.wrap ((m7 : Int) - 1) = (m7 : Int) - 1 := IntWalk.i64_in _ (by omega)
        have z0 : 0 < m7 := by omega
        have z1 : decide ((0 : Int) < (m7 : Int)) = true := by simp; omega
        clear hlast hrg2 hn0
        by_cases hy : y.hi < l.next
        rotate_left
        · have Hno := Lib.hid (show pathOk W (p : Int) = false by rw [hval.out, hv1, hv2, hv3, htop, decide_eq_false hy]; rfl)
          have t1 : decide (l.next ≤ y.hi) = true := by simp; omega
          clear htop hpath
          go_wp2_with fail
          refine wp_region_calm (by kernel_rfl) (by kernel_rfl) ?_
          repeat (go_big_quiet_step (first
            | (go_at_call 70; exact calm_of (lossValid_dec hv1 hfl1 hok1 l1 l2))
            | (go_at_call 71; exact calm_of (rttValid_dec hv2))
            | (go_at_call 72; exact calm_of (rangesValid_dec hv3 hsr1 hok1))))
          refine wpQuiet_nil ?_
          intro _ hw'
          obtain ⟨nq, hw''⟩ := hw'
          subst hw''
          have Hb := Lib.hid (Hb1.out.trans ((grew_below W1 nq).mono (by omega)))
          go_wp2
          go_ret
          exact ⟨Hb.out, .inr ⟨rfl, .inl Hno.out⟩⟩
        have hnil : sn = [] := List.length_eq_zero_iff.1 (by rw [hsl.out, hn0])
        have Hpath := Lib.hid (hpath (by rw [hnil]; rfl))
        have z0 : ¬ 0 < m7 := by omega
        have z1 : decide ((0 : Int) < (m7 : Int)) = false := by simp; omega
        clear hn0 hnil hrg2 hpath
        go_wp2_with fail
        refine wp_region_calm (by kernel_rfl) (by kernel_rfl) ?_
        repeat (go_big_quiet_step (first
          | (go_at_call 70; exact calm_of (lossValid_dec hv1 hfl1 hok1 l1 l2))
          | (go_at_call 71; exact calm_of (rttValid_dec hv2))
          | (go_at_call 72; exact calm_of (rangesValid_dec hv3 hsr1 hok1))))
        refine wpQuiet_nil ?_
        intro _ hw'
        obtain ⟨nq, hw''⟩ := hw'
        subst hw''
        rotate_left
        have Hpath := Lib.hid (hpath (by rw [htop, decide_eq_true hy]))
        have t1 : decide (l.next ≤ y.hi) = false := by simp; omega
        clear htop hpath hy
        go_wp2_with fail
        refine wp_region_calm (by kernel_rfl) (by kernel_rfl) ?_
        repeat (go_big_quiet_step (first
          | (go_at_call 70; exact calm_of (lossValid_dec hv1 hfl1 hok1 l1 l2))
          | (go_at_call 71; exact calm_of (rttValid_dec hv2))
          | (go_at_call 72; exact calm_of (rangesValid_dec hv3 hsr1 hok1))))
        refine wpQuiet_nil ?_
        intro _ hw'
        obtain ⟨nq, hw''⟩ := hw'
        subst hw''
        all_goals
          have hb2 := grew_below W1 nq
          generalize grew W1 nq = W2 at hb2 ⊢
          have hp2 := hp1.below hb2
          have hpr2 := hpr1.below hok1 hb2
          have hok2 : Sub ok (Old W2) := hok1.old hb2.size
          have hsr2 := hsr1.below rgCar hok1 hb2 (Nat.le_refl _)
          have hfl2 := hfl1.below pkCar hok1 hb2 (Nat.le_refl _)
          have kc2 := (hb2.cell (p := ⟨bc, 0, none⟩) hbcW).trans kc
          have kf2 := (hb2.frozen (p := ⟨bc, 0, none⟩) hbcW).trans kf
          have j1 := (hb2.cell (p := ⟨x7, 1, none⟩) hl7).trans k1
          have hbc2 : bc < W2.heap.size := by have := hb2.size; omega
          have Hb2 := Lib.hid (Hb1.out.trans (hb2.mono (show bc ≤ W1.heap.size by omega)))
          have e8 := hp2.2 8 _ rfl
          have e1 := hp2.2 1 _ rfl
          have e0 := hp2.2 0 _ rfl
          obtain ⟨A8, N8, C8, hE8⟩ : ∃ A N C, Value.slice A N C = Value.slice h.A8 h.n8 h.c8 ∧ SliceR CdR 6 W2 ok A N C W.carried := ⟨_, _, _, rfl, hpr2.carried⟩
          rw [← hE8.1] at e8
          have hc2 := hE8.2
          have hs2 := hpr2.st
          obtain ⟨A1, C1, hE1⟩ : ∃ A C, Value.slice A 3 C = Value.slice h.A1 h.n1 h.c1 ∧ SliceR SdR 6 W2 ok A 3 C W.sends := ⟨h.A1, h.c1, by rw [hs2.n1], by have := hs2.sends; rwa [hs2.n1] at this⟩
          rw [← hE1.1] at e1
          have hsd2 := hE1.2
          have hcl := Lib.hid hc2.len
          have hcc8 := hc2.cap
          have hfll := Lib.hid hfl2.len
          have hfcap := hfl2.cap
          have hokne : Hid (∀ b, ok b → b ≠ bc) := fun b hb => by have := hokc b hb; omega
          clear hE8 hE1 hb2 hp1 hpr1 hfl1 hsr1 kc kf k0 k1 k2 hpr2 r0 r1 r2 r3 p5 hval hv1 hv2 hv3
          go_wp2_with fail
          go_loopg [65] n' (fun m v wr => ∃ k : Nat, k + m = n' ∧ v = .int .i64 (k : Int) ∧ W2.grownBy wr (some bc) ∧ wr.frozen? ⟨bc, 0, none⟩ = false ∧ ∃ cc : Nat, cc ≤ W.carried.length ∧ wr.cell? ⟨bc, 0, none⟩ = some (.int .i64 (cc : Int)) ∧ Hid (flightsOk W p (W.ls p).flight (W.carried.drop K) = flightsOk W p (l.flight.drop k) (W.carried.drop cc)))
          case atStart => exact ⟨0, by omega, rfl, World.grownBy.refl _ _, kf2, K, hK, kc2, by unfold Hid; rw [Hls.out]; rfl⟩
          case round =>
            obtain ⟨k, hk, rfl, hon, hfr, cc, hcc, hct, HT⟩ := hrel
            have hsz := hon.size
            by_cases hlt : k < n'
            · have hflr := hfl2.car (fun _ _ => pkCar (Car.on hok2 hokne.out hon)) (Car.on hok2 hokne.out hon)
              obtain ⟨bk, ok_, kk, rfl, hbk, hkk, ⟨⟨u1, u2⟩, ⟨u3, u4⟩, _⟩, g0, g1, g2⟩ := pk_at hflr hlt
              have Hkk := Lib.hid hkk
              have q3' : (0 : Int) ≤ (k : Int) := by omega
              have q4' : (k : Int) < (n' : Int) := by omega
              go_wp2_with fail
              obtain ⟨xk, hxk⟩ : ∃ xk, xk = wr.heap.size := ⟨_, rfl⟩
              obtain ⟨Wx, hWx⟩ : ∃ Wx : World, Wx = wr.alloc (.cells #[.int .i64 kk.num, .int .i64 kk.time, .int .i64 kk.size] 106) := ⟨_, rfl⟩
              rw [← hWx, ← hxk]
              have hbx : Below wr.heap.size wr Wx := by rw [hWx]; exact b_alloc _ _
              have hlk : xk < Wx.heap.size := by rw [hxk, hWx]; simp
              have d0 : Wx.cell? ⟨xk, 0, none⟩ = some (.int .i64 kk.num) := by rw [hxk, hWx]; simp
              have d1 : Wx.cell? ⟨xk, 1, none⟩ = some (.int .i64 kk.time) := by rw [hxk, hWx]; simp
              have hbcr : bc < wr.heap.size := by omega
              have hxkb : bc < xk := by omega
              have onx : W2.grownBy Wx (some bc) := on_trans hon (on_below bc hbx)
              have f0 := (on_cell onx (p := ⟨bw, 0, none⟩) hp2.1 (by show bw ≠ bc; omega)).trans e0
              have f8 := (on_cell onx (p := ⟨bw, 8, none⟩) hp2.1 (by show bw ≠ bc; omega)).trans e8
              have fc := (hbx.cell (p := ⟨bc, 0, none⟩) hbcr).trans hct
              have ff := (hbx.frozen (p := ⟨bc, 0, none⟩) hbcr).trans hfr
              have Honx := Lib.hid onx
              have HBx := Lib.hid (Hb2.out.trans (below_on onx (Nat.le_refl _) (Nat.le_of_lt hbc2)))
              have hbcx : bc < Wx.heap.size := by have := hbx.size; omega
              clear hxk hWx hbx g0 g1 g2 hct hfr onx hkk hflr
              by_cases ht : W.now < kk.time
              · have Hno := Lib.hid (show flightsOk W p (W.ls p).flight (W.carried.drop K) = none by rw [HT.out]; exact fl_none Hkk.out (.inr ht))
                have t1 : decide (W.now < kk.time) = true := decide_eq_true ht
                clear ht HT
                refine wp_region_calm (by kernel_rfl) (by kernel_rfl) ?_
                repeat (go_big_quiet_step (fail))
                refine wpQuiet_nil ?_
                intro _ hw'
                obtain ⟨nq, hw''⟩ := hw'
                subst hw''
                have Hb := Lib.hid (HBx.out.trans ((grew_below Wx nq).mono (Nat.le_of_lt hbcx)))
                go_wp2
                go_ret
                exact ⟨Hb.out, .inr ⟨rfl, .inr Hno.out⟩⟩
              have t1 : decide (W.now < kk.time) = false := decide_eq_false ht
              have Ht := Lib.hid (show kk.time ≤ W.now by omega)
              clear ht
              by_cases hcn : N8 ≤ cc
              · have Hno := Lib.hid (show flightsOk W p (W.ls p).flight (W.carried.drop K) = none by rw [HT.out]; exact fl_none Hkk.out (.inl (by rw [hcl.out]; exact hcn)))
                have t2 : decide ((N8 : Int) ≤ (cc : Int)) = true := by simp; omega
                clear HT
                refine wp_region_calm (by kernel_rfl) (by kernel_rfl) ?_
                repeat (go_big_quiet_step (fail))
                refine wpQuiet_nil ?_
                intro _ hw'
                obtain ⟨nq, hw''⟩ := hw'
                subst hw''
                have Hb := Lib.hid (HBx.out.trans ((grew_below Wx nq).mono (Nat.le_of_lt hbcx)))
                go_wp2
                go_ret
                exact ⟨Hb.out, .inr ⟨rfl, .inr Hno.out⟩⟩
              have t2 : decide ((N8 : Int) ≤ (cc : Int)) = false := by simp; omega
              refine wp_region_calm (by kernel_rfl) (by kernel_rfl) ?_
              repeat (go_big_quiet_step (fail))
              refine wpQuiet_nil ?_
              intro _ hw'
              obtain ⟨nq, hw''⟩ := hw'
              subst hw''
              have hb3 := grew_below Wx nq
              generalize grew Wx nq = W3 at hb3 ⊢
              have on3 : W2.grownBy W3 (some bc) := on_trans Honx.out (on_below bc hb3)
              obtain ⟨bd, od, cd, rfl, hbd, hcd, ⟨v1, v2, ⟨v3, v4⟩, v5⟩, s0, s1, s2, s3, s4, s5⟩ := cd_at (hc2.car (fun _ _ => cdCar (Car.on hok2 hokne.out on3)) (Car.on hok2 hokne.out on3)) (show cc < N8 by omega)
              have Hcd := Lib.hid hcd
              have hbd3 : bd < W3.heap.size := Nat.lt_of_lt_of_le (hok2 bd hbd) on3.size
              have hbw3 : bw < W3.heap.size := Nat.lt_of_lt_of_le hp2.1 on3.size
              have hbc3 : bc < W3.heap.size := Nat.lt_of_lt_of_le hbcx hb3.size
              have p8 := (hb3.cell (p := ⟨bw, 8, none⟩) (Nat.lt_of_lt_of_le hp2.1 Honx.out.size)).trans f8
              have pc := (hb3.cell (p := ⟨bc, 0, none⟩) hbcx).trans fc
              have m0 := (hb3.cell (p := ⟨xk, 0, none⟩) hlk).trans d0
              have hlk3 : xk < W3.heap.size := Nat.lt_of_lt_of_le hlk hb3.size
              have pf := (hb3.frozen (p := ⟨bc, 0, none⟩) hbcx).trans ff
              have Hon3 := Lib.hid on3
              have q5' : (0 : Int) ≤ (cc : Int) := by omega
              have q6' : (cc : Int) < (N8 : Int) := by omega
              have HB3 := Lib.hid (HBx.out.trans (hb3.mono (Nat.le_of_lt hbcx)))
              have HS3 : Hid (∀ w', Below W3.heap.size W3 w' → Below W3.heap.size W3 w' ∧ w'.cell? ⟨bw, 8, none⟩ = some (.slice (some ⟨bd, od, none⟩) N8 C8) ∧ w'.cell? ⟨bc, 0, none⟩ = some (.int .i64 (cc : Int)) ∧ w'.cell? ⟨bd, od + cc * 6, none⟩ = some (.int .i64 cd.path) ∧ w'.cell? ⟨bd, od + cc * 6 + 1, none⟩ = some (.int .i64 cd.num) ∧ w'.cell? ⟨bd, od + cc * 6 + 2, none⟩ = some (.int .i64 cd.stream) ∧ w'.cell? ⟨bd, od + cc * 6 + 3, none⟩ = some (.int .i64 cd.part.off) ∧ w'.cell? ⟨bd, od + cc * 6 + 4, none⟩ = some (.string (S cd.part.data)) ∧ w'.cell? ⟨bd, od + cc * 6 + 5, none⟩ = some (.bool cd.part.fin)) := fun w' hb' =>
                ⟨hb', (hb'.cell (p := ⟨bw, 8, none⟩) hbw3).trans p8, (hb'.cell (p := ⟨bc, 0, none⟩) hbc3).trans pc, (hb'.cell (p := ⟨bd, od + cc * 6, none⟩) hbd3).trans s0, (hb'.cell (p := ⟨bd, od + cc * 6 + 1, none⟩) hbd3).trans s1, (hb'.cell (p := ⟨bd, od + cc * 6 + 2, none⟩) hbd3).trans s2, (hb'.cell (p := ⟨bd, od + cc * 6 + 3, none⟩) hbd3).trans s3, (hb'.cell (p := ⟨bd, od + cc * 6 + 4, none⟩) hbd3).trans s4, (hb'.cell (p := ⟨bd, od + cc * 6 + 5, none⟩) hbd3).trans s5⟩
              clear p8 s0 s1 s2 s3 s4 s5 on3 hcd f0 f8 fc ff d0 d1
              go_wp2_with fail
              go_region_held (fun w' => Below W3.heap.size W3 w' ∧ w'.cell? ⟨bw, 8, none⟩ = some (.slice (some ⟨bd, od, none⟩) N8 C8) ∧ w'.cell? ⟨bc, 0, none⟩ = some (.int .i64 (cc : Int)) ∧ w'.cell? ⟨bd, od + cc * 6, none⟩ = some (.int .i64 cd.path) ∧ w'.cell? ⟨bd, od + cc * 6 + 1, none⟩ = some (.int .i64 cd.num) ∧ w'.cell? ⟨bd, od + cc * 6 + 2, none⟩ = some (.int .i64 cd.stream) ∧ w'.cell? ⟨bd, od + cc * 6 + 3, none⟩ = some (.int .i64 cd.part.off) ∧ w'.cell? ⟨bd, od + cc * 6 + 4, none⟩ = some (.string (S cd.part.data)) ∧ w'.cell? ⟨bd, od + cc * 6 + 5, none⟩ = some (.bool cd.part.fin))
                (first | assumption | exact HS3.out _ (b_self _) | exact HS3.out _ (b_drew _) | exact HS3.out _ (b_grow (And.left (by assumption)) _) | exact HS3.out _ (b_grow (b_self _) _) | exact HS3.out _ (b_grow (b_drew _) _))
                (fail)
              rename_i hHeld
              clear hHeld
              obtain ⟨x9, hx9⟩ : ∃ x9, x9 = W3.heap.size := ⟨_, rfl⟩
              obtain ⟨W4, hW4⟩ : ∃ W4 : World, W4 = (W3.alloc (.cells #[.int .i64 cd.path, .int .i64 cd.num, .int .i64 cd.stream, .int .i64 cd.part.off, .string (S cd.part.data), .bool cd.part.fin] 73)).drew := ⟨_, rfl⟩
              rw [← hW4, ← hx9]
              have hb4 : Below W3.heap.size W3 W4 := by rw [hW4]; exact (b_alloc _ _).drew
              have hl9 : x9 < W4.heap.size := by rw [hx9, hW4]; simp
              have i0 : W4.cell? ⟨x9, 0, none⟩ = some (.int .i64 cd.path) := by rw [hx9, hW4]; simp
              have i1 : W4.cell? ⟨x9, 1, none⟩ = some (.int .i64 cd.num) := by rw [hx9, hW4]; simp
              have i2 : W4.cell? ⟨x9, 2, none⟩ = some (.int .i64 cd.stream) := by rw [hx9, hW4]; simp
              have i3 : W4.cell? ⟨x9, 3, none⟩ = some (.int .i64 cd.part.off) := by rw [hx9, hW4]; simp
              have i4 : W4.cell? ⟨x9, 4, none⟩ = some (.string (S cd.part.data)) := by rw [hx9, hW4]; simp
              have i5 : W4.cell? ⟨x9, 5, none⟩ = some (.bool cd.part.fin) := by rw [hx9, hW4]; simp
              have h9b : bc < x9 := by omega
              have hkb : xk < W4.heap.size := Nat.lt_of_lt_of_le hlk3 hb4.size
              have m0' := (hb4.cell (p := ⟨xk, 0, none⟩) hlk3).trans m0
              have pc' := (hb4.cell (p := ⟨bc, 0, none⟩) hbc3).trans pc
              have pf' := (hb4.frozen (p := ⟨bc, 0, none⟩) hbc3).trans pf
              have hbc4 : bc < W4.heap.size := Nat.lt_of_lt_of_le hbc3 hb4.size
              have qc : IntKind.i64.wrap ((cc : Int) + 1) = (cc : Int) + 1 := IntWalk.i64_in _ (by omega)
              have Hon4 := Lib.hid (on_trans Hon3.out (on_below bc hb4))
              have HB4 := Lib.hid (HB3.out.trans (hb4.mono (Nat.le_of_lt hbc3)))
              clear hx9 hW4 hb4 m0 pc pf HS3
              go_wp2_with fail
              obtain ⟨W5, hW5⟩ : ∃ W5 : World, W5 = W4.setCell ⟨bc, 0, none⟩ (.int .i64 ((cc : Int) + 1)) := ⟨_, rfl⟩
              rw [← hW5]
              have on5 : W4.grownBy W5 (some bc) := by rw [hW5]; exact on_set W4 bc _
              have ct5 : W5.cell? ⟨bc, 0, none⟩ = some (.int .i64 ((cc : Int) + 1)) := by rw [hW5]; exact World.cell?_setCell_same W4 _ _ pc'
              have fr5 : W5.frozen? ⟨bc, 0, none⟩ = false := by rw [hW5, World.frozen?_setCell]; exact pf'
              have hs5 : W4.heap.size ≤ W5.heap.size := on5.size
              have e0' := (on_cell on5 (p := ⟨x9, 0, none⟩) hl9 (by show x9 ≠ bc; omega)).trans i0
              have e1' := (on_cell on5 (p := ⟨x9, 1, none⟩) hl9 (by show x9 ≠ bc; omega)).trans i1
              have e2' := (on_cell on5 (p := ⟨x9, 2, none⟩) hl9 (by show x9 ≠ bc; omega)).trans i2
              have e3' := (on_cell on5 (p := ⟨x9, 3, none⟩) hl9 (by show x9 ≠ bc; omega)).trans i3
              have e4' := (on_cell on5 (p := ⟨x9, 4, none⟩) hl9 (by show x9 ≠ bc; omega)).trans i4
              have e5' := (on_cell on5 (p := ⟨x9, 5, none⟩) hl9 (by show x9 ≠ bc; omega)).trans i5
              have m0'' := (on_cell on5 (p := ⟨xk, 0, none⟩) hkb (by show xk ≠ bc; omega)).trans m0'
              have on25 := on_trans Hon4.out on5
              have hp5 := hp2.on (by show bw ≠ bc; omega) on25
              have car5 := Car.on hok2 hokne.out on25
              have hst5 := hs2.car car5
              have hok5 : Sub ok (Old W5) := hok2.old on25.size
              have hsr5 := hsr2.car (fun _ _ => rgCar car5) car5
              have f1 := (on_cell on25 (p := ⟨bw, 1, none⟩) hp2.1 (by show bw ≠ bc; omega)).trans e1
              have hsd5 := hsd2.car (fun _ _ => sdCar car5) car5
              have HB5 := Lib.hid (HB4.out.trans (below_on on5 (Nat.le_refl _) (Nat.le_of_lt hbc4)))
              have hbc5 : bc < W5.heap.size := Nat.lt_of_lt_of_le hbc4 hs5
              have Hon5 := Lib.hid on25
              have hl95 : x9 < W5.heap.size := Nat.lt_of_lt_of_le hl9 hs5
              clear hW5 on5 i0 i1 i2 i3 i4 i5 m0' pc' pf' on25 car5
              by_cases hpe : cd.path = (p : Int)
              rotate_left
              · have t3 : (cd.path != (p : Int)) = true := bne_iff_ne.2 hpe
                have Hno := Lib.hid (show flightsOk W p (W.ls p).flight (W.carried.drop K) = none by rw [HT.out, fl_step Hkk.out Hcd.out, fo_no (.inl hpe)]; rfl)
                clear hpe
                clear HT
                refine wp_region_calm (by kernel_rfl) (by kernel_rfl) ?_
                repeat (go_big_quiet_step (fail))
                refine wpQuiet_nil ?_
                intro _ hw'
                obtain ⟨nq, hw''⟩ := hw'
                subst hw''
                have Hb := Lib.hid (HB5.out.trans ((grew_below W5 nq).mono (Nat.le_of_lt hbc5)))
                go_wp2
                go_ret
                exact ⟨Hb.out, .inr ⟨rfl, .inr Hno.out⟩⟩
              have t3 : (cd.path != (p : Int)) = false := bne_eq_false_iff_eq.2 hpe
              have Hpe := Lib.hid hpe
              clear hpe
              by_cases hne : cd.num = kk.num
              rotate_left
              · have t4 : (cd.num != kk.num) = true := bne_iff_ne.2 hne
                have Hno := Lib.hid (show flightsOk W p (W.ls p).flight (W.carried.drop K) = none by rw [HT.out, fl_step Hkk.out Hcd.out, fo_no (.inr (.inl hne))]; rfl)
                clear hne
                clear HT
                refine wp_region_calm (by kernel_rfl) (by kernel_rfl) ?_
                repeat (go_big_quiet_step (fail))
                refine wpQuiet_nil ?_
                intro _ hw'
                obtain ⟨nq, hw''⟩ := hw'
                subst hw''
                have Hb := Lib.hid (HB5.out.trans ((grew_below W5 nq).mono (Nat.le_of_lt hbc5)))
                go_wp2
                go_ret
                exact ⟨Hb.out, .inr ⟨rfl, .inr Hno.out⟩⟩
              have t4 : (cd.num != kk.num) = false := bne_eq_false_iff_eq.2 hne
              have Hne := Lib.hid hne
              clear hne
              cases hin : inB cd.stream 0 2 with
              | false =>
                have Hno := Lib.hid (show flightsOk W p (W.ls p).flight (W.carried.drop K) = none by rw [HT.out, fl_step Hkk.out Hcd.out, fo_no (.inr (.inr (.inl hin)))]; rfl)
                clear HT
                refine wp_region_calm (by kernel_rfl) (by kernel_rfl) ?_
                repeat (go_big_quiet_step ((go_at_call 73; exact calm_same (isStream_dec hin))))
                refine wpQuiet_nil ?_
                intro _ hw'
                obtain ⟨nq, hw''⟩ := hw'
                subst hw''
                have Hb := Lib.hid (HB5.out.trans ((grew_below W5 nq).mono (Nat.le_of_lt hbc5)))
                go_wp2
                go_ret
                exact ⟨Hb.out, .inr ⟨rfl, .inr Hno.out⟩⟩
              | true =>
                obtain ⟨i, hi⟩ : ∃ i : Nat, cd.stream = (i : Int) := ⟨cd.stream.toNat, by have := inB_iff.1 hin; omega⟩
                have hi3 : i < 3 := by have := inB_iff.1 hin; omega
                obtain ⟨b1, o1, s, A2, m2, e2, A3, m3, e3, rfl, hb1, hsx, ⟨hsd1, _, hsd3⟩, _, _, y0, y1', y2', y3', y4', y5'⟩ := sd_at hsd5 hi3
                have Hsd := Lib.hid (show W.sd cd.stream = s by rw [hi]; exact getD_of? hsx)
                have Hi := Lib.hid hi
                rw [hi] at e2' hin
                have q7' : (0 : Int) ≤ (i : Int) := by omega
                have q8' : (i : Int) < 3 := by omega
                clear hi hsx
                cases hse : sent s cd.part with
                | false =>
                  have Hno := Lib.hid (show flightsOk W p (W.ls p).flight (W.carried.drop K) = none by rw [HT.out, fl_step Hkk.out Hcd.out, fo_no (.inr (.inr (.inr (.inl (by rw [Hsd.out]; exact hse)))))]; rfl)
                  clear HT
                  refine wp_region_calm (by kernel_rfl) (by kernel_rfl) ?_
                  repeat (go_big_quiet_step (first | (go_at_call 73; exact calm_same (isStream_dec hin)) | (go_at_call 74; exact calm_of (partSent_dec hse hsd1 v5.2 v5.1 hsd3))))
                  refine wpQuiet_nil ?_
                  intro _ hw'
                  obtain ⟨nq, hw''⟩ := hw'
                  subst hw''
                  have Hb := Lib.hid (HB5.out.trans ((grew_below W5 nq).mono (Nat.le_of_lt hbc5)))
                  go_wp2
                  go_ret
                  exact ⟨Hb.out, .inr ⟨rfl, .inr Hno.out⟩⟩
                | true =>
                  have hSent := (sent_iff s cd.part).1 hse
                  have hsO := hst i hi3
                  rw [← Hi.out, Hsd.out] at hsO
                  have hso := hSent.off
                  have hslast : cd.part.last ≤ 100 := by
                    have h1 := hSent.nxt
                    have h2 := hsO.1.nxt.2
                    have h3 := many_le hsO.1.len
                    omega
                  have Hpb := Lib.hid (hst i hi3).2
                  have Hyes := Lib.hid (show (hasR sn cd.num = false ∨ gotPart (W.sd (i : Int)) (W.rv (i : Int)) cd.part = true) → flightsOk W p (W.ls p).flight (W.carried.drop K) = flightsOk W p (l.flight.drop (k + 1)) (W.carried.drop (cc + 1)) from fun h5 => by
                    rw [HT.out, fl_step Hkk.out Hcd.out, if_pos (fo_yes Ht.out Hpe.out Hne.out (by rw [Hi.out]; exact hin) (by rw [Hsd.out]; exact hse) (by rw [Hss.out, Hi.out]; exact h5))])
                  have Hnot := Lib.hid (show hasR sn cd.num = true → gotPart (W.sd (i : Int)) (W.rv (i : Int)) cd.part = false → flightsOk W p (W.ls p).flight (W.carried.drop K) = none from fun h5 h6 => by
                    rw [HT.out, fl_step Hkk.out Hcd.out, fo_no (.inr (.inr (.inr (.inr ⟨by rw [Hss.out]; exact h5, by rw [Hi.out]; exact h6⟩))))]; rfl)
                  clear HT hSent hsO
                  refine wp_region_calm (by kernel_rfl) (by kernel_rfl) ?_
                  repeat (go_big_quiet_step (first | (go_at_call 73; exact calm_same (isStream_dec hin)) | (go_at_call 74; exact calm_of (partSent_dec hse hsd1 v5.2 v5.1 hsd3))))
                  refine wpQuiet_nil ?_
                  intro _ hw'
                  obtain ⟨nq, hw''⟩ := hw'
                  subst hw''
                  have hb6 := grew_below W5 nq
                  generalize grew W5 nq = W6 at hb6 ⊢
                  have z1' := (hb6.cell (p := ⟨x9, 1, none⟩) hl95).trans e1'
                  have z2' := (hb6.cell (p := ⟨x9, 2, none⟩) hl95).trans e2'
                  have z3' := (hb6.cell (p := ⟨x9, 3, none⟩) hl95).trans e3'
                  have z4' := (hb6.cell (p := ⟨x9, 4, none⟩) hl95).trans e4'
                  have z5' := (hb6.cell (p := ⟨x9, 5, none⟩) hl95).trans e5'
                  have hl96 : x9 < W6.heap.size := Nat.lt_of_lt_of_le hl95 hb6.size
                  have hok6 : Sub ok (Old W6) := hok5.old hb6.size
                  have hp6 := hp5.below hb6
                  have hst6 := hst5.below hok5 hb6
                  have HH := Lib.hid (has_any _ _ _ sn cd.num W6 ok (hsr5.below rgCar hok5 hb6 (Nat.le_refl _)) hok6)
                  have hc6 := (hb6.cell (p := ⟨bc, 0, none⟩) hbc5).trans ct5
                  have hf6 := (hb6.frozen (p := ⟨bc, 0, none⟩) hbc5).trans fr5
                  have hbc6 : bc < W6.heap.size := Nat.lt_of_lt_of_le hbc5 hb6.size
                  have Hon6 := Lib.hid (on_trans Hon5.out (on_below bc hb6))
                  have HB6 := Lib.hid (HB5.out.trans (hb6.mono (Nat.le_of_lt hbc5)))
                  clear e0' e1' e2' e3' e4' e5' m0'' y0 y1' y2' y3' y4' y5' hb6 ct5 fr5
                  go_wp2_with fail
                  refine HH.out.mono ?_
                  rintro e W7 ⟨rfl, hb7'⟩
                  have hc7 := (hb7'.cell (p := ⟨bc, 0, none⟩) hbc6).trans hc6
                  have hf7 := (hb7'.frozen (p := ⟨bc, 0, none⟩) hbc6).trans hf6
                  have hbc7 : bc < W7.heap.size := Nat.lt_of_lt_of_le hbc6 hb7'.size
                  have Hon7 := Lib.hid (on_trans Hon6.out (on_below bc hb7'))
                  have HB7 := Lib.hid (HB6.out.trans (hb7'.mono (Nat.le_of_lt hbc6)))
                  cases hha : hasR sn cd.num with
                  | false =>
                    have Hn := Lib.hid (Hyes.out (.inl hha))
                    clear hha hb7'
                    go_wp2
                    go_roundg (n' - (k + 1))
                    case measure => omega
                    case rel => exact ⟨k + 1, by omega, by go_num, Hon7.out, hf7, cc + 1, by rw [hcl.out]; omega, hc7, Hn⟩
                  | true =>
                    have r2 := (hb7'.cell (p := ⟨x9, 2, none⟩) hl96).trans z2'
                    have r3' := (hb7'.cell (p := ⟨x9, 3, none⟩) hl96).trans z3'
                    have r4 := (hb7'.cell (p := ⟨x9, 4, none⟩) hl96).trans z4'
                    have r5 := (hb7'.cell (p := ⟨x9, 5, none⟩) hl96).trans z5'
                    have HR := receivedPart_any h W bw i cd.part W7 ok (hp6.below hb7') (hst6.below hok6 hb7') (hok6.old hb7'.size) hi3 Hpb.out hso hslast v5.2
                    unfold Pt.agg at HR
                    have HR' := Lib.hid HR
                    have Hha := Lib.hid hha
                    clear HR hha hb7' z1' z2' z3' z4' z5'
                    go_wp2_with fail
                    refine HR'.out.mono ?_
                    rintro e W8 ⟨rfl, hb8⟩
                    have hc8' := (hb8.cell (p := ⟨bc, 0, none⟩) hbc7).trans hc7
                    have hf8 := (hb8.frozen (p := ⟨bc, 0, none⟩) hbc7).trans hf7
                    have Hon8 := Lib.hid (on_trans Hon7.out (on_below bc hb8))
                    have HB8 := Lib.hid (HB7.out.trans (hb8.mono (Nat.le_of_lt hbc7)))
                    cases hgt : gotPart (W.sd (i : Int)) (W.rv (i : Int)) cd.part with
                    | true =>
                      have Hn := Lib.hid (Hyes.out (.inr hgt))
                      clear hgt hb8
                      go_wp2
                      go_roundg (n' - (k + 1))
                      case measure => omega
                      case rel => exact ⟨k + 1, by omega, by go_num, Hon8.out, hf8, cc + 1, by rw [hcl.out]; omega, hc8', Hn⟩
                    | false =>
                      have Hno := Lib.hid (Hnot.out Hha.out hgt)
                      clear hgt hb8
                      go_wp2
                      go_ret
                      exact ⟨HB8.out, .inr ⟨rfl, .inr Hno.out⟩⟩
            · have hkn : n' ≤ k := by omega
              have Hres := Lib.hid (show flightsOk W p (W.ls p).flight (W.carried.drop K) = some (W.carried.drop cc) by rw [HT.out]; exact fl_end (by rw [hfll.out]; exact hkn))
              have Hb := Lib.hid (Hb2.out.trans (below_on hon (Nat.le_refl _) (Nat.le_of_lt hbc2)))
              clear HT hon
              go_wp2
              go_ret
              exact ⟨Hb.out, .inl ⟨rfl, Hpath.out, cc, hcc, Hres.out, hct, hfr⟩⟩
end Go.Proofs.Ytjpaoadbgmmoeaa
