/- Parts of the proof, joined from several texts. No condition. -/
import Derived.StillTail
import Derived.Test.YtjbhiglaginpeaaGreatQ0
set_option maxRecDepth 100000
set_option maxHeartbeats 16000000
set_option linter.unusedVariables false
set_option linter.unusedSimpArgs false
namespace Go.Proofs.YtjbhiglaginpeaaGreat
open Go.RowKit
mutual
inductive LeV (H H1 : List (Nat × Ob)) (σ : Nat → Option Nat) : AV → AV → Prop
 | un {x : AV} : LeV H H1 σ x .un
 | sc {v v' : Value} (h : v = v') : LeV H H1 σ (.d (.sc v)) (.d (.sc v'))
 | sl {k n n' : Nat} {f f' : Nat → List D} (hn : n = n') (h : ∀ m, m < n → f m = f' m) : LeV H H1 σ (.d (.sl k n f)) (.d (.sl k n' f'))
 | dd {x : D} : LeV H H1 σ (.d x) (.d x)
 | dp {x : List D} {o : Nat} : LeV H H1 σ (.dp x o) (.dp x o)
 | emp : LeV H H1 σ .emp .emp
 | empd {k : Nat} {f : Nat → List D} : LeV H H1 σ .emp (.d (.sl k 0 f))
 | empo {i n t k : Nat} {f : Nat → List D} (hs : σ i = none) (hn : n = 0) (h : look H1 i = some (.arr t k 0 f)) : LeV H H1 σ .emp (.own i n)
 | own {i j n n' : Nat} (hs : σ i = some j) (hn : n = n') : LeV H H1 σ (.own j n) (.own i n')
 | ptr {i j o : Nat} (hs : σ i = some j) : LeV H H1 σ (.ptr j o) (.ptr i o)
 | fz {j n n' n2 t k : Nat} {f f' : Nat → List D} (h : look H j = some (.arr t k n2 f)) (hle : n ≤ n2) (hno : ∀ i ob, look H1 i = some ob → σ i ≠ some j) (hn : n = n') (hf : ∀ m, m < n → f m = f' m) : LeV H H1 σ (.own j n) (.d (.sl k n' f'))
 | fzb {j n n' : Nat} {xs : List AV} {f' : Nat → List D} (h : look H j = some (.blk xs)) (hno : ∀ i ob, look H1 i = some ob → σ i ≠ some j) (hn : n = n') (hf : ∀ m, m < n → ∃ d, xs[m]? = some (.d d) ∧ f' m = [d]) : LeV H H1 σ (.own j n) (.d (.sl 1 n' f'))
 | ag {xs ys : List AV} (h : LeVs H H1 σ xs ys) : LeV H H1 σ (.ag xs) (.ag ys)
 | tu {xs ys : List AV} (h : LeVs H H1 σ xs ys) : LeV H H1 σ (.tu xs) (.tu ys)
inductive LeVs (H H1 : List (Nat × Ob)) (σ : Nat → Option Nat) : List AV → List AV → Prop
 | nil : LeVs H H1 σ [] []
 | cons {x y : AV} {xs ys : List AV} (h : LeV H H1 σ x y) (t : LeVs H H1 σ xs ys) : LeVs H H1 σ (x :: xs) (y :: ys)
end
theorem LeVs.get {H H1 : List (Nat × Ob)} {σ : Nat → Option Nat} : ∀ {xs ys : List AV}, LeVs H H1 σ xs ys → xs.length = ys.length ∧ ∀ (j : Nat) (y : AV), ys[j]? = some y → ∃ x, xs[j]? = some x ∧ LeV H H1 σ x y
 | _, _, .nil => ⟨rfl, fun j y h => by simp at h⟩
 | _, _, .cons h t => by
   obtain ⟨h1, h2⟩ := LeVs.get t
   refine ⟨by simp [h1], fun j y e => ?_⟩
   cases j with
   | zero =>
     simp only [List.getElem?_cons_zero, Option.some.injEq] at e
     subst e
     exact ⟨_, rfl, h⟩
   | succ j => exact h2 j y (by simpa using e)
def Cz.via (z : Cz) (σ : Nat → Option Nat) : Cz := ⟨fun i => match σ i with | some j => z.b j | none => 0, fun i => match σ i with | some j => z.c j | none => 0⟩
theorem Rep.sl_ext {w : World} {ok : Nat → Prop} {u : Value} {k n : Nat} {f f' : Nat → List D} (h : Rep w ok u (.sl k n f)) (hf : ∀ m, m < n → f m = f' m) : Rep w ok u (.sl k n f') := by
 cases h with
 | sl us b o hn hc hA hb hl hu hr => exact .sl us b o hn hc hA hb (fun i hi => by rw [← hf i hi]; exact hl i hi) hu (fun i j d hi hd => hr i j d hi (by rw [hf i hi]; exact hd))
inductive LeH (H H1 : List (Nat × Ob)) (σ : Nat → Option Nat) : List (Nat × Ob) → Prop
 | nil : LeH H H1 σ []
 | virt {i t k n : Nat} {f : Nat → List D} {r : List (Nat × Ob)} (hs : σ i = none) (hn : n = 0) (tl : LeH H H1 σ r) : LeH H H1 σ ((i, .arr t k n f) :: r)
 | arr {i j t k n n' : Nat} {f f' : Nat → List D} {r : List (Nat × Ob)} (hs : σ i = some j) (h : look H j = some (.arr t k n f)) (hn : n = n') (hf : ∀ m, m < n → f m = f' m) (tl : LeH H H1 σ r) : LeH H H1 σ ((i, .arr t k n' f') :: r)
 | blk {i j : Nat} {xs ys : List AV} {r : List (Nat × Ob)} (hs : σ i = some j) (h : look H j = some (.blk xs)) (hx : LeVs H H1 σ xs ys) (tl : LeH H H1 σ r) : LeH H H1 σ ((i, .blk ys) :: r)
inductive LeE (H H1 : List (Nat × Ob)) (σ : Nat → Option Nat) (e : List (Nat × AV)) : List (Nat × AV) → Prop
 | nil : LeE H H1 σ e []
 | cons {t : Nat} {x y : AV} {r : List (Nat × AV)} (h : look e t = some x) (hv : LeV H H1 σ x y) (tl : LeE H H1 σ e r) : LeE H H1 σ e ((t, y) :: r)
theorem LeE.get {H H1 : List (Nat × Ob)} {σ : Nat → Option Nat} {e e1 : List (Nat × AV)} (h : LeE H H1 σ e e1) : ∀ t y, look e1 t = some y → ∃ x, look e t = some x ∧ LeV H H1 σ x y := by
 induction h with
 | nil => intro t y h; cases h
 | cons h hv _ ih =>
   intro t y e
   rw [look_cons] at e
   split at e
   ·rename_i ht
    subst ht
    injection e with e
    subst e
    exact ⟨_, h, hv⟩
   ·exact ih t y e
def injB (σ : Nat → Option Nat) (H1 : List (Nat × Ob)) : Bool := (H1.all fun p => H1.all fun q => match σ p.1, σ q.1 with
 | some a, some b => !(Nat.beq a b) || Nat.beq p.1 q.1
 | _, _ => true) && H1.all fun p => Nat.blt p.1 100000 || match σ p.1 with
 | some a => Nat.beq a p.1
 | none => true
theorem look_mem {α : Type} {l : List (Nat × α)} {i : Nat} {x : α} (h : look l i = some x) : (i, x) ∈ l := by
 induction l with
 | nil => cases h
 | cons p r ih =>
   obtain ⟨t, y⟩ := p
   rw [look_cons] at h
   split at h
   ·rename_i ht
    subst ht
    injection h with h
    subst h
    exact List.mem_cons_self
   ·exact List.mem_cons_of_mem _ (ih h)
theorem injB_spec {σ : Nat → Option Nat} {H1 : List (Nat × Ob)} (h : injB σ H1 = true) {i i' j : Nat} {ob ob' : Ob} (h1 : look H1 i = some ob) (h2 : look H1 i' = some ob') (e1 : σ i = some j) (e2 : σ i' = some j) : i = i' := by
 unfold injB at h
 rw [Bool.and_eq_true] at h
 have := List.all_eq_true.1 (List.all_eq_true.1 h.1 _ (look_mem h1)) _ (look_mem h2)
 simp only [e1, e2, Nat.beq_refl, Bool.not_true, Bool.false_or] at this
 exact Nat.eq_of_beq_eq_true this
theorem typB_spec {σ : Nat → Option Nat} {H1 : List (Nat × Ob)} (h : injB σ H1 = true) {i j : Nat} {ob : Ob} (h1 : look H1 i = some ob) (e1 : σ i = some j) (hi : 100000 ≤ i) : j = i := by
 unfold injB at h
 rw [Bool.and_eq_true] at h
 have := List.all_eq_true.1 h.2 _ (look_mem h1)
 simp only [e1, Bool.or_eq_true] at this
 rcases this with h | h
 ·have := Nat.le_of_ble_eq_true h; omega
 ·exact Nat.eq_of_beq_eq_true h
theorem LeH.get {H H1 : List (Nat × Ob)} {σ : Nat → Option Nat} {l : List (Nat × Ob)} (h : LeH H H1 σ l) : ∀ i ob, look l i = some ob → (σ i = none ∧ ∃ t k f, ob = .arr t k 0 f) ∨
 (∃ j, σ i = some j ∧ ((∃ t k n f f', ob = .arr t k n f' ∧ look H j = some (.arr t k n f) ∧ ∀ m, m < n → f m = f' m) ∨ ∃ xs ys, ob = .blk ys ∧ look H j = some (.blk xs) ∧ LeVs H H1 σ xs ys)) := by
 induction h with
 | nil => intro i ob h; cases h
 | virt hs hn _ ih =>
   intro i ob e
   rw [look_cons] at e
   split at e
   ·rename_i ht
    subst ht
    injection e with e
    subst e
    subst hn
    exact .inl ⟨hs, _, _, _, rfl⟩
   ·exact ih i ob e
 | arr hs h hn hf _ ih =>
   intro i ob e
   rw [look_cons] at e
   split at e
   ·rename_i ht
    subst ht
    injection e with e
    subst e
    subst hn
    exact .inr ⟨_, hs, .inl ⟨_, _, _, _, _, rfl, h, hf⟩⟩
   ·exact ih i ob e
 | blk hs h hx _ ih =>
   intro i ob e
   rw [look_cons] at e
   split at e
   ·rename_i ht
    subst ht
    injection e with e
    subst e
    exact .inr ⟨_, hs, .inr ⟨_, _, rfl, h, hx⟩⟩
   ·exact ih i ob e
section
variable {x : Ctx} {z : Cz} {s : St} {a : Act} {w : World} {H1 : List (Nat × Ob)} {σ : Nat → Option Nat}
theorem LeH.phys (h : LeH s.hp H1 σ H1) {i : Nat} {ob : Ob} (e : look H1 i = some ob) (hp : phys (z.via σ) i ob) : ∃ j ob', σ i = some j ∧ look s.hp j = some ob' ∧ Go.Proofs.YtjbhiglaginpeaaGreat.phys z j ob' ∧ (z.via σ).b i = z.b j ∧ (z.via σ).c i = z.c j := by
 rcases h.get i ob e with ⟨hs, t, k, f, rfl⟩ | ⟨j, hs, ⟨t, k, n, f, f', rfl, h1, h2⟩ | ⟨xs, ys, rfl, h1, h2⟩⟩
 ·unfold Go.Proofs.YtjbhiglaginpeaaGreat.phys Cz.via at hp
  simp only [hs] at hp
  omega
 ·refine ⟨j, _, hs, h1, ?_, by simp [Cz.via, hs], by simp [Cz.via, hs]⟩
  unfold Go.Proofs.YtjbhiglaginpeaaGreat.phys Cz.via at hp
  simp only [hs] at hp
  exact hp
 ·exact ⟨j, _, hs, h1, trivial, by simp [Cz.via, hs], by simp [Cz.via, hs]⟩
theorem LeH.kin (h : LeH s.hp H1 σ H1) : Kin w (okB x.X z s.hp w) w (okB x.X (z.via σ) H1 w) := fun b hb => ⟨⟨hb.1, hb.2.1, fun i ob e hp => by
 obtain ⟨j, ob', _, h1, h2, h3, _⟩ := h.phys e hp
 rw [h3]
 exact hb.2.2 j ob' h1 h2⟩, rfl⟩
theorem LeV.vr (hz : Sim x z s a w) (h : LeH s.hp H1 σ H1) : ∀ {y y' : AV} {u : Value}, LeV s.hp H1 σ y y' → VR z w (okB x.X z s.hp w) y u → VR (z.via σ) w (okB x.X (z.via σ) H1 w) y' u
 | _, _, _, .un, _ => .un
 | _, _, _, .sc e, hv => by subst e; exact hv.mov h.kin (fun i hi => by simp [men] at hi)
 | _, _, _, .sl e hf, hv => by
   subst e
   cases hv with
   | d hr => exact .d ((hr.sl_ext hf).mov h.kin)
 | _, _, _, .dd, hv => by cases hv with | d hr => exact .d (hr.mov h.kin)
 | _, _, _, .dp, hv => hv.mov h.kin (fun i hi => by simp [men] at hi)
 | _, _, _, .emp, hv => hv.mov h.kin (fun i hi => by simp [men] at hi)
 | _, _, _, .empd, hv => .d ((LeD.emp.rep hv).mov h.kin)
 | _, _, _, @LeV.empo _ _ _ i n t k f hs hn e, hv => by
   subst hn
   cases hv with
   | @emp A =>
     have := VR.own (z := z.via σ) (w := w) (ok := okB x.X (z.via σ) H1 w) (i := i) (n := 0) (A := A) (Nat.zero_le _) (by simp [Cz.via, hs]) (fun hc => by simp [Cz.via, hs] at hc)
     simpa [Cz.via, hs] using this
 | _, _, _, @LeV.own _ _ _ i j n n' hs hn, hv => by
   subst hn
   cases hv with
   | @own _ _ A h1 h2 h3 =>
     have := VR.own (z := z.via σ) (w := w) (ok := okB x.X (z.via σ) H1 w) (i := i) (n := n) (A := A) (by simpa [Cz.via, hs] using h1) (by simpa [Cz.via, hs] using h2) (fun hc => by simpa [Cz.via, hs] using h3 (by simpa [Cz.via, hs] using hc))
     simpa [Cz.via, hs] using this
 | _, _, _, @LeV.ptr _ _ _ i j o hs, hv => by
   cases hv with
   | ptr =>
     have := VR.ptr (z := z.via σ) (w := w) (ok := okB x.X (z.via σ) H1 w) (i := i) (o := o)
     simpa [Cz.via, hs] using this
 | _, _, _, @LeV.fz _ _ _ j n n' n2 t k f f' e hle hno hn hf, hv => by
   subst hn
   cases hv with
   | @own _ _ A h1 h2 h3 =>
     obtain ⟨us, g1, g2, g3, g4, g5, g6⟩ := hz.arr e
     refine .d (.sl (fun i i' => us.getD (i * k + i') undef) (z.b j) 0 h1 h2 (fun e' => ?_) (fun hn0 => ⟨h3 (by omega), ?_⟩) (fun i hi => by rw [← hf i hi]; exact g5 i (by omega)) (fun i i' hi hi' => ?_) (fun i i' d hi hd => ?_))
     ·rcases Nat.eq_zero_or_pos (z.c j) with h0 | h0
      ·exact h0
      ·rw [h3 h0] at e'; cases e'
     ·have hpj : 0 < z.c j := by omega
      obtain ⟨p1, p2, p3⟩ := hz.ph j _ e (show Go.Proofs.YtjbhiglaginpeaaGreat.phys z j _ from hpj)
      refine ⟨p1, p3, fun i ob ei hp => ?_⟩
      obtain ⟨j', ob', q1, q2, q3, q4, _⟩ := h.phys ei hp
      rw [q4]
      intro e'
      have := hz.inj j' j ob' _ q2 e q3 (show Go.Proofs.YtjbhiglaginpeaaGreat.phys z j _ from hpj) e'
      subst this
      exact hno i ob ei q1
     ·have hle' : (i + 1) * k ≤ z.c j * k := Nat.mul_le_mul_right _ (by omega)
      rw [Nat.add_mul] at hle'
      rw [Nat.zero_add, cell_of_heap (g1 (by omega)), List.getD_eq_getElem?_getD, List.getElem?_eq_getElem (by omega)]
      rfl
     ·have hle' : (i + 1) * k ≤ z.c j * k := Nat.mul_le_mul_right _ (by omega)
      rw [Nat.add_mul] at hle'
      rw [← hf i hi] at hd
      have hi' : i' < k := by rw [← g5 i (by omega)]; exact (List.getElem?_eq_some_iff.1 hd).1
      have hu : us[i * k + i']? = some (us.getD (i * k + i') undef) := by rw [List.getD_eq_getElem?_getD, List.getElem?_eq_getElem (by omega)]; rfl
      exact (g6 i i' d _ (by omega) hd hu).mov h.kin
 | _, _, _, @LeV.fzb _ _ _ j n n' xs f' e hno hn hf, hv => by
   subst hn
   cases hv with
   | @own _ _ A h1 h2 h3 =>
     obtain ⟨us, t, g1, g2, g3⟩ := hz.blk e
     have hxl : ∀ m, m < n → m < us.length := fun m hm => by
      obtain ⟨d, hd, _⟩ := hf m hm
      exact Nat.lt_of_lt_of_le (List.getElem?_eq_some_iff.1 hd).1 g2
     refine .d (.sl (fun i i' => us.getD (i * 1 + i') undef) (z.b j) 0 h1 h2 (fun e' => ?_) (fun hn0 => ⟨h3 (by omega), ?_⟩) (fun i hi => ?_) (fun i i' hi hi' => ?_) (fun i i' d hi hd => ?_))
     ·rcases Nat.eq_zero_or_pos (z.c j) with h0 | h0
      ·exact h0
      ·rw [h3 h0] at e'; cases e'
     ·obtain ⟨p1, p2, p3⟩ := hz.ph j _ e trivial
      refine ⟨p1, p3, fun i ob ei hp => ?_⟩
      obtain ⟨j', ob', q1, q2, q3, q4, _⟩ := h.phys ei hp
      rw [q4]
      intro e'
      have := hz.inj j' j ob' _ q2 e q3 trivial e'
      subst this
      exact hno i ob ei q1
     ·obtain ⟨d, _, hd⟩ := hf i hi; rw [hd]; rfl
     ·obtain rfl : i' = 0 := by omega
      have := hxl i hi
      rw [Nat.zero_add, Nat.mul_one, Nat.add_zero, cell_of_heap g1, List.getD_eq_getElem?_getD, List.getElem?_eq_getElem this]
      rfl
     ·obtain ⟨d', hx', hd'⟩ := hf i hi
      rw [hd'] at hd
      have hi' : i' < 1 := (List.getElem?_eq_some_iff.1 hd).1
      obtain rfl : i' = 0 := by omega
      simp only [List.getElem?_cons_zero, Option.some.injEq] at hd
      subst hd
      have := hxl i hi
      have hu : us[i]? = some (us.getD (i * 1 + 0) undef) := by rw [Nat.mul_one, Nat.add_zero, List.getD_eq_getElem?_getD, List.getElem?_eq_getElem this]; rfl
      cases g3 i _ _ hx' hu with
      | d hr => exact hr.mov h.kin
 | _, _, _, .ag hx, hv => by
   cases hv with
   | ag hl hu => obtain ⟨e1, e2⟩ := LeVs.vr hz h hx hl hu; exact .ag e1 e2
 | _, _, _, .tu hx, hv => by
   cases hv with
   | tu hl hu => obtain ⟨e1, e2⟩ := LeVs.vr hz h hx hl hu; exact .tu e1 e2
where LeVs.vr (hz : Sim x z s a w) (h : LeH s.hp H1 σ H1) : ∀ {xs ys : List AV} {us : List Value}, LeVs s.hp H1 σ xs ys → us.length = xs.length → (∀ (j : Nat) (y : AV) (u : Value), xs[j]? = some y → us[j]? = some u → VR z w (okB x.X z s.hp w) y u) →
      us.length = ys.length ∧ ∀ (j : Nat) (y : AV) (u : Value), ys[j]? = some y → us[j]? = some u → VR (z.via σ) w (okB x.X (z.via σ) H1 w) y u
 | _, _, us, .nil, hl, _ => ⟨hl, fun j y u hy => by simp at hy⟩
 | _, _, [], .cons _ _, hl, _ => by simp at hl
 | _, _, u :: us, .cons hx ht, hl, hu => by
   obtain ⟨e1, e2⟩ := LeVs.vr hz h ht (us := us) (by simpa using hl) (fun j y u' hy hu' => hu (j + 1) y u' (by simpa using hy) (by simpa using hu'))
   refine ⟨by simp [e1], fun j y u' hy hu' => ?_⟩
   cases j with
   | zero =>
     simp only [List.getElem?_cons_zero, Option.some.injEq] at hy hu'
     subst hy; subst hu'
     exact LeV.vr hz h hx (hu 0 _ _ rfl rfl)
   | succ j => exact e2 j y u' (by simpa using hy) (by simpa using hu')
end
def idB (σ : Nat → Option Nat) : List Nat → Bool
 | [] => true
 | i :: r => (match σ i with | some j => Nat.beq j i | none => false) && idB σ r
theorem idB_spec {σ : Nat → Option Nat} {i : Nat} : ∀ {l : List Nat}, idB σ l = true → i ∈ l → σ i = some i
 | j :: r, h, hi => by
   rw [idB, Bool.and_eq_true] at h
   rcases List.mem_cons.1 hi with h' | h'
   ·subst h'
    have h1 := h.1
    cases hs : σ i with
    | none => rw [hs] at h1; cases h1
    | some k => rw [hs] at h1; rw [Nat.eq_of_beq_eq_true h1]
   ·exact idB_spec h.2 h'
theorem LeVs.vrle {x : Ctx} {z : Cz} {s : St} {a : Act} {w : World} {H1 : List (Nat × Ob)} {σ : Nat → Option Nat} (hz : Sim x z s a w) (h : LeH s.hp H1 σ H1) {xs ys : List AV} {us : List Value} (hx : LeVs s.hp H1 σ xs ys) (hl : xs.length ≤ us.length) (hu : ∀ (j : Nat) (y : AV) (u : Value), xs[j]? = some y → us[j]? = some u → VR z w (okB x.X z s.hp w) y u) :
 ys.length ≤ us.length ∧ ∀ (j : Nat) (y : AV) (u : Value), ys[j]? = some y → us[j]? = some u → VR (z.via σ) w (okB x.X (z.via σ) H1 w) y u := by
 obtain ⟨e1, e2⟩ := LeV.vr.LeVs.vr hz h hx (us := us.take xs.length) (by rw [List.length_take]; omega) (fun j y u hy hu' => hu j y u hy (by rw [List.getElem?_take] at hu'; split at hu' <;> first | exact hu' | cases hu'))
 have e3 := hx.get.1
 refine ⟨by omega, fun j y u hy hu' => e2 j y u hy ?_⟩
 have hj := (List.getElem?_eq_some_iff.1 hy).1
 rw [List.getElem?_take, if_pos (by omega)]
 exact hu'
def Imp (s s1 : St) : Prop := ∀ x a w, SimE x s a w → SimE x s1 a w
theorem Imp.mk {s s1 : St} (σ : Nat → Option Nat) (hnt : s.nt = s1.nt) (he : LeE s.hp s1.hp σ s.env s1.env) (hh : LeH s.hp s1.hp σ s1.hp) (hi : (injB σ s1.hp && idB σ s.nt.ini) = true) : Imp s s1 := by
 rw [Bool.and_eq_true] at hi
 obtain ⟨hi, hid⟩ := hi
 rintro x a w ⟨z, hz⟩
 refine ⟨z.via σ, hz.fr, hz.nt.trans (by rw [hnt]), fun i hii => ?_, hz.df, fun t y e => ?_, fun i ob e => ?_, fun i ob e hp => ?_, fun i i' ob ob' e e' p p' hb => ?_, hz.xo⟩
 ·rw [← hnt] at hii
  have := hz.zi i hii
  simpa [Cz.via, idB_spec hid hii] using this
 ·obtain ⟨y', h1, h2⟩ := he.get t y e
  exact h2.vr hz hh (hz.env t y' h1)
 ·rcases hh.get i ob e with ⟨hs, t, k, f, rfl⟩ | ⟨j, hs, ⟨t, k, n, f, f', rfl, h1, h2⟩ | ⟨xs, ys, rfl, h1, h2⟩⟩
  ·exact .arr (us := []) (fun hc => by simp [Cz.via, hs] at hc) (by simp [Cz.via, hs]) (Nat.zero_le _) (by simp [Cz.via, hs]) (fun m hm => by omega) (fun m j d u hm => by omega)
  ·obtain ⟨us, g1, g2, g3, g4, g5, g6⟩ := hz.arr h1
   exact .arr (us := us) (by simpa [Cz.via, hs] using g1) (by simpa [Cz.via, hs] using g2) (by simpa [Cz.via, hs] using g3) (by simpa [Cz.via, hs] using g4) (fun m hm => by rw [← h2 m hm]; exact g5 m hm) (fun m j' d u hm hd hu => (g6 m j' d u hm (by rw [h2 m hm]; exact hd) hu).mov hh.kin)
  ·obtain ⟨us, t, g1, g2, g3, g4⟩ := hz.blkT h1
   obtain ⟨e1, e2⟩ := LeVs.vrle hz hh h2 g2 g3
   exact .blk (us := us) (t := t) (by simpa [Cz.via, hs] using g1) e1 e2 (fun hi' => by
    obtain rfl := typB_spec hi e hs hi'
    exact ⟨(g4 hi').1, (g4 hi').2.trans h2.get.1⟩)
 ·obtain ⟨j, ob', h1, h2, h3, h4, _⟩ := hh.phys e hp
  rw [h4]
  exact hz.ph j ob' h2 h3
 ·obtain ⟨j, o1, h1, h2, h3, h4, _⟩ := hh.phys e p
  obtain ⟨j', o2, h1', h2', h3', h4', _⟩ := hh.phys e' p'
  rw [h4, h4'] at hb
  have := hz.inj j j' o1 o2 h2 h2' h3 h3' hb
  subst this
  exact injB_spec hi e e' h1 h1'
end Go.Proofs.YtjbhiglaginpeaaGreat
namespace Go.Proofs.YtjbhiglaginpeaaGreat
open Go.RowKit
def NewIn (ok : Nat → Prop) (w w' : World) (b : Nat) : Prop := ok b ∨ (w.heap.size ≤ b ∧ b < w'.heap.size)
def VRs (z : Cz) (w : World) (ok : Nat → Prop) (xs : List AV) (us : List Value) : Prop := us.length = xs.length ∧ ∀ (j : Nat) (y : AV) (u : Value), xs[j]? = some y → us[j]? = some u → VR z w ok y u
def FnB (P : Program) (f : FuncId) : Prop := ∃ fn, P.funcs[f]? = some fn ∧ (fn.name == "runtime.NumGoroutine") = false ∧ fn.body.isNone = false
def FnP (P : Program) (f : FuncId) (args : List AV) (r : AV) : Prop :=
 FnB P f ∧ ∀ (z : Cz) (w : World) (ok : Nat → Prop) (us : List Value), (∀ b, ok b → b < w.heap.size) → VRs z w ok args us →
  Calls P f us.toArray w fun e w' => ∃ u, e = .returned u ∧ VR z w' (NewIn ok w w') r u ∧ Below w.heap.size w w'
section
variable {P : Program} {o : Oper} {s : St} {d : Nat}
def evl (s : St) : List Operand → Option (List AV)
 | [] => some []
 | q :: r => match s.ev q, evl s r with
   | some v, some vs => some (v :: vs)
   | _, _ => none
theorem evl_ok {x : Ctx} {z : Cz} {s s' : St} {a : Act} {w : World} (hs : s.le s') (h : Sim x z s' a w) : ∀ (ps : List Operand) (vs : List AV), evl s ps = some vs → VRs z w (okB x.X z s'.hp w) vs (ps.map a.eval)
 | [], vs, e => by simp only [evl, Option.some.injEq] at e; subst e; exact ⟨rfl, fun j y u h => by simp at h⟩
 | q :: r, vs, e => by
   rw [evl] at e
   split at e
   ·rename_i v vs' h1 h2
    injection e with e
    subst e
    obtain ⟨g1, g2⟩ := evl_ok hs h r vs' h2
    refine ⟨by simpa using g1, fun j y u hy hu => ?_⟩
    cases j with
    | zero =>
      simp only [List.map_cons, List.getElem?_cons_zero, Option.some.injEq] at hy hu
      subst hy; subst hu
      exact h.ev (hs.ev h1)
    | succ j => exact g2 j y u (by simpa using hy) (by simpa using hu)
   ·cases e
inductive LeC : AV → AV → Prop
 | sc {v v' : Value} (h : v = v') : LeC (.d (.sc v)) (.d (.sc v'))
 | sl {k n n' : Nat} {f f' : Nat → List D} (hn : n = n') (h : ∀ m, m < n → f m = f' m) : LeC (.d (.sl k n f)) (.d (.sl k n' f'))
 | dd {x : D} : LeC (.d x) (.d x)
 | empd {k : Nat} {f : Nat → List D} : LeC .emp (.d (.sl k 0 f))
 | same {x : AV} : LeC x x
 | un {x : AV} : LeC x .un
 | ag {xs ys : List AV} (hl : xs.length = ys.length) (h : ∀ (j : Nat) (x y : AV), xs[j]? = some x → ys[j]? = some y → LeC x y) : LeC (.ag xs) (.ag ys)
theorem LeC.vr {z : Cz} {w : World} {ok : Nat → Prop} {x y : AV} (h : LeC x y) : ∀ {u : Value}, VR z w ok x u → VR z w ok y u := by
 induction h with
 | sc e => subst e; exact fun h => h
 | sl e hf => intro u hv; subst e; cases hv with | d hr => exact .d (hr.sl_ext hf)
 | dd => exact fun h => h
 | empd => exact fun hv => .d (LeD.emp.rep hv)
 | same => exact fun h => h
 | un => exact fun _ => .un
 | @ag xs ys hl h ih =>
   intro u hv
   cases hv with
   | ag hl' hu =>
     refine .ag (by omega) (fun j y u hy hu' => ?_)
     have hj : j < xs.length := by rw [hl]; exact (List.getElem?_eq_some_iff.1 hy).1
     exact ih j _ y (List.getElem?_eq_getElem hj) hy (hu j _ u (List.getElem?_eq_getElem hj) hu')
inductive LeCs : List AV → List AV → Prop
 | nil : LeCs [] []
 | cons {x y : AV} {xs ys : List AV} (h : LeC x y) (t : LeCs xs ys) : LeCs (x :: xs) (y :: ys)
theorem LeCs.get {xs ys : List AV} (h : LeCs xs ys) : xs.length = ys.length ∧ ∀ (j : Nat) (x y : AV), xs[j]? = some x → ys[j]? = some y → LeC x y := by
 induction h with
 | nil => exact ⟨rfl, fun j x y h => by simp at h⟩
 | cons h t ih =>
   refine ⟨by simp [ih.1], fun j x y e1 e2 => ?_⟩
   cases j with
   | zero =>
     simp only [List.getElem?_cons_zero, Option.some.injEq] at e1 e2
     subst e1; subst e2
     exact h
   | succ j => exact ih.2 j x y (by simpa using e1) (by simpa using e2)
theorem LeC.mkag {xs ys : List AV} (h : LeCs xs ys) : LeC (.ag xs) (.ag ys) := .ag h.get.1 h.get.2
theorem LeCs.vrs {z : Cz} {w : World} {ok : Nat → Prop} {xs ys : List AV} {us : List Value} (h : LeCs xs ys) (hv : VRs z w ok xs us) : VRs z w ok ys us := by
 obtain ⟨h1, h2⟩ := h.get
 refine ⟨by rw [hv.1, h1], fun j y u hy hu => ?_⟩
 have hj : j < xs.length := by rw [h1]; exact (List.getElem?_eq_some_iff.1 hy).1
 exact (h2 j _ y (List.getElem?_eq_getElem hj) hy).vr (hv.2 j _ u (List.getElem?_eq_getElem hj) hu)
mutual
def noId : AV → Bool
 | .ptr _ _ => false
 | .ep _ _ _ _ => false
 | .own _ _ => false
 | .ag xs => noIds xs
 | .tu xs => noIds xs
 | .un => true
 | .d _ => true
 | .dp _ _ => true
 | .emp => true
def noIds : List AV → Bool
 | [] => true
 | x :: r => noId x && noIds r
end
mutual
theorem noId_men (i : Nat) : ∀ {v : AV}, noId v = true → men i v = false
 | .ptr _ _, h => by simp [noId] at h
 | .ep _ _ _ _, h => by simp [noId] at h
 | .own _ _, h => by simp [noId] at h
 | .ag xs, h => by rw [men]; exact noIds_men i (by simpa [noId] using h)
 | .tu xs, h => by rw [men]; exact noIds_men i (by simpa [noId] using h)
 | .un, _ => rfl
 | .d _, _ => rfl
 | .dp _ _, _ => rfl
 | .emp, _ => rfl
theorem noIds_men (i : Nat) : ∀ {xs : List AV}, noIds xs = true → menL i xs = false
 | [], _ => rfl
 | x :: r, h => by
   simp only [noIds, Bool.and_eq_true] at h
   rw [menL, noId_men i h.1, noIds_men i h.2]
   rfl
end
theorem callFunc_run {f : FuncId} (h : FnB P f) (args : Array Value) (w : World) : (callFunc f args).run P w = .ok (.enter f args) w := by
 obtain ⟨fn, h1, h2, h3⟩ := h
 simp only [callFunc, program, Sem.run_bind, Sem.run, Result.andThen_ok]
 rw [h1]
 simp only [h2, h3]
 rfl
theorem OT.callP {f : FuncId} {qs : Array Operand} {ts : Array TypeId} {avs args : List AV} {r : AV} (hd : o.dst = some d) (ho : o.op = .call { callee := .value (.func f), args := qs, argTypes := ts }) (hq : evl s qs.toList = some avs) (hF : FnP P f args r) (hle : LeCs avs args) : OT P o s d r [] [] := by
 refine ⟨hd, fun x s' a w hs hn _ ⟨z, hz⟩ K Q hK => ?_⟩
 have hv := hle.vrs (evl_ok hs hz _ _ hq)
 have hcall := hF.2 z w _ _ (fun b hb => hb.1) hv
 have hev : a.eval (.func f) = .func (.func f) #[] #[] := rfl
 unfold Oper.wp execOp
 simp only [ho, resolve, invoke, hev, Deferred.ofValue, Sem.run_bind, Sem.run_pure, Result.andThen_ok, Array.empty_append, Array.append_empty, callFunc_run hF.1]
 have he : (qs.map a.eval) = (qs.toList.map a.eval).toArray := by rw [← Array.toList_map, Array.toArray_toList]
 rw [he]
 refine hcall.mono fun e w' ⟨u, e1, h1, h2⟩ => ?_
 subst e1
 show K (a.put o.dst u) w'
 rw [hd]
 refine hK _ _ ⟨z, (hz.grow h2).put hn (h1.mov (fun b hb => ⟨?_, rfl⟩) (fun _ _ => ⟨rfl, rfl⟩))⟩
 rcases hb with hb | ⟨hb1, hb2⟩
 ·exact ⟨Nat.lt_of_lt_of_le hb.1 h2.size, hb.2⟩
 ·exact ⟨hb2, fun hx => by have := (hz.xo b hx).1; have := hz.fr.size; omega, fun i ob e hp e' => by have := (hz.ph i ob e hp).1; omega⟩
def cellB : AV → Bool
 | .un => false
 | .ag _ => false
 | .tu _ => false
 | _ => true
theorem cellB_one {z : Cz} {w : World} {ok : Nat → Prop} {x : AV} {u : Value} (h : cellB x = true) (hv : VR z w ok x u) : u.oneCell' = true := by
 cases hv with
 | d hr => exact hr.one
 | _ => first | rfl | cases h
def SQ (P : Program) (o : Oper) (s s1 : St) : Prop := ∀ (x : Ctx) (a : Act) (w : World), SimE x s a w → ∀ (K : Act → World → Prop) (Q : Exit → Act → World → Prop), (∀ a' w', SimE x s1 a' w' → K a' w') → o.wp P a w K Q
class SzT (P : Program) (T : Nat) (n : outParam Nat) : Prop where
 out : ∃ i, P.info? T = some i ∧ i.size = n
theorem run_storeAt {T n : Nat} [h : SzT P T n] {w : World} {g p : Nat} {us : List Value} {t : TypeId} {v : Value} (hg : w.heap[g]? = some (.cells us.toArray t (0, 0))) (hv : v.cells.size = n) (hp : p + n ≤ us.length) (h1 : ∀ u ∈ v.cells.toList, u.oneCell' = true) :
 (Instr.storeAt T (.pointer (some ⟨g, p, none⟩)) v).run P w = .ok () (w.setRow g (aput us p v.cells.toList).toArray) := by
 obtain ⟨i, h2, h3⟩ := h.out
 have hs := run_storeCells_at (P := P) g p t v.cells.toList 0 us.toArray w hg (by simp; omega) h1
 simp only [Instr.storeAt, Instr.sureAddr, storeVar, Sem.run_bind, Sem.run_pure, Result.andThen_ok, run_size h2, h3]
 rw [if_neg (by simp [hv])]
 rw [hs]
 unfold aput
 simp
theorem grown_setRow (w : World) (g : Nat) (cs : Array Value) : w.grownBy (w.setRow g cs) (some g) :=
 ⟨rfl, rfl, rfl, by simp, fun k _ hne => setRow_other w g k cs (fun e => hne (by rw [e]))⟩
theorem put_none (a : Act) (v : Value) : a.put none v = a := rfl
theorem SQ.store {T n i p : Nat} {q r : Operand} {xs : List AV} {v : AV} [h : SzT P T n] (hd : o.dst = none) (ho : o.op = .store T q r) (hq : s.ev q = some (.ptr i p)) (hr : s.ev r = some v) (hi : look s.hp i = some (.blk xs)) (hl : (cellsA v).length = n) (hn : 0 < n) (hp : p + n ≤ xs.length) (hc : (cellsA v).all cellB = true) :
 SQ P o s { s with hp := (i, .blk (aput xs p (cellsA v))) :: s.hp } := by
 rintro x a w ⟨z, hz⟩ K Q hK
 have hvq := hz.ev hq
 have hvr := hz.ev hr
 generalize hu : a.eval q = u at hvq
 cases hvq
 obtain ⟨us, t, g1, g2, g3, g4⟩ := hz.blkT hi
 have hne : cellsA v ≠ [] := fun e => by rw [e] at hl; simp at hl; omega
 obtain ⟨c1, c2⟩ := cellsA_ok hvr hne
 have hone : ∀ u ∈ (a.eval r).cells.toList, u.oneCell' = true := fun u hu => by
  obtain ⟨j, hj, rfl⟩ := List.getElem_of_mem hu
  have hj' : j < (cellsA v).length := by omega
  exact cellB_one (List.all_eq_true.1 hc _ (List.getElem_mem hj')) (c2 j _ _ (List.getElem?_eq_getElem hj') (List.getElem?_eq_getElem hj))
 have hrun := run_storeAt (P := P) (T := T) (n := n) (p := p) g1 (by have : (a.eval r).cells.toList.length = n := by omega
                                                                     simpa using this) (by omega) hone
 unfold Oper.wp execOp
 simp only [ho, hu, Sem.run_bind, hrun, Result.andThen_ok, Sem.run_pure]
 show K (a.put o.dst undef) _
 rw [hd, put_none]
 refine hK _ _ ⟨z, hz.chg hi trivial (grown_setRow w _ _) (fun hk => .blk (us := aput us p (a.eval r).cells.toList) (t := t) (setRow_heap w _ _ _ t _ g1) ?_ ?_ (fun h => ⟨(g4 h).1, by rw [aput_len xs _ _ (by omega), aput_len us _ _ (by omega)]; exact (g4 h).2⟩)) trivial⟩
 ·rw [aput_len xs _ _ (by omega), aput_len us _ _ (by omega)]; exact g2
 ·have hLV : LVle z w (okB x.X z s.hp w) (aput xs p (cellsA v)) (aput us p (a.eval r).cells.toList) := LVle.put ⟨g2, g3⟩ ⟨c1, c2⟩ (by omega)
  exact fun j y u hy hu => (hLV.2 j y u hy hu).mov hk (fun _ _ => ⟨rfl, rfl⟩)
def setF (f : Nat → List D) (m : Nat) (row : List D) (i : Nat) : List D := if i = m then row else f i
theorem SQ.storeE {T n i k m nn t p : Nat} {q r : Operand} {f : Nat → List D} {v : AV} {row : List D} [h : SzT P T n] (hd : o.dst = none) (ho : o.op = .store T q r) (hq : s.ev q = some (.ep i k m p)) (hr : s.ev r = some v) (hi : look s.hp i = some (.arr t k nn f)) (hm : m < nn)
 (hle : LeDs (cellsA v) row) (hl : row.length = n) (hn : 0 < n) (hp : p + n ≤ k) : SQ P o s { s with hp := (i, .arr t k nn (setF f m (aput (f m) p row))) :: s.hp } := by
 rintro x a w ⟨z, hz⟩ K Q hK
 have hvq := hz.ev hq
 have hvr := hz.ev hr
 generalize hu : a.eval q = u at hvq
 cases hvq
 obtain ⟨us, g1, g2, g3, g4, g5, g6⟩ := hz.arr hi
 obtain ⟨l1, l2⟩ := hle.get
 have hne : cellsA v ≠ [] := fun e => by rw [e] at l1; simp at l1; omega
 obtain ⟨c1, c2⟩ := cellsA_ok hvr hne
 have hcz : 0 < z.c i := by omega
 have hle' : (m + 1) * k ≤ z.c i * k := Nat.mul_le_mul_right _ (by omega)
 rw [Nat.add_mul] at hle'
 have hrep : ∀ (j : Nat) (y : D) (u : Value), row[j]? = some y → (a.eval r).cells.toList[j]? = some u → Rep w (okB x.X z s.hp w) u y := fun j y u hy hu => by
  obtain ⟨x', hx1, hx2⟩ := l2 j y hy
  exact hx2.rep (c2 j x' u hx1 hu)
 have hone : ∀ u ∈ (a.eval r).cells.toList, u.oneCell' = true := fun u hu => by
  obtain ⟨j, hj, rfl⟩ := List.getElem_of_mem hu
  have hj' : j < row.length := by omega
  exact (hrep j _ _ (List.getElem?_eq_getElem hj') (List.getElem?_eq_getElem hj)).one
 have hrun := run_storeAt (P := P) (T := T) (n := n) (p := m * k + p) (g1 hcz) (by have : (a.eval r).cells.toList.length = n := by omega
                                                                                   simpa using this) (by omega) hone
 unfold Oper.wp execOp
 simp only [ho, hu, Sem.run_bind, hrun, Result.andThen_ok, Sem.run_pure]
 show K (a.put o.dst undef) _
 rw [hd, put_none]
 have hfm := g5 m hm
 have hcl : (a.eval r).cells.toList.length = n := by omega
 refine hK _ _ ⟨z, hz.chg hi (show phys z i _ from hcz) (grown_setRow w _ _) (fun hk => .arr (us := aput us (m * k + p) (a.eval r).cells.toList) (fun _ => setRow_heap w _ _ _ t _ (g1 hcz)) ?_ g3 g4 (fun j hj => ?_) (fun j i' dd u hj hd' hu' => ?_)) hcz⟩
 ·rw [aput_len _ _ _ (by omega)]; exact g2
 ·unfold setF
  split
  ·rw [aput_len _ _ _ (by omega)]; exact hfm
  ·exact g5 j hj
 ·rw [aput_get _ _ _ (by omega), hcl] at hu'
  unfold setF at hd'
  by_cases hjm : j = m
  ·subst hjm
   rw [if_pos rfl, aput_get _ _ _ (by omega), hl] at hd'
   by_cases hin : p ≤ i' ∧ i' < p + n
   ·rw [if_pos hin] at hd'
    rw [if_pos (by omega), show j * k + i' - (j * k + p) = i' - p by omega] at hu'
    exact (hrep _ _ _ hd' hu').mov hk
   ·rw [if_neg hin] at hd'
    rw [if_neg (by omega)] at hu'
    exact (g6 j i' dd u hj hd' hu').mov hk
  ·rw [if_neg hjm] at hd'
   have hi' : i' < k := by rw [← g5 j hj]; exact (List.getElem?_eq_some_iff.1 hd').1
   have hsep : ¬ (m * k + p ≤ j * k + i' ∧ j * k + i' < m * k + p + n) := by
    intro ⟨h1, h2⟩
    rcases Nat.lt_or_gt_of_ne hjm with h3 | h3
    ·have : (j + 1) * k ≤ m * k := Nat.mul_le_mul_right _ h3
     rw [Nat.add_mul] at this
     omega
    ·have : (m + 1) * k ≤ j * k := Nat.mul_le_mul_right _ h3
     rw [Nat.add_mul] at this
     omega
   rw [if_neg hsep] at hu'
   exact (g6 j i' dd u hj hd' hu').mov hk
end
end Go.Proofs.YtjbhiglaginpeaaGreat
namespace Go.Proofs.YtjbhiglaginpeaaGreat
open Go.RowKit
theorem blt_lt {a b : Nat} (h : Nat.blt a b = true) : a < b := Nat.le_of_ble_eq_true h
def lift (x : Ctx) (Q : Exit → St → Prop) : Exit → Act → World → Prop := fun e a w => ∃ s, Q e s ∧ SimE x s a w
structure WC (P : Program) (c : Code) (s : St) (Q : Exit → St → Prop) : Prop where
 out : ∀ x a w, SimE x s a w → c.wp P (lift x Q) a w
structure WL (P : Program) (ops : Array Oper) (rest : List Oper) (s : St) (Q : Exit → St → Prop) : Prop where
 out : ∀ x a w, SimE x s a w → wpList P ops (lift x Q) rest a w
inductive thenQ (P : Program) (c : Code) (Q : Exit → St → Prop) : Exit → St → Prop
 | n {s : St} (h : WC P c s Q) : thenQ P c Q .normal s
 | e {s : St} {i : Nat} (h : Q (.exit i) s) : thenQ P c Q (.exit i) s
 | r {s : St} (h : Q .ret s) : thenQ P c Q .ret s
inductive blockQ (id : Nat) (Q : Exit → St → Prop) : Exit → St → Prop
 | n {s : St} (h : Q .normal s) : blockQ id Q .normal s
 | x {s : St} (h : Q .normal s) : blockQ id Q (.exit id) s
 | o {s : St} {i : Nat} (hi : Nat.beq i id = false) (h : Q (.exit i) s) : blockQ id Q (.exit i) s
 | r {s : St} (h : Q .ret s) : blockQ id Q .ret s
inductive loopQ (J : Nat → St → Prop) (k : Nat) (Q : Exit → St → Prop) : Exit → St → Prop
 | n {s : St} (m : Nat) (s1 : St) (hm : m < k) (hJ : J m s1) (hi : Imp s s1) : loopQ J k Q .normal s
 | e {s : St} {i : Nat} (h : Q (.exit i) s) : loopQ J k Q (.exit i) s
 | r {s : St} (h : Q .ret s) : loopQ J k Q .ret s
section
variable {P : Program} {ops : Array Oper} {o : Oper} {rest : List Oper} {s s1 : St} {Q : Exit → St → Prop} {d : Nat} {id : Nat}
theorem WL.nil (h : Q .normal s) : WL P ops [] s Q := ⟨fun _ _ _ hs => wpList_nil ⟨s, h, hs⟩⟩
theorem WL.imp (h : Imp s s1) (k : WL P ops rest s1 Q) : WL P ops rest s Q := ⟨fun x a w hs => k.out x a w (h x a w hs)⟩
theorem WL.op {v : AV} (hg : o.guard = none) (h : OT P o s d v [] []) (hd : Nat.blt d s.nt.n = true) (k : WL P ops rest (s.put d v) Q) : WL P ops (o :: rest) s Q := ⟨fun x a w hs =>
 wpList_plain hg fun _ hK => h.2 x s a w (St.le.refl s) (blt_lt hd) (fun i ob hm => by cases hm) hs _ _ fun a' w' hs' => hK a' w' (k.out x a' w' hs')⟩
def freeB (s : St) (i : Nat) : Bool := (!memB i s.nt.ini) && ((s.env.all fun p => !men i p.2) && s.hp.all fun p => !(Nat.beq p.1 i) && !p.2.men i)
theorem freeB_spec {s : St} {i : Nat} (h : freeB s i = true) : s.free i := by
 simp only [freeB, Bool.and_eq_true, List.all_eq_true, Bool.not_eq_true'] at h
 obtain ⟨h0, h1, h2⟩ := h
 exact ⟨fun hm => (by rw [memB_iff.2 hm] at h0; cases h0), fun t y e => h1 _ (look_mem e), fun j ob e => ⟨Nat.ne_of_beq_eq_false (h2 _ (look_mem e)).1, (h2 _ (look_mem e)).2⟩⟩
theorem WL.new {v : AV} {i : Nat} {ob : Ob} {rm : List Nat} (hg : o.guard = none) (h : OT P o s d v [(i, ob)] rm) (hd : Nat.blt d s.nt.n = true) (hf : freeB s i = true) (k : WL P ops rest (((s.rm rm).add [(i, ob)]).put d v) Q) : WL P ops (o :: rest) s Q := ⟨fun x a w hs =>
 wpList_plain hg fun _ hK => h.2 x s a w (St.le.refl s) (blt_lt hd) (fun i' ob' hm => by
  simp only [List.mem_singleton, Prod.mk.injEq] at hm
  rw [hm.1]
  exact freeB_spec hf) hs _ _ fun a' w' hs' => hK a' w' (k.out x a' w' hs')⟩
theorem WL.st (hg : o.guard = none) (h : SQ P o s s1) (k : WL P ops rest s1 Q) : WL P ops (o :: rest) s Q := ⟨fun x a w hs =>
 wpList_plain hg fun _ hK => h x a w hs _ _ fun a' w' hs' => hK a' w' (k.out x a' w' hs')⟩
theorem yielded_of {x : Ctx} {z : Cz} {a : Act} {w : World} (hz : Sim x z s a w) {g t : Nat} {b : Bool} (hgd : (ops[g]?).bind (·.dst) = some t) (hb : look s.env t = some (.d (.sc (.bool b)))) (ht : Nat.blt t s.nt.n = true) : yielded ops a.tmps g = some b := by
 have h1 := (hz.env t _ hb).dsc.1
 have h2 : t < a.tmps.size := by rw [hz.nt]; exact blt_lt ht
 unfold yielded
 rw [hgd]
 simp only [Option.bind_some, Array.getElem?_eq_getElem h2]
 have h3 : a.tmps[t] = Value.bool b := by
  rw [Array.getD_eq_getD_getElem?, Array.getElem?_eq_getElem h2] at h1
  exact h1
 rw [h3]
theorem WL.gT {v : AV} {g t : Nat} {b want : Bool} (hg : o.guard = some (g, want)) (hgd : (ops[g]?).bind (·.dst) = some t) (hb : look s.env t = some (.d (.sc (.bool b)))) (ht : Nat.blt t s.nt.n = true) (hw : b = want) (h : OT P o s d v [] []) (hd : Nat.blt d s.nt.n = true) (k : WL P ops rest (s.put d v) Q) : WL P ops (o :: rest) s Q := ⟨fun x a w hs => by
 have hs0 := hs
 obtain ⟨z, hz⟩ := hs0
 have hy := yielded_of hz hgd hb ht
 refine wpList_step fun K hK => ?_
 rw [if_pos (by simp [Region.wanted, hg, hy, hw])]
 exact h.2 x s a w (St.le.refl s) (blt_lt hd) (fun i ob hm => by cases hm) hs _ _ fun a' w' hs' => hK a' w' (k.out x a' w' hs')⟩
theorem undef_vr {z : Cz} {w : World} {ok : Nat → Prop} : VR z w ok (.tu []) undef := .tu (us := []) rfl (fun j x u h => by simp at h)
theorem yielded_un {x : Ctx} {z : Cz} {a : Act} {w : World} (hz : Sim x z s a w) {g t : Nat} (hgd : (ops[g]?).bind (·.dst) = some t) (hb : look s.env t = some (.tu [])) (ht : Nat.blt t s.nt.n = true) : yielded ops a.tmps g = none := by
 have h1 := hz.env t _ hb
 have h2 : t < a.tmps.size := by rw [hz.nt]; exact blt_lt ht
 unfold yielded
 rw [hgd]
 simp only [Option.bind_some, Array.getElem?_eq_getElem h2]
 have h3 : a.tmps.getD t undef = a.tmps[t] := by rw [Array.getD_eq_getD_getElem?, Array.getElem?_eq_getElem h2]; rfl
 rw [h3] at h1
 generalize a.tmps[t] = u at h1
 cases h1 with
 | tu => rfl
theorem WL.gU {g t : Nat} {want : Bool} (hdst : o.dst = some d) (hg : o.guard = some (g, want)) (hgd : (ops[g]?).bind (·.dst) = some t) (hb : look s.env t = some (.tu [])) (ht : Nat.blt t s.nt.n = true) (hd : Nat.blt d s.nt.n = true) (k : WL P ops rest (s.put d (.tu [])) Q) : WL P ops (o :: rest) s Q := ⟨fun x a w hs => by
 obtain ⟨z, hz⟩ := hs
 have hy := yielded_un hz hgd hb ht
 refine wpList_step fun K hK => ?_
 rw [if_neg (by simp [Region.wanted, hg, hy])]
 rw [hdst]
 exact hK _ _ (k.out x _ w ⟨z, hz.put (blt_lt hd) undef_vr⟩)⟩
theorem WL.gF {g t : Nat} {b want : Bool} (hdst : o.dst = some d) (hg : o.guard = some (g, want)) (hgd : (ops[g]?).bind (·.dst) = some t) (hb : look s.env t = some (.d (.sc (.bool b)))) (ht : Nat.blt t s.nt.n = true) (hw : b = !want) (hd : Nat.blt d s.nt.n = true) (k : WL P ops rest (s.put d (.tu [])) Q) : WL P ops (o :: rest) s Q := ⟨fun x a w hs => by
 obtain ⟨z, hz⟩ := hs
 have hy := yielded_of hz hgd hb ht
 refine wpList_step fun K hK => ?_
 rw [if_neg (by simp [Region.wanted, hg, hy, hw])]
 rw [hdst]
 exact hK _ _ (k.out x _ w ⟨z, hz.put (blt_lt hd) undef_vr⟩)⟩
theorem WC.imp {c : Code} (h : Imp s s1) (k : WC P c s1 Q) : WC P c s Q := ⟨fun x a w hs => k.out x a w (h x a w hs)⟩
theorem WC.mono {c : Code} {Q' : Exit → St → Prop} (h : ∀ e s, Q e s → Q' e s) (k : WC P c s Q) : WC P c s Q' := ⟨fun x a w hs => Code.wp_mono (fun e _ _ ⟨s', hq, hs'⟩ => ⟨s', h e s' hq, hs'⟩) (k.out x a w hs)⟩
theorem WC.skip (h : Q .normal s) : WC P .skip s Q := ⟨fun _ _ _ hs => wp_skip ⟨s, h, hs⟩⟩
theorem WC.exit {i : Nat} (h : Q (.exit i) s) : WC P (.exit i) s Q := ⟨fun _ _ _ hs => wp_exit ⟨s, h, hs⟩⟩
theorem WC.ret (h : Q .ret s) : WC P .ret s Q := ⟨fun _ _ _ hs => wp_ret ⟨s, h, hs⟩⟩
theorem WC.seq {c c' : Code} (h : WC P c s (thenQ P c' Q)) : WC P (.seq c c') s Q := ⟨fun x a w hs =>
 wp_seq (Code.wp_mono (fun e a' w' ⟨s', hq, hs'⟩ => by cases hq with
  | n hq => exact hq.out x a' w' hs'
  | e hq => exact ⟨s', hq, hs'⟩
  | r hq => exact ⟨s', hq, hs'⟩) (h.out x a w hs))⟩
theorem WC.block {c : Code} (h : WC P c s (blockQ id Q)) : WC P (.block id c) s Q := ⟨fun x a w hs =>
 wp_block (Code.wp_mono (fun e a' w' ⟨s', hq, hs'⟩ => by
  cases hq with
  | n hq => exact ⟨s', hq, hs'⟩
  | x hq =>
    unfold Exit.inBlock
    simp only [if_true]
    exact ⟨s', hq, hs'⟩
  | o hi hq =>
    unfold Exit.inBlock
    simp only []
    rw [if_neg (Nat.ne_of_beq_eq_false hi)]
    exact ⟨s', hq, hs'⟩
  | r hq => exact ⟨s', hq, hs'⟩) (h.out x a w hs))⟩
theorem WC.cond {c : Operand} {t f : Code} {b : Bool} (hc : s.ev c = some (.d (.sc (.bool b)))) (ht : b = true → WC P t s Q) (hf : b = false → WC P f s Q) : WC P (.cond c t f) s Q := ⟨fun x a w hs => by
 have hs0 := hs
 obtain ⟨z, hz⟩ := hs0
 exact wp_cond_split (hz.ev hc).dsc.1 (fun h => (ht h).out x a w hs) (fun h => (hf h).out x a w hs)⟩
theorem WC.condT {c : Operand} {t f : Code} {b : Bool} (hc : s.ev c = some (.d (.sc (.bool b)))) (hb : b = true) (ht : WC P t s Q) : WC P (.cond c t f) s Q := .cond hc (fun _ => ht) (fun h => by rw [hb] at h; cases h)
theorem WC.condF {c : Operand} {t f : Code} {b : Bool} (hc : s.ev c = some (.d (.sc (.bool b)))) (hb : b = false) (ht : WC P f s Q) : WC P (.cond c t f) s Q := .cond hc (fun h => by rw [hb] at h; cases h) (fun _ => ht)
theorem WC.list {l : List Oper} (h : WL P l.toArray l s Q) : WC P (.region id l.toArray false) s Q := ⟨fun x a w hs => wp_region_lit (h.out x a w hs)⟩
theorem wp_loop_n {P : Program} {c : Code} {Q : Exit → Act → World → Prop} (I : Nat → Act → World → Prop) (round : ∀ n a w, I n a w → c.wp P (Exit.then (fun a' w' => ∃ m, m < n ∧ I m a' w') Q) a w) (n : Nat) (a : Act) (w : World) (h₀ : I n a w) : (Code.loop c).wp P Q a w := by
 intro b k cs
 have key : ∀ n a w, I n a w → ∃ e a' w', Q e a' w' ∧ Arrives P (Go.lone (b.at a (.code c :: .inLoop c :: k)) cs w) b k cs e a' w' := by
  intro n
  induction n using Nat.strongRecOn with
  | _ n ih =>
    intro a w hI
    obtain ⟨e, a₁, w₁, hq, harr⟩ := round n a w hI b (.inLoop c :: k) cs
    cases e with
    | normal =>
      obtain ⟨m, hlt, hI₁⟩ := hq
      obtain ⟨e₂, a₂, w₂, hq₂, harr₂⟩ := ih m hlt a₁ w₁ hI₁
      exact ⟨e₂, a₂, w₂, hq₂, .of_steps (Steps.trans harr (.one step_inLoop)) harr₂⟩
    | exit id => exact ⟨_, a₁, w₁, hq, .pass (x := .inLoop c) rfl (fun _ _ => .inl (by simp)) harr⟩
    | goto l => exact ⟨_, a₁, w₁, hq, .pass (x := .inLoop c) rfl (fun _ _ => .inl (by simp)) harr⟩
    | ret => exact ⟨_, a₁, w₁, hq, .pass (x := .inLoop c) rfl (fun _ _ => .inl (by simp)) harr⟩
    | panic ch => exact ⟨_, a₁, w₁, hq, .pass (x := .inLoop c) rfl (fun _ _ => .inl (by simp)) harr⟩
    | outgrown => exact ⟨_, a₁, w₁, hq, .pass (x := .inLoop c) rfl (fun _ _ => .inl (by simp)) harr⟩
 obtain ⟨e, a', w', hq, harr⟩ := key n a w h₀
 exact ⟨e, a', w', hq, .of_steps (.one step_loop) harr⟩
theorem WC.loop {c : Code} (J : Nat → St → Prop) (n : Nat) (h0 : J n s1) (hi : Imp s s1) (round : ∀ n s, J n s → WC P c s (loopQ J n Q)) : WC P (.loop c) s Q := ⟨fun x a w hs =>
 wp_loop_n (fun n a w => ∃ s, J n s ∧ SimE x s a w) (fun n a w ⟨s', hJ, hs'⟩ => Code.wp_mono (fun e a' w' ⟨s2, hq, hs2⟩ => by
  cases hq with
  | n m s3 h1 h2 h3 => exact ⟨m, h1, s3, h2, h3 x a' w' hs2⟩
  | e hq => exact ⟨s2, hq, hs2⟩
  | r hq => exact ⟨s2, hq, hs2⟩) ((round n s' hJ).out x a w hs')) n a w ⟨s1, h0, hi x a w hs⟩⟩
inductive ResV (P : Program) (s : St) : ResultVar → AV → Prop
 | tmp {t : Nat} {v : AV} (h : look s.env t = some v) : ResV P s (.tmp t) v
 | cell {t T i p : Nat} {xs : List AV} {v : AV} [TyOne P T] (h : look s.env t = some (.ptr i p)) (hi : look s.hp i = some (.blk xs)) (hv : xs[p]? = some v) : ResV P s (.cell t T) v
 | cells {t T i p n : Nat} {xs : List AV} [TyAgg P T n] (h : look s.env t = some (.ptr i p)) (hi : look s.hp i = some (.blk xs)) (hl : Nat.ble (p + n) xs.length = true) : ResV P s (.cell t T) (.ag ((xs.drop p).take n))
inductive ResVs (P : Program) (s : St) : List ResultVar → List AV → Prop
 | nil : ResVs P s [] []
 | cons {r : ResultVar} {v : AV} {rs : List ResultVar} {vs : List AV} (h : ResV P s r v) (t : ResVs P s rs vs) : ResVs P s (r :: rs) (v :: vs)
def tupA : List AV → AV
 | [x] => x
 | xs => .tu xs
theorem ResV.run {x : Ctx} {z : Cz} {a : Act} {w : World} (hz : Sim x z s a w) {r : ResultVar} {v : AV} (h : ResV P s r v) :
 ∃ u, ((match r with | .tmp t => (pure (a.tmps.getD t undef) : Sem Value) | .cell t T => do loadVar T (← asAddr (a.tmps.getD t undef)))).run P w = .ok u w ∧ VR z w (okB x.X z s.hp w) v u := by
 cases h with
 | tmp h => exact ⟨_, rfl, hz.env _ _ h⟩
 | @cell t T i p xs v _ h hi hv =>
   have hp := hz.env _ _ h
   generalize hu : a.tmps.getD t undef = u at hp
   cases hp
   obtain ⟨us, t', h1, h2, h3⟩ := hz.blk hi
   have hj : p < us.length := Nat.lt_of_lt_of_le (List.getElem?_eq_some_iff.1 hv).1 h2
   have hj' : us[p]? = some us[p] := List.getElem?_eq_getElem hj
   have hc : w.cell? ⟨z.b i, p, none⟩ = some us[p] := (cell_of_heap h1 p).trans hj'
   have := run_load1 (P := P) (T := T) hc
   simp only [Instr.loadAt, Instr.sureAddr, Sem.run_bind, Sem.run_pure, Result.andThen_ok] at this
   exact ⟨us[p], by show ((asAddr (a.tmps.getD t undef) >>= fun ad => loadVar T ad) : Sem Value).run P w = _; rw [hu]; exact this, h3 p v _ hv hj'⟩
 | @cells t T i p n xs _ h hi hl =>
   have hp := hz.env _ _ h
   have hl := Nat.le_of_ble_eq_true hl
   generalize hu : a.tmps.getD t undef = u at hp
   cases hp
   obtain ⟨us, t', h1, h2, h3⟩ := hz.blk hi
   have := run_loadA (P := P) (T := T) (n := n) (w := w) (ad := ⟨z.b i, p, none⟩) (us := (us.drop p).take n) (by simp; omega) (fun j u hj => by
    rw [add0, cell_of_heap h1, ← hj, List.getElem?_take, List.getElem?_drop]
    have : j < n := by have := (List.getElem?_eq_some_iff.1 hj).1; simp at this; omega
    rw [if_pos this])
   simp only [Instr.loadAt, Instr.sureAddr, Sem.run_bind, Sem.run_pure, Result.andThen_ok] at this
   refine ⟨_, by show ((asAddr (a.tmps.getD t undef) >>= fun ad => loadVar T ad) : Sem Value).run P w = _; rw [hu]; exact this, .ag (by simp; omega) (fun j y u hy hu => ?_)⟩
   rw [List.getElem?_take, List.getElem?_drop] at hy hu
   by_cases hjn : j < n
   ·rw [if_pos hjn] at hy hu; exact h3 _ _ _ hy hu
   ·rw [if_neg hjn] at hy; cases hy
theorem ResVs.run {x : Ctx} {z : Cz} {a : Act} {w : World} (hz : Sim x z s a w) : ∀ {rs : List ResultVar} {vs : List AV}, ResVs P s rs vs →
 ∃ us : List Value, (rs.mapM fun (r : ResultVar) => (match r with | .tmp t => (pure (a.tmps.getD t undef) : Sem Value) | .cell t T => do loadVar T (← asAddr (a.tmps.getD t undef)))).run P w = .ok us w ∧ VRs z w (okB x.X z s.hp w) vs us
 | _, _, .nil => ⟨[], rfl, rfl, fun j y u h => by simp at h⟩
 | _, _, .cons h t => by
   obtain ⟨u, h1, h2⟩ := h.run hz
   obtain ⟨us, h3, h4, h5⟩ := ResVs.run hz t
   refine ⟨u :: us, ?_, by simp [h4], fun j y u' hy hu => ?_⟩
   ·rw [List.mapM_cons, Sem.run_bind, h1, Result.andThen_ok, Sem.run_bind, h3]
    rfl
   ·cases j with
    | zero =>
      simp only [List.getElem?_cons_zero, Option.some.injEq] at hy hu
      subst hy; subst hu
      exact h2
    | succ j => exact h5 j y u' (by simpa using hy) (by simpa using hu)
structure RetG (P : Program) (rs : List ResultVar) (r : AV) (s : St) : Prop where
 out : ∃ vs, ResVs P s rs vs ∧ LeV s.hp [] (fun _ => none) (tupA vs) r
theorem RetG.mk1 {P : Program} {r : AV} {s : St} {r1 : ResultVar} {v1 : AV} (h1 : ResV P s r1 v1) (k : LeV s.hp [] (fun _ => none) v1 r) : RetG P [r1] r s := ⟨_, .cons h1 .nil, k⟩
theorem RetG.mk2 {P : Program} {r : AV} {s : St} {r1 r2 : ResultVar} {v1 v2 : AV} (h1 : ResV P s r1 v1) (h2 : ResV P s r2 v2) (k : LeV s.hp [] (fun _ => none) (.tu [v1, v2]) r) : RetG P [r1, r2] r s := ⟨_, .cons h1 (.cons h2 .nil), k⟩
theorem RetG.mk3 {P : Program} {r : AV} {s : St} {r1 r2 r3 : ResultVar} {v1 v2 v3 : AV} (h1 : ResV P s r1 v1) (h2 : ResV P s r2 v2) (h3 : ResV P s r3 v3) (k : LeV s.hp [] (fun _ => none) (.tu [v1, v2, v3]) r) : RetG P [r1, r2, r3] r s := ⟨_, .cons h1 (.cons h2 (.cons h3 .nil)), k⟩
theorem RetG.mk4 {P : Program} {r : AV} {s : St} {r1 r2 r3 r4 : ResultVar} {v1 v2 v3 v4 : AV} (h1 : ResV P s r1 v1) (h2 : ResV P s r2 v2) (h3 : ResV P s r3 v3) (h4 : ResV P s r4 v4) (k : LeV s.hp [] (fun _ => none) (.tu [v1, v2, v3, v4]) r) : RetG P [r1, r2, r3, r4] r s := ⟨_, .cons h1 (.cons h2 (.cons h3 (.cons h4 .nil))), k⟩
inductive retQ (P : Program) (rs : List ResultVar) (r : AV) : Exit → St → Prop
 | n {s : St} (h : RetG P rs r s) : retQ P rs r .normal s
 | r {s : St} (h : RetG P rs r s) : retQ P rs r .ret s
def nums {α : Type} : Nat → List α → List (Nat × α)
 | _, [] => []
 | i, x :: r => (i, x) :: nums (i + 1) r
theorem look_nums {α : Type} : ∀ (l : List α) (i t : Nat) (x : α), look (nums i l) t = some x → i ≤ t ∧ l[t - i]? = some x
 | [], _, _, _, h => by cases h
 | y :: r, i, t, x, h => by
   rw [nums, look_cons] at h
   split at h
   ·rename_i ht
    subst ht
    injection h with h
    subst h
    simp
   ·obtain ⟨h1, h2⟩ := look_nums r (i + 1) t x h
    refine ⟨by omega, ?_⟩
    rw [show t - i = (t - (i + 1)) + 1 by omega]
    simpa using h2
theorem FnP.intro {f : FuncId} {fn : Func} {c : Code} {args : List AV} {r : AV} {nt : Nat} {rs : List ResultVar} (hf : P.funcs[f]? = some fn) (hb : fn.body = some c) (hnm : (fn.name == "runtime.NumGoroutine") = false) (hnt : fn.ntmps = nt) (hrs0 : fn.results = Array.mk rs)
 (hle : args.length ≤ nt) (hr : noId r = true) (h : WC P c ⟨⟨nt, []⟩, nums 0 args, []⟩ (retQ P rs r)) : FnP P f args r := by
 have hrs : fn.results.toList = rs := by rw [hrs0]
 refine ⟨⟨fn, hf, hnm, by rw [hb]; rfl⟩, fun z w ok us hok hus => ?_⟩
 refine calls_of_wp hf hb ?_
 have hul := hus.1
 have hs : SimE ⟨w, z, fun b => b < w.heap.size ∧ ¬ ok b, fun _ => False⟩ ⟨⟨nt, []⟩, nums 0 args, []⟩ { tmps := us.toArray ++ Array.replicate (fn.ntmps - us.toArray.size) undef, defers := [] } w := by
  refine ⟨z, ⟨rfl, rfl, rfl, Nat.le_refl _, fun _ _ _ => rfl⟩, by simp; omega, fun i hi => (by cases hi), rfl, fun t y e => ?_, fun i ob e => (by cases e), fun i ob e => (by cases e), fun i j ob ob' e => (by cases e), fun b hb => ⟨hb.1, fun h => h⟩⟩
  obtain ⟨_, h2⟩ := look_nums args 0 t y e
  rw [Nat.sub_zero] at h2
  have ht : t < us.length := by rw [hul]; exact (List.getElem?_eq_some_iff.1 h2).1
  have hu : us[t]? = some us[t] := List.getElem?_eq_getElem ht
  have hgd : (us.toArray ++ Array.replicate (fn.ntmps - us.toArray.size) undef).getD t undef = us[t] := by
   rw [Array.getD_eq_getD_getElem?, Array.getElem?_append_left (by simpa using ht)]
   simp [ht]
  show VR z w _ y ((us.toArray ++ Array.replicate (fn.ntmps - us.toArray.size) undef).getD t undef)
  rw [hgd]
  exact (hus.2 t y _ h2 hu).mov (fun b hb => ⟨⟨hok b hb, fun hx => hx.2 hb, fun i ob e => by cases e⟩, rfl⟩) (fun _ _ => ⟨rfl, rfl⟩)
 refine Code.wp_mono (fun e a' w' ⟨s', hq, hs'⟩ => ?_) (h.out _ _ _ hs)
 have fin : (∃ vs, ResVs P s' rs vs ∧ LeV s'.hp [] (fun _ => none) (tupA vs) r) → a'.defers = [] ∧ ∃ v, (results fn a'.tmps).run P w' = .ok v w' ∧ ∃ u, Ending.returned v = .returned u ∧ VR z w' (NewIn ok w w') r u ∧ Below w.heap.size w w' := by
  rintro ⟨vs, hvs, hlv⟩
  obtain ⟨z', hz'⟩ := hs'
  obtain ⟨us', h1, h2, h3⟩ := hvs.run hz'
  subst hrs
  have hrun : (fn.results.mapM fun (r : ResultVar) => (match r with | .tmp t => (pure (a'.tmps.getD t undef) : Sem Value) | .cell t T => do loadVar T (← asAddr (a'.tmps.getD t undef)))).run P w' = .ok us'.toArray w' := by
   rw [← Array.toArray_toList (xs := fn.results), List.mapM_toArray, map_eq_pure_bind, Sem.run_bind, h1]
   rfl
  have hbel : Below w.heap.size w w' := ⟨hz'.fr.os, hz'.fr.tape, hz'.fr.output, hz'.fr.size, fun b hb => hz'.fr.block b hb (fun h => h)⟩
  have hfin : VR z' w' (okB (fun b => b < w.heap.size ∧ ¬ ok b) z' s'.hp w') (tupA vs) (if h : us'.toArray.size = 1 then us'.toArray[0] else .tuple us'.toArray) := by
   by_cases h1' : us'.toArray.size = 1
   ·rw [dif_pos h1']
    have h1'' : us'.length = 1 := by simpa using h1'
    obtain ⟨u, rfl⟩ := List.length_eq_one_iff.1 h1''
    obtain ⟨v, rfl⟩ := List.length_eq_one_iff.1 (h2.symm.trans h1'')
    exact h3 0 v u rfl rfl
   ·rw [dif_neg h1']
    have h1'' : us'.length ≠ 1 := by simpa using h1'
    have : tupA vs = .tu vs := by
     unfold tupA
     split
     ·simp at h2; exact absurd h2 h1''
     ·rfl
    rw [this]
    exact .tu h2 h3
  have hres : (results fn a'.tmps).run P w' = .ok (if h : us'.toArray.size = 1 then us'.toArray[0] else .tuple us'.toArray) w' := by
   unfold results
   rw [Sem.run_bind]
   refine Eq.trans (congrArg (fun r => Result.andThen r _) hrun) ?_
   rfl
  refine ⟨hz'.df, _, hres, _, rfl, ?_, hbel⟩
  have := hlv.vr hz' (H1 := []) .nil hfin
  refine (this.mov (fun b hb => ⟨?_, rfl⟩) (fun i hi => by rw [noId_men i hr] at hi; cases hi))
  by_cases hbw : b < w.heap.size
  ·exact .inl (Classical.byContradiction fun hn => hb.2.1 ⟨hbw, hn⟩)
  ·exact .inr ⟨by omega, hb.1⟩
 cases hq with
 | n hq => exact fin hq.out
 | r hq => exact fin hq.out
end
end Go.Proofs.YtjbhiglaginpeaaGreat
namespace Go.Proofs.YtjbhiglaginpeaaGreat
open Go.RowKit
structure Ent where
 d : Option Nat
 v : AV
 nw : List (Nat × Ob)
 up : List (Nat × Ob)
 rm : List Nat
def keysO (l : List (Nat × Ob)) : List Nat := l.map (·.1)
def depsL : List Edge → List Nat
 | [] => []
 | e :: r => match Region.binds .any e with
   | true => e.on :: depsL r
   | false => depsL r
def depsOf (o : Oper) : List Nat := depsL o.after.toList
theorem mem_depsL {e : Edge} : ∀ {l : List Edge}, e ∈ l → Region.binds .any e = true → e.on ∈ depsL l
 | x :: r, h, hb => by
   rw [depsL]
   rcases List.mem_cons.1 h with h | h
   ·subst h; rw [hb]; exact List.mem_cons_self
   ·cases Region.binds .any x
    ·exact mem_depsL h hb
    ·exact List.mem_cons_of_mem _ (mem_depsL h hb)
theorem depsL_mem {k : Nat} : ∀ {l : List Edge}, k ∈ depsL l → ∃ e ∈ l, Region.binds .any e = true ∧ e.on = k
 | [], h => by cases h
 | x :: r, h => by
   rw [depsL] at h
   cases hb : Region.binds .any x with
   | true =>
     rw [hb] at h
     rcases List.mem_cons.1 h with h | h
     ·exact ⟨x, List.mem_cons_self, hb, h.symm⟩
     ·obtain ⟨e, h1, h2⟩ := depsL_mem h; exact ⟨e, List.mem_cons_of_mem _ h1, h2⟩
   | false =>
     rw [hb] at h
     obtain ⟨e, h1, h2⟩ := depsL_mem h; exact ⟨e, List.mem_cons_of_mem _ h1, h2⟩
def orL (ms : List Nat) : List Nat → Nat
 | [] => 0
 | k :: r => Nat.lor (Nat.lor (Nat.pow 2 k) (ms.getD k 0)) (orL ms r)
def masks : List Oper → List Nat → List Nat
 | [], acc => acc
 | o :: r, acc => masks r (acc ++ [orL acc (depsOf o)])
def bit (m i : Nat) : Bool := Nat.beq (Nat.land (Nat.shiftRight m i) 1) 1
theorem bit_test (m i : Nat) : bit m i = m.testBit i := by
 unfold bit
 rw [Nat.testBit]
 show Nat.beq ((m >>> i) &&& 1) 1 = (1 &&& (m >>> i) != 0)
 rw [Nat.and_comm, Nat.one_and_eq_mod_two]
 have := Nat.mod_two_eq_zero_or_one (m >>> i)
 rcases this with h | h <;> rw [h] <;> rfl
def anc (ms : List Nat) (j i : Nat) : Bool := bit (ms.getD j 0) i
def maskOk (ms : List Nat) : Nat → List Oper → Bool
 | _, [] => true
 | j, o :: r => ((depsOf o).all fun k => Nat.blt k j) && (Nat.beq (Nat.lor (orL ms (depsOf o)) (ms.getD j 0)) (orL ms (depsOf o)) && maskOk ms (j + 1) r)
theorem maskOk_get {ms : List Nat} : ∀ {l : List Oper} {j i : Nat} {o : Oper}, maskOk ms j l = true → l[i]? = some o → (∀ k ∈ depsOf o, k < j + i) ∧ Nat.lor (orL ms (depsOf o)) (ms.getD (j + i) 0) = orL ms (depsOf o)
 | [], _, _, _, _, h => by simp at h
 | x :: r, j, i, o, hm, h => by
   simp only [maskOk, Bool.and_eq_true, List.all_eq_true] at hm
   obtain ⟨h1, h2, h3⟩ := hm
   cases i with
   | zero =>
     simp only [List.getElem?_cons_zero, Option.some.injEq] at h
     subst h
     exact ⟨fun k hk => blt_lt (h1 k hk), Nat.eq_of_beq_eq_true h2⟩
   | succ i =>
     have := maskOk_get h3 (show r[i]? = some o by simpa using h)
     rwa [show j + 1 + i = j + (i + 1) by omega] at this
theorem orL_bit {ms : List Nat} {i : Nat} : ∀ {ds : List Nat}, (orL ms ds).testBit i = true → ∃ k ∈ ds, k = i ∨ (ms.getD k 0).testBit i = true
 | [], h => by simp [orL] at h
 | k :: r, h => by
   rw [orL] at h
   have h' : ((2 ^ k ||| ms.getD k 0) ||| orL ms r).testBit i = true := h
   rw [Nat.testBit_or, Nat.testBit_or, Bool.or_eq_true, Bool.or_eq_true] at h'
   rcases h' with (h' | h') | h'
   ·rw [Nat.testBit_two_pow] at h'
    exact ⟨k, List.mem_cons_self, .inl (by simpa using h')⟩
   ·exact ⟨k, List.mem_cons_self, .inr h'⟩
   ·obtain ⟨k', h1, h2⟩ := orL_bit h'
    exact ⟨k', List.mem_cons_of_mem _ h1, h2⟩
theorem anc_in {ms : List Nat} {l : List Oper} (hm : maskOk ms 0 l = true) {S : Nat → Prop} (hS : ∀ j o, S j → l[j]? = some o → ∀ k ∈ depsOf o, S k) : ∀ (j i : Nat) (o : Oper), l[j]? = some o → (∀ k ∈ depsOf o, S k) → anc ms j i = true → S i := by
 intro j
 induction j using Nat.strongRecOn with
 | _ j ih =>
   intro i o ho hd ha
   obtain ⟨h1, h2⟩ := maskOk_get hm ho
   rw [Nat.zero_add] at h1 h2
   unfold anc at ha
   rw [bit_test] at ha
   have h3 : (orL ms (depsOf o)).testBit i = true := by
    rw [← h2]
    show (orL ms (depsOf o) ||| ms.getD j 0).testBit i = true
    rw [Nat.testBit_or, ha, Bool.or_true]
   obtain ⟨k, hk, hk'⟩ := orL_bit h3
   rcases hk' with rfl | hk'
   ·exact hd _ hk
   ·have hlt := h1 k hk
    have hjl := (List.getElem?_eq_some_iff.1 ho).1
    have hok : l[k]? = some (l[k]'(by omega)) := List.getElem?_eq_getElem (by omega)
    exact ih k hlt i _ hok (hS k _ (hd k hk) hok) (by unfold anc; rw [bit_test]; exact hk')
def rmOf (rms : List (Nat × List Nat)) (j : Nat) : List Nat := match look rms j with
 | some l => l
 | none => []
def keepB (ms : List Nat) (rms : List (Nat × List Nat)) (j i : Nat) : Bool := rms.all fun p => Nat.beq p.1 j || (!memB i p.2 || anc ms p.1 j)
def keepL (ms : List Nat) (rms : List (Nat × List Nat)) (j : Nat) : List (Nat × Ob) → List (Nat × Ob)
 | [] => []
 | (i, ob) :: r => match keepB ms rms j i with
   | true => (i, ob) :: keepL ms rms j r
   | false => keepL ms rms j r
theorem look_keepL {ms : List Nat} {rms : List (Nat × List Nat)} {j i : Nat} {ob : Ob} : ∀ {l : List (Nat × Ob)}, look (keepL ms rms j l) i = some ob → look l i = some ob ∧ keepB ms rms j i = true
 | [], h => by cases h
 | (t, y) :: r, h => by
   rw [keepL] at h
   rw [look_cons]
   cases hk : keepB ms rms j t with
   | true =>
     rw [hk] at h
     simp only [] at h
     rw [look_cons] at h
     split at h
     ·rename_i ht
      subst ht
      rw [if_pos rfl]
      exact ⟨h, hk⟩
     ·rename_i ht
      rw [if_neg ht]
      exact look_keepL h
   | false =>
     rw [hk] at h
     simp only [] at h
     obtain ⟨h1, h2⟩ := look_keepL h
     rw [if_neg (fun e => by rw [e, h2] at hk; cases hk)]
     exact ⟨h1, h2⟩
def entE (done : List (Nat × Ent)) : List Nat → List (Nat × AV)
 | [] => []
 | k :: r => match look done k with
   | some e => match e.d with
     | some d => (d, e.v) :: entE done r
     | none => entE done r
   | none => entE done r
def entU (done : List (Nat × Ent)) : List Nat → List (Nat × Ob)
 | [] => []
 | k :: r => match look done k with
   | some e => e.up ++ entU done r
   | none => entU done r
def entH (done : List (Nat × Ent)) : List Nat → List (Nat × Ob)
 | [] => []
 | k :: r => match look done k with
   | some e => e.nw ++ entH done r
   | none => entH done r
def stD (ms : List Nat) (rms : List (Nat × List Nat)) (base : St) (done : List (Nat × Ent)) (j : Nat) (o : Oper) : St :=
 { nt := base.nt, env := entE done (depsOf o) ++ base.env, hp := keepL ms rms j (entU done (depsOf o) ++ (entH done (depsOf o) ++ base.hp)) }
def St.putO (s : St) (d : Option Nat) (v : AV) : St := match d with
 | some d => s.put d v
 | none => s
def OTg (P : Program) (ops : Array Oper) (o : Oper) (s : St) (d : Option Nat) (v : AV) (nw up : List (Nat × Ob)) (rm : List Nat) : Prop :=
 o.dst = d ∧ ∀ (x : Ctx) (s' : St) (a : Act) (w : World), s.le s' → (∀ t, d = some t → t < s'.nt.n) → (∀ i ob, (i, ob) ∈ nw → s'.free i) → SimE x s' a w →
  ∀ (K : Act → World → Prop) (Q : Exit → Act → World → Prop), (∀ a' w', SimE x ((((s'.rm rm).add nw).add up).putO d v) a' w' → K a' w') →
    if Region.wanted o (yielded ops a.tmps) then o.wp P a w K Q ∨ (o.asks P a w ∧ LetsOut Q) else K (a.put o.dst undef) w
section
variable {P : Program} {ops : Array Oper} {o : Oper} {s : St} {d : Nat} {v : AV} {nw : List (Nat × Ob)} {rm : List Nat}
theorem OTg.plain (hg : o.guard = none) (h : OT P o s d v nw rm) : OTg P ops o s (some d) v nw [] rm :=
 ⟨h.1, fun x s' a w hs hd hf hz K Q hK => by rw [if_pos (by simp [Region.wanted, hg])]; exact .inl (h.2 x s' a w hs (hd d rfl) hf hz K Q hK)⟩
theorem OTg.store {T n i p : Nat} {q r : Operand} {xs : List AV} {v : AV} [SzT P T n] (hg : o.guard = none) (hd : o.dst = none) (ho : o.op = .store T q r) (hq : s.ev q = some (.ptr i p)) (hr : s.ev r = some v) (hi : look s.hp i = some (.blk xs)) (hl : (cellsA v).length = n) (hn : Nat.blt 0 n = true) (hp : Nat.ble (p + n) xs.length = true) (hc : (cellsA v).all cellB = true) :
 OTg P ops o s none .un [] [(i, .blk (aput xs p (cellsA v)))] [] :=
 ⟨hd, fun x s' a w hs _ _ hz K Q hK => by rw [if_pos (by simp [Region.wanted, hg])]; exact .inl (SQ.store (s := s') hd ho (hs.ev hq) (hs.ev hr) (hs.hp _ _ hi) hl (blt_lt hn) (Nat.le_of_ble_eq_true hp) hc x a w hz K Q hK)⟩
theorem OTg.yes {g t : Nat} {b want : Bool} (hg : o.guard = some (g, want)) (hgd : (ops[g]?).bind (·.dst) = some t) (hb : look s.env t = some (.d (.sc (.bool b)))) (ht : Nat.blt t s.nt.n = true) (hw : b = want) (h : OT P o s d v nw rm) : OTg P ops o s (some d) v nw [] rm :=
 ⟨h.1, fun x s' a w hs hd hf hz K Q hK => by
   have hz0 := hz
   obtain ⟨z, hz1⟩ := hz0
   have hy := yielded_of hz1 hgd (hs.env t _ hb) (by rw [← hs.nt]; exact ht)
   rw [if_pos (by simp [Region.wanted, hg, hy, hw])]
   exact .inl (h.2 x s' a w hs (hd d rfl) hf hz K Q hK)⟩
theorem OTg.no {g t : Nat} {b want : Bool} (hdst : o.dst = some d) (hg : o.guard = some (g, want)) (hgd : (ops[g]?).bind (·.dst) = some t) (hb : look s.env t = some (.d (.sc (.bool b)))) (ht : Nat.blt t s.nt.n = true) (hw : b = !want) : OTg P ops o s (some d) (.tu []) [] [] [] :=
 ⟨hdst, fun x s' a w hs hd _ hz K _ hK => by
   obtain ⟨z, hz1⟩ := hz
   have hy := yielded_of hz1 hgd (hs.env t _ hb) (by rw [← hs.nt]; exact ht)
   rw [if_neg (by simp [Region.wanted, hg, hy, hw]), hdst]
   exact hK _ _ ⟨z, hz1.put (hd d rfl) undef_vr⟩⟩
theorem OTg.un {g t : Nat} {want : Bool} (hdst : o.dst = some d) (hg : o.guard = some (g, want)) (hgd : (ops[g]?).bind (·.dst) = some t) (hb : look s.env t = some (.tu [])) (ht : Nat.blt t s.nt.n = true) : OTg P ops o s (some d) (.tu []) [] [] [] :=
 ⟨hdst, fun x s' a w hs hd _ hz K _ hK => by
   obtain ⟨z, hz1⟩ := hz
   have hy := yielded_un hz1 hgd (hs.env t _ hb) (by rw [← hs.nt]; exact ht)
   rw [if_neg (by simp [Region.wanted, hg, hy]), hdst]
   exact hK _ _ ⟨z, hz1.put (hd d rfl) undef_vr⟩⟩
end
inductive RA (P : Program) (l : List Oper) (ms : List Nat) (rms : List (Nat × List Nat)) (base : St) : Nat → List Oper → List (Nat × Ent) → List (Nat × Ent) → Prop
 | nil {j : Nat} {rest : List Oper} {done : List (Nat × Ent)} : RA P l ms rms base j rest done done
 | cons {j : Nat} {d : Option Nat} {o : Oper} {rest : List Oper} {done fin : List (Nat × Ent)} {v : AV} {nw up : List (Nat × Ob)} {rm : List Nat} (h : OTg P l.toArray o (stD ms rms base done j o) d v nw up rm) (hrm : rmOf rms j = rm ++ keysO up) (t : RA P l ms rms base (j + 1) rest ((j, ⟨d, v, nw, up, rm⟩) :: done) fin) : RA P l ms rms base j (o :: rest) done fin
theorem entE_congr {done done' : List (Nat × Ent)} : ∀ {ds : List Nat}, (∀ k ∈ ds, look done k = look done' k) → entE done ds = entE done' ds
 | [], _ => rfl
 | k :: r, h => by rw [entE, entE, h k List.mem_cons_self, entE_congr (fun k' hk' => h k' (List.mem_cons_of_mem _ hk'))]
theorem entU_congr {done done' : List (Nat × Ent)} : ∀ {ds : List Nat}, (∀ k ∈ ds, look done k = look done' k) → entU done ds = entU done' ds
 | [], _ => rfl
 | k :: r, h => by rw [entU, entU, h k List.mem_cons_self, entU_congr (fun k' hk' => h k' (List.mem_cons_of_mem _ hk'))]
theorem entH_congr {done done' : List (Nat × Ent)} : ∀ {ds : List Nat}, (∀ k ∈ ds, look done k = look done' k) → entH done ds = entH done' ds
 | [], _ => rfl
 | k :: r, h => by rw [entH, entH, h k List.mem_cons_self, entH_congr (fun k' hk' => h k' (List.mem_cons_of_mem _ hk'))]
theorem RA.spec {P : Program} {l : List Oper} {ms : List Nat} {rms : List (Nat × List Nat)} {base : St} (hm : maskOk ms 0 l = true) {j : Nat} {rest : List Oper} {done fin : List (Nat × Ent)} (h : RA P l ms rms base j rest done fin) :
 (∀ i o, rest[i]? = some o → l[j + i]? = some o) → done.length = j → (∀ k e, look done k = some e → k < j) → (∀ k, k < j → ∃ e o, look done k = some e ∧ l[k]? = some o ∧ OTg P l.toArray o (stD ms rms base done k o) e.d e.v e.nw e.up e.rm ∧ rmOf rms k = e.rm ++ keysO e.up) →
 (∀ k e, look fin k = some e → k < fin.length) ∧ ∀ k, k < fin.length → ∃ e o, look fin k = some e ∧ l[k]? = some o ∧ OTg P l.toArray o (stD ms rms base fin k o) e.d e.v e.nw e.up e.rm ∧ rmOf rms k = e.rm ++ keysO e.up := by
 induction h with
 | nil => intro _ hl h1 h2; subst hl; exact ⟨h1, h2⟩
 | @cons j d o rest done fin v nw up rm h hrm t ih =>
   intro hr hl h1 h2
   have hlo : l[j]? = some o := hr 0 o rfl
   have key : ∀ k, k < j → look ((j, (⟨d, v, nw, up, rm⟩ : Ent)) :: done) k = look done k := fun k hk => by rw [look_cons, if_neg (by omega)]
   have hst : ∀ k o', k ≤ j → l[k]? = some o' → stD ms rms base ((j, ⟨d, v, nw, up, rm⟩) :: done) k o' = stD ms rms base done k o' := fun k o' hk ho' => by
    have hdep := (maskOk_get hm ho').1
    unfold stD
    rw [entE_congr (done' := done) (fun k' hk' => key k' (by have := hdep k' hk'; omega)), entU_congr (done' := done) (fun k' hk' => key k' (by have := hdep k' hk'; omega)), entH_congr (done' := done) (fun k' hk' => key k' (by have := hdep k' hk'; omega))]
   refine ih (fun i o' hi => by rw [show j + 1 + i = j + (i + 1) by omega]; exact hr (i + 1) o' hi) (by simp [hl]) (fun k e he => ?_) (fun k hk => ?_)
   ·rw [look_cons] at he
    split at he
    ·omega
    ·have := h1 k e he; omega
   ·by_cases hkj : k = j
    ·subst hkj
     exact ⟨_, o, by rw [look_cons, if_pos rfl], hlo, by rw [hst k o (Nat.le_refl _) hlo]; exact ⟨h, hrm⟩⟩
    ·obtain ⟨e, o', e1, e2, e3⟩ := h2 k (by omega)
     exact ⟨e, o', by rw [key k (by omega)]; exact e1, e2, by rw [hst k o' (by omega) e2]; exact e3⟩
def dOk (base : St) : Option Nat → Bool
 | none => true
 | some d => Nat.blt d base.nt.n && (match look base.env d with | none => true | some _ => false)
def dNe : Option Nat → Option Nat → Bool
 | some d, some d' => !Nat.beq d' d
 | _, _ => true
def entsB (ms : List Nat) (base : St) (fin : List (Nat × Ent)) : Bool := fin.all fun p =>
 dOk base p.2.d && (Nat.ble p.2.nw.length 1 && (Nat.ble p.2.up.length 1 && (p.2.nw.all (fun q => freeB base q.1) &&
  fin.all fun p' => Nat.beq p'.1 p.1 || (dNe p.2.d p'.2.d && (p.2.up.all (fun q => !memB q.1 (keysO p'.2.up)) && p.2.nw.all (fun q => !(memB q.1 (keysO p'.2.nw)) && (((!(men q.1 p'.2.v) && (p'.2.nw.all (fun r => !(r.2.men q.1)) && p'.2.up.all (fun r => !(Nat.beq r.1 q.1) && !(r.2.men q.1)))) || anc ms p'.1 p.1))))))))
theorem entsB_spec {ms : List Nat} {base : St} {fin : List (Nat × Ent)} (h : entsB ms base fin = true) {k : Nat} {e : Ent} (he : look fin k = some e) :
 (∀ d, e.d = some d → d < base.nt.n ∧ look base.env d = none) ∧ e.nw.length ≤ 1 ∧ e.up.length ≤ 1 ∧ (∀ i ob, (i, ob) ∈ e.nw → base.free i) ∧
   ∀ k' e', look fin k' = some e' → k' ≠ k → (∀ d, e.d = some d → e'.d ≠ some d) ∧ (∀ i ob, (i, ob) ∈ e.up → ∀ ob', (i, ob') ∉ e'.up) ∧
     ∀ i ob, (i, ob) ∈ e.nw → (∀ ob', (i, ob') ∉ e'.nw) ∧ ((men i e'.v = false ∧ (∀ i' ob', (i', ob') ∈ e'.nw → ob'.men i = false) ∧ ∀ i' ob', (i', ob') ∈ e'.up → i' ≠ i ∧ ob'.men i = false) ∨ anc ms k' k = true) := by
 have := List.all_eq_true.1 h _ (look_mem he)
 simp only [Bool.and_eq_true] at this
 obtain ⟨h1, h2, h3, h4, h5⟩ := this
 refine ⟨fun d hd => ?_, Nat.le_of_ble_eq_true h2, Nat.le_of_ble_eq_true h3, fun i ob hi => freeB_spec (List.all_eq_true.1 h4 _ hi), fun k' e' he' hne => ?_⟩
 ·rw [hd] at h1
  simp only [dOk, Bool.and_eq_true] at h1
  refine ⟨blt_lt h1.1, ?_⟩
  have h9 := h1.2
  revert h9
  cases look base.env d <;> simp
 ·have h6 := List.all_eq_true.1 h5 _ (look_mem he')
  rw [Bool.or_eq_true] at h6
  rcases h6 with h6 | h6
  ·exact absurd (Nat.eq_of_beq_eq_true h6) hne
  ·rw [Bool.and_eq_true, Bool.and_eq_true] at h6
   obtain ⟨h7, h8, h9⟩ := h6
   have memk : ∀ {i : Nat} {ob' : Ob} {l : List (Nat × Ob)}, (i, ob') ∈ l → memB i (keysO l) = true := fun {i ob' l} hm => memB_iff.2 (List.mem_map.2 ⟨(i, ob'), hm, rfl⟩)
   refine ⟨fun d hd e0 => ?_, fun i ob hi ob' hm => ?_, fun i ob hi => ?_⟩
   ·rw [hd, e0] at h7; simp [dNe] at h7
   ·have := List.all_eq_true.1 h8 _ hi
    rw [memk hm] at this; cases this
   ·have h9 := List.all_eq_true.1 h9 _ hi
    rw [Bool.and_eq_true, Bool.or_eq_true, Bool.and_eq_true, Bool.and_eq_true] at h9
    obtain ⟨g1, g2⟩ := h9
    refine ⟨fun ob' hm => (by rw [memk hm] at g1; cases g1), ?_⟩
    rcases g2 with ⟨g2, g3, g4⟩ | g2
    ·left
     refine ⟨by simpa using g2, fun i' ob' hm => by simpa using List.all_eq_true.1 g3 _ hm, fun i' ob' hm => ?_⟩
     have := List.all_eq_true.1 g4 _ hm
     rw [Bool.and_eq_true] at this
     exact ⟨fun e => by rw [e] at this; simp at this, by simpa using this.2⟩
    ·exact .inr g2
def rmsOf (fin : List (Nat × Ent)) (k : Nat) : List Nat := match look fin k with
 | some e => e.rm
 | none => []
def stJ (base : St) (fin : List (Nat × Ent)) (js : List Nat) : St :=
 { nt := base.nt, env := entE fin js ++ base.env, hp := rmL (js.flatMap (rmsOf fin)) (entU fin js ++ (entH fin js ++ base.hp)) }
theorem look_app {α : Type} (t : Nat) : ∀ (l l' : List (Nat × α)), look (l ++ l') t = match look l t with | some x => some x | none => look l' t
 | [], l' => rfl
 | (k, x) :: r, l' => by
   rw [List.cons_append, look_cons, look_cons]
   split
   ·rfl
   ·exact look_app t r l'
theorem look_entE {fin : List (Nat × Ent)} {t : Nat} {y : AV} : ∀ {js : List Nat}, look (entE fin js) t = some y → ∃ k ∈ js, ∃ e, look fin k = some e ∧ e.d = some t ∧ e.v = y
 | [], h => by cases h
 | k :: r, h => by
   rw [entE] at h
   cases hk : look fin k with
   | none => rw [hk] at h; obtain ⟨k', h1, h2⟩ := look_entE h; exact ⟨k', List.mem_cons_of_mem _ h1, h2⟩
   | some e =>
     rw [hk] at h
     simp only [] at h
     cases hd : e.d with
     | none =>
       rw [hd] at h
       obtain ⟨k', h1, h2⟩ := look_entE h
       exact ⟨k', List.mem_cons_of_mem _ h1, h2⟩
     | some d =>
       rw [hd] at h
       simp only [] at h
       rw [look_cons] at h
       split at h
       ·rename_i ht
        injection h with h
        exact ⟨k, List.mem_cons_self, e, hk, by rw [hd, ht], h⟩
       ·obtain ⟨k', h1, h2⟩ := look_entE h
        exact ⟨k', List.mem_cons_of_mem _ h1, h2⟩
theorem look_entE_of {fin : List (Nat × Ent)} {k t : Nat} {e : Ent} (he : look fin k = some e) (ht : e.d = some t) (hd : ∀ k' e', look fin k' = some e' → k' ≠ k → e'.d ≠ some t) : ∀ {js : List Nat}, k ∈ js → look (entE fin js) t = some e.v
 | [], h => by cases h
 | j :: r, h => by
   rw [entE]
   by_cases hj : j = k
   ·subst hj
    rw [he]
    simp only []
    rw [ht]
    simp only []
    rw [look_cons, if_pos rfl]
   ·have hr : k ∈ r := by rcases List.mem_cons.1 h with h | h; exact absurd h.symm hj; exact h
    cases hk : look fin j with
    | none => exact look_entE_of he ht hd hr
    | some e' =>
      simp only []
      cases hd' : e'.d with
      | none => exact look_entE_of he ht hd hr
      | some d' =>
        simp only []
        rw [look_cons, if_neg (fun e0 => hd j e' hk hj (by rw [hd', e0]))]
        exact look_entE_of he ht hd hr
theorem look_entE_none {fin : List (Nat × Ent)} {t : Nat} (hd : ∀ k e, look fin k = some e → e.d ≠ some t) {js : List Nat} : look (entE fin js) t = none := by
 cases h : look (entE fin js) t with
 | none => rfl
 | some y => obtain ⟨k, _, e, h1, h2, _⟩ := look_entE h; exact absurd h2 (hd k e h1)
theorem look_entH {fin : List (Nat × Ent)} {i : Nat} {ob : Ob} : ∀ {js : List Nat}, look (entH fin js) i = some ob → ∃ k ∈ js, ∃ e, look fin k = some e ∧ (i, ob) ∈ e.nw
 | [], h => by cases h
 | k :: r, h => by
   rw [entH] at h
   cases hk : look fin k with
   | none => rw [hk] at h; obtain ⟨k', h1, h2⟩ := look_entH h; exact ⟨k', List.mem_cons_of_mem _ h1, h2⟩
   | some e =>
     rw [hk] at h
     simp only [] at h
     rw [look_app] at h
     cases hl : look e.nw i with
     | some x =>
       rw [hl] at h
       injection h with h
       subst h
       exact ⟨k, List.mem_cons_self, e, hk, look_mem hl⟩
     | none =>
       rw [hl] at h
       obtain ⟨k', h1, h2⟩ := look_entH h
       exact ⟨k', List.mem_cons_of_mem _ h1, h2⟩
theorem look_entU {fin : List (Nat × Ent)} {i : Nat} {ob : Ob} : ∀ {js : List Nat}, look (entU fin js) i = some ob → ∃ k ∈ js, ∃ e, look fin k = some e ∧ (i, ob) ∈ e.up
 | [], h => by cases h
 | k :: r, h => by
   rw [entU] at h
   cases hk : look fin k with
   | none => rw [hk] at h; obtain ⟨k', h1, h2⟩ := look_entU h; exact ⟨k', List.mem_cons_of_mem _ h1, h2⟩
   | some e =>
     rw [hk] at h
     simp only [] at h
     rw [look_app] at h
     cases hl : look e.up i with
     | some x =>
       rw [hl] at h
       injection h with h
       subst h
       exact ⟨k, List.mem_cons_self, e, hk, look_mem hl⟩
     | none =>
       rw [hl] at h
       obtain ⟨k', h1, h2⟩ := look_entU h
       exact ⟨k', List.mem_cons_of_mem _ h1, h2⟩
theorem look_one {α : Type} {l : List (Nat × α)} {i : Nat} {x : α} (hl : l.length ≤ 1) (h : (i, x) ∈ l) : look l i = some x := by
 match l, hl, h with
 | [(j, y)], _, h =>
   simp only [List.mem_singleton, Prod.mk.injEq] at h
   obtain ⟨rfl, rfl⟩ := h
   rw [look_cons, if_pos rfl]
 | [], _, h => cases h
theorem look_none_of {α : Type} {l : List (Nat × α)} {i : Nat} (h : ∀ x, (i, x) ∉ l) : look l i = none := by
 cases hl : look l i with
 | none => rfl
 | some x => exact absurd (look_mem hl) (h x)
theorem look_entH_of {fin : List (Nat × Ent)} {k i : Nat} {ob : Ob} {e : Ent} (he : look fin k = some e) (h1 : e.nw.length ≤ 1) (hi : (i, ob) ∈ e.nw) (hd : ∀ k' e', look fin k' = some e' → k' ≠ k → ∀ ob', (i, ob') ∉ e'.nw) : ∀ {js : List Nat}, k ∈ js → look (entH fin js) i = some ob
 | [], h => by cases h
 | j :: r, h => by
   rw [entH]
   by_cases hj : j = k
   ·subst hj
    rw [he]
    simp only []
    rw [look_app, look_one h1 hi]
   ·have hr : k ∈ r := by rcases List.mem_cons.1 h with h | h; exact absurd h.symm hj; exact h
    cases hk : look fin j with
    | none => exact look_entH_of he h1 hi hd hr
    | some e' =>
      simp only []
      rw [look_app, look_none_of (hd j e' hk hj)]
      exact look_entH_of he h1 hi hd hr
theorem look_entU_of {fin : List (Nat × Ent)} {k i : Nat} {ob : Ob} {e : Ent} (he : look fin k = some e) (h1 : e.up.length ≤ 1) (hi : (i, ob) ∈ e.up) (hd : ∀ k' e', look fin k' = some e' → k' ≠ k → ∀ ob', (i, ob') ∉ e'.up) : ∀ {js : List Nat}, k ∈ js → look (entU fin js) i = some ob
 | [], h => by cases h
 | j :: r, h => by
   rw [entU]
   by_cases hj : j = k
   ·subst hj
    rw [he]
    simp only []
    rw [look_app, look_one h1 hi]
   ·have hr : k ∈ r := by rcases List.mem_cons.1 h with h | h; exact absurd h.symm hj; exact h
    cases hk : look fin j with
    | none => exact look_entU_of he h1 hi hd hr
    | some e' =>
      simp only []
      rw [look_app, look_none_of (hd j e' hk hj)]
      exact look_entU_of he h1 hi hd hr
section
variable {P : Program} {l : List Oper} {ms : List Nat} {rms : List (Nat × List Nat)} {base : St} {fin : List (Nat × Ent)}
theorem mem_rmOf {k i : Nat} {r : List (Nat × List Nat)} (h : i ∈ rmOf r k) : ∃ is, (k, is) ∈ r ∧ i ∈ is := by
 unfold rmOf at h
 split at h
 ·rename_i is e; exact ⟨is, look_mem e, h⟩
 ·cases h
def TchOk (rms : List (Nat × List Nat)) (fin : List (Nat × Ent)) : Prop := ∀ k e, look fin k = some e → rmOf rms k = e.rm ++ keysO e.up
theorem TchOk.rm (h : TchOk rms fin) {k : Nat} {e : Ent} (he : look fin k = some e) {i : Nat} (hi : i ∈ e.rm) : i ∈ rmOf rms k := by rw [h k e he]; exact List.mem_append_left _ hi
theorem TchOk.up (h : TchOk rms fin) {k : Nat} {e : Ent} (he : look fin k = some e) {i : Nat} {ob : Ob} (hi : (i, ob) ∈ e.up) : i ∈ rmOf rms k := by rw [h k e he]; exact List.mem_append_right _ (List.mem_map.2 ⟨(i, ob), hi, rfl⟩)
theorem kept_touch {j i k : Nat} (hk : keepB ms rms j i = true) (hm : i ∈ rmOf rms k) : k = j ∨ anc ms k j = true := by
 obtain ⟨is, h1, h2⟩ := mem_rmOf hm
 have h3 := List.all_eq_true.1 hk _ h1
 simp only [Bool.or_eq_true, Bool.not_eq_true'] at h3
 rcases h3 with h3 | h3 | h3
 ·exact .inl (Nat.eq_of_beq_eq_true h3)
 ·rw [memB_iff.2 h2] at h3; cases h3
 ·exact .inr h3
theorem stD_le (hB : entsB ms base fin = true) (hT : TchOk rms fin) {js : List Nat} (hanc : ∀ k ∈ js, ∀ i, anc ms k i = true → i ∈ js) {j : Nat} {o : Oper} (hj : j ∉ js) (hdep : ∀ k ∈ depsOf o, k ∈ js) : (stD ms rms base fin j o).le (stJ base fin js) := by
 refine ⟨rfl, fun t y e => ?_, fun i ob e => ?_⟩
 ·simp only [stD, stJ] at e ⊢
  rw [look_app] at e ⊢
  cases h : look (entE fin (depsOf o)) t with
  | some y' =>
    rw [h] at e
    injection e with e
    subst e
    obtain ⟨k, hk, en, h1, h2, rfl⟩ := look_entE h
    rw [look_entE_of h1 h2 (fun k' e' h' hne => ((entsB_spec hB h1).2.2.2.2 k' e' h' hne).1 t h2) (hdep k hk)]
  | none =>
    rw [h] at e
    simp only [] at e
    rw [look_entE_none (fun k en hk hd => by rw [((entsB_spec hB hk).1 t hd).2] at e; cases e)]
    exact e
 ·simp only [stD, stJ] at e ⊢
  obtain ⟨e1, e2⟩ := look_keepL e
  have notouch : ∀ k ∈ js, i ∉ rmOf rms k := fun k hk hm => by
   rcases kept_touch e2 hm with h | h
   ·exact hj (h ▸ hk)
   ·exact hj (hanc k hk j h)
  have noup : ∀ {l : List Nat}, (∀ k ∈ l, k ∈ js) → look (entU fin l) i = none := fun {l} hl => by
   cases h : look (entU fin l) i with
   | none => rfl
   | some ob' =>
     obtain ⟨k, hk, en, h1, h2⟩ := look_entU h
     exact absurd (hT.up h1 h2) (notouch k (hl k hk))
  rw [look_rmL, if_neg]
  ·rw [look_app, noup hdep] at e1
   simp only [] at e1
   rw [look_app, noup (fun _ h => h)]
   simp only []
   rw [look_app] at e1 ⊢
   cases h : look (entH fin (depsOf o)) i with
   | some ob' =>
     rw [h] at e1
     injection e1 with e1
     subst e1
     obtain ⟨k, hk, en, h1, h2⟩ := look_entH h
     obtain ⟨_, g3, _, _, g5⟩ := entsB_spec hB h1
     rw [look_entH_of h1 g3 h2 (fun k' e' h' hne ob'' => ((g5 k' e' h' hne).2.2 i ob' h2).1 ob'') (hdep k hk)]
   | none =>
     rw [h] at e1
     simp only [] at e1
     cases h3 : look (entH fin js) i with
     | none => exact e1
     | some ob'' =>
       obtain ⟨k, _, en, h1, h2⟩ := look_entH h3
       exact absurd rfl (((entsB_spec hB h1).2.2.2.1 i ob'' h2).2.2 i ob e1).1
  ·intro hm
   obtain ⟨k, hk, hik⟩ := List.mem_flatMap.1 hm
   unfold rmsOf at hik
   cases hl : look fin k with
   | none => rw [hl] at hik; cases hik
   | some en => rw [hl] at hik; exact notouch k hk (hT.rm hl hik)
theorem stJ_free (hB : entsB ms base fin = true) {js : List Nat} (hanc : ∀ k ∈ js, ∀ i, anc ms k i = true → i ∈ js) {j : Nat} {e : Ent} (he : look fin j = some e) (hj : j ∉ js) {i : Nat} {ob : Ob} (hi : (i, ob) ∈ e.nw) : (stJ base fin js).free i := by
 obtain ⟨_, _, _, g4, g5⟩ := entsB_spec hB he
 obtain ⟨b0, b1, b2⟩ := g4 i ob hi
 have key : ∀ k ∈ js, ∀ en, look fin k = some en → (∀ ob', (i, ob') ∉ en.nw) ∧ men i en.v = false ∧ (∀ i' ob', (i', ob') ∈ en.nw → ob'.men i = false) ∧ ∀ i' ob', (i', ob') ∈ en.up → i' ≠ i ∧ ob'.men i = false := fun k hk en h1 => by
  have hne : k ≠ j := fun e => hj (e ▸ hk)
  obtain ⟨h2, h3⟩ := (g5 k en h1 hne).2.2 i ob hi
  rcases h3 with h3 | h3
  ·exact ⟨h2, h3⟩
  ·exact absurd (hanc k hk j h3) hj
 refine ⟨b0, fun t y h => ?_, fun k ob' h => ?_⟩
 ·simp only [stJ] at h
  rw [look_app] at h
  cases h' : look (entE fin js) t with
  | some y' =>
    rw [h'] at h
    injection h with h
    subst h
    obtain ⟨k, hk, en, h1, _, rfl⟩ := look_entE h'
    exact (key k hk en h1).2.1
  | none =>
    rw [h'] at h
    exact b1 t y h
 ·simp only [stJ] at h
  rw [look_rmL] at h
  split at h
  ·cases h
  ·rw [look_app] at h
   cases h' : look (entU fin js) k with
   | some y' =>
     rw [h'] at h
     injection h with h
     subst h
     obtain ⟨k', hk, en, h1, h2⟩ := look_entU h'
     exact (key k' hk en h1).2.2.2 k y' h2
   | none =>
     rw [h'] at h
     simp only [] at h
     rw [look_app] at h
     cases h3 : look (entH fin js) k with
     | some y' =>
       rw [h3] at h
       injection h with h
       subst h
       obtain ⟨k', hk, en, h1, h2⟩ := look_entH h3
       exact ⟨fun e => (key k' hk en h1).1 _ (e ▸ h2), (key k' hk en h1).2.2.1 k y' h2⟩
     | none =>
       rw [h3] at h
       exact b2 k ob' h
theorem stJ_step (hB : entsB ms base fin = true) {js : List Nat} (hanc : ∀ k ∈ js, ∀ i, anc ms k i = true → i ∈ js) {j : Nat} {e : Ent} (he : look fin j = some e) (hj : j ∉ js) : (stJ base fin (j :: js)).le (((((stJ base fin js).rm e.rm).add e.nw).add e.up).putO e.d e.v) := by
 have hhp : ∀ i ob, look (rmL ((j :: js).flatMap (rmsOf fin)) (entU fin (j :: js) ++ (entH fin (j :: js) ++ base.hp))) i = some ob → look (e.up ++ (e.nw ++ rmL e.rm (rmL (js.flatMap (rmsOf fin)) (entU fin js ++ (entH fin js ++ base.hp))))) i = some ob := fun i ob h => by
  simp only [entU, entH, he, List.flatMap_cons] at h
  have hrm : rmsOf fin j = e.rm := by unfold rmsOf; rw [he]
  rw [hrm, look_rmL] at h
  split at h
  ·cases h
  ·rename_i hn
   rw [List.mem_append] at hn
   rw [List.append_assoc, look_app] at h
   rw [look_app]
   cases hl : look e.up i with
   | some x => rw [hl] at h; exact h
   | none =>
     rw [hl] at h
     simp only [] at h ⊢
     rw [look_app] at h
     rw [look_app]
     cases hnw : look e.nw i with
     | some x =>
       simp only []
       have hu : look (entU fin js) i = none := by
        cases h' : look (entU fin js) i with
        | none => rfl
        | some ob' =>
          obtain ⟨k, hk, en, h1, h2⟩ := look_entU h'
          have hne : k ≠ j := fun e => hj (e ▸ hk)
          rcases (((entsB_spec hB he).2.2.2.2 k en h1 hne).2.2 i x (look_mem hnw)).2 with h3 | h3
          ·exact absurd rfl (h3.2.2 i ob' h2).1
          ·exact absurd (hanc k hk j h3) hj
       rw [hu] at h
       simp only [] at h
       rw [List.append_assoc, look_app, hnw] at h
       exact h
     | none =>
       simp only []
       rw [look_rmL, if_neg (fun h' => hn (.inl h')), look_rmL, if_neg (fun h' => hn (.inr h')), look_app]
       cases hu : look (entU fin js) i with
       | some x => rw [hu] at h; exact h
       | none =>
         rw [hu] at h
         simp only [] at h ⊢
         rw [List.append_assoc, look_app, hnw] at h
         exact h
 cases hd : e.d with
 | none =>
   refine ⟨rfl, fun t y h => ?_, hhp⟩
   simp only [stJ, entE, he, hd] at h
   exact h
 | some d =>
   refine ⟨rfl, fun t y h => ?_, hhp⟩
   simp only [stJ, entE, he, hd] at h
   exact h
def stF (base : St) (fin : List (Nat × Ent)) : St := stJ base fin (fin.map (·.1))
theorem stF_le (hB : entsB ms base fin = true) {js : List Nat} (hall : ∀ k, (∃ e, look fin k = some e) ↔ k ∈ js) : (stF base fin).le (stJ base fin js) := by
 refine ⟨rfl, fun t y h => ?_, fun i ob h => ?_⟩
 ·simp only [stF, stJ] at h ⊢
  rw [look_app] at h ⊢
  cases h' : look (entE fin (fin.map (·.1))) t with
  | some y' =>
    rw [h'] at h
    injection h with h
    subst h
    obtain ⟨k, _, en, h1, h2, rfl⟩ := look_entE h'
    rw [look_entE_of h1 h2 (fun k' e' h3 hne => ((entsB_spec hB h1).2.2.2.2 k' e' h3 hne).1 t h2) ((hall k).1 ⟨en, h1⟩)]
  | none =>
    rw [h'] at h
    simp only [] at h
    rw [look_entE_none (fun k en hk hd => by rw [((entsB_spec hB hk).1 t hd).2] at h; cases h)]
    exact h
 ·simp only [stF, stJ] at h ⊢
  rw [look_rmL] at h ⊢
  split at h
  ·cases h
  ·rename_i hn
   rw [if_neg (fun hm => by
    obtain ⟨k, hk, hik⟩ := List.mem_flatMap.1 hm
    obtain ⟨e, he⟩ := (hall k).2 hk
    exact hn (List.mem_flatMap.2 ⟨k, List.mem_map.2 ⟨(k, e), look_mem he, rfl⟩, hik⟩))]
   rw [look_app] at h ⊢
   cases h' : look (entU fin (fin.map (·.1))) i with
   | some ob' =>
     rw [h'] at h
     injection h with h
     subst h
     obtain ⟨k, _, en, h1, h2⟩ := look_entU h'
     obtain ⟨_, _, g3, _, g5⟩ := entsB_spec hB h1
     rw [look_entU_of h1 g3 h2 (fun k' e' h3 hne ob'' => (g5 k' e' h3 hne).2.1 i ob' h2 ob'') ((hall k).1 ⟨en, h1⟩)]
   | none =>
     rw [h'] at h
     simp only [] at h
     have hu : look (entU fin js) i = none := by
      cases h3 : look (entU fin js) i with
      | none => rfl
      | some ob' =>
        obtain ⟨k, _, en, h1, h2⟩ := look_entU h3
        obtain ⟨_, _, g3, _, g5⟩ := entsB_spec hB h1
        rw [look_entU_of h1 g3 h2 (fun k' e' h3 hne ob'' => (g5 k' e' h3 hne).2.1 i ob' h2 ob'') (List.mem_map.2 ⟨(k, en), look_mem h1, rfl⟩)] at h'
        cases h'
     rw [hu]
     simp only []
     rw [look_app] at h ⊢
     cases h4 : look (entH fin (fin.map (·.1))) i with
     | some ob' =>
       rw [h4] at h
       injection h with h
       subst h
       obtain ⟨k, _, en, h1, h2⟩ := look_entH h4
       obtain ⟨_, g3, _, _, g5⟩ := entsB_spec hB h1
       rw [look_entH_of h1 g3 h2 (fun k' e' h3 hne ob'' => ((g5 k' e' h3 hne).2.2 i ob' h2).1 ob'') ((hall k).1 ⟨en, h1⟩)]
     | none =>
       rw [h4] at h
       simp only [] at h
       cases h3 : look (entH fin js) i with
       | none => exact h
       | some ob' =>
         obtain ⟨k, _, en, h1, h2⟩ := look_entH h3
         exact absurd rfl (((entsB_spec hB h1).2.2.2.1 i ob' h2).2.2 i ob h).1
theorem nodup_len : ∀ {l l' : List Nat}, l.Nodup → (∀ x ∈ l, x ∈ l') → l.length ≤ l'.length
 | [], _, _, _ => Nat.zero_le _
 | a :: r, l', h, hs => by
   obtain ⟨h1, h2⟩ := List.nodup_cons.1 h
   have ha := hs a List.mem_cons_self
   have := nodup_len (l' := l'.erase a) h2 (fun x hx => (List.mem_erase_of_ne (fun (e : x = a) => h1 (by rw [← e]; exact hx))).2 (hs x (List.mem_cons_of_mem _ hx)))
   rw [List.length_erase_of_mem ha] at this
   have := List.length_pos_of_mem ha
   simp only [List.length_cons]
   omega
def tailB (ms : List Nat) (n N : Nat) : Bool := (List.range N).all fun t => Nat.blt t n || (List.range n).all fun i => anc ms t i
def listedN (N n : Nat) : Array Bool := ((List.range N).map fun i => Nat.blt i n).toArray
theorem blt_iff {a b : Nat} : Nat.blt a b = true ↔ a < b := ⟨blt_lt, fun h => Nat.ble_eq_true_of_le h⟩
theorem draw_any {Q : Exit → St → Prop} {x : Ctx} (hm : maskOk ms 0 l = true) (hB : entsB ms base fin = true) (hTc : TchOk rms fin) (hT : tailB ms fin.length l.length = true) (hS : Region.seqB .any l.toArray (l.length - fin.length) fin.length (listedN l.length fin.length) = true) (hn : fin.length ≤ l.length)
 (h1 : ∀ k e, look fin k = some e → k < fin.length) (h2 : ∀ k, k < fin.length → ∃ e o, look fin k = some e ∧ l[k]? = some o ∧ OTg P l.toArray o (stD ms rms base fin k o) e.d e.v e.nw e.up e.rm ∧ rmOf rms k = e.rm ++ keysO e.up)
 (htail : WL P l.toArray (l.drop fin.length) (stF base fin) Q) :
 ∀ (f : Nat) (js : List Nat) (listed : Array Bool) (a : Act) (w : World), f = fin.length - js.length → js.Nodup → (∀ k ∈ js, k < fin.length) → listed.size = l.length → (∀ k, k < l.length → (listed.getD k false = true ↔ k ∈ js)) →
   (∀ j o, j ∈ js → l[j]? = some o → ∀ k ∈ depsOf o, k ∈ js) → SimE x (stJ base fin js) a w → wpAny P .any l.toArray (lift x Q) (f + (l.length - fin.length)) listed a w := by
 intro f
 induction f with
 | zero =>
   intro js listed a w hf hnd hlt hsz hls hcl hsim
   have hall : ∀ k, k < fin.length → k ∈ js := fun k hk => by
    have hsub : js.length = fin.length := Nat.le_antisymm (by
     have := nodup_len hnd (fun k hk => List.mem_range.2 (hlt k hk))
     simpa using this) (by omega)
    by_cases hin : k ∈ js
    ·exact hin
    ·have := nodup_len (List.nodup_cons.2 ⟨hin, hnd⟩) (l' := List.range fin.length) (fun k' hk' => by
      rcases List.mem_cons.1 hk' with h | h
      ·subst h; exact List.mem_range.2 hk
      ·exact List.mem_range.2 (hlt k' h))
     simp at this
     omega
   have hl : listed = listedN l.length fin.length := by
    apply Array.ext
    ·simp [listedN, hsz]
    ·intro i hi1 hi2
     have hi : i < l.length := by omega
     have h3 := hls i hi
     have h4 : listed.getD i false = listed[i] := by simp [hi1]
     rw [h4] at h3
     have h5 : (listedN l.length fin.length)[i] = Nat.blt i fin.length := by simp [listedN]
     rw [h5, Bool.eq_iff_iff, h3, blt_iff]
     exact ⟨hlt i, hall i⟩
   rw [hl, Nat.zero_add]
   have hdl : (l.drop fin.length).length = l.length - fin.length := by simp
   have := wpAny_of_seq (P := P) (md := .any) (ops := l.toArray) (Q' := lift x Q) (l.drop fin.length) fin.length (listedN l.length fin.length) a w (fun j => by simp [List.getElem?_drop]) (by rw [hdl]; exact hS)
    (htail.out x a w (hsim.weak (stF_le hB (fun k => ⟨fun ⟨e, he⟩ => hall k (h1 k e he), fun hk => by obtain ⟨e, _, he, _, _⟩ := h2 k (hlt k hk); exact ⟨e, he⟩⟩))))
   rwa [hdl] at this
 | succ f ih =>
   intro js listed a w hf hnd hlt hsz hls hcl hsim
   have hanc : ∀ k ∈ js, ∀ i, anc ms k i = true → i ∈ js := fun k hk i hi => by
    obtain ⟨e, o, _, ho, _, _⟩ := h2 k (hlt k hk)
    exact anc_in hm (S := (· ∈ js)) hcl k i o ho (hcl k o hk ho) hi
   have hls' : ∀ k, listed.getD k false = true ↔ k ∈ js := fun k => by
    by_cases hk : k < l.length
    ·exact hls k hk
    ·constructor
     ·intro h
      have : listed.getD k false = false := by
       rw [Array.getD_eq_getD_getElem?, Array.getElem?_eq_none (by omega)]
       rfl
      rw [this] at h; cases h
     ·intro h; have := hlt k h; omega
   rw [show f + 1 + (l.length - fin.length) = (f + (l.length - fin.length)) + 1 by omega]
   refine ⟨fun hr => ?_, fun i hi => ?_⟩
   ·exfalso
    have hex : ∃ k, k < fin.length ∧ k ∉ js := by
     apply Classical.byContradiction
     intro hno
     have hsub : (List.range fin.length).length ≤ js.length := nodup_len List.nodup_range (fun k hk => Classical.byContradiction fun hk' => hno ⟨k, List.mem_range.1 hk, hk'⟩)
     simp at hsub
     omega
    have hmin : ∀ n k, k < n → k < fin.length → k ∉ js → ∃ k, k < fin.length ∧ k ∉ js ∧ ∀ k', k' < k → k' ∈ js := by
     intro n
     induction n with
     | zero => intro k h; omega
     | succ n ihn =>
       intro k hk hkf hkj
       by_cases hall : ∀ k', k' < k → k' ∈ js
       ·exact ⟨k, hkf, hkj, hall⟩
       ·obtain ⟨k', hk'⟩ := Classical.not_forall.1 hall
        obtain ⟨hk1, hk2⟩ := Classical.not_imp.1 hk'
        exact ihn k' (by omega) (by omega) hk2
    obtain ⟨k0, hk0, hk0'⟩ := hex
    obtain ⟨k, hk, hkj, hkm⟩ := hmin (k0 + 1) k0 (by omega) hk0 hk0'
    obtain ⟨e, o, _, ho, _, _⟩ := h2 k hk
    have hmem : k ∈ Region.ready .any l.toArray listed := by
     refine mem_ready.2 ⟨?_, o, by simpa using ho, fun ed hed hb => ?_⟩
     ·have hkl : k < listed.size := by omega
      have h3 := hls' k
      have h4 : listed.getD k true = listed.getD k false := by simp [hkl]
      rw [h4]
      cases h5 : listed.getD k false with
      | false => rfl
      | true => exact absurd (h3.1 h5) hkj
     ·refine (hls' ed.on).2 (hkm _ ?_)
      have := (maskOk_get hm ho).1 ed.on (mem_depsL (by simpa using hed) hb)
      omega
    rw [hr] at hmem
    cases hmem
   ·obtain ⟨hun, o, ho, hdep⟩ := mem_ready.1 hi
    have hol : l[i]? = some o := by simpa using ho
    have hil : i < l.length := (List.getElem?_eq_some_iff.1 hol).1
    have hij : i ∉ js := fun h => by
     have h3 := (hls' i).2 h
     have h4 : listed.getD i true = listed.getD i false := by simp [show i < listed.size by omega]
     rw [h4, h3] at hun
     cases hun
    have hdepj : ∀ k ∈ depsOf o, k ∈ js := fun k hk => by
     obtain ⟨ed, h3, h4, h5⟩ := depsL_mem hk
     exact h5 ▸ (hls' ed.on).1 (hdep ed (by simpa using h3) h4)
    have hif : i < fin.length := by
     apply Classical.byContradiction
     intro hge
     have hT' := List.all_eq_true.1 hT i (List.mem_range.2 hil)
     rw [Bool.or_eq_true] at hT'
     rcases hT' with h3 | h3
     ·exact hge (blt_lt h3)
     ·have hsub : (List.range fin.length).length ≤ js.length := nodup_len List.nodup_range (fun k hk => by
       have h4 := List.all_eq_true.1 h3 k hk
       exact anc_in hm (S := (· ∈ js)) hcl i k o hol hdepj h4)
      simp at hsub
      omega
    obtain ⟨e, o', he, ho', ⟨hdst, hOT⟩, hrm⟩ := h2 i hif
    obtain rfl : o' = o := by rw [hol] at ho'; injection ho' with h; exact h.symm
    obtain ⟨g1, _, _, _, _⟩ := entsB_spec hB he
    unfold wpOp
    rw [ho]
    simp only []
    refine hOT x (stJ base fin js) a w (stD_le hB hTc hanc hij hdepj) (fun t ht => (g1 t ht).1) (fun i' ob' hm' => stJ_free hB hanc he hij hm') hsim _ _ fun a' w' hs' => ?_
    have hs2 : SimE x (stJ base fin (i :: js)) a' w' := hs'.weak (stJ_step hB hanc he hij)
    refine ih (i :: js) (listed.setIfInBounds i true) a' w' (by simp; omega) (List.nodup_cons.2 ⟨hij, hnd⟩) (fun k hk => ?_) (by simpa using hsz) (fun k hk => ?_) (fun j oj hj hoj k hk => ?_) hs2
    ·rcases List.mem_cons.1 hk with h | h
     ·subst h; exact hif
     ·exact hlt k h
    ·by_cases hki : i = k
     ·subst hki
      have : (listed.setIfInBounds i true).getD i false = true := by simp [show i < listed.size by omega]
      rw [this]
      simp
     ·have : (listed.setIfInBounds i true).getD k false = listed.getD k false := by
       simp only [Array.getD_eq_getD_getElem?]
       rw [Array.getElem?_setIfInBounds_ne hki]
      rw [this, hls' k, List.mem_cons]
      constructor
      ·exact .inr
      ·rintro (h | h)
       ·exact absurd h.symm hki
       ·exact h
    ·rcases List.mem_cons.1 hj with h | h
     ·subst h
      rw [hol] at hoj
      injection hoj with hoj
      subst hoj
      exact List.mem_cons_of_mem _ (hdepj k hk)
     ·exact List.mem_cons_of_mem _ (hcl j oj h hoj k hk)
theorem WC.draw {id : Nat} {s : St} {Q : Exit → St → Prop} (n : Nat) (ds : List Nat) (rms : List (Nat × List Nat)) (hfo : P.follows .mixedOrders = true) (_hms : masks l [] = ms) (hra : RA P l ms rms { s with env := rmL ds s.env } 0 (l.take n) [] fin)
 (hck : ((maskOk ms 0 l && entsB ms { s with env := rmL ds s.env } fin) && (tailB ms fin.length l.length && (Region.seqB .any l.toArray (l.length - fin.length) fin.length (listedN l.length fin.length) && Nat.ble fin.length l.length))) = true)
 (htail : WL P l.toArray (l.drop fin.length) (stF { s with env := rmL ds s.env } fin) Q) : WC P (.region id l.toArray true) s Q := by
 refine ⟨?_⟩
 rintro x a w ⟨z, hz⟩
 simp only [Bool.and_eq_true] at hck
 obtain ⟨⟨c1, c2⟩, c3, c4, c5⟩ := hck
 have hle := Nat.le_of_ble_eq_true c5
 obtain ⟨h1, h2⟩ := hra.spec c1 (fun i o hi => by
  rw [List.getElem?_take] at hi
  split at hi
  ·rw [Nat.zero_add]; exact hi
  ·cases hi) rfl (fun k e h => by cases h) (fun k h => by omega)
 refine wp_region_any hfo ?_
 have hz' : SimE x { s with env := rmL ds s.env } a w := SimE.weak (s' := s) ⟨rfl, fun t y e => by
  simp only [] at e
  rw [look_rmL] at e
  split at e
  ·cases e
  ·exact e, fun _ _ e => e⟩ ⟨z, hz⟩
 obtain ⟨z', hz'⟩ := hz'
 have hw : Below w.heap.size w w.drew := (Below.refl _ _).drew
 have hz2 : SimE x (stJ { s with env := rmL ds s.env } fin []) a w.drew := ⟨z', hz'.grow hw⟩
 have := draw_any (P := P) (Q := Q) (x := x) c1 c2 (fun k e he => by
  obtain ⟨e', o', he', _, _, hr⟩ := h2 k (h1 k e he)
  rw [he] at he'
  injection he' with he'
  subst he'
  exact hr) c3 c4 hle h1 h2 htail (fin.length - 0) [] (Array.replicate l.length false) a w.drew rfl List.nodup_nil (fun k h => by cases h) (by simp) (fun k hk => by simp [hk]) (fun j o h => by cases h) hz2
 rw [show fin.length - 0 + (l.length - fin.length) = l.toArray.size by simp; omega] at this
 simpa using this
def ckB (ms : List Nat) (l : List Oper) (base : St) (fin : List (Nat × Ent)) : Bool := (maskOk ms 0 l && entsB ms base fin) && (tailB ms fin.length l.length && (Region.seqB .any l.toArray (l.length - fin.length) fin.length (listedN l.length fin.length) && Nat.ble fin.length l.length))
structure DR (P : Program) (l : List Oper) (ms : List Nat) (rms : List (Nat × List Nat)) (base : St) (Q : Exit → St → Prop) (j : Nat) (rest : List Oper) (done : List (Nat × Ent)) : Prop where
 out : ∃ fin, RA P l ms rms base j rest done fin ∧ ckB ms l base fin = true ∧ WL P l.toArray (l.drop fin.length) (stF base fin) Q
theorem DR.nil {Q : Exit → St → Prop} {j : Nat} {rest : List Oper} {done : List (Nat × Ent)} (hck : ckB ms l base done = true) (h : WL P l.toArray (l.drop done.length) (stF base done) Q) : DR P l ms rms base Q j rest done := ⟨done, .nil, hck, h⟩
theorem DR.cons {Q : Exit → St → Prop} {j : Nat} {d : Option Nat} {o : Oper} {rest : List Oper} {done : List (Nat × Ent)} {v : AV} {nw up : List (Nat × Ob)} {rm : List Nat} (h : OTg P l.toArray o (stD ms rms base done j o) d v nw up rm) (hrm : rmOf rms j = rm ++ keysO up)
 (t : DR P l ms rms base Q (j + 1) rest ((j, ⟨d, v, nw, up, rm⟩) :: done)) : DR P l ms rms base Q j (o :: rest) done := let ⟨fin, h1, h2⟩ := t.out; ⟨fin, .cons h hrm h1, h2⟩
def rmM {α : Type} (ds : List Nat) : List (Nat × α) → List (Nat × α)
 | [] => []
 | (j, x) :: r => match memB j ds with
   | true => rmM ds r
   | false => (j, x) :: rmM ds r
theorem rmM_cons {α : Type} (i : Nat) (ds : List Nat) : ∀ h : List (Nat × α), rmM (i :: ds) h = rmM ds (rmL.rm1 i h)
 | [] => rfl
 | (j, x) :: r => by
   rw [rmM, rmL.rm1]
   have e : memB j (i :: ds) = (Nat.beq i j || memB j ds) := rfl
   rw [e]
   by_cases h : i = j
   ·subst h; simp [rmM_cons i ds r]
   ·have h1 : Nat.beq i j = false := Bool.eq_false_iff.2 fun e => h (Nat.eq_of_beq_eq_true e)
    have h2 : Nat.beq j i = false := Bool.eq_false_iff.2 fun e => h (Nat.eq_of_beq_eq_true e).symm
    rw [h1, h2, Bool.false_or]
    simp only [rmM]
    split <;> simp [rmM_cons i ds r]
theorem rmL_eq {α : Type} : ∀ (ds : List Nat) (h : List (Nat × α)), rmL ds h = rmM ds h
 | [], h => by
   induction h with
   | nil => rfl
   | cons a r ih => obtain ⟨j, x⟩ := a; rw [rmM]; simp only [memB]; rw [← ih]; rfl
 | i :: r, h => by rw [rmM_cons, ← rmL_eq r]; rfl
theorem entE_eq {fin0 : List (Nat × Ent)} : ∀ {r : List (Nat × Ent)}, (∀ p ∈ r, look fin0 p.1 = some p.2) → ∀ e : List (Nat × AV), entE fin0 (r.map (·.1)) ++ e = r.foldr (fun p a => match p.2.d with | some d => (d, p.2.v) :: a | none => a) e
 | [], _, e => rfl
 | (k, en) :: r, h, e => by
   have ih := entE_eq (r := r) (fun p hp => h p (List.mem_cons_of_mem _ hp)) e
   have hk := h (k, en) List.mem_cons_self
   rw [List.map_cons, entE, hk, List.foldr_cons]
   simp only []
   cases hd : en.d with
   | none => simpa [hd] using ih
   | some d => simp only [hd, List.cons_append]; rw [ih]
theorem entU_eq {fin0 : List (Nat × Ent)} : ∀ {r : List (Nat × Ent)}, (∀ p ∈ r, look fin0 p.1 = some p.2) → entU fin0 (r.map (·.1)) = r.flatMap (fun p => p.2.up)
 | [], _ => rfl
 | (k, en) :: r, h => by
   have ih := entU_eq (r := r) (fun p hp => h p (List.mem_cons_of_mem _ hp))
   rw [List.map_cons, entU, h (k, en) List.mem_cons_self, List.flatMap_cons]
   simp only []
   rw [ih]
theorem entH_eq {fin0 : List (Nat × Ent)} : ∀ {r : List (Nat × Ent)}, (∀ p ∈ r, look fin0 p.1 = some p.2) → entH fin0 (r.map (·.1)) = r.flatMap (fun p => p.2.nw)
 | [], _ => rfl
 | (k, en) :: r, h => by
   have ih := entH_eq (r := r) (fun p hp => h p (List.mem_cons_of_mem _ hp))
   rw [List.map_cons, entH, h (k, en) List.mem_cons_self, List.flatMap_cons]
   simp only []
   rw [ih]
theorem rmsOf_eq {fin0 : List (Nat × Ent)} : ∀ {r : List (Nat × Ent)}, (∀ p ∈ r, look fin0 p.1 = some p.2) → (r.map (·.1)).flatMap (rmsOf fin0) = r.flatMap (fun p => p.2.rm)
 | [], _ => rfl
 | (k, en) :: r, h => by
   have ih := rmsOf_eq (r := r) (fun p hp => h p (List.mem_cons_of_mem _ hp))
   rw [List.map_cons, List.flatMap_cons, List.flatMap_cons, ih]
   unfold rmsOf
   rw [h (k, en) List.mem_cons_self]
def keysD : List (Nat × Ent) → Bool
 | [] => true
 | (k, _) :: r => r.all (fun p => !Nat.beq k p.1) && keysD r
theorem keysD_look : ∀ {r : List (Nat × Ent)}, keysD r = true → ∀ p ∈ r, look r p.1 = some p.2
 | [], _, p, hp => by cases hp
 | (k, en) :: r, h, p, hp => by
   rw [keysD, Bool.and_eq_true] at h
   rw [look_cons]
   rcases List.mem_cons.1 hp with rfl | hp'
   ·exact if_pos rfl
   ·have := List.all_eq_true.1 h.1 p hp'
    have hne : ¬ k = p.1 := fun e => by rw [e] at this; simp at this
    rw [if_neg hne]
    exact keysD_look h.2 p hp'
structure Mv {α : Type} (ds : List Nat) (todo acc : List (Nat × α)) (K : List (Nat × α) → Prop) : Prop where
 out : K (acc.reverse ++ rmM ds todo)
structure Bk {α : Type} (todo acc : List (Nat × α)) (K : List (Nat × α) → Prop) : Prop where
 out : K (todo.reverse ++ acc)
section
variable {α : Type} {ds : List Nat} {k : Nat} {x : α} {r acc : List (Nat × α)} {K : List (Nat × α) → Prop}
theorem Bk.step (h : Bk r ((k, x) :: acc) K) : Bk ((k, x) :: r) acc K := ⟨by have := h.out; simpa using this⟩
theorem Bk.nil (h : K acc) : Bk [] acc K := ⟨by simpa using h⟩
theorem Mv.no (h : memB k ds = false) (t : Mv ds r ((k, x) :: acc) K) : Mv ds ((k, x) :: r) acc K := ⟨by have := t.out; rw [rmM, h]; simpa using this⟩
theorem Mv.yes (h : memB k ds = true) (t : Mv ds r acc K) : Mv ds ((k, x) :: r) acc K := ⟨by have := t.out; rw [rmM, h]; exact this⟩
theorem Mv.nil (h : Bk acc [] K) : Mv ds [] acc K := ⟨by have := h.out; simpa [rmM] using this⟩
end
structure Ee (todo : List (Nat × Ent)) (acc e : List (Nat × AV)) (K : List (Nat × AV) → Prop) : Prop where
 out : K (acc.reverse ++ todo.foldr (fun p a => match p.2.d with | some d => (d, p.2.v) :: a | none => a) e)
structure Hh (todo : List (Nat × Ent)) (U H : List (Nat × Ob)) (R : List Nat) (K : List (Nat × Ob) → List (Nat × Ob) → List Nat → Prop) : Prop where
 out : K (U ++ todo.flatMap (fun p => p.2.up)) (H ++ todo.flatMap (fun p => p.2.nw)) (R ++ todo.flatMap (fun p => p.2.rm))
section
variable {k d : Nat} {v : AV} {nw up : List (Nat × Ob)} {rm : List Nat} {r : List (Nat × Ent)} {acc e : List (Nat × AV)} {K : List (Nat × AV) → Prop} {od : Option Nat} {U H : List (Nat × Ob)} {R : List Nat} {K3 : List (Nat × Ob) → List (Nat × Ob) → List Nat → Prop}
theorem Ee.some (t : Ee r ((d, v) :: acc) e K) : Ee ((k, ⟨Option.some d, v, nw, up, rm⟩) :: r) acc e K := ⟨by have := t.out; simpa using this⟩
theorem Ee.none (t : Ee r acc e K) : Ee ((k, ⟨Option.none, v, nw, up, rm⟩) :: r) acc e K := ⟨by have := t.out; simpa using this⟩
theorem Ee.nil (h : Bk acc e K) : Ee [] acc e K := ⟨by have := h.out; simpa using this⟩
theorem Hh.triv (t : Hh r U H R K3) : Hh ((k, ⟨od, v, [], [], []⟩) :: r) U H R K3 := ⟨by have := t.out; simpa using this⟩
theorem Hh.gen (t : Hh r (U ++ up) (H ++ nw) (R ++ rm) K3) : Hh ((k, ⟨od, v, nw, up, rm⟩) :: r) U H R K3 := ⟨by have := t.out; simpa using this⟩
theorem Hh.nil (h : K3 U H R) : Hh [] U H R K3 := ⟨by simpa using h⟩
end
theorem WC.drawD {id : Nat} {nt : NI} {e : List (Nat × AV)} {h : List (Nat × Ob)} {Q : Exit → St → Prop} (n : Nat) (ds : List Nat) (rms : List (Nat × List Nat)) (hfo : P.follows .mixedOrders = true) (hms : masks l [] = ms) (hd : Mv ds e [] fun e' => DR P l ms rms ⟨nt, e', h⟩ Q 0 (l.take n) []) : WC P (.region id l.toArray true) ⟨nt, e, h⟩ Q :=
 have hd' : DR P l ms rms ⟨nt, rmM ds e, h⟩ Q 0 (l.take n) [] := by simpa using hd.out
 let ⟨_, h1, h2, h3⟩ := hd'.out
 WC.draw n ds rms hfo hms (by rw [rmL_eq]; exact h1) (by rw [rmL_eq]; exact h2) (by rw [rmL_eq]; exact h3)
theorem DR.close {Q : Exit → St → Prop} {j m : Nat} {nt : NI} {e : List (Nat × AV)} {h : List (Nat × Ob)} {done : List (Nat × Ent)} (hck : ckB ms l ⟨nt, e, h⟩ done = true) (hkd : keysD done = true) (hm : done.length = m)
 (k : Ee done [] e fun e' => Hh done [] [] [] fun U H R => Mv R (U ++ (H ++ h)) [] fun h' => WL P l.toArray (l.drop m) ⟨nt, e', h'⟩ Q) : DR P l ms rms ⟨nt, e, h⟩ Q j [] done := by
 refine DR.nil hck ?_
 have hl := keysD_look hkd
 have hk := k.out.out.out
 unfold stF stJ
 simp only [List.nil_append, List.reverse_nil] at hk
 rw [entE_eq hl, entU_eq hl, entH_eq hl, rmsOf_eq hl, rmL_eq, hm]
 exact hk
end
end Go.Proofs.YtjbhiglaginpeaaGreat
namespace Go.Proofs.YtjbhiglaginpeaaGreat
theorem wdr {P : Program} {l : List Oper} {id : Nat} {nt : NI} {e : List (Nat × AV)} {h : List (Nat × Ob)} {Q : Exit → St → Prop} (ms : List Nat) (n : Nat) (ds : List Nat) (rms : List (Nat × List Nat)) (hd : Mv ds e [] fun e' => DR P l ms rms ⟨nt, e', h⟩ Q 0 (l.take n) []) (hfo : P.follows .mixedOrders = true := by kernel_rfl) (hms : masks l [] = ms := by kernel_rfl) : WC P (.region id l.toArray true) ⟨nt, e, h⟩ Q := WC.drawD n ds rms hfo hms hd
theorem dcl {P : Program} {l : List Oper} {ms : List Nat} {rms : List (Nat × List Nat)} {Q : Exit → St → Prop} {j m : Nat} {nt : NI} {e : List (Nat × AV)} {h : List (Nat × Ob)} {done : List (Nat × Ent)} (k : Ee done [] e fun e' => Hh done [] [] [] fun U H R => Mv R (U ++ (H ++ h)) [] fun h' => WL P l.toArray (l.drop m) ⟨nt, e', h'⟩ Q) (hm : done.length = m := by rfl) (hck : ckB ms l ⟨nt, e, h⟩ done = true := by kernel_rfl) (hkd : keysD done = true := by kernel_rfl) : DR P l ms rms ⟨nt, e, h⟩ Q j [] done := DR.close hck hkd hm k
abbrev lP : Nat → Option Nat := look [(910, 910), (901, 901), (902, 902), (903, 903), (904, 904), (905, 905), (907, 907), (908, 908), (909, 909)]
theorem fP {P : Program} {f : FuncId} {fn : Func} {c : Code} {args : List AV} {r : AV} {nt : Nat} {rs : List ResultVar} (hf : P.funcs[f]? = some fn) (hnt : fn.ntmps = nt) (hrs0 : fn.results = Array.mk rs) (h : WC P c ⟨⟨nt, []⟩, nums 0 args, []⟩ (retQ P rs r)) (hb : fn.body = some c := by exact rfl) (hnm : (fn.name == "runtime.NumGoroutine") = false := by kernel_rfl) (hle : args.length ≤ nt := by exact Nat.le_of_ble_eq_true rfl) (hr : noId r = true := by exact rfl) : FnP P f args r := FnP.intro hf hb hnm hnt hrs0 hle hr h
end Go.Proofs.YtjbhiglaginpeaaGreat
