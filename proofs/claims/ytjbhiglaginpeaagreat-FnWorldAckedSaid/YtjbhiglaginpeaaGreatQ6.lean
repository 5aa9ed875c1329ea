/- Parts of the proof, joined from several texts. No condition. -/
import Derived.Lib.Builder
import Derived.Lib.AppendStr
import Derived.Lib.UnsafeStr
import Derived.Test.YtjbhiglaginpeaaGreatQ5
import Derived.Test.YtjbhiglaginpeaaGreatQ2
set_option maxRecDepth 100000
set_option maxHeartbeats 16000000
set_option linter.unusedVariables false
set_option linter.unusedSimpArgs false
namespace Go.Proofs.YtjbhiglaginpeaaGreat
open Go.RowKit
theorem set_self {f : Nat → List D} {k : Nat} {r : List D} : setF f k r k = r := if_pos rfl
theorem set_set {f : Nat → List D} {k : Nat} {a b : List D} : setF (setF f k a) k b = setF f k b := by
 funext m
 unfold setF
 split <;> rfl
section
variable {P : Program} {o : Oper} {s : St} {d : Nat}
theorem OT.atSz {T : Nat} {p q : Operand} {x : List UInt8} {m : Int} [h : TyIs P T .string] (hd : o.dst = some d) (ho : o.op = .index T p q) (hp : s.ev p = some (.d (.sc (.string (S x))))) (hq : s.ev q = some (.d (.sc (.int .i64 m)))) (h0 : 0 ≤ m) (hl : m < x.length) : OT P o s d (.d (.sc (.int .u8 ((x.getD m.toNat 0).toNat : Int)))) [] [] := OT.atS hd ho hp hq m.toNat (by omega) (by omega)
theorem OT.load1ES {T i t k m n p : Nat} {q : Operand} {f : Nat → List D} {row : List D} {v : D} [TyOne P T] (hd : o.dst = some d) (ho : o.op = .load T q) (hq : s.ev q = some (.ep i k m p)) (hi : look s.hp i = some (.arr t k n (setF f m row))) (hm : m < n) (hv : row[p]? = some v) : OT P o s d (.d v) [] [] := OT.load1E hd ho hq hi hm (by rw [set_self]; exact hv)
end
section
variable {P : Program} {ops : Array Oper} {o : Oper} {rest : List Oper} {nt : NI} {e : List (Nat × AV)} {h : List (Nat × Ob)} {Q : Exit → St → Prop}
theorem R.stEdS {T n i k m nn t p : Nat} {q r : Operand} {f : Nat → List D} {row : List D} {v : AV} [SzT P T n] (hg : o.guard = none) (hd : o.dst = none) (ho : o.op = .store T q r) (hq : (St.mk nt e h).ev q = some (.ep i k m p)) (hr : (St.mk nt e h).ev r = some v) (hi : look h i = some (.arr t k nn (setF f m row))) (hm : m < nn)
 (hall : allD (cellsA v) = true) (hl : (cellsA v).length = n) (hn : Nat.blt 0 n = true) (hp : Nat.ble (p + n) k = true) (kk : WL P ops rest ⟨nt, e, (i, .arr t k nn (setF f m (aput row p ((cellsA v).map dOf)))) :: h⟩ Q) : WL P ops (o :: rest) ⟨nt, e, h⟩ Q :=
 R.stEd hg hd ho hq hr hi hm hall hl hn hp (by rw [set_self, set_set]; exact kk)
end
end Go.Proofs.YtjbhiglaginpeaaGreat
namespace Go.Proofs.YtjbhiglaginpeaaGreat
open Go.RowKit
def FnE (P : Program) (f : FuncId) (kp : List Nat) (args : List AV) (hin : List (Nat × Ob)) {α : Type} (Φ : α → Nat → Prop) (r : α → Nat → AV) (hout : α → Nat → List (Nat × Ob)) : Prop :=
 FnB P f ∧ ∀ (z : Cz) (w : World) (X : Nat → Prop) (us : List Value), (∀ b, X b → b < w.heap.size) → HpOk X z hin w → VRs z w (okB X z hin w) args us →
  Calls P f us.toArray w fun e w' => ∃ y q, Φ y q ∧ ∃ u z', e = .returned u ∧ VR z' w' (okB X z' (hout y q) w') (r y q) u ∧ HpOk X z' (hout y q) w' ∧ Frm ⟨w, z, X, foot z hin⟩ w' ∧
   (∀ i ob, look (hout y q) i = some ob → phys z' i ob → foot z hin (z'.b i) ∨ w.heap.size ≤ z'.b i) ∧ ∀ i, i ∈ kp → z'.b i = z.b i ∧ z'.c i = z.c i
inductive retE (P : Program) (rs : List ResultVar) {α : Type} (Φ : α → Nat → Prop) (r : α → Nat → AV) (hout : α → Nat → List (Nat × Ob)) (kp : List Nat) : Exit → St → Prop
 | n {s : St} (h : ∃ y q, Φ y q ∧ RetHG P rs (r y q) (hout y q) kp s) : retE P rs Φ r hout kp .normal s
 | r {s : St} (h : ∃ y q, Φ y q ∧ RetHG P rs (r y q) (hout y q) kp s) : retE P rs Φ r hout kp .ret s
section
variable {P : Program} {α : Type} {Φ : α → Nat → Prop} {r : α → Nat → AV} {hout : α → Nat → List (Nat × Ob)}
theorem FnE.intro {f : FuncId} {fn : Func} {c : Code} {kp : List Nat} {args : List AV} {hin : List (Nat × Ob)} {nt : Nat} {rs : List ResultVar} (hf : P.funcs[f]? = some fn) (hb : fn.body = some c) (hnm : (fn.name == "runtime.NumGoroutine") = false) (hnt : fn.ntmps = nt) (hrs0 : fn.results = Array.mk rs)
 (hle : args.length ≤ nt) (h : WC P c ⟨⟨nt, kp⟩, nums 0 args, hin⟩ (retE P rs Φ r hout kp)) : FnE P f kp args hin Φ r hout := by
 have hrs : fn.results.toList = rs := by rw [hrs0]
 refine ⟨⟨fn, hf, hnm, by rw [hb]; rfl⟩, fun z w X us hX hin' hus => ?_⟩
 refine calls_of_wp hf hb ?_
 have hul := hus.1
 have hs : SimE ⟨w, z, X, foot z hin⟩ ⟨⟨nt, kp⟩, nums 0 args, hin⟩ { tmps := us.toArray ++ Array.replicate (fn.ntmps - us.toArray.size) undef, defers := [] } w := by
  refine ⟨z, ⟨rfl, rfl, rfl, Nat.le_refl _, fun _ _ _ => rfl⟩, by simp; omega, fun i _ => ⟨rfl, rfl⟩, rfl, fun t y e => ?_, hin'.1, fun i ob e hp => ⟨(hin'.2.1 i ob e hp).1, .inl ⟨i, ob, e, hp, rfl⟩, (hin'.2.1 i ob e hp).2⟩, hin'.2.2, fun b hb => ⟨hX b hb, fun ⟨i, ob, e, hp, he⟩ => (hin'.2.1 i ob e hp).2 (by rw [he]; exact hb)⟩⟩
  obtain ⟨_, h2⟩ := look_nums args 0 t y e
  rw [Nat.sub_zero] at h2
  have ht : t < us.length := by rw [hul]; exact (List.getElem?_eq_some_iff.1 h2).1
  have hu : us[t]? = some us[t] := List.getElem?_eq_getElem ht
  have hgd : (us.toArray ++ Array.replicate (fn.ntmps - us.toArray.size) undef).getD t undef = us[t] := by
   rw [Array.getD_eq_getD_getElem?, Array.getElem?_append_left (by simpa using ht)]
   simp [ht]
  show VR z w _ y ((us.toArray ++ Array.replicate (fn.ntmps - us.toArray.size) undef).getD t undef)
  rw [hgd]
  exact hus.2 t y _ h2 hu
 refine Code.wp_mono (fun e a' w' ⟨s', hq, hs'⟩ => ?_) (h.out _ _ _ hs)
 have fin : (∃ y q, Φ y q ∧ RetHG P rs (r y q) (hout y q) kp s') → a'.defers = [] ∧ ∃ v, (results fn a'.tmps).run P w' = .ok v w' ∧ ∃ y q, Φ y q ∧ ∃ u z', Ending.returned v = .returned u ∧ VR z' w' (okB X z' (hout y q) w') (r y q) u ∧ HpOk X z' (hout y q) w' ∧ Frm ⟨w, z, X, foot z hin⟩ w' ∧
  (∀ i ob, look (hout y q) i = some ob → phys z' i ob → foot z hin (z'.b i) ∨ w.heap.size ≤ z'.b i) ∧ ∀ i, i ∈ kp → z'.b i = z.b i ∧ z'.c i = z.c i := by
  rintro ⟨y, q, hy, vs, σ, hvs, hlv, hlh, hi, hk⟩
  obtain ⟨z', hz'⟩ := hs'
  obtain ⟨u, hres, hu⟩ := res_fin hrs hvs hz'
  have hz2 := hz'.via (s1 := ⟨s'.nt, [], hout y q⟩) σ rfl .nil hlh hi
  refine ⟨hz'.df, u, hres, y, q, hy, u, z'.via σ, rfl, hlv.vr hz' hlh hu, ⟨hz2.hp, fun i ob e hp => ⟨(hz2.ph i ob e hp).1, (hz2.ph i ob e hp).2.2⟩, hz2.inj⟩, hz'.fr, fun i ob e hp => (hz2.ph i ob e hp).2.1, fun i hi' => hz2.zi i (by rw [hk]; exact hi')⟩
 cases hq with
 | n hq => exact fin hq
 | r hq => exact fin hq
theorem FnE.weak {f : FuncId} {kp : List Nat} {args : List AV} {hin : List (Nat × Ob)} {Φ' : α → Nat → Prop} (h : FnE P f kp args hin Φ r hout) (hp : ∀ y q, Φ y q → Φ' y q) : FnE P f kp args hin Φ' r hout :=
 ⟨h.1, fun z w X us h1 h2 h3 => (h.2 z w X us h1 h2 h3).mono fun _ _ ⟨y, q, hy, k⟩ => ⟨y, q, hp y q hy, k⟩⟩
theorem FnE.map {β : Type} {f : FuncId} {kp : List Nat} {args : List AV} {hin : List (Nat × Ob)} {Φ' : β → Nat → Prop} {r' : β → Nat → AV} {hout' : β → Nat → List (Nat × Ob)} (h : FnE P f kp args hin Φ r hout) (g : α → β) (hp : ∀ y q, Φ y q → Φ' (g y) q) (hr : ∀ y q, r' (g y) q = r y q) (hh : ∀ y q, hout' (g y) q = hout y q) : FnE P f kp args hin Φ' r' hout' :=
 ⟨h.1, fun z w X us h1 h2 h3 => (h.2 z w X us h1 h2 h3).mono fun _ _ ⟨y, q, hy, k⟩ => ⟨g y, q, hp y q hy, by rw [hr, hh]; exact k⟩⟩
end
section
variable {P : Program} {ops : Array Oper} {o : Oper} {rest : List Oper} {nt : NI} {e : List (Nat × AV)} {h : List (Nat × Ob)} {Q : Exit → St → Prop} {α : Type} {Φ : α → Nat → Prop} {r : α → Nat → AV} {hout : α → Nat → List (Nat × Ob)}
theorem wp_callE {f : FuncId} {qs : Array Operand} {ts : Array TypeId} {avs args : List AV} {kp : List Nat} {hin : List (Nat × Ob)} (ho : o.op = .call { callee := .value (.func f), args := qs, argTypes := ts }) (hq : evl ⟨nt, e, h⟩ qs.toList = some avs) (hF : FnE P f kp args hin Φ r hout) (hle : LeCs avs args) (hsub : SubH h hin)
 (hck : ∀ y q, (((nt.ini.all fun i => !memB i (newK kp (keys hin ++ keys (hout y q)))) && ((hout y q).all fun p => p.2.idsIn (keys hin ++ keys (hout y q) ++ kp))) = true)) (hr : ∀ y q, idsIn (keys hin ++ keys (hout y q) ++ kp) (r y q) = true) {x : Ctx} {a : Act} {w : World} (hs : SimE x ⟨nt, e, h⟩ a w) {K : Act → World → Prop} {Q : Exit → Act → World → Prop}
 (hK : ∀ y q, Φ y q → ∀ z u w', Sim x z ⟨nt, afterE kp hin (hout y q) e, afterH kp hin (hout y q) h⟩ a w' → VR z w' (okB x.X z (afterH kp hin (hout y q) h) w') (r y q) u → K (a.put o.dst u) w') : o.wp P a w K Q := by
 obtain ⟨z, hz⟩ := hs
 have hv := hle.vrs (evl_ok (St.le.refl _) hz _ _ hq)
 have hX : ∀ b, (x.X b ∨ ∃ i ob, look h i = some ob ∧ phys z i ob ∧ i ∉ keys hin ∧ z.b i = b) → b < w.heap.size := fun b hb => by
  rcases hb with hb | ⟨i, ob, h1, h2, _, h3⟩
  ·exact Nat.lt_of_lt_of_le (hz.xo b hb).1 hz.fr.size
  ·rw [← h3]; exact (hz.ph i ob h1 h2).1
 have hkin : Kin w (okB x.X z h w) w (okB (fun b => x.X b ∨ ∃ i ob, look h i = some ob ∧ phys z i ob ∧ i ∉ keys hin ∧ z.b i = b) z hin w) := fun b hb =>
  ⟨⟨hb.1, fun hx => by
    rcases hx with hx | ⟨i, ob, h1, h2, _, h3⟩
    ·exact hb.2.1 hx
    ·exact hb.2.2 i ob h1 h2 h3, fun i ob hi hp => hb.2.2 i ob (hsub.get hi) hp⟩, rfl⟩
 have hin' : HpOk (fun b => x.X b ∨ ∃ i ob, look h i = some ob ∧ phys z i ob ∧ i ∉ keys hin ∧ z.b i = b) z hin w := by
  refine ⟨fun i ob hi => (hz.hp i ob (hsub.get hi)).mov hkin (fun _ _ => ⟨rfl, rfl⟩) ⟨rfl, rfl⟩ (fun _ => rfl), fun i ob hi hp => ⟨(hz.ph i ob (hsub.get hi) hp).1, fun hx => ?_⟩, fun i j ob ob' hi hj => hz.inj i j ob ob' (hsub.get hi) (hsub.get hj)⟩
  rcases hx with hx | ⟨j, oj, h1, h2, h3, h4⟩
  ·exact (hz.ph i ob (hsub.get hi) hp).2.2 hx
  ·have := hz.inj j i oj ob h1 (hsub.get hi) h2 hp h4
   subst this
   exact h3 (look_keys hi)
 have hcall := hF.2 z w _ _ hX hin' ⟨hv.1, fun j y u hy hu => (hv.2 j y u hy hu).mov hkin (fun _ _ => ⟨rfl, rfl⟩)⟩
 have hev : a.eval (.func f) = .func (.func f) #[] #[] := rfl
 unfold Oper.wp execOp
 simp only [ho, resolve, invoke, hev, Deferred.ofValue, Sem.run_bind, Sem.run_pure, Result.andThen_ok, Array.empty_append, Array.append_empty, callFunc_run hF.1]
 have he : (qs.map a.eval) = (qs.toList.map a.eval).toArray := by rw [← Array.toList_map, Array.toArray_toList]
 rw [he]
 refine hcall.mono fun e' w' ⟨y, q, hy, u, z', e1, h1, h2, h3, h4, h5⟩ => ?_
 subst e1
 show K (a.put o.dst u) w'
 obtain ⟨z2, g1, g2⟩ := hz.call hsub (hck y q) h2 h3 h4 h5
 exact hK y q hy z2 u w' g1 (g2 (r y q) u (hr y q) h1)
theorem R.callE {f : FuncId} {qs : Array Operand} {ts : Array TypeId} {avs args : List AV} {kp : List Nat} {hin : List (Nat × Ob)} {d : Nat} (hg : o.guard = none) (hd : o.dst = some d) (ho : o.op = .call { callee := .value (.func f), args := qs, argTypes := ts }) (hq : evl ⟨nt, e, h⟩ qs.toList = some avs) (hle : LeCs avs args) (hF : FnE P f kp args hin Φ r hout) (hsub : SubH h hin)
 (hck : ∀ y q, ((((nt.ini.all fun i => !memB i (newK kp (keys hin ++ keys (hout y q)))) && ((hout y q).all fun p => p.2.idsIn (keys hin ++ keys (hout y q) ++ kp))) && (idsIn (keys hin ++ keys (hout y q) ++ kp) (r y q) && Nat.blt d nt.n)) = true))
 (k : ∀ y q, Φ y q → WL P ops rest ⟨nt, (d, r y q) :: afterE kp hin (hout y q) e, afterH kp hin (hout y q) h⟩ Q) : WL P ops (o :: rest) ⟨nt, e, h⟩ Q := ⟨fun x a w hs => by
 have hc := fun y q => Bool.and_eq_true_iff.1 (hck y q)
 have hc2 := fun y q => Bool.and_eq_true_iff.1 (hc y q).2
 refine wpList_plain hg fun _ hK => wp_callE ho hq hF hle hsub (fun y q => (hc y q).1) (fun y q => (hc2 y q).1) hs fun y q hy z u w' g1 g2 => hK _ _ ((k y q hy).out x _ w' ⟨z, ?_⟩)
 rw [hd]
 exact g1.put (blt_lt (hc2 y q).2) g2⟩
theorem R.callEQ {f : FuncId} {qs : Array Operand} {ts : Array TypeId} {avs args : List AV} {kp : List Nat} {hin : List (Nat × Ob)} {d : Nat} (hg : o.guard = none) (hd : o.dst = some d) (ho : o.op = .call { callee := .value (.func f), args := qs, argTypes := ts }) (hq : evl ⟨nt, e, h⟩ qs.toList = some avs) (hle : LeCs avs args) (hF : FnE P f kp args hin Φ r hout) (hsub : SubH h hin)
 (hck : ∀ y q, ((((nt.ini.all fun i => !memB i (newK kp (keys hin ++ keys (hout y q)))) && ((hout y q).all fun p => p.2.idsIn (keys hin ++ keys (hout y q) ++ kp))) && (idsIn (keys hin ++ keys (hout y q) ++ kp) (r y q) && Nat.blt d nt.n)) = true))
 (hcl : ∀ y q, (clnE (newK kp (keys hin ++ keys (hout y q))) e && clnH (newK kp (keys hin ++ keys (hout y q))) h) = true)
 (k : ∀ y q, Φ y q → Mv (keys hin ++ keys (hout y q)) h [] fun h' => Bk (hout y q) [] fun a => Bk a h' fun hh => WL P ops rest ⟨nt, (d, r y q) :: e, hh⟩ Q) : WL P ops (o :: rest) ⟨nt, e, h⟩ Q := by
 refine R.callE hg hd ho hq hle hF hsub hck fun y q hy => ?_
 have hcl := hcl y q
 rw [Bool.and_eq_true] at hcl
 have hk := ((k y q hy).rm.out).out
 simp only [List.append_nil, List.reverse_reverse] at hk
 have hs : clnH (newK kp (keys hin ++ keys (hout y q))) (rmL (keys hin ++ keys (hout y q)) h) = true := by
  have : ∀ (i : Nat) (l : List (Nat × Ob)), clnH (newK kp (keys hin ++ keys (hout y q))) l = true → clnH (newK kp (keys hin ++ keys (hout y q))) (rmL.rm1 i l) = true := by
   intro i l
   induction l with
   | nil => intro _; rfl
   | cons p r ih =>
     obtain ⟨j, x⟩ := p
     intro hl
     rw [clnH, Bool.and_eq_true] at hl
     rw [rmL.rm1]
     cases Nat.beq j i with
     | true => exact ih hl.2
     | false => show clnH _ ((j, x) :: _) = true; rw [clnH, Bool.and_eq_true]; exact ⟨hl.1, ih hl.2⟩
  have h2 : ∀ (ks : List Nat) (l : List (Nat × Ob)), clnH (newK kp (keys hin ++ keys (hout y q))) l = true → clnH (newK kp (keys hin ++ keys (hout y q))) (rmL ks l) = true := by
   intro ks
   induction ks with
   | nil => intro l hl; exact hl
   | cons i r ih => intro l hl; exact ih _ (this i l hl)
  exact h2 _ _ hcl.2
 unfold afterE afterH
 rw [clnE_ok hcl.1, clnH_ok hs]
 exact hk
inductive cutQ (M : St → Prop) (Q : Exit → St → Prop) : Exit → St → Prop
 | n {s : St} (h : M s) : cutQ M Q .normal s
 | e {s : St} {i : Nat} (h : Q (.exit i) s) : cutQ M Q (.exit i) s
 | r {s : St} (h : Q .ret s) : cutQ M Q .ret s
theorem WC.cut {c1 c2 : Code} {s : St} (M : St → Prop) (h1 : WC P c1 s (cutQ M Q)) (h2 : ∀ s', M s' → WC P c2 s' Q) : WC P (.seq c1 c2) s Q :=
 WC.seq (WC.mono (fun e s' hq => by
  cases hq with
  | n h => exact .n (h2 s' h)
  | e h => exact .e h
  | r h => exact .r h) h1)
end
theorem OTg.storeEd {P : Program} {ops : Array Oper} {o : Oper} {s : St} {T n i k m nn t p : Nat} {q r : Operand} {f : Nat → List D} {v : AV} [SzT P T n] (hg : o.guard = none) (hd : o.dst = none) (ho : o.op = .store T q r) (hq : s.ev q = some (.ep i k m p)) (hr : s.ev r = some v) (hi : look s.hp i = some (.arr t k nn f)) (hm : m < nn) (hall : allD (cellsA v) = true) (hl : (cellsA v).length = n) (hn : Nat.blt 0 n = true) (hp : Nat.ble (p + n) k = true) :
 OTg P ops o s none .un [] [(i, .arr t k nn (setF f m (aput (f m) p ((cellsA v).map dOf))))] [] :=
 ⟨hd, fun x s' a w hs _ _ hz K Q hK => by rw [if_pos (by simp [Region.wanted, hg])]; exact .inl (SQ.storeE (s := s') hd ho (hs.ev hq) (hs.ev hr) (hs.hp _ _ hi) hm (LeDs.all hall) (by simpa using hl) (blt_lt hn) (Nat.le_of_ble_eq_true hp) x a w hz K Q hK)⟩
section
variable {P : Program} {ops : Array Oper} {rest : List Oper} {nt : NI} {e : List (Nat × AV)} {h : List (Nat × Ob)} {Q : Exit → St → Prop} {ty : Nat} {pos : String} {aft : Array Edge} {α : Type} {Φ : α → Nat → Prop} {r : α → Nat → AV} {hout : α → Nat → List (Nat × Ob)}
theorem ceq {f : FuncId} {qs : Array Operand} {ts : Array TypeId} {avs args : List AV} {kp : List Nat} {hin : List (Nat × Ob)} {q : Nat} (h0_ : evl ⟨nt, e, h⟩ qs.toList = some avs := by exact rfl) (h1_ : LeCs avs args := by (repeat' (first | exact LeCs.nil | exact LeC.un | exact LeC.dd | exact LeC.sc rfl | exact LeC.sc (congrArg (Value.int .i64) (by first | omega | (dsimp only; omega))) | exact LeC.empd | refine LeCs.cons ?_ ?_ | refine LeC.mkag ?_ | exact LeC.same)); first | done | fail) (F : FnE P f kp args hin Φ r hout) (hsub : SubH h hin := by (repeat' (first | exact ⟨rfl, trivial⟩ | exact trivial | refine ⟨rfl, ?_⟩)); first | done | fail) (hck : ∀ y n, ((((nt.ini.all fun i => !memB i (newK kp (keys hin ++ keys (hout y n)))) && ((hout y n).all fun p => p.2.idsIn (keys hin ++ keys (hout y n) ++ kp))) && (idsIn (keys hin ++ keys (hout y n) ++ kp) (r y n) && Nat.blt q nt.n)) = true) := by exact fun _ _ => rfl) (hcl : ∀ y n, (clnE (newK kp (keys hin ++ keys (hout y n))) e && clnH (newK kp (keys hin ++ keys (hout y n))) h) = true := by exact fun _ _ => rfl) (G : ∀ y n, Φ y n → Mv (keys hin ++ keys (hout y n)) h [] fun h' => Bk (hout y n) [] fun a => Bk a h' fun hh => WL P ops rest ⟨nt, (q, r y n) :: e, hh⟩ Q) : WL P ops ((⟨some q, .call { callee := .value (.func f), args := qs, argTypes := ts }, ty, pos, aft, none⟩ : Oper) :: rest) ⟨nt, e, h⟩ Q := R.callEQ rfl rfl rfl h0_ h1_ F hsub hck hcl G
end
section
variable {P : Program}
theorem rehw0 {r : AV} {s : St} {hout : List (Nat × Ob)} {kp : List Nat} (σ : Nat → Option Nat) (hr : r = .tu [] := by exact rfl) (k : LeH s.hp hout σ hout := by (repeat' (first | (apply KE.ee; refine LeE.cons rfl ?_ ?_) | apply LeE.nil | apply LeH.nil | (apply KE.hh; (first | refine LeH.blk rfl rfl ?_ ?_ | refine LeH.arr rfl rfl rfl (fun _ _ => rfl) ?_ | refine LeH.arr rfl rfl (by first | rfl | (simp; done) | (simp; omega) | omega) (fun _ _ => (by first | exact cat_snoc2 (by assumption) rfl | exact cat_snoc3 rfl (fun _ _ => rfl) (by assumption) rfl | exact cat_snoc3 (by simp) (fun _ _ => cat_snoc2 (by assumption) rfl) (by assumption) rfl | exact set_get2 (by omega) rfl | exact cat_app | exact setB2 rfl | rfl)) ?_ | refine LeH.virt rfl (by first | rfl | simp) ?_)))); (repeat' (first | (apply KE.vs; refine LeVs.cons ?_ ?_) | apply LeVs.nil | (apply KE.vv; (first | apply KE.u | exact LeV.dd | exact LeV.sc rfl | exact LeV.ptr rfl | exact LeV.own rfl rfl | exact LeV.emp | exact LeV.empd | exact LeV.empo rfl rfl rfl | exact LeV.dp | exact LeV.own rfl (by first | (simp; done) | (simp; omega) | omega) | exact LeV.sc (congrArg (Value.int .i64) (by first | omega | (dsimp only; omega))) | exact LeV.f2 rfl rfl | exact LeV.f0 rfl | exact LeV.f1 rfl (by simp) (fun _ hm => cat_snoc2 hm rfl) | exact LeV.f1 rfl (by simp) (fun _ _ => set_get2 (by omega) rfl) | exact LeV.f1 rfl (by simp) (fun _ _ => cat_app'.symm) | refine LeV.ag ?_ | refine LeV.tu ?_)))); first | done | fail) (hi : (injB σ hout && idB σ s.nt.ini) = true := by exact rfl) (hk : s.nt.ini = kp := by exact rfl) : RetHG P [] r hout kp s := RetHG.mk0 σ hr k hi hk
theorem rehw1 {r : AV} {s : St} {hout : List (Nat × Ob)} {kp : List Nat} {r1 : ResultVar} {v1 : AV} (σ : Nat → Option Nat) (h1 : ResV P s r1 v1 := by first | exact ResV.tmp rfl | exact ResV.cells rfl rfl rfl | exact ResV.cell rfl rfl rfl) (h : LeV s.hp hout σ v1 r := by (repeat' (first | (apply KE.vs; refine LeVs.cons ?_ ?_) | apply LeVs.nil | (apply KE.vv; (first | apply KE.u | exact LeV.dd | exact LeV.sc rfl | exact LeV.ptr rfl | exact LeV.own rfl rfl | exact LeV.emp | exact LeV.empd | exact LeV.empo rfl rfl rfl | exact LeV.dp | exact LeV.own rfl (by first | (simp; done) | (simp; omega) | omega) | exact LeV.sc (congrArg (Value.int .i64) (by first | omega | (dsimp only; omega))) | exact LeV.f2 rfl rfl | exact LeV.f0 rfl | exact LeV.f1 rfl (by simp) (fun _ hm => cat_snoc2 hm rfl) | exact LeV.f1 rfl (by simp) (fun _ _ => set_get2 (by omega) rfl) | exact LeV.f1 rfl (by simp) (fun _ _ => cat_app'.symm) | refine LeV.ag ?_ | refine LeV.tu ?_)))); first | done | fail) (k : LeH s.hp hout σ hout := by (repeat' (first | (apply KE.ee; refine LeE.cons rfl ?_ ?_) | apply LeE.nil | apply LeH.nil | (apply KE.hh; (first | refine LeH.blk rfl rfl ?_ ?_ | refine LeH.arr rfl rfl rfl (fun _ _ => rfl) ?_ | refine LeH.arr rfl rfl (by first | rfl | (simp; done) | (simp; omega) | omega) (fun _ _ => (by first | exact cat_snoc2 (by assumption) rfl | exact cat_snoc3 rfl (fun _ _ => rfl) (by assumption) rfl | exact cat_snoc3 (by simp) (fun _ _ => cat_snoc2 (by assumption) rfl) (by assumption) rfl | exact set_get2 (by omega) rfl | exact cat_app | exact setB2 rfl | rfl)) ?_ | refine LeH.virt rfl (by first | rfl | simp) ?_)))); (repeat' (first | (apply KE.vs; refine LeVs.cons ?_ ?_) | apply LeVs.nil | (apply KE.vv; (first | apply KE.u | exact LeV.dd | exact LeV.sc rfl | exact LeV.ptr rfl | exact LeV.own rfl rfl | exact LeV.emp | exact LeV.empd | exact LeV.empo rfl rfl rfl | exact LeV.dp | exact LeV.own rfl (by first | (simp; done) | (simp; omega) | omega) | exact LeV.sc (congrArg (Value.int .i64) (by first | omega | (dsimp only; omega))) | exact LeV.f2 rfl rfl | exact LeV.f0 rfl | exact LeV.f1 rfl (by simp) (fun _ hm => cat_snoc2 hm rfl) | exact LeV.f1 rfl (by simp) (fun _ _ => set_get2 (by omega) rfl) | exact LeV.f1 rfl (by simp) (fun _ _ => cat_app'.symm) | refine LeV.ag ?_ | refine LeV.tu ?_)))); first | done | fail) (hi : (injB σ hout && idB σ s.nt.ini) = true := by exact rfl) (hk : s.nt.ini = kp := by exact rfl) : RetHG P [r1] r hout kp s := RetHG.mk1 σ h1 h k hi hk
theorem rehw2 {r : AV} {s : St} {hout : List (Nat × Ob)} {kp : List Nat} {r1 r2 : ResultVar} {v1 v2 : AV} (σ : Nat → Option Nat) (h1 : ResV P s r1 v1 := by first | exact ResV.tmp rfl | exact ResV.cells rfl rfl rfl | exact ResV.cell rfl rfl rfl) (h2 : ResV P s r2 v2 := by first | exact ResV.tmp rfl | exact ResV.cells rfl rfl rfl | exact ResV.cell rfl rfl rfl) (h : LeV s.hp hout σ (.tu [v1, v2]) r := by (repeat' (first | (apply KE.vs; refine LeVs.cons ?_ ?_) | apply LeVs.nil | (apply KE.vv; (first | apply KE.u | exact LeV.dd | exact LeV.sc rfl | exact LeV.ptr rfl | exact LeV.own rfl rfl | exact LeV.emp | exact LeV.empd | exact LeV.empo rfl rfl rfl | exact LeV.dp | exact LeV.own rfl (by first | (simp; done) | (simp; omega) | omega) | exact LeV.sc (congrArg (Value.int .i64) (by first | omega | (dsimp only; omega))) | exact LeV.f2 rfl rfl | exact LeV.f0 rfl | exact LeV.f1 rfl (by simp) (fun _ hm => cat_snoc2 hm rfl) | exact LeV.f1 rfl (by simp) (fun _ _ => set_get2 (by omega) rfl) | exact LeV.f1 rfl (by simp) (fun _ _ => cat_app'.symm) | refine LeV.ag ?_ | refine LeV.tu ?_)))); first | done | fail) (k : LeH s.hp hout σ hout := by (repeat' (first | (apply KE.ee; refine LeE.cons rfl ?_ ?_) | apply LeE.nil | apply LeH.nil | (apply KE.hh; (first | refine LeH.blk rfl rfl ?_ ?_ | refine LeH.arr rfl rfl rfl (fun _ _ => rfl) ?_ | refine LeH.arr rfl rfl (by first | rfl | (simp; done) | (simp; omega) | omega) (fun _ _ => (by first | exact cat_snoc2 (by assumption) rfl | exact cat_snoc3 rfl (fun _ _ => rfl) (by assumption) rfl | exact cat_snoc3 (by simp) (fun _ _ => cat_snoc2 (by assumption) rfl) (by assumption) rfl | exact set_get2 (by omega) rfl | exact cat_app | exact setB2 rfl | rfl)) ?_ | refine LeH.virt rfl (by first | rfl | simp) ?_)))); (repeat' (first | (apply KE.vs; refine LeVs.cons ?_ ?_) | apply LeVs.nil | (apply KE.vv; (first | apply KE.u | exact LeV.dd | exact LeV.sc rfl | exact LeV.ptr rfl | exact LeV.own rfl rfl | exact LeV.emp | exact LeV.empd | exact LeV.empo rfl rfl rfl | exact LeV.dp | exact LeV.own rfl (by first | (simp; done) | (simp; omega) | omega) | exact LeV.sc (congrArg (Value.int .i64) (by first | omega | (dsimp only; omega))) | exact LeV.f2 rfl rfl | exact LeV.f0 rfl | exact LeV.f1 rfl (by simp) (fun _ hm => cat_snoc2 hm rfl) | exact LeV.f1 rfl (by simp) (fun _ _ => set_get2 (by omega) rfl) | exact LeV.f1 rfl (by simp) (fun _ _ => cat_app'.symm) | refine LeV.ag ?_ | refine LeV.tu ?_)))); first | done | fail) (hi : (injB σ hout && idB σ s.nt.ini) = true := by exact rfl) (hk : s.nt.ini = kp := by exact rfl) : RetHG P [r1, r2] r hout kp s := RetHG.mk2 σ h1 h2 h k hi hk
end
end Go.Proofs.YtjbhiglaginpeaaGreat
namespace Go.Proofs.YtjbhiglaginpeaaGreat
theorem fE {P : Program} {α : Type} {Φ : α → Nat → Prop} {r : α → Nat → AV} {hout : α → Nat → List (Nat × Ob)} {f : FuncId} {fn : Func} {c : Code} {kp : List Nat} {args : List AV} {hin : List (Nat × Ob)} {nt : Nat} {rs : List ResultVar} (hf : P.funcs[f]? = some fn) (hnt : fn.ntmps = nt) (hrs0 : fn.results = Array.mk rs) (h : WC P c ⟨⟨nt, kp⟩, nums 0 args, hin⟩ (retE P rs Φ r hout kp)) (hb : fn.body = some c := by exact rfl) (hnm : (fn.name == "runtime.NumGoroutine") = false := by kernel_rfl) (hle : args.length ≤ nt := by exact Nat.le_of_ble_eq_true rfl) : FnE P f kp args hin Φ r hout := FnE.intro hf hb hnm hnt hrs0 hle h
end Go.Proofs.YtjbhiglaginpeaaGreat
namespace Go.Proofs.YtjbhiglaginpeaaGreat
open Go.RowKit
theorem okB_one {X : Nat → Prop} {z : Cz} {q t k n t' k' n' : Nat} {f f' : Nat → List D} {w w' : World} (hg : w.grownBy w' (some (z.b q))) (hc : 0 < z.c q) : Kin w (okB X z [(q, .arr t k n f)] w) w' (okB X z [(q, .arr t' k' n' f')] w') := fun b hb => by
 have hq : look [(q, Ob.arr t k n f)] q = some (.arr t k n f) := by rw [look_cons, if_pos rfl]
 have hne : z.b q ≠ b := hb.2.2 q _ hq hc
 refine ⟨⟨Nat.lt_of_lt_of_le hb.1 hg.size, hb.2.1, fun i ob hi hp => ?_⟩, hg.block b hb.1 (fun e => hne (by injection e with e; exact e.symm))⟩
 rw [look_cons] at hi
 split at hi
 ·rename_i h; subst h; exact hne
 ·cases hi
theorem look_1 {q i : Nat} {o ob : Ob} (h : look [(q, o)] i = some ob) : q = i ∧ ob = o := by
 rw [look_cons] at h
 split at h
 ·rename_i hq; injection h with h; exact ⟨hq, h.symm⟩
 ·cases h
theorem aput_get2 {us vs : List Value} {o j : Nat} (h : o + vs.length ≤ us.length) : (aput us o vs)[j]? = if o ≤ j ∧ j < o + vs.length then vs[j - o]? else us[j]? := aput_get us o vs h j
theorem calls_one {P : Program} {f : FuncId} {q t k n n' : Nat} {g g' : Nat → List D} {args : List AV} (hB : FnB P f)
 (raw : ∀ (z : Cz) (w : World) (X : Nat → Prop) (us : List Value) (vs : List Value), 0 < z.c q → w.heap[z.b q]? = some (.cells us.toArray t (0, 0)) → us.length = z.c q * k → n ≤ z.c q → z.c q ≤ maxLen → (∀ m, m < n → (g m).length = k) →
   (∀ m j d u, m < n → (g m)[j]? = some d → us[m * k + j]? = some u → Rep w (okB X z [(q, .arr t k n g)] w) u d) → VRs z w (okB X z [(q, .arr t k n g)] w) args vs →
   Calls P f vs.toArray w fun e w' => e = .returned (.slice (some ⟨z.b q, 0, none⟩) n' (z.c q)) ∧ n' ≤ z.c q ∧ w.grownBy w' (some (z.b q)) ∧ ∃ us' : List Value, us'.length = z.c q * k ∧ w'.heap[z.b q]? = some (.cells us'.toArray t (0, 0)) ∧ (∀ m, m < n' → (g' m).length = k) ∧
    ∀ m j d u, m < n' → (g' m)[j]? = some d → us'[m * k + j]? = some u → Rep w (okB X z [(q, .arr t k n g)] w) u d) (hn : 0 < n) :
 FnH P f [q] args [(q, .arr t k n g)] (.own q n') [(q, .arr t k n' g')] := by
 refine ⟨hB, fun z w X vs hX hin hus => ?_⟩
 have hq : look [(q, Ob.arr t k n g)] q = some (.arr t k n g) := by rw [look_cons, if_pos rfl]
 have ho := hin.1 q _ hq
 cases ho with
 | @arr _ _ _ _ us hh hl hn1 hc hf h =>
   have hc0 : 0 < z.c q := by omega
   refine (raw z w X us vs hc0 (hh hc0) hl hn1 hc hf h hus).mono ?_
   rintro e w' ⟨rfl, h1, h2, us', h3, h4, h5, h6⟩
   have hk := okB_one (X := X) (t := t) (k := k) (n := n) (f := g) (t' := t) (k' := k) (n' := n') (f' := g') h2 hc0
   refine ⟨_, z, rfl, .own h1 hc (fun _ => rfl), ⟨fun i ob hi => ?_, fun i ob hi hp => ?_, fun i j ob ob' hi hj _ _ _ => ?_⟩, ⟨h2.os, h2.tape, h2.output, h2.size, fun b hb hnf => h2.block b hb (fun e => hnf ⟨q, _, hq, hc0, by injection e with e; exact e.symm⟩)⟩, fun i ob hi hp => ?_, fun i _ => ⟨rfl, rfl⟩⟩
   ·obtain ⟨rfl, rfl⟩ := look_1 hi
    exact .arr (us := us') (fun _ => h4) h3 h1 hc h5 (fun m j d u hm hd hu => (h6 m j d u hm hd hu).mov hk)
   ·obtain ⟨rfl, rfl⟩ := look_1 hi
    have := hin.2.1 q _ hq hc0
    exact ⟨Nat.lt_of_lt_of_le this.1 h2.size, this.2⟩
   ·exact (look_1 hi).1.symm.trans (look_1 hj).1
   ·obtain ⟨rfl, rfl⟩ := look_1 hi
    exact .inl ⟨_, _, hq, hc0, rfl⟩
theorem fn_del {P : Program} {f : FuncId} {t k : Nat} {α : Type} [Inhabited α] (e : α → List D) (he : ∀ x, (e x).length = k) (hB : FnB P f)
 (raw : ∀ (b i j n c : Nat) (us : List Value) (w : World), w.heap[b]? = some (.cells us.toArray t (0, 0)) → us.length = c * k → n ≤ c → c ≤ 9223372036854775807 → i < j → j ≤ n → (∀ u ∈ us.take (n * k), u.oneCell' = true) →
   Calls P f #[.slice (some ⟨b, 0, none⟩) n c, .int .i64 i, .int .i64 j] w fun e w' => e = .returned (.slice (some ⟨b, 0, none⟩) (i + (n - j)) c) ∧ ∃ zs : List Value, zs.length = (n - (i + (n - j))) * k ∧ w' = (w.drew.setRow b (aput us (i * k) ((us.take (n * k)).drop (j * k))).toArray).setRow b (aput (aput us (i * k) ((us.take (n * k)).drop (j * k))) ((i + (n - j)) * k) zs).toArray)
 (q : Nat) (l : List α) (i : Nat) (hi : i < l.length) : FnH P f [q] [.own q l.length, aI i, aI ((i : Int) + 1)] [(q, hL t k e l)] (.own q (l.eraseIdx i).length) [(q, hL t k e (l.eraseIdx i))] := by
 have hel : (l.eraseIdx i).length = l.length - 1 := List.length_eraseIdx_of_lt hi
 refine calls_one hB (fun z w X us vs hc0 hh hl hn hc hf h hus => ?_) (by omega)
 obtain ⟨e1, e2⟩ := hus
 simp only [List.length_cons, List.length_nil, Nat.zero_add, Nat.reduceAdd] at e1
 obtain ⟨v0, v1, v2, rfl⟩ : ∃ v0 v1 v2, vs = [v0, v1, v2] := by
  match vs, e1 with
  | [a, b, c], _ => exact ⟨a, b, c, rfl⟩
 have a0 := e2 0 _ _ rfl rfl
 have a1 := (e2 1 _ _ rfl rfl).dsc.1
 have a2 := (e2 2 _ _ rfl rfl).dsc.1
 subst a1 a2
 cases a0 with
 | @own _ _ A hn1 hc1 hA =>
   obtain rfl := hA hc0
   have hnk : l.length * k ≤ z.c q * k := Nat.mul_le_mul_right _ hn
   have hone : ∀ u ∈ us.take (l.length * k), u.oneCell' = true := fun u hu => by
    obtain ⟨p, hp, rfl⟩ := List.getElem_of_mem hu
    have hp' := hp
    rw [List.length_take] at hp'
    have hk0 : 0 < k := by
     rcases Nat.eq_zero_or_pos k with h0 | h0
     ·rw [h0] at hp'; simp at hp'
     ·exact h0
    have m1 : p / k < l.length := (Nat.div_lt_iff_lt_mul hk0).2 (by omega)
    have m2 := Nat.mod_lt p hk0
    have m3 : p / k * k + p % k = p := by have := Nat.div_add_mod p k; rw [Nat.mul_comm] at this; omega
    have hlen := he (l.getD (p / k) default)
    refine (h (p / k) (p % k) ((e (l.getD (p / k) default))[p % k]'(by omega)) _ m1 (List.getElem?_eq_getElem (by omega)) ?_).one
    rw [m3, List.getElem_take]
    exact List.getElem?_eq_getElem (by omega)
   have hjj : ((i : Int) + 1) = ((i + 1 : Nat) : Int) := by omega
   rw [hjj]
   refine (raw (z.b q) i (i + 1) l.length (z.c q) us w hh hl hn (by unfold maxLen at hc; omega) (by omega) (by omega) hone).mono ?_
   rintro ee w' ⟨rfl, zs, hz, rfl⟩
   have hn' : i + (l.length - (i + 1)) = l.length - 1 := by omega
   rw [hn'] at hz ⊢
   have hz1 : zs.length = k := by rw [hz, show l.length - (l.length - 1) = 1 by omega, Nat.one_mul]
   have hlk : (l.length - 1) * k + k = l.length * k := by
    have : (l.length - 1 + 1) * k = l.length * k := by rw [Nat.sub_add_cancel (by omega)]
    rw [Nat.add_mul] at this; omega
   have hik : (i + 1) * k ≤ l.length * k := Nat.mul_le_mul_right _ hi
   rw [Nat.add_mul, Nat.one_mul] at hik
   have hdl : ((us.take (l.length * k)).drop ((i + 1) * k)).length = (l.length - 1) * k - i * k := by
    rw [List.length_drop, List.length_take, Nat.add_mul, Nat.one_mul, Nat.min_eq_left (by omega)]; omega
   have hle1 : i * k + ((us.take (l.length * k)).drop ((i + 1) * k)).length ≤ us.length := by rw [hdl]; omega
   have hl1 : (aput us (i * k) ((us.take (l.length * k)).drop ((i + 1) * k))).length = us.length := aput_len _ _ _ hle1
   have hle2 : (l.length - 1) * k + zs.length ≤ (aput us (i * k) ((us.take (l.length * k)).drop ((i + 1) * k))).length := by rw [hl1]; omega
   have hg1 := setRow_heap w.drew (z.b q) _ (aput us (i * k) ((us.take (l.length * k)).drop ((i + 1) * k))).toArray t _ hh
   have hg2 := setRow_heap _ (z.b q) _ (aput (aput us (i * k) ((us.take (l.length * k)).drop ((i + 1) * k))) ((l.length - 1) * k) zs).toArray t _ hg1
   refine ⟨by rw [hel], by rw [hel]; omega, ?_, _, ?_, hg2, fun m _ => he _, fun m j d u hm hd hu => ?_⟩
   ·have r1 : w.grownBy w.drew (some (z.b q)) := ⟨rfl, rfl, rfl, Nat.le_refl _, fun _ _ _ => rfl⟩
    have r2 := grown_setRow w.drew (z.b q) (aput us (i * k) ((us.take (l.length * k)).drop ((i + 1) * k))).toArray
    have r3 := grown_setRow (w.drew.setRow (z.b q) (aput us (i * k) ((us.take (l.length * k)).drop ((i + 1) * k))).toArray) (z.b q) (aput (aput us (i * k) ((us.take (l.length * k)).drop ((i + 1) * k))) ((l.length - 1) * k) zs).toArray
    exact grown_thn (grown_thn r1 r2) r3
   ·rw [aput_len _ _ _ hle2, hl1, hl]
   ·rw [hel] at hm
    have hj : j < k := by rw [← he ((l.eraseIdx i).getD m default)]; exact (List.getElem?_eq_some_iff.1 hd).1
    have hmk : (m + 1) * k ≤ (l.length - 1) * k := Nat.mul_le_mul_right _ hm
    rw [Nat.add_mul, Nat.one_mul] at hmk
    rw [aput_get2 hle2, if_neg (by omega), aput_get2 hle1] at hu
    have hEg : (l.eraseIdx i).getD m default = if m < i then l.getD m default else l.getD (m + 1) default := by
     simp only [List.getD_eq_getElem?_getD, List.getElem?_eraseIdx]
     split <;> rfl
    rw [hEg] at hd
    by_cases hmi : m < i
    ·have hmi' : (m + 1) * k ≤ i * k := Nat.mul_le_mul_right _ hmi
     rw [Nat.add_mul, Nat.one_mul] at hmi'
     rw [if_neg (by omega)] at hu
     rw [if_pos hmi] at hd
     exact h m j d u (by omega) hd hu
    ·have hmi' : i * k ≤ m * k := Nat.mul_le_mul_right _ (by omega)
     rw [if_pos (by rw [hdl]; omega), List.getElem?_drop, List.getElem?_take] at hu
     rw [if_neg hmi] at hd
     have hix : (i + 1) * k + (m * k + j - i * k) = (m + 1) * k + j := by rw [Nat.add_mul, Nat.add_mul, Nat.one_mul]; omega
     rw [hix] at hu
     split at hu
     ·exact h (m + 1) j d u (by omega) hd hu
     ·cases hu
theorem vmDelRange (q : Nat) (l : List Rg) (i : Nat) (hi : i < l.length) : FnH Tryz.prog 139 [q] [.own q l.length, aI i, aI ((i : Int) + 1)] [(q, hL 116 2 eRg l)] (.own q (l.eraseIdx i).length) [(q, hL 116 2 eRg (l.eraseIdx i))] :=
 fn_del eRg (fun _ => rfl) ⟨_, Tryz.func139, by kernel_rfl, rfl⟩ rawDelRange q l i hi
theorem vmDelPiece (q : Nat) (l : List Pc) (i : Nat) (hi : i < l.length) : FnH Tryz.prog 154 [q] [.own q l.length, aI i, aI ((i : Int) + 1)] [(q, hL 50 2 ePc l)] (.own q (l.eraseIdx i).length) [(q, hL 50 2 ePc (l.eraseIdx i))] :=
 fn_del ePc (fun _ => rfl) ⟨_, Tryz.func154, by kernel_rfl, rfl⟩ rawDelPiece q l i hi
theorem vmDelCarried (q : Nat) (l : List Cd) (i : Nat) (hi : i < l.length) : FnH Tryz.prog 196 [q] [.own q l.length, aI i, aI ((i : Int) + 1)] [(q, hL 82 6 eCd l)] (.own q (l.eraseIdx i).length) [(q, hL 82 6 eCd (l.eraseIdx i))] :=
 fn_del eCd (fun _ => rfl) ⟨_, Tryz.func196, by kernel_rfl, rfl⟩ rawDelCarried q l i hi
theorem vmDelWire (q : Nat) (l : List Wi) (i : Nat) (hi : i < l.length) : FnH Tryz.prog 97 [q] [.own q l.length, aI i, aI ((i : Int) + 1)] [(q, hL 106 9 eWi l)] (.own q (l.eraseIdx i).length) [(q, hL 106 9 eWi (l.eraseIdx i))] :=
 fn_del eWi (fun _ => rfl) ⟨_, Tryz.func97, by kernel_rfl, rfl⟩ rawDelWire q l i hi
def hS (l : List (List Rg)) : Ob := .blk [.d (dL 2 eRg (l.getD 0 default)), .d (dL 2 eRg (l.getD 1 default)), .d (dL 2 eRg (l.getD 2 default)), .d (dL 2 eRg (l.getD 3 default))]
section
variable {P : Program} {o : Oper} {s : St} {d : Nat}
theorem OT.indexOB {T e n i : Nat} {xs : List AV} {p q : Operand} [h : SlcT P T e 1] (j : Nat) (hd : o.dst = some d) (ho : o.op = .indexAddr T p q) (hp : s.ev p = some (.own i n)) (hq : s.ev q = some (.d (.sc (.int .i64 (j : Int))))) (_hi : look s.hp i = some (.blk xs)) (hl : j < n) : OT P o s d (.ptr i j) [] [] := by
 refine .pure hd fun x' z s' a w hs hz => ?_
 have hv := hz.ev (hs.ev hp)
 have e2 := (hz.ev (hs.ev hq)).dsc.1
 obtain ⟨g1, g2, ii, zz, g3, g4, g5, g6, g7⟩ := h.out
 generalize hu : a.eval p = u at hv
 cases hv with
 | own hn hc hA =>
   obtain rfl := hA (by omega)
   refine ⟨.pointer (some ⟨z.b i, j, none⟩), ?_, .ptr⟩
   simp [execOp, ho, hu, e2, Instr.indexAt, asIntOf, run_underlying g1, hl, run_size g3, g5, add0]
end
theorem OT.callR {P : Program} {o : Oper} {s : St} {f : FuncId} {qs : Array Operand} {ts : Array TypeId} {avs args : List AV} {d n q p t k n' : Nat} {g : Nat → List D} {obq obp : Ob} (hd : o.dst = some d) (ho : o.op = .call { callee := .value (.func f), args := qs, argTypes := ts }) (hq : evl s qs.toList = some avs) (hle : LeCs avs args)
 (hF : FnH P f [q, p] args [(q, obq), (p, obp)] (.own d n) [(d, .arr t k n' g)]) (hiq : look s.hp q = some obq) (hip : look s.hp p = some obp) (hqp : Nat.beq q p = false) : OT P o s d (.own d n) [(d, .arr t k n' g)] [q, p] := by
 refine ⟨hd, fun x s' a w hs hn hf hsim K Q hK => ?_⟩
 have hfd := hf d _ (List.mem_singleton.2 rfl)
 have hqp' := Nat.ne_of_beq_eq_false hqp
 have hdq : q ≠ d := (hfd.2.2 q _ (hs.hp q _ hiq)).1
 have hdp : p ≠ d := (hfd.2.2 p _ (hs.hp p _ hip)).1
 have hq' : evl ⟨s'.nt, s'.env, s'.hp⟩ qs.toList = some avs := by
  have key : ∀ (l : List Operand) (vs : List AV), evl s l = some vs → evl s' l = some vs := by
   intro l
   induction l with
   | nil => intro vs h; exact h
   | cons q r ih =>
     intro vs h
     rw [evl] at h ⊢
     split at h
     ·rename_i v vs' e1 e2
      rw [hs.ev e1, ih vs' e2]
      exact h
     ·cases h
  exact key _ _ hq
 have bd : ∀ i j : Nat, i ≠ j → Nat.beq i j = false := fun i j h => by
  cases hb : Nat.beq i j
  ·rfl
  ·exact absurd (Nat.eq_of_beq_eq_true hb) h
 have hnk : newK [q, p] (keys [(q, obq), (p, obp)] ++ keys [(d, Ob.arr t k n' g)]) = [d] := by
  simp [newK, keys, memB, bd q p hqp', bd q d hdq, bd p d hdp]
 have hini : ∀ i, i ∈ s'.nt.ini → memB i [d] = false := fun i hi => by
  cases hb : memB i [d]
  ·rfl
  ·have := memB_iff.1 hb
   rw [List.mem_singleton] at this
   subst this
   exact absurd hi hfd.1
 have hfv : ∀ y, men d y = false → forgV [d] y = y := fun y hy => by
  unfold forgV menAny
  simp [hy]
 refine wp_callH (P := P) (nt := s'.nt) (e := s'.env) (h := s'.hp) ho hq' hF hle (by
  show look s'.hp q = some obq ∧ look s'.hp p = some obp ∧ True
  exact ⟨hs.hp q obq hiq, hs.hp p obp hip, trivial⟩) (by
  rw [hnk]
  rw [Bool.and_eq_true]
  exact ⟨List.all_eq_true.2 fun i hi => by rw [hini i hi]; rfl, rfl⟩) (by
  show memB d _ = true
  exact memB_iff.2 (by simp [keys])) hsim (fun z u w' g1 g2 => ?_)
 refine hK _ _ ⟨z, ?_⟩
 have hle2 : ((s'.rm [q, p]).add [(d, Ob.arr t k n' g)]).le ⟨s'.nt, afterE [q, p] [(q, obq), (p, obp)] [(d, Ob.arr t k n' g)] s'.env, afterH [q, p] [(q, obq), (p, obp)] [(d, Ob.arr t k n' g)] s'.hp⟩ := by
  refine ⟨rfl, fun i y e => ?_, fun i ok e => ?_⟩
  ·have e : look s'.env i = some y := e
   show look (afterE _ _ _ _) i = some y
   unfold afterE
   rw [hnk]
   have hy := hfd.2.1 i y e
   have aux : ∀ l : List (Nat × AV), look l i = some y → look (forgE [d] l) i = some y := by
    intro l
    induction l with
    | nil => intro h; cases h
    | cons r2 t2 ih2 =>
      obtain ⟨j2, v2⟩ := r2
      intro h2
      rw [forgE, look_cons]
      rw [look_cons] at h2
      split at h2
      ·rename_i hji2
       injection h2 with h2
       subst h2
       rw [if_pos hji2, hfv _ hy]
      ·rename_i hji2
       rw [if_neg hji2]
       exact ih2 h2
   exact aux _ e
  ·have e : look ([(d, Ob.arr t k n' g)] ++ rmL [q, p] s'.hp) i = some ok := e
   show look (afterH _ _ _ _) i = some ok
   unfold afterH
   rw [hnk]
   rw [look_app] at e ⊢
   cases hk : look [(d, Ob.arr t k n' g)] i with
   | some y => rw [hk] at e; exact e
   | none =>
     rw [hk] at e
     simp only [] at e ⊢
     have hid : i ≠ d := fun h => by subst h; rw [look_cons, if_pos rfl] at hk; cases hk
     rw [look_rmL] at e
     split at e
     ·cases e
     ·rename_i hm
      have hfo : forgO [d] ok = ok := by
       have hm2 := (hfd.2.2 i ok e).2
       cases ok with
       | arr => rfl
       | blk xs =>
         show Ob.blk _ = _
         congr 1
         refine (List.map_congr_left (fun y hy => ?_)).trans (List.map_id _)
         refine hfv y ?_
         cases hb : men d y
         ·rfl
         ·obtain ⟨j, hj, rfl⟩ := List.getElem_of_mem hy
          have := menL_of (i := d) (x := xs[j]) (xs := xs) (j := j) (List.getElem?_eq_getElem hj) hb
          have hm2' : menL d xs = false := hm2
          rw [this] at hm2'
          cases hm2'
      have aux : ∀ l : List (Nat × Ob), look l i = some ok → look (forgH [d] l) i = some ok := by
       intro l
       induction l with
       | nil => intro h; cases h
       | cons r2 t2 ih2 =>
         obtain ⟨j2, v2⟩ := r2
         intro h2
         rw [forgH, look_cons]
         rw [look_cons] at h2
         split at h2
         ·rename_i hji2
          injection h2 with h2
          subst h2
          rw [if_pos hji2, hfo]
         ·rename_i hji2
          rw [if_neg hji2]
          exact ih2 h2
      refine aux _ ?_
      rw [look_rmL, if_neg]
      ·exact e
      ·simp only [keys, List.map_cons, List.map_nil, List.cons_append, List.nil_append, List.mem_cons, List.not_mem_nil, or_false] at hm ⊢
       omega
 rw [hd]
 exact (g1.weak hle2).put hn (g2.mov (fun b hb => ⟨⟨hb.1, hb.2.1, fun k ok e hp => hb.2.2 k ok (hle2.hp k ok e) hp⟩, rfl⟩) (fun _ _ => ⟨rfl, rfl⟩))
theorem LeV.fzS {H : List (Nat × Ob)} {σ : Nat → Option Nat} {j n n' : Nat} {xs : List AV} {l : List (List Rg)} (h : look H j = some (.blk xs)) (hx : xs = [.d (dL 2 eRg (l.getD 0 default)), .d (dL 2 eRg (l.getD 1 default)), .d (dL 2 eRg (l.getD 2 default)), .d (dL 2 eRg (l.getD 3 default))]) (hn : n = l.length) (hl : l.length = 4) : LeV H [] σ (.own j n) (.d (dL 1 eSn l)) := by
 refine LeV.fzb h (fun _ _ h => by cases h) hn (fun m hm => ?_)
 subst hx
 have : m = 0 ∨ m = 1 ∨ m = 2 ∨ m = 3 := by omega
 rcases this with rfl | rfl | rfl | rfl <;> exact ⟨_, rfl, rfl⟩
theorem Imp.a2b {nt : NI} {e : List (Nat × AV)} {h : List (Nat × Ob)} {q t n : Nat} {f : Nat → List D} {xs : List AV} (hq : look h q = some (.arr t 1 n f)) (hsm : q < 100000) (h0 : 0 < n) (hx : xs.length ≤ n) (hxs : ∀ (j : Nat) (y : AV), xs[j]? = some y → ∃ d, y = .d d ∧ f j = [d]) : Imp ⟨nt, e, h⟩ ⟨nt, e, (q, .blk xs) :: h⟩ := by
 rintro x a w ⟨z, hz⟩
 obtain ⟨us, g1, g2, g3, g4, g5, g6⟩ := hz.arr (s := ⟨nt, e, h⟩) hq
 have hc0 : 0 < z.c q := by omega
 have hlk : ∀ i ob, look ((q, Ob.blk xs) :: h) i = some ob → (i = q ∧ ob = .blk xs) ∨ (i ≠ q ∧ look h i = some ob) := fun i ob hi => by
  rw [look_cons] at hi
  split at hi
  ·rename_i hh; injection hi with hi; exact .inl ⟨hh.symm, hi.symm⟩
  ·rename_i hh; exact .inr ⟨fun e => hh e.symm, hi⟩
 have hok : okB x.X z ((q, Ob.blk xs) :: h) w = okB x.X z h w := by
  funext b
  apply propext
  refine and_congr_right fun _ => and_congr_right fun _ => ⟨fun hh i ob hi hp => ?_, fun hh i ob hi hp => ?_⟩
  ·by_cases hiq : i = q
   ·subst hiq
    exact hh i (.blk xs) (by rw [look_cons, if_pos rfl]) trivial
   ·exact hh i ob (by rw [look_cons, if_neg (Ne.symm hiq)]; exact hi) hp
  ·rcases hlk i ob hi with ⟨rfl, rfl⟩ | ⟨_, hi'⟩
   ·exact hh i _ hq hc0
   ·exact hh i ob hi' hp
 refine ⟨z, hz.fr, hz.nt, hz.zi, hz.df, fun t y hy => ?_, fun i ob hi => ?_, fun i ob hi hp => ?_, fun i j ob ob' hi hj pi pj he => ?_, hz.xo⟩
 ·show VR z w (okB x.X z ((q, Ob.blk xs) :: h) w) y _
  rw [hok]; exact hz.env t y hy
 ·show OR z w (okB x.X z ((q, Ob.blk xs) :: h) w) i ob
  rw [hok]
  rcases hlk i ob hi with ⟨rfl, rfl⟩ | ⟨_, hi'⟩
  ·refine .blk (g1 hc0) (by omega) (fun j y u hy hu => ?_) (fun h => by omega)
   obtain ⟨d, rfl, hf⟩ := hxs j y hy
   have hj := (List.getElem?_eq_some_iff.1 hy).1
   exact .d (g6 j 0 d u (by omega) (by rw [hf]; rfl) (by rw [Nat.mul_one, Nat.add_zero]; exact hu))
  ·exact hz.hp i ob hi'
 ·rcases hlk i ob hi with ⟨rfl, rfl⟩ | ⟨_, hi'⟩
  ·exact hz.ph i _ hq hc0
  ·exact hz.ph i ob hi' hp
 ·rcases hlk i ob hi with ⟨rfl, rfl⟩ | ⟨_, hi'⟩
  ·rcases hlk j ob' hj with ⟨rfl, rfl⟩ | ⟨_, hj'⟩
   ·rfl
   ·exact hz.inj _ _ _ ob' hq hj' hc0 pj he
  ·rcases hlk j ob' hj with ⟨rfl, rfl⟩ | ⟨_, hj'⟩
   ·exact hz.inj _ _ ob _ hi' hq pi hc0 he
   ·exact hz.inj i j ob ob' hi' hj' pi pj he
theorem Imp.seen {nt : NI} {e : List (Nat × AV)} {h : List (Nat × Ob)} {q t : Nat} {l : List (List Rg)} (hl : l.length = 4) (hq : look h q = some (hL t 1 eSn l)) (hsm : q < 100000) : Imp ⟨nt, e, h⟩ ⟨nt, e, (q, hS l) :: h⟩ := by
 refine Imp.a2b hq hsm (by omega) (by simp [hl]) (fun j y hy => ?_)
 have hj := (List.getElem?_eq_some_iff.1 hy).1
 simp at hj
 have : j = 0 ∨ j = 1 ∨ j = 2 ∨ j = 3 := by omega
 rcases this with rfl | rfl | rfl | rfl <;> (injection hy with hy; subst hy; exact ⟨_, rfl, rfl⟩)
def eBy (x : UInt8) : List D := [.sc (.int .u8 (x.toNat : Int))]
section
variable {P : Program}
theorem run_appStr {T U e : Nat} [h : SlcT P T e 1] [hU : TyIs P U .string] (ty : TypeId) (i : TypeInfo) (hi : P.info? e = some i) (hz : i.zero = some (.int .u8 0)) (hsz : i.size = 1) (hby : i.bytes = 1) (w : World) (A : Option Addr) (n c g0 : Nat) (us : List Value) (hn : n ≤ c) (hc : c ≤ maxLen) (hl : us.length = c * 1)
 (hA : 0 < c → A = some ⟨g0, 0, none⟩ ∧ w.heap[g0]? = some (.cells us.toArray e (0, 0))) (hA0 : A = none → c = 0) (s : ByteArray) (hbig : n + s.size ≤ 100000000) :
 ∃ A' c' g, ∃ us' : List Value, ∃ w', (Builtin.append_ #[T, U] ty #[.slice A n c, .string s]).run P w = .ok (.slice A' (n + s.size) c') w' ∧ n + s.size ≤ c' ∧ c' ≤ maxLen ∧ us'.length = c' * 1 ∧
   (0 < c' → A' = some ⟨g, 0, none⟩ ∧ w'.heap[g]? = some (.cells us'.toArray e (0, 0)) ∧ (w.heap.size ≤ g ∨ (0 < c ∧ g = g0))) ∧ us'.take ((n + s.size) * 1) = us.take (n * 1) ++ Lib.strCells s ∧ w.grownBy w' (if 0 < c then some g0 else none) := by
 have t1 := h.out.1
 have u1 := hU.out
 have hsl := Lib.strCells_length s
 have hml : n + s.size ≤ maxLen := by unfold maxLen; omega
 by_cases hcp : 0 < c
 ·obtain ⟨rfl, hh⟩ := hA hcp
  by_cases hroom : n + s.size ≤ c
  ·have hr := Lib.run_append_room_string (P := P) w T U ty e i t1 u1 hi hsz g0 n c us.toArray hh s hroom (by simp; omega)
   refine ⟨_, c, g0, us.take n ++ Lib.strCells s ++ us.drop (n + s.size), _, hr, hroom, hc, ?_, fun _ => ⟨rfl, ?_, .inr ⟨hcp, rfl⟩⟩, ?_, ?_⟩
   ·simp [hsl]; omega
   ·exact setRow_heap w g0 _ _ e _ hh
   ·rw [Nat.mul_one, Nat.mul_one, List.take_append_of_le_length (by simp [hsl]; omega), List.take_of_length_le (by simp [hsl]; omega)]
   ·rw [if_pos hcp]; exact grown_setRow w g0 _
  ·have hr := Lib.run_append_grow_string (P := P) w T U ty e i (.int .u8 0) t1 u1 hi hz ⟨g0, 0, none⟩ n c (us.take n) (by rw [hsz, List.length_take]; omega) (fun j v hj => by
    rw [add0, Nat.zero_add, cell_of_heap hh]
    rw [List.getElem?_take] at hj
    split at hj
    ·exact hj
    ·cases hj) s (by omega) (by unfold maxLen at hml; omega) (by rw [hby]; exact growslice_fits (by omega) (by omega))
   have hG := grownCap_ge w (n + s.size) c e
   refine ⟨_, _, w.heap.size, ((us.take n).toArray ++ (Lib.strCells s).toArray ++ Builtin.zeroCells (Value.int .u8 0).cells (grownCap w (n + s.size) c e - (n + s.size))).toList, _, hr, hG, grownCap_le_maxLen w _ _ _ hml, ?_, fun _ => ⟨rfl, ?_, .inl (Nat.le_refl _)⟩, ?_, ?_⟩
   ·simp [size_zeroCells, hsl, Value.cells]; omega
   ·rw [Array.toArray_toList]; exact heap_alloc_new w.drew _
   ·simp only [Array.toList_append, Nat.mul_one]
    rw [List.take_append_of_le_length (by simp [hsl]; omega), List.take_of_length_le (by simp [hsl]; omega)]
   ·rw [if_pos hcp]
    have hb : Below w.heap.size w (w.drew.alloc (.cells ((us.take n).toArray ++ (Lib.strCells s).toArray ++ Builtin.zeroCells (Value.int .u8 0).cells (grownCap w (n + s.size) c e - (n + s.size))) e)) := ((Below.refl _ _).drew).alloc (Nat.le_refl _) _
    exact ⟨hb.os, hb.tape, hb.output, hb.size, fun j hj _ => hb.block j hj⟩
 ·obtain rfl : c = 0 := by omega
  obtain rfl : n = 0 := by omega
  obtain rfl : us = [] := List.length_eq_zero_iff.1 (by rw [hl])
  rw [if_neg hcp]
  have fin : ∀ (v' : Value) (w' : World), w'.ownsRow w.heap.size e 1 v' (0 + s.size) ([] ++ Lib.strCells s) → ∃ A' c' g, ∃ us' : List Value, v' = .slice A' (0 + s.size) c' ∧ 0 + s.size ≤ c' ∧ c' ≤ maxLen ∧ us'.length = c' * 1 ∧
   (0 < c' → A' = some ⟨g, 0, none⟩ ∧ w'.heap[g]? = some (.cells us'.toArray e (0, 0)) ∧ w.heap.size ≤ g) ∧ us'.take ((0 + s.size) * 1) = Lib.strCells s := fun v' w' ho => by
   rcases ho.2 with ⟨hv, h0⟩ | ⟨g, cap, cur, hv, hb, hh, h1, h2, h3, h4⟩
   ·have hs0 : Lib.strCells s = [] := List.length_eq_zero_iff.1 (by rw [hsl]; omega)
    exact ⟨none, 0, 0, [], by rw [hv, h0], by omega, Nat.zero_le _, rfl, fun h => absurd h (by omega), by rw [hs0]; simp⟩
   ·exact ⟨_, cap, g, cur.toList, hv, h1, h2, (by simpa using h3), fun _ => ⟨rfl, (by simpa using hh), hb⟩, h4⟩
  cases A with
  | none =>
    obtain ⟨v', w', hr, r1, r2, _⟩ := Lib.run_append_own_string (P := P) w w.heap.size T U ty e i t1 u1 hi hz hsz hby (.slice none 0 0) 0 [] (World.ownsRow_nil w _ e 1) s hml (by omega) (Nat.le_refl _)
    obtain ⟨A', c', g, us', rfl, k1, k2, k3, k4, k5⟩ := fin v' w' r1
    exact ⟨A', c', g, us', w', hr, k1, k2, k3, fun hc' => ⟨(k4 hc').1, (k4 hc').2.1, .inl (k4 hc').2.2⟩, by rw [k5]; rfl, r2⟩
  | some b =>
    by_cases hs0 : s.size = 0
    ·have hsc : Lib.strCells s = [] := List.length_eq_zero_iff.1 (by rw [hsl]; exact hs0)
     refine ⟨some b, 0, 0, [], w, ?_, by omega, Nat.zero_le _, rfl, fun h => absurd h (by omega), by simp [hsc], World.grownBy.refl _ _⟩
     have hf := Lib.run_firstCells_string (P := P) w 1 s
     rw [hsc, hs0] at hf
     simp [Builtin.append_, run_underlying t1, run_underlying u1, sizeOf, typeInfo, hi, hsz, Builtin.lenOf, hs0, hf, storeCells]
    ·have hr := Lib.run_append_grow_string (P := P) w T U ty e i (.int .u8 0) t1 u1 hi hz b 0 0 [] (by simp) (by simp) s (by omega) (by unfold maxLen at hml; omega) (by rw [hby]; exact growslice_fits (by omega) (by omega))
     have hG := grownCap_ge w (0 + s.size) 0 e
     have hG' := hG
     simp only [Nat.zero_add] at hG'
     refine ⟨_, _, w.heap.size, (([] : List Value).toArray ++ (Lib.strCells s).toArray ++ Builtin.zeroCells (Value.int .u8 0).cells (grownCap w (0 + s.size) 0 e - (0 + s.size))).toList, _, hr, hG, grownCap_le_maxLen w _ _ _ hml, ?_, fun _ => ⟨rfl, ?_, .inl (Nat.le_refl _)⟩, ?_, ?_⟩
     ·simp [size_zeroCells, hsl, Value.cells]; omega
     ·rw [Array.toArray_toList]; exact heap_alloc_new w.drew _
     ·simp only [Array.toList_append, Nat.mul_one]
      rw [List.take_append_of_le_length (by simp [hsl]), List.take_of_length_le (by simp [hsl])]
      simp
     ·have hb : Below w.heap.size w (w.drew.alloc (.cells (([] : List Value).toArray ++ (Lib.strCells s).toArray ++ Builtin.zeroCells (Value.int .u8 0).cells (grownCap w (0 + s.size) 0 e - (0 + s.size))) e)) := ((Below.refl _ _).drew).alloc (Nat.le_refl _) _
      exact ⟨hb.os, hb.tape, hb.output, hb.size, fun j hj _ => hb.block j hj⟩
theorem OT.appStr {o : Oper} {s : St} {d : Nat} {T U e n i : Nat} {p q : Operand} {f : Nat → List D} {x : List UInt8} [h : SlcT P T e 1] [hU : TyIs P U .string] {ti : TypeInfo} (hti : P.info? e = some ti) (hz0 : ti.zero = some (.int .u8 0)) (hz1 : ti.size = 1) (hz2 : ti.bytes = 1) (hd : o.dst = some d) (ho : o.op = .call { callee := .builtin .append, args := #[p, q], argTypes := #[T, U] }) (hp : s.ev p = some (.own i n)) (hi : look s.hp i = some (.arr e 1 n f)) (hq : s.ev q = some (.d (dS x))) (hbig : n + x.length ≤ 100000000) :
 OT P o s d (.own d (n + x.length)) [(d, .arr e 1 (n + x.length) (catF n f (fun j => eBy (x.getD j default))))] [i] := by
 refine ⟨hd, fun x' s' a w hs hn hf ⟨z, hz⟩ K Q hK => ?_⟩
 have hfd := hf d _ (List.mem_singleton.2 rfl)
 have hvp := hz.ev (hs.ev hp)
 have hvq := (hz.ev (hs.ev hq)).dsc.1
 generalize hup : a.eval p = up at hvp
 cases hvp with
 | @own _ _ A hn1 hc1 hA =>
   obtain ⟨us, h1, h2, h3, h4, h5, h6⟩ := hz.arr (hs.hp _ _ hi)
   have hA0 : A = none → z.c i = 0 := fun e => by
    rcases Nat.eq_zero_or_pos (z.c i) with h0 | h0
    ·exact h0
    ·rw [hA h0] at e; cases e
   have hsz : (S x).size = x.length := by unfold S; simp [ByteArray.size]
   have hsc : Lib.strCells (S x) = Lib.byteCells x := by rw [Lib.strCells_eq]; unfold S; simp
   obtain ⟨A', c', g', us', w', hrun, k1, k2, k3, k4, k5, k6⟩ := run_appStr (P := P) (T := T) (U := U) (e := e) o.type ti hti hz0 hz1 hz2 w A n (z.c i) (z.b i) us hn1 hc1 h2 (fun hc => ⟨hA hc, h1 hc⟩) hA0 (S x) (by rw [hsz]; exact hbig)
   rw [hsz] at hrun k1 k5
   rw [hsc] at k5
   unfold Oper.wp execOp
   simp only [ho, resolve, invoke, builtin, Sem.run_bind, Sem.run_pure, Result.andThen_ok, List.map_toArray, List.map_cons, List.map_nil, hup, hvq, hrun]
   show K (a.put o.dst _) _
   rw [hd]
   have hle : n * 1 ≤ us.length := by rw [h2]; exact Nat.mul_le_mul_right _ hn1
   have hbl : (Lib.byteCells x).length = x.length := Lib.byteCells_length x
   have hz2 := hz.renew (i := i) (d := d) (g := g') (c := c') (ob := .arr e 1 (n + x.length) (catF n f (fun j => eBy (x.getD j default)))) (hs.hp _ _ hi) hfd k6 Iff.rfl (fun hp => by
    unfold phys at hp
    rw [Cz.set_c] at hp
    exact ⟨(k4 hp).2.2, (Array.getElem?_eq_some_iff.1 (k4 hp).2.1).1⟩) (fun hkin => by
    obtain ⟨r1, r2⟩ := cat_rep hkin hle (by rw [hbl, Nat.mul_one]) k5 h5 (g := fun j => eBy (x.getD j default)) (m := x.length) (fun j _ => rfl) (fun i j d u hi hd hu => h6 i j d u hi hd hu) (fun i j d u hi hd hu => by
     have hj : j < 1 := (List.getElem?_eq_some_iff.1 hd).1
     obtain rfl : j = 0 := by omega
     simp only [eBy, List.getElem?_cons_zero, Option.some.injEq] at hd
     subst hd
     rw [Nat.mul_one, Nat.add_zero] at hu
     unfold Lib.byteCells at hu
     rw [List.getElem?_map, List.getElem?_eq_getElem hi] at hu
     simp only [Option.map_some, Option.some.injEq] at hu
     subst hu
     rw [List.getD_eq_getElem?_getD, List.getElem?_eq_getElem hi]
     exact .sc rfl)
    exact .arr (us := us') (fun hp => by rw [Cz.set_c] at hp; rw [Cz.set_b]; exact (k4 hp).2.1) (by rw [Cz.set_c]; exact k3) (by rw [Cz.set_c]; exact k1) (by rw [Cz.set_c]; exact k2) r1 r2)
   exact hK _ _ ⟨_, hz2.put hn (VR.own_mk k1 k2 (fun hc => (k4 hc).1))⟩
end
end Go.Proofs.YtjbhiglaginpeaaGreat
namespace Go.Proofs.YtjbhiglaginpeaaGreat
structure Sent (s : Sd) (p : Pt) : Prop where
 off : 0 ≤ p.off ∧ p.off ≤ 30
 ne : p.off ≤ p.last
 nxt : p.last < s.next
 inn : p.off ≤ bl s.data
 fin : p.fin = true → s.fin = true ∧ p.off + bl p.data = bl s.data
 data : (s.data.drop p.off.toNat).take p.data.length = p.data
theorem sent_iff (s : Sd) (p : Pt) : sent s p = true ↔ Sent s p := by
 simp only [sent, Bool.and_eq_true, Bool.or_eq_true, decide_eq_true_eq, inB_iff, beq_iff_eq, Bool.not_eq_true']
 constructor
 ·rintro ⟨⟨⟨h1, h2⟩, h3, h4⟩, h5, h6⟩
  exact ⟨h1, h2, h3, h4, fun hf => by rcases h5 with h5 | h5; (· rw [hf] at h5; cases h5); exact h5, h6⟩
 ·rintro ⟨h1, h2, h3, h4, h5, h6⟩
  refine ⟨⟨⟨h1, h2⟩, h3, h4⟩, ?_, h6⟩
  cases hf : p.fin with
  | false => exact .inl rfl
  | true => exact .inr (h5 hf)
theorem Sent.end_ {s : Sd} {p : Pt} (h : Sent s p) : p.off + bl p.data ≤ bl s.data := by
 have e := congrArg List.length h.data
 have h1 := h.inn
 have h2 := h.off
 unfold bl at *
 rw [List.length_take, List.length_drop] at e
 omega
theorem Sent.byte {s : Sd} {p : Pt} (h : Sent s p) {i : Nat} (hi : i < p.data.length) : s.data[p.off.toNat + i]? = p.data[i]? := by
 conv => rhs; rw [← h.data]
 rw [List.getElem?_take_of_lt hi, List.getElem?_drop]
theorem last_eq (p : Pt) : p.last = p.off + bl p.data - 1 + (if p.fin then 1 else 0) := by unfold Pt.last; split <;> omega
theorem gotPart_iff (s : Sd) (r : Rv) (p : Pt) : gotPart s r p = true ↔ ∀ x, p.off ≤ x → x ≤ p.last → gotIt s r x = true := by
 simp only [gotPart, List.all_eq_true, List.mem_range]
 constructor
 ·intro h x h1 h2
  have := h (x - p.off).toNat (by omega)
  rwa [show p.off + ((x - p.off).toNat : Int) = x by omega] at this
 ·intro h i hi
  exact h _ (by omega) (by omega)
theorem gotIt_iff (s : Sd) (r : Rv) (x : Int) : gotIt s r x = true ↔ (x = bl s.data ∧ r.final = x) ∨ (x ≠ bl s.data ∧ (x < r.read ∨ atL r.pieces x ≠ none)) := by
 unfold gotIt
 rw [waits_eq]
 by_cases h : x = bl s.data
 ·rw [if_pos h]; simp [h]
 ·rw [if_neg h]
  simp only [Bool.or_eq_true, decide_eq_true_eq, h, false_and, false_or, not_false_eq_true, true_and, ne_eq]
  rw [Option.isSome_iff_ne_none]
structure StOK (s : Sd) (r : Rv) (g : Bs) : Prop where
 sd : SdOK s
 rv : RvOK r
 glen : bl g = r.read
 gpre : s.data.take g.length = g
 lim : s.limit ≤ r.limit
 fin : r.fin ≤ min s.next (bl s.data)
 pcs : ∀ x b, atL r.pieces x = some b → s.data[x.toNat]? = some b
 acks : ∀ x, hasR s.acked x = true → gotIt s r x = true
 final : r.final = -1 ∨ (s.fin = true ∧ r.final = bl s.data ∧ s.next = bl s.data + 1)
theorem pcs_iff : ∀ {l : List Pc} {last lim : Int} (D : Bs), pcOk last lim l → -1 ≤ last → ((∀ p ∈ l, (D.drop p.off.toNat).take p.data.length = p.data) ↔ (∀ x b, atL l x = some b → D[x.toNat]? = some b))
 | [], _, _, _, _, _ => by simp [atL_nil]
 | p :: t, last, lim, D, ok, h0 => by
   have hp0 := bl_pos ok.1
   have h21 := ok.2.1
   have ih := pcs_iff D ok.2.2.2 (by unfold Pc.fin; omega)
   have hp : ((D.drop p.off.toNat).take p.data.length = p.data) ↔ (∀ x b, p.get x = some b → D[x.toNat]? = some b) := by
    constructor
    ·intro h x b hx
     obtain ⟨h1, h2⟩ := get_some.1 hx
     have hl := (List.getElem?_eq_some_iff.1 h2).1
     rw [← h, List.getElem?_take_of_lt hl, List.getElem?_drop] at h2
     rwa [show p.off.toNat + (x - p.off).toNat = x.toNat by omega] at h2
    ·intro h
     apply List.ext_getElem?
     intro i
     by_cases hi : i < p.data.length
     ·rw [List.getElem?_take_of_lt hi, List.getElem?_drop]
      have := h (p.off + i) p.data[i] (get_some.2 ⟨by omega, by rw [show (p.off + i - p.off).toNat = i by omega]; exact List.getElem?_eq_getElem hi⟩)
      rw [show (p.off + (i : Int)).toNat = p.off.toNat + i by omega] at this
      rw [this, List.getElem?_eq_getElem hi]
     ·rw [List.getElem?_eq_none (by rw [List.length_take]; omega), List.getElem?_eq_none (by omega)]
   simp only [List.forall_mem_cons]
   rw [hp, ih]
   constructor
   ·rintro ⟨h1, h2⟩ x b hx
    rw [atL_cons] at hx
    cases hg : p.get x with
    | some c => rw [hg] at hx; exact h1 x b (by rw [hg]; simpa using hx)
    | none => rw [hg] at hx; exact h2 x b (by simpa using hx)
   ·intro h
    refine ⟨fun x b hx => h x b (by rw [atL_cons, hx]; rfl), fun x b hx => h x b ?_⟩
    rw [atL_cons]
    have := (atL_bd ok.2.2.2 (x := x) (by rw [hx]; simp)).1
    rw [get_none.2 (.inr (by omega))]
    simpa using hx
structure StLe (s : Sd) (r : Rv) (s' : Sd) (r' : Rv) : Prop where
 sent : ∀ p, Sent s p → Sent s' p
 got : ∀ x, x < s.next → gotIt s r x = true → gotIt s' r' x = true
 limit : r.limit ≤ r'.limit
 next : s.next ≤ s'.next
theorem StLe.refl (s : Sd) (r : Rv) : StLe s r s r := ⟨fun _ h => h, fun _ _ h => h, Int.le_refl _, Int.le_refl _⟩
theorem StLe.part {s s' : Sd} {r r' : Rv} (h : StLe s r s' r') {p : Pt} (hs : Sent s p) (hg : gotPart s r p = true) : gotPart s' r' p = true := by
 rw [gotPart_iff] at hg ⊢
 exact fun x h1 h2 => h.got x (by have := hs.nxt; omega) (hg x h1 h2)
theorem StLe.same {s s' : Sd} (r : Rv) (h1 : s'.data = s.data) (h2 : s.next ≤ s'.next) (h3 : s.fin = true → s'.fin = true) : StLe s r s' r :=
 ⟨fun p h => ⟨h.off, h.ne, by have := h.nxt; omega, by rw [h1]; exact h.inn, fun hf => by rw [h1]; exact ⟨h3 (h.fin hf).1, (h.fin hf).2⟩, by rw [h1]; exact h.data⟩,
  fun x _ hx => by rw [gotIt_iff] at hx ⊢; rw [h1]; exact hx, Int.le_refl _, h2⟩
theorem st_write {s : Sd} {r : Rv} {g : Bs} (h : StOK s r g) (d : Bs) : StOK (sdWrite s d) r g ∧ StLe s r (sdWrite s d) r := by
 unfold sdWrite
 by_cases hc : (s.fin || decide (30 < bl s.data + bl d)) = true
 ·rw [if_pos hc]; exact ⟨h, StLe.refl _ _⟩
 ·rw [if_neg hc]
  simp only [Bool.or_eq_true, decide_eq_true_eq, not_or, Bool.not_eq_true] at hc
  obtain ⟨hf, hl⟩ := hc
  have hm : s.many = bl s.data := by unfold Sd.many; rw [hf]; rfl
  have hn := h.sd.nxt
  rw [hm] at hn
  have hb := bl_append s.data d
  have hd := bl_nonneg d
  have hfl := h.sd.flow
  have hfin := h.fin
  have hr := fin_bd h.rv.read.2 h.rv.pcs
  have hread := h.rv.read
  have hgl := h.glen
  have hrf : r.final = -1 := by
   rcases h.final with hh | hh
   ·exact hh
   ·rw [hf] at hh; cases hh.1
  have hgot : ∀ x, x < s.next → gotIt s r x = true → gotIt { s with data := s.data ++ d } r x = true := by
   intro x hx hx'
   rw [gotIt_iff] at hx' ⊢
   simp only
   rw [hb]
   rcases hx' with ⟨a, _⟩ | ⟨_, a⟩
   ·omega
   ·exact .inr ⟨by omega, a⟩
  refine ⟨⟨⟨by simp only; omega, h.sd.lim, ⟨hn.1, by unfold Sd.many; simp only; rw [hf]; simp only [Bool.false_eq_true, if_false]; omega⟩, by simp only; omega, h.sd.acked, h.sd.lost, h.sd.apart⟩, h.rv, h.glen, ?_, h.lim, by simp only; omega, ?_, fun x hx => hgot x (below_has h.sd.acked.2 hx) (h.acks x hx), .inl hrf⟩, ⟨?_, hgot, Int.le_refl _, Int.le_refl _⟩⟩
  ·simp only
   rw [List.take_append_of_le_length (by unfold bl at *; omega)]
   exact h.gpre
  ·intro x b hx
   have h1 := hr.2.2.1 x (by rw [hx]; simp)
   have := h.pcs x b hx
   simp only
   rw [List.getElem?_append_left (List.getElem?_eq_some_iff.1 this).1]
   exact this
  ·intro p hp
   have he := hp.end_
   have ho := hp.off
   refine ⟨hp.off, hp.ne, hp.nxt, by simp only; have := hp.inn; omega, fun hh => (by have := (hp.fin hh).1; rw [hf] at this; cases this), ?_⟩
   simp only
   have := hp.inn
   rw [List.drop_append_of_le_length (by unfold bl at *; omega), List.take_append_of_le_length (by rw [List.length_drop]; unfold bl at *; omega)]
   exact hp.data
theorem st_finish {s : Sd} {r : Rv} {g : Bs} (h : StOK s r g) : StOK { s with fin := true } r g ∧ StLe s r { s with fin := true } r := by
 have hg : ∀ x, gotIt { s with fin := true } r x = gotIt s r x := fun _ => rfl
 refine ⟨⟨⟨h.sd.len, h.sd.lim, ⟨h.sd.nxt.1, ?_⟩, h.sd.flow, h.sd.acked, h.sd.lost, h.sd.apart⟩, h.rv, h.glen, h.gpre, h.lim, h.fin, h.pcs, h.acks, ?_⟩, StLe.same r rfl (Int.le_refl _) (fun _ => rfl)⟩
 ·have := h.sd.nxt.2
  unfold Sd.many at this ⊢
  simp only [if_true]
  split at this <;> omega
 ·rcases h.final with hh | hh
  ·exact .inl hh
  ·exact .inr ⟨rfl, hh.2⟩
theorem st_limit {s : Sd} {r : Rv} {g : Bs} (h : StOK s r g) {b : Int} (hb : 0 ≤ b) (hr : b ≤ r.limit) : StOK { s with limit := max s.limit b } r g ∧ StLe s r { s with limit := max s.limit b } r := by
 have h1 := h.rv.lim
 have h2 := h.sd.lim
 have h3 := h.lim
 refine ⟨⟨⟨h.sd.len, by simp only; omega, h.sd.nxt, by have := h.sd.flow; simp only; omega, h.sd.acked, h.sd.lost, h.sd.apart⟩, h.rv, h.glen, h.gpre, by simp only; omega, h.fin, h.pcs, h.acks, h.final⟩, StLe.same r rfl (Int.le_refl _) (fun h => h)⟩
theorem st_grant {s : Sd} {r : Rv} {g : Bs} (h : StOK s r g) {b : Int} (hb : r.limit ≤ b) (hr : b ≤ 30) : StOK s { r with limit := b } g ∧ StLe s r s { r with limit := b } := by
 have h1 := h.rv.lim
 have h3 := h.lim
 have h4 := h.rv.read
 refine ⟨⟨h.sd, ⟨by simp only; omega, by simp only; omega, pcOk_lim h.rv.pcs hb, ?_⟩, h.glen, h.gpre, by simp only; omega, h.fin, h.pcs, h.acks, h.final⟩, ⟨fun _ h => h, fun x _ hx => hx, hb, Int.le_refl _⟩⟩
 rcases h.rv.fin with hh | hh
 ·exact .inl hh
 ·exact .inr ⟨hh.1, by simp only; omega⟩
theorem Sent.bd {s : Sd} {p : Pt} (h : Sent s p) (hs : SdOK s) : p.last ≤ 30 ∧ p.last < s.next := by
 have := h.nxt
 have := hs.nxt.2
 have := many_le hs.len
 omega
theorem st_ack {s : Sd} {r : Rv} {g : Bs} (h : StOK s r g) {p : Pt} (hp : Sent s p) (hg : gotPart s r p = true) : StOK (sdAck s p) r g ∧ StLe s r (sdAck s p) r := by
 have hb := hp.bd h.sd
 have ho := hp.off
 have hne := hp.ne
 refine ⟨⟨⟨h.sd.len, h.sd.lim, h.sd.nxt, h.sd.flow, ⟨addP_ok _ _ _ _ h.sd.acked.1 (by omega) hne (by omega), below_addP _ _ _ _ h.sd.acked.2 hb.2⟩, ⟨remP_ok _ _ _ _ h.sd.lost.1 hne, below_remP _ _ _ _ h.sd.lost.2⟩, fun x ha hl => ?_⟩, h.rv, h.glen, h.gpre, h.lim, h.fin, h.pcs, fun x hx => ?_, h.final⟩, StLe.same r rfl (Int.le_refl _) (fun h => h)⟩
 ·have ha' := (hasR_addP _ _ _ _ x h.sd.acked.1 hne).1 ha
  have hl' := (hasR_remP _ _ _ _ x h.sd.lost.1 hne).1 hl
  rcases ha' with ha' | ha'
  ·exact h.sd.apart x ha' hl'.1
  ·exact hl'.2 ha'
 ·have ha' := (hasR_addP _ _ _ _ x h.sd.acked.1 hne).1 hx
  rcases ha' with ha' | ha'
  ·exact h.acks x ha'
  ·exact (gotPart_iff s r p).1 hg x ha'.1 ha'.2
theorem loseTo_all (a : List Rg) {l : List Rg} {x y : Int} (hl : rgOk (-2) l ∧ rgBelow l y) (hx : 0 ≤ x) (hy : y ≤ 999) : ∀ (k : Nat), x + k ≤ y → (rgOk (-2) (loseTo a l x k) ∧ rgBelow (loseTo a l x k) y) ∧ ∀ n, hasR (loseTo a l x k) n = true ↔ hasR l n = true ∨ (x ≤ n ∧ n < x + k ∧ hasR a n = false)
 | 0, _ => ⟨hl, fun n => by simp only [loseTo]; constructor; (· exact .inl); rintro (h | h); (· exact h); omega⟩
 | k + 1, hk => by
   obtain ⟨ih, ihn⟩ := loseTo_all a hl hx hy k (by omega)
   simp only [loseTo]
   by_cases ha : hasR a (x + k) = true
   ·rw [if_pos ha]
    refine ⟨ih, fun n => ?_⟩
    rw [ihn]
    constructor
    ·rintro (h | h)
     ·exact .inl h
     ·exact .inr ⟨h.1, by omega, h.2.2⟩
    ·rintro (h | h)
     ·exact .inl h
     ·by_cases hn : n = x + k
      ·subst hn; rw [ha] at h; cases h.2.2
      ·exact .inr ⟨h.1, by omega, h.2.2⟩
   ·rw [if_neg ha]
    refine ⟨⟨addP_ok _ _ _ _ ih.1 (by omega) (by omega) (by omega), below_addP _ _ _ _ ih.2 (by omega)⟩, fun n => ?_⟩
    rw [hasR_addP _ _ _ _ n ih.1 (by omega), ihn]
    constructor
    ·rintro ((h | h) | h)
     ·exact .inl h
     ·exact .inr ⟨h.1, by omega, h.2.2⟩
     ·have : n = x + k := by omega
      subst this
      exact .inr ⟨by omega, by omega, by simpa using ha⟩
    ·rintro (h | h)
     ·exact .inl (.inl h)
     ·by_cases hn : n = x + k
      ·exact .inr (by omega)
      ·exact .inl (.inr ⟨h.1, by omega, h.2.2⟩)
theorem st_loss {s : Sd} {r : Rv} {g : Bs} (h : StOK s r g) {p : Pt} (hp : Sent s p) : StOK (sdLoss s p) r g ∧ StLe s r (sdLoss s p) r := by
 have hb := hp.bd h.sd
 have ho := hp.off
 have hne := hp.ne
 have hnx := h.sd.nxt.2
 have hm := many_le h.sd.len
 have hL := loseTo_all s.acked h.sd.lost ho.1 (show s.next ≤ 999 by omega) (p.last + 1 - p.off).toNat (by omega)
 refine ⟨⟨⟨h.sd.len, h.sd.lim, h.sd.nxt, h.sd.flow, h.sd.acked, hL.1, fun x ha hl => ?_⟩, h.rv, h.glen, h.gpre, h.lim, h.fin, h.pcs, h.acks, h.final⟩, StLe.same r rfl (Int.le_refl _) (fun h => h)⟩
 rcases (hL.2 x).1 hl with hl | hl
 ·exact h.sd.apart x ha hl
 ·rw [show hasR s.acked x = true from ha] at hl; cases hl.2.2
theorem part_bl {d : Bs} {a b : Int} (h0 : 0 ≤ a) (h1 : a ≤ b) (h2 : b ≤ bl d) : bl ((d.drop a.toNat).take (b - a).toNat) = b - a := by
 unfold bl at *
 rw [List.length_take, List.length_drop]
 omega
theorem st_next {s s' : Sd} {r : Rv} {g : Bs} {p : Pt} {size : Int} (h : StOK s r g) (hz : 1 ≤ size) (e : sdNext s size = some (s', p)) : StOK s' r g ∧ StLe s r s' r ∧ Sent s' p ∧ bl p.data ≤ size ∧ SdOK s' := by
 have hn := h.sd.nxt
 have hlen := h.sd.len
 have hfl := h.sd.flow
 have hfi0 := h.fin
 have hm : s.many = bl s.data + (if s.fin then 1 else 0) := by unfold Sd.many; split <;> omega
 have hb0 := bl_nonneg s.data
 cases hl : s.lost with
 | nil =>
   simp only [sdNext, hl] at e
   generalize hfi : max s.next (min (min (min (s.many - 1 + 1) (bl s.data)) s.limit) (s.next + size)) = fi at e
   generalize hf : (decide (s.many - 1 = bl s.data) && (decide (fi = bl s.data) && decide (s.next ≤ s.many - 1))) = f at e
   by_cases hc : (decide (fi = s.next) && !f) = true
   ·rw [if_pos hc] at e; cases e
   ·rw [if_neg hc] at e
    simp only [Option.some.injEq, Prod.mk.injEq] at e
    obtain ⟨e1, e2⟩ := e
    rw [show ([] : List Rg) = s.lost from hl.symm] at e1
    have hff : f = true → s.fin = true ∧ fi = bl s.data ∧ s.next ≤ bl s.data := by
     intro hft
     rw [hft] at hf
     simp only [Bool.and_eq_true, decide_eq_true_eq] at hf
     refine ⟨?_, hf.2.1, by omega⟩
     cases hs : s.fin with
     | true => rfl
     | false => rw [hs] at hm; simp at hm; omega
    have hcase : s.next < fi ∨ f = true := by
     cases f with
     | true => exact .inr rfl
     | false =>
       simp at hc
       omega
    have hfib : s.next ≤ fi ∧ fi ≤ bl s.data ∧ fi ≤ s.next + size := by
     rcases hcase with hcase | hcase
     ·omega
     ·have := hff hcase; omega
    have hpl := part_bl hn.1 hfib.1 hfib.2.1
    have hlast : p.last = fi - 1 + (if f then 1 else 0) := by rw [← e2, last_eq]; simp only; rw [hpl]; omega
    rw [e2] at e1
    rw [hlast] at e1
    have hn' : fi - 1 + (if f then 1 else 0) + 1 = fi + (if f then 1 else 0) := by omega
    rw [hn'] at e1
    have hle : s.next ≤ fi + (if f then 1 else 0) := by split <;> omega
    have hsd : SdOK s' := by
     subst e1
     refine ⟨hlen, h.sd.lim, ⟨by simp only; omega, ?_⟩, ?_, ⟨h.sd.acked.1, rgBelow_mono h.sd.acked.2 hle⟩, ⟨h.sd.lost.1, rgBelow_mono h.sd.lost.2 hle⟩, h.sd.apart⟩
     ·show fi + _ ≤ Sd.many _
      have : Sd.many { s with next := fi + (if f then 1 else 0) } = s.many := rfl
      rw [this, hm]
      cases hft : f with
      | true => rw [(hff hft).1]; simp only [if_true]; omega
      | false => simp only [Bool.false_eq_true, if_false]; split <;> omega
     ·simp only
      cases hft : f with
      | true =>
        have := hff hft
        simp only [if_true]
        rcases hcase with hcase | _
        ·omega
        ·by_cases hx : s.next < fi <;> omega
      | false =>
        rw [hft] at hcase
        rcases hcase with hcase | hcase
        ·simp only [Bool.false_eq_true, if_false]; omega
        ·cases hcase
    have hSent : Sent s' p := by
     subst e1
     rw [← e2]
     have hp0 : (⟨s.next, (s.data.drop s.next.toNat).take (fi - s.next).toNat, f⟩ : Pt).last = fi - 1 + (if f then 1 else 0) := by rw [e2]; exact hlast
     refine ⟨⟨hn.1, by simp only; omega⟩, ?_, by rw [hp0]; simp only; omega, by simp only; omega, fun hft => ?_, ?_⟩
     ·rw [hp0]
      simp only
      rcases hcase with hcase | hcase
      ·split <;> omega
      ·rw [hcase]; simp only [if_true]; omega
     ·simp only at hft ⊢
      have := hff hft
      exact ⟨this.1, by rw [hpl]; omega⟩
     ·simp only
      have : ((s.data.drop s.next.toNat).take (fi - s.next).toNat).length = (fi - s.next).toNat := by unfold bl at hpl; omega
      rw [this]
    refine ⟨?_, ?_, hSent, by rw [← e2]; simp only; rw [hpl]; omega, hsd⟩
    ·subst e1
     refine ⟨hsd, h.rv, h.glen, h.gpre, h.lim, by simp only; omega, h.pcs, h.acks, ?_⟩
     rcases h.final with hh | hh
     ·exact .inl hh
     ·exfalso
      rcases hcase with hcase | hcase
      ·omega
      ·have := hff hcase; omega
    ·subst e1
     exact StLe.same r rfl hle (fun h => h)
 | cons r0 t =>
   simp only [sdNext, hl] at e
   have hok := h.sd.lost
   rw [hl] at hok
   have h1 := hok.1.1
   have h2 := hok.1.2.1
   have h3 := hok.2 r0 List.mem_cons_self
   generalize hfi : max r0.lo (min (min (r0.hi + 1) (bl s.data)) (r0.lo + size)) = fi at e
   generalize hf : (decide (r0.hi = bl s.data) && (decide (fi = bl s.data) && decide (r0.lo ≤ r0.hi))) = f at e
   by_cases hc : (decide (fi = r0.lo) && !f) = true
   ·rw [if_pos hc] at e; cases e
   ·rw [if_neg hc] at e
    simp only [Option.some.injEq, Prod.mk.injEq] at e
    obtain ⟨e1, e2⟩ := e
    have hff : f = true → s.fin = true ∧ fi = bl s.data ∧ r0.hi = bl s.data := by
     intro hft
     rw [hft] at hf
     simp only [Bool.and_eq_true, decide_eq_true_eq] at hf
     refine ⟨?_, hf.2.1, hf.1⟩
     cases hs : s.fin with
     | true => rfl
     | false => rw [hs] at hm; simp at hm; omega
    have hcase : r0.lo < fi ∨ f = true := by
     cases f with
     | true => exact .inr rfl
     | false =>
       simp at hc
       omega
    have hfib : r0.lo ≤ fi ∧ fi ≤ bl s.data ∧ fi ≤ r0.lo + size ∧ fi ≤ r0.hi + 1 := by
     rcases hcase with hcase | hcase
     ·omega
     ·have := hff hcase; omega
    have hpl := part_bl (show 0 ≤ r0.lo by omega) hfib.1 hfib.2.1
    have hlast : p.last = fi - 1 + (if f then 1 else 0) := by rw [← e2, last_eq]; simp only; rw [hpl]; omega
    have hlr : r0.lo ≤ p.last ∧ p.last < s.next := by
     rw [hlast]
     rcases hcase with hcase | hcase
     ·cases hft : f with
      | true => have := hff hft; simp only [if_true]; omega
      | false => simp only [Bool.false_eq_true, if_false]; omega
     ·have := hff hcase; rw [hcase]; simp only [if_true]; omega
    rw [e2] at e1
    have hlost : s.lost = r0 :: t := hl
    rw [← hlost] at e1
    have hrem := fun x => hasR_remP s.lost (-2) r0.lo p.last x h.sd.lost.1 hlr.1
    have hsd : SdOK s' := by
     subst e1
     exact ⟨hlen, h.sd.lim, hn, hfl, h.sd.acked, ⟨remP_ok _ _ _ _ h.sd.lost.1 hlr.1, below_remP _ _ _ _ h.sd.lost.2⟩, fun x ha hx => h.sd.apart x ha ((hrem x).1 hx).1⟩
    refine ⟨?_, ?_, ?_, by rw [← e2]; simp only; rw [hpl]; omega, hsd⟩
    ·subst e1
     exact ⟨hsd, h.rv, h.glen, h.gpre, h.lim, h.fin, h.pcs, h.acks, h.final⟩
    ·subst e1
     exact StLe.same r rfl (Int.le_refl _) (fun h => h)
    ·subst e1
     refine ⟨by rw [← e2]; simp only; omega, by rw [← e2] at hlr ⊢; exact hlr.1, hlr.2, by rw [← e2]; simp only; omega, fun hft => ?_, ?_⟩
     ·rw [← e2] at hft ⊢
      simp only at hft ⊢
      have := hff hft
      exact ⟨this.1, by rw [hpl]; omega⟩
     ·rw [← e2]
      simp only
      have : ((s.data.drop r0.lo.toNat).take (fi - r0.lo).toNat).length = (fi - r0.lo).toNat := by unfold bl at hpl; omega
      rw [this]
theorem get_drop {d : Bs} {off : Int} {k : Nat} {x : Int} : (⟨off + k, d.drop k⟩ : Pc).get x = if x < off + k then none else (⟨off, d⟩ : Pc).get x := by
 unfold Pc.get
 simp only
 by_cases h : x < off + k
 ·rw [if_pos h, if_pos h]
 ·rw [if_neg h, if_neg h, if_neg (by omega), List.getElem?_drop]
  congr 1
  omega
theorem clash_no {s : Sd} {r : Rv} {g : Bs} {p : Pt} (h : StOK s r g) (hp : Sent s p) : clash r p.off p.data = false := by
 rw [clash, List.any_eq_false]
 intro i hi
 rw [List.mem_range] at hi
 rw [waits_eq]
 cases hw : atL r.pieces (p.off + i) with
 | none => simp
 | some c =>
   have ho := hp.off
   have h1 := h.pcs _ _ hw
   rw [show (p.off + (i : Int)).toNat = p.off.toNat + i by omega, hp.byte hi, List.getElem?_eq_getElem hi] at h1
   simp only [List.getD_eq_getElem?_getD, List.getElem?_eq_getElem hi, Option.getD_some]
   simp only [Option.some.injEq] at h1
   simp [h1]
theorem st_put {s : Sd} {r : Rv} {g : Bs} {p : Pt} (h : StOK s r g) (hp : Sent s p) :
 (rvPut r p.off p.data p.fin).2 = 0 ∧ StOK s (rvPut r p.off p.data p.fin).1 g ∧ StLe s r s (rvPut r p.off p.data p.fin).1 ∧ gotPart s (rvPut r p.off p.data p.fin).1 p = true := by
 have hn := h.sd.nxt
 have hm := hn.2
 have hmm : s.many = bl s.data + (if s.fin then 1 else 0) := by unfold Sd.many; split <;> omega
 have hend := hp.end_
 have ho := hp.off
 have hnx := hp.nxt
 have hne := hp.ne
 rw [last_eq] at hnx hne
 have hfl := h.sd.flow
 have hlim := h.lim
 have hrl := h.rv.lim
 have hrr := h.rv.read
 have hfin0 := h.fin
 have hb0 := bl_nonneg p.data
 have hfb := fin_bd hrr.2 h.rv.pcs
 have hfinp : p.fin = true → s.fin = true ∧ p.off + bl p.data = bl s.data ∧ s.next = bl s.data + 1 := by
  intro hf
  have h1 := hp.fin hf
  rw [hf] at hnx
  simp only [if_true] at hnx
  rw [hmm, h1.1] at hm
  simp only [if_true] at hm
  exact ⟨h1.1, h1.2, by omega⟩
 have hle : p.off + bl p.data ≤ min s.next (bl s.data) := by
  cases hf : p.fin with
  | true => have := hfinp hf; omega
  | false => rw [hf] at hnx; simp only [Bool.false_eq_true, if_false] at hnx; omega
 have c1 : ¬ r.limit < p.off + bl p.data := by omega
 have c2 : ¬ ((p.fin && ((decide (r.final ≠ -1) && decide (r.final ≠ p.off + bl p.data)) || decide (p.off + bl p.data < r.fin))) || (!p.fin && (decide (r.final ≠ -1) && decide (r.final < p.off + bl p.data)))) = true := by
  cases hf : p.fin with
  | true =>
    have h1 := hfinp hf
    rcases h.final with hh | hh
    ·simp [hh]; omega
    ·simp; omega
  | false =>
    rcases h.final with hh | hh
    ·simp [hh]
    ·simp; omega
 have c3 := clash_no h hp
 obtain ⟨skip, hskip⟩ : ∃ k : Nat, (k : Int) = max 0 (r.read - p.off) := ⟨(max 0 (r.read - p.off)).toNat, by omega⟩
 obtain ⟨r1, hr1⟩ : ∃ r1 : Rv, r1 = if p.fin then { r with final := p.off + bl p.data } else r := ⟨_, rfl⟩
 have hr1p : r1.pieces = r.pieces ∧ r1.read = r.read ∧ r1.limit = r.limit ∧ (p.fin = true → r1.final = p.off + bl p.data) ∧ (p.fin = false → r1.final = r.final) := by
  cases hf : p.fin with
  | true => rw [hf] at hr1; subst hr1; simp
  | false => rw [hf] at hr1; subst hr1; simp
 obtain ⟨b1, b2, b3, b4, b5⟩ := hr1p
 have hput : rvPut r p.off p.data p.fin = (if (skip : Int) < bl p.data then ({ r1 with pieces := mrg r.pieces ⟨p.off + skip, p.data.drop skip⟩ }, 0) else (r1, 0)) := by
  unfold rvPut
  simp only
  rw [if_neg c1, if_neg c2, c3]
  simp only [Bool.false_eq_true, if_false]
  rw [← hr1, ← hskip, Int.toNat_natCast]
 obtain ⟨L, hL⟩ : ∃ L : List Pc, L = if (skip : Int) < bl p.data then mrg r.pieces ⟨p.off + skip, p.data.drop skip⟩ else r.pieces := ⟨_, rfl⟩
 have hput2 : rvPut r p.off p.data p.fin = ({ r1 with pieces := L }, 0) := by
  rw [hput, hL]
  by_cases hs : (skip : Int) < bl p.data
  ·rw [if_pos hs, if_pos hs]
  ·rw [if_neg hs, if_neg hs, ← b1]
 rw [hput2]
 have hLall : pcOk (r.read - 1) r.limit L ∧ ∀ x, atL L x = if p.off + skip ≤ x ∧ x < p.off + bl p.data then p.data[(x - p.off).toNat]? else atL r.pieces x := by
  rw [hL]
  by_cases hs : (skip : Int) < bl p.data
  ·rw [if_pos hs]
   have hd : p.data.drop skip ≠ [] := by
    intro e
    have := congrArg List.length e
    rw [List.length_drop] at this
    unfold bl at hs
    simp at this
    omega
   have := mrg_all r.pieces ⟨p.off + skip, p.data.drop skip⟩ (r.read - 1) r.limit h.rv.pcs (by simp only; omega) hd (by unfold Pc.fin bl; simp only [List.length_drop]; unfold bl at *; omega)
   refine ⟨this.1, fun x => ?_⟩
   rw [this.2, get_drop]
   by_cases hx : p.off + skip ≤ x ∧ x < p.off + bl p.data
   ·rw [if_pos hx, if_neg (by omega)]
    unfold Pc.get
    simp only
    rw [if_neg (by omega), List.getElem?_eq_getElem (show (x - p.off).toNat < p.data.length by unfold bl at hx; omega)]; rfl
   ·rw [if_neg hx]
    by_cases hx1 : x < p.off + skip
    ·rw [if_pos hx1]; rfl
    ·rw [if_neg hx1, get_none.2 (.inr (by unfold Pc.fin; simp only; omega))]; rfl
  ·rw [if_neg hs]
   exact ⟨h.rv.pcs, fun x => by rw [if_neg (by omega)]⟩
 obtain ⟨hLok, hLat⟩ := hLall
 obtain ⟨r', hr'⟩ : ∃ r' : Rv, r' = { r1 with pieces := L } := ⟨_, rfl⟩
 rw [← hr']
 have f1 : r'.pieces = L := by rw [hr']
 have f2 : r'.read = r.read := by rw [hr']; exact b2
 have f3 : r'.limit = r.limit := by rw [hr']; exact b3
 have f4 : r'.final = r1.final := by rw [hr']
 have hbyte : ∀ x, p.off ≤ x → x < p.off + bl p.data → p.data[(x - p.off).toNat]? = s.data[x.toNat]? := by
  intro x h1 h2
  have := hp.byte (i := (x - p.off).toNat) (by unfold bl at h2; omega)
  rw [← this]
  congr 1
  omega
 have hmono : ∀ x, atL r.pieces x ≠ none → atL r'.pieces x ≠ none := by
  intro x hx
  rw [f1, hLat]
  by_cases hc : p.off + skip ≤ x ∧ x < p.off + bl p.data
  ·rw [if_pos hc, List.getElem?_eq_getElem (show (x - p.off).toNat < p.data.length by have := hc.2; unfold bl at this; omega)]; simp
  ·rw [if_neg hc]; exact hx
 have hfin' : r'.fin ≤ min s.next (bl s.data) := by
  rw [fin_char (by rw [f2, f3]; exact hrr.2) (by rw [f1, f2, f3]; exact hLok)]
  refine ⟨by rw [f2]; omega, fun x hx => ?_⟩
  rw [f1, hLat] at hx
  by_cases hc : p.off + skip ≤ x ∧ x < p.off + bl p.data
  ·omega
  ·rw [if_neg hc] at hx
   have := (hfb.2.2.1 x hx).2
   omega
 have hfinal : r'.final = -1 ∨ (s.fin = true ∧ r'.final = bl s.data ∧ s.next = bl s.data + 1) := by
  rw [f4]
  cases hf : p.fin with
  | true => have h1 := hfinp hf; rw [b4 hf]; exact .inr h1
  | false => rw [b5 hf]; exact h.final
 have hrv' : RvOK r' := by
  refine ⟨by rw [f3]; exact hrl, by rw [f2, f3]; exact hrr, by rw [f1, f2, f3]; exact hLok, ?_⟩
  rcases hfinal with hh | hh
  ·exact .inl hh
  ·refine .inr ⟨by omega, ?_⟩
   rw [f3]
   rw [f4] at hh ⊢
   cases hf : p.fin with
   | true => rw [b4 hf]; omega
   | false =>
     rw [b5 hf]
     rw [b5 hf] at hh
     rcases h.rv.fin with h9 | h9
     ·omega
     ·exact h9.2
 have hgot : ∀ x, gotIt s r x = true → gotIt s r' x = true := by
  intro x hx
  rw [gotIt_iff] at hx ⊢
  rcases hx with ⟨a, b⟩ | ⟨a, b⟩
  ·refine .inl ⟨a, ?_⟩
   rw [f4]
   cases hf : p.fin with
   | true => have h1 := hfinp hf; rw [b4 hf]; omega
   | false => rw [b5 hf]; exact b
  ·refine .inr ⟨a, ?_⟩
   rcases b with b | b
   ·exact .inl (by rw [f2]; exact b)
   ·exact .inr (hmono x b)
 refine ⟨rfl, ⟨h.sd, hrv', by rw [f2]; exact h.glen, h.gpre, by rw [f3]; exact hlim, hfin', fun x b hx => ?_, fun x hx => hgot x (h.acks x hx), hfinal⟩, ⟨fun _ h => h, fun x _ hx => hgot x hx, by rw [f3]; exact Int.le_refl _, Int.le_refl _⟩, ?_⟩
 ·rw [f1, hLat] at hx
  by_cases hc : p.off + skip ≤ x ∧ x < p.off + bl p.data
  ·rw [if_pos hc, hbyte x (by omega) hc.2] at hx; exact hx
  ·rw [if_neg hc] at hx; exact h.pcs x b hx
 ·rw [gotPart_iff]
  intro x h1 h2
  rw [gotIt_iff]
  rw [last_eq] at h2
  cases hf : p.fin with
  | true =>
    have h3 := hfinp hf
    rw [hf] at h2
    simp only [if_true] at h2
    by_cases hx : x = bl s.data
    ·exact .inl ⟨hx, by rw [f4, b4 hf]; omega⟩
    ·refine .inr ⟨hx, ?_⟩
     by_cases hr : x < r.read
     ·exact .inl (by rw [f2]; exact hr)
     ·right
      rw [f1, hLat, if_pos ⟨by omega, by omega⟩, List.getElem?_eq_getElem (show (x - p.off).toNat < p.data.length by unfold bl at *; omega)]; simp
  | false =>
    rw [hf] at h2
    simp only [Bool.false_eq_true, if_false] at h2
    refine .inr ⟨by omega, ?_⟩
    by_cases hr : x < r.read
    ·exact .inl (by rw [f2]; exact hr)
    ·right
     rw [f1, hLat, if_pos ⟨by omega, by omega⟩, List.getElem?_eq_getElem (show (x - p.off).toNat < p.data.length by unfold bl at *; omega)]; simp
theorem st_read {s : Sd} {r : Rv} {g : Bs} (h : StOK s r g) {n : Int} (hn : 0 ≤ n) : StOK s (rvRead r n).1 (g ++ (rvRead r n).2) ∧ StLe s r s (rvRead r n).1 := by
 have hrr := h.rv.read
 have hpk := h.rv.pcs
 cases hp : r.pieces with
 | nil =>
   have e : rvRead r n = (r, []) := by unfold rvRead; rw [hp]
   rw [e]
   simp only [List.append_nil]
   exact ⟨h, StLe.refl _ _⟩
 | cons p t =>
   rw [hp] at hpk
   by_cases hk : min n (rvReady r) = 0
   ·have e : rvRead r n = (r, []) := by unfold rvRead; rw [hp]; simp only; rw [if_pos hk]
    rw [e]
    simp only [List.append_nil]
    exact ⟨h, StLe.refl _ _⟩
   ·have hready : rvReady r = if r.read < p.off then 0 else bl p.data := by unfold rvReady; rw [hp]
    have hp0 := bl_pos hpk.1
    have hoff : p.off = r.read := by
     have := hpk.2.1
     rw [hready] at hk
     by_cases hc : r.read < p.off
     ·rw [if_pos hc] at hk; omega
     ·omega
    rw [hready, if_neg (by omega)] at hk
    obtain ⟨k, hkk⟩ : ∃ k : Nat, (k : Int) = min n (bl p.data) := ⟨(min n (bl p.data)).toNat, by omega⟩
    rw [← hkk] at hk
    have hkl : (k : Int) ≤ bl p.data := by omega
    obtain ⟨L, hL⟩ : ∃ L : List Pc, L = if p.data.drop k = [] then t else ⟨p.off + k, p.data.drop k⟩ :: t := ⟨_, rfl⟩
    have e : rvRead r n = ({ r with read := r.read + k, pieces := L }, p.data.take k) := by
     unfold rvRead
     rw [hready, if_neg (by omega), hp]
     simp only
     rw [← hkk, if_neg hk, Int.toNat_natCast, hL]
    rw [e]
    obtain ⟨r', hr'⟩ : ∃ r' : Rv, r' = { r with read := r.read + k, pieces := L } := ⟨_, rfl⟩
    simp only
    rw [← hr']
    have f1 : r'.pieces = L := by rw [hr']
    have f2 : r'.read = r.read + k := by rw [hr']
    have f3 : r'.limit = r.limit := by rw [hr']
    have f4 : r'.final = r.final := by rw [hr']
    have hpf : p.fin = p.off + bl p.data := rfl
    have h23 := hpk.2.2.1
    have hLok : pcOk (r.read + k - 1) r.limit L := by
     rw [hL]
     by_cases hd : p.data.drop k = []
     ·rw [if_pos hd]; exact pcOk_low hpk.2.2.2 (by omega)
     ·rw [if_neg hd]
      have hf : (⟨p.off + k, p.data.drop k⟩ : Pc).fin = p.fin := by unfold Pc.fin bl; simp only [List.length_drop]; unfold bl at hkl; omega
      exact ⟨hd, by simp only; omega, by rw [hf]; exact h23, by rw [hf]; exact hpk.2.2.2⟩
    have hLat : ∀ x, atL L x = if x < r.read + k then none else atL r.pieces x := by
     intro x
     rw [hL, hp]
     by_cases hd : p.data.drop k = []
     ·rw [if_pos hd]
      have hkb : (k : Int) = bl p.data := by
       have := congrArg List.length hd
       rw [List.length_drop] at this
       simp at this
       unfold bl at *
       omega
      by_cases hx : x < r.read + k
      ·rw [if_pos hx]; exact atL_low hpk.2.2.2 (by omega)
      ·rw [if_neg hx, atL_cons, get_none.2 (.inr (by omega))]; simp
     ·rw [if_neg hd, atL_cons, atL_cons, get_drop]
      by_cases hx : x < r.read + k
      ·rw [if_pos hx, if_pos (by omega), atL_low hpk.2.2.2 (by omega)]; rfl
      ·rw [if_neg hx, if_neg (by omega)]
    have hfb := fin_bd hrr.2 h.rv.pcs
    have hrk : r.read + k ≤ r.fin ∧ r.read + k ≤ r.limit := by
     have : ∀ x, p.get x ≠ none → x < r.fin := fun x hx => (hfb.2.2.1 x (by
      rw [hp, atL_cons]
      cases hg : p.get x with
      | none => exact absurd hg hx
      | some c => simp)).2
     have := this (p.fin - 1) (by
      have := get_isSome.2 (show p.off ≤ p.fin - 1 ∧ p.fin - 1 < p.fin by omega)
      intro e; rw [e] at this; cases this)
     omega
    have hok' : r'.read ≤ r'.limit ∧ pcOk (r'.read - 1) r'.limit r'.pieces := by rw [f1, f2, f3]; exact ⟨hrk.2, hLok⟩
    have hfin' : r'.fin ≤ r.fin := by
     rw [fin_char hok'.1 hok'.2]
     refine ⟨by rw [f2]; exact hrk.1, fun x hx => ?_⟩
     rw [f1, hLat] at hx
     by_cases hc : x < r.read + k
     ·rw [if_pos hc] at hx; exact absurd rfl hx
     ·rw [if_neg hc] at hx; exact (hfb.2.2.1 x hx).2
    have hgot : ∀ x, gotIt s r x = true → gotIt s r' x = true := by
     intro x hx
     rw [gotIt_iff] at hx ⊢
     rw [f4, f2, f1]
     rcases hx with hx | ⟨a, b⟩
     ·exact .inl hx
     ·refine .inr ⟨a, ?_⟩
      by_cases hc : x < r.read + k
      ·exact .inl hc
      ·rcases b with b | b
       ·omega
       ·right; rw [hLat, if_neg hc]; exact b
    have hgl := h.glen
    refine ⟨⟨h.sd, ⟨by rw [f3]; exact h.rv.lim, by rw [f2]; exact ⟨by omega, by rw [f3]; exact hrk.2⟩, hok'.2, ?_⟩, ?_, ?_, by rw [f3]; exact h.lim, by have := h.fin; omega, fun x b hx => ?_, fun x hx => hgot x (h.acks x hx), by rw [f4]; exact h.final⟩, ⟨fun _ h => h, fun x _ hx => hgot x hx, by rw [f3]; exact Int.le_refl _, Int.le_refl _⟩⟩
    ·rw [f4, f3]
     rcases h.rv.fin with hh | hh
     ·exact .inl hh
     ·exact .inr ⟨by omega, hh.2⟩
    ·rw [f2, bl_append, hgl]
     unfold bl at hkl ⊢
     rw [List.length_take]
     omega
    ·have hpd := ((pcs_iff s.data h.rv.pcs (by omega)).2 h.pcs) p (by rw [hp]; exact List.mem_cons_self)
     have hlt : (p.data.take k).length = k := by rw [List.length_take]; unfold bl at hkl; omega
     rw [List.length_append, hlt, List.take_add, h.gpre]
     congr 1
     have hoff' : p.off.toNat = g.length := by unfold bl at hgl; omega
     rw [hoff'] at hpd
     conv => rhs; rw [← hpd]
     rw [List.take_take]
     congr 1
     unfold bl at hkl
     omega
    ·rw [f1, hLat] at hx
     by_cases hc : x < r.read + k
     ·rw [if_pos hc] at hx; cases hx
     ·rw [if_neg hc] at hx; exact h.pcs x b hx
section
variable {α β γ : Type}
def F2 (R : α → β → Prop) : List α → List β → Prop
 | [], [] => True
 | a :: l, b :: m => R a b ∧ F2 R l m
 | _, _ => False
theorem F2.append {R : α → β → Prop} : ∀ {l l' : List α} {m m' : List β}, F2 R l m → F2 R l' m' → F2 R (l ++ l') (m ++ m')
 | [], _, [], _, _, h => h
 | _ :: _, _, _ :: _, _, h, h' => ⟨h.1, F2.append h.2 h'⟩
theorem F2.split {R : α → β → Prop} : ∀ {l l' : List α} {m : List β}, F2 R (l ++ l') m → ∃ m1 m2, m = m1 ++ m2 ∧ F2 R l m1 ∧ F2 R l' m2
 | [], _, m, h => ⟨[], m, rfl, trivial, h⟩
 | a :: l, l', [], h => h.elim
 | a :: l, l', b :: m, h => by
   obtain ⟨m1, m2, rfl, h1, h2⟩ := F2.split h.2
   exact ⟨b :: m1, m2, rfl, ⟨h.1, h1⟩, h2⟩
theorem F2.mono {R Q : α → β → Prop} (hRQ : ∀ a b, R a b → Q a b) : ∀ {l : List α} {m : List β}, F2 R l m → F2 Q l m
 | [], [], _ => trivial
 | _ :: _, _ :: _, h => ⟨hRQ _ _ h.1, F2.mono hRQ h.2⟩
theorem F2.mono' {R Q : α → β → Prop} : ∀ {l : List α} {m : List β}, (∀ a b, a ∈ l → b ∈ m → R a b → Q a b) → F2 R l m → F2 Q l m
 | [], [], _, _ => trivial
 | _ :: _, _ :: _, hRQ, h => ⟨hRQ _ _ List.mem_cons_self List.mem_cons_self h.1, F2.mono' (fun x y hx hy => hRQ x y (List.mem_cons_of_mem _ hx) (List.mem_cons_of_mem _ hy)) h.2⟩
theorem F2.filter {R : α → β → Prop} (f : α → Bool) (g : β → Bool) (hfg : ∀ a b, R a b → f a = g b) : ∀ {l : List α} {m : List β}, F2 R l m → F2 R (l.filter f) (m.filter g)
 | [], [], _ => trivial
 | a :: l, b :: m, h => by
   have ih := F2.filter f g hfg h.2
   have e := hfg a b h.1
   cases hb : g b with
   | true => rw [List.filter_cons_of_pos (by rw [e, hb]), List.filter_cons_of_pos hb]; exact ⟨h.1, ih⟩
   | false => rw [List.filter_cons_of_neg (by rw [e, hb]; simp), List.filter_cons_of_neg (by rw [hb]; simp)]; exact ih
theorem F2.mem {R : α → β → Prop} : ∀ {l : List α} {m : List β}, F2 R l m → ∀ b ∈ m, ∃ a ∈ l, R a b
 | [], [], _, _, hb => by simp at hb
 | a :: l, b :: m, h, y, hy => by
   rcases List.mem_cons.1 hy with rfl | hy
   ·exact ⟨a, List.mem_cons_self, h.1⟩
   ·obtain ⟨x, hx, hr⟩ := F2.mem h.2 y hy
    exact ⟨x, List.mem_cons_of_mem _ hx, hr⟩
theorem F2.memL {R : α → β → Prop} : ∀ {l : List α} {m : List β}, F2 R l m → ∀ a ∈ l, ∃ b ∈ m, R a b
 | [], [], _, _, hb => by simp at hb
 | a :: l, b :: m, h, y, hy => by
   rcases List.mem_cons.1 hy with rfl | hy
   ·exact ⟨b, List.mem_cons_self, h.1⟩
   ·obtain ⟨x, hx, hr⟩ := F2.memL h.2 y hy
    exact ⟨x, List.mem_cons_of_mem _ hx, hr⟩
theorem F2.len {R : α → β → Prop} : ∀ {l : List α} {m : List β}, F2 R l m → l.length = m.length
 | [], [], _ => rfl
 | a :: l, b :: m, h => by rw [List.length_cons, List.length_cons, F2.len h.2]
end
structure LsOK (l : Ls) : Prop where
 next : 0 ≤ l.next ∧ l.next ≤ 1000
 top : -1 ≤ l.largest ∧ l.largest ≤ l.next - 1
 few : l.flight.length ≤ 12
 pk : ∀ k ∈ l.flight, (0 ≤ k.num ∧ k.num ≤ l.next - 1) ∧ k.num ≠ l.largest ∧ (0 ≤ k.time ∧ k.time ≤ 999) ∧ 1 ≤ k.size ∧ k.size ≤ 99
 asc : l.flight.Pairwise fun a b => a.num < b.num ∧ a.time ≤ b.time
theorem pw_iff {α : Type} [Inhabited α] {R : α → α → Prop} (tr : ∀ a b c, R a b → R b c → R a c) : ∀ (l : List α), (∀ i, i + 1 < l.length → R (l.getD i default) (l.getD (i + 1) default)) ↔ l.Pairwise R
 | [] => by simp
 | [a] => by simp
 | a :: b :: t => by
   have ih := pw_iff tr (b :: t)
   rw [List.pairwise_cons, ← ih]
   constructor
   ·intro h
    have h0 := h 0 (by simp)
    simp only [List.getD_cons_zero, List.getD_cons_succ, Nat.zero_add] at h0
    have hr : ∀ i, i + 1 < (b :: t).length → R ((b :: t).getD i default) ((b :: t).getD (i + 1) default) := fun i hi => by
     have := h (i + 1) (by simp at hi ⊢; omega)
     rwa [List.getD_cons_succ, List.getD_cons_succ] at this
    refine ⟨fun c hc => ?_, hr⟩
    rcases List.mem_cons.1 hc with rfl | hc
    ·exact h0
    ·have := ih.1 hr
     rw [List.pairwise_cons] at this
     exact tr _ _ _ h0 (this.1 c hc)
   ·rintro ⟨h1, h2⟩ i hi
    cases i with
    | zero =>
      simp only [List.getD_cons_zero, List.getD_cons_succ, Nat.zero_add]
      exact h1 b List.mem_cons_self
    | succ i =>
      have := h2 i (by simp at hi ⊢; omega)
      rwa [List.getD_cons_succ, List.getD_cons_succ]
theorem getD_mem_iff {α : Type} [Inhabited α] {l : List α} {P : α → Prop} : (∀ i, i < l.length → P (l.getD i default)) ↔ ∀ x ∈ l, P x := by
 constructor
 ·intro h x hx
  obtain ⟨i, hi, rfl⟩ := List.mem_iff_getElem.1 hx
  have := h i hi
  rwa [List.getD_eq_getElem?_getD, List.getElem?_eq_getElem hi] at this
 ·intro h i hi
  rw [List.getD_eq_getElem?_getD, List.getElem?_eq_getElem hi]
  exact h _ (List.getElem_mem hi)
theorem ls_iff (l : Ls) : lsValid l = true ↔ LsOK l := by
 have key : pkTo l l.flight.length = true ↔ (∀ k ∈ l.flight, (0 ≤ k.num ∧ k.num ≤ l.next - 1) ∧ k.num ≠ l.largest ∧ (0 ≤ k.time ∧ k.time ≤ 999) ∧ 1 ≤ k.size ∧ k.size ≤ 99) ∧ l.flight.Pairwise fun a b => a.num < b.num ∧ a.time ≤ b.time := by
  rw [← pw_iff (fun a b c h1 h2 => ⟨by have := h1.1; have := h2.1; omega, by have := h1.2; have := h2.2; omega⟩) l.flight, ← getD_mem_iff]
  simp only [pkTo, List.all_eq_true, List.mem_range, pkAt, Bool.and_eq_true, Bool.or_eq_true, decide_eq_true_eq, inB_iff]
  constructor
  ·intro h
   refine ⟨fun i hi => ?_, fun i hi => ?_⟩
   ·have := (h i hi).1
    exact ⟨this.1, this.2.1, this.2.2.1, this.2.2.2⟩
   ·have := (h (i + 1) hi).2
    rw [Nat.add_sub_cancel] at this
    rcases this with this | this
    ·omega
    ·exact this
  ·rintro ⟨h1, h2⟩ i hi
   have a := h1 i hi
   refine ⟨⟨a.1, a.2.1, a.2.2.1, a.2.2.2⟩, ?_⟩
   by_cases h0 : i = 0
   ·exact .inl h0
   ·right
    have := h2 (i - 1) (by omega)
    rwa [show i - 1 + 1 = i by omega] at this
 simp only [lsValid, Bool.and_eq_true, decide_eq_true_eq, inB_iff, key]
 constructor
 ·rintro ⟨⟨⟨h1, h2⟩, h3⟩, h4, h5⟩; exact ⟨h1, h2, h3, h4, h5⟩
 ·rintro ⟨h1, h2, h3, h4, h5⟩; exact ⟨⟨⟨h1, h2⟩, h3⟩, h4, h5⟩
structure PathOK (W : Wd) (p : Int) : Prop where
 ls : LsOK (W.ls p)
 rt : rtValid (W.rt p) = true
 sn : (W.sn p).length ≤ 16 ∧ rgOk (-2) (W.sn p) ∧ rgBelow (W.sn p) (W.ls p).next
theorem path_iff (W : Wd) (p : Int) : pathOk W p = true ↔ PathOK W p := by
 simp only [pathOk, Bool.and_eq_true, ls_iff, rgValid_iff]
 constructor
 ·rintro ⟨⟨h1, h2⟩, ⟨h3, h4⟩, h5⟩; exact ⟨h1, h2, h3, h4, (topB_iff _ _ _ h4).1 h5⟩
 ·rintro ⟨h1, h2, h3, h4, h5⟩; exact ⟨⟨h1, h2⟩, ⟨h3, h4⟩, (topB_iff _ _ _ h4).2 h5⟩
structure FlightOK (W : Wd) (a : Nat × Pk) (c : Cd) : Prop where
 time : a.2.time ≤ W.now
 path : c.path = a.1
 num : c.num = a.2.num
 stream : 0 ≤ c.stream ∧ c.stream ≤ 2
 sent : Sent (W.sd c.stream) c.part
 got : hasR (W.sn a.1) c.num = true → gotPart (W.sd c.stream) (W.rv c.stream) c.part = true
theorem flight_iff (W : Wd) (p : Nat) (k : Pk) (c : Cd) : flightOk W p k c = true ↔ FlightOK W (p, k) c := by
 simp only [flightOk, Bool.and_eq_true, Bool.or_eq_true, decide_eq_true_eq, inB_iff, sent_iff, Bool.not_eq_true']
 constructor
 ·rintro ⟨⟨h1, ⟨h2, h3⟩, h4⟩, h5, h6⟩
  exact ⟨h1, h2, h3, h4, h5, fun h => by rcases h6 with h6 | h6; (· rw [h] at h6; cases h6); exact h6⟩
 ·rintro ⟨h1, h2, h3, h4, h5, h6⟩
  refine ⟨⟨h1, ⟨h2, h3⟩, h4⟩, h5, ?_⟩
  cases hh : hasR (W.sn p) c.num with
  | false => exact .inl rfl
  | true => exact .inr (h6 hh)
def flightsTo (W : Wd) (n : Nat) : List (Nat × Pk) := (List.range n).flatMap fun (p : Nat) => (W.ls (p : Int)).flight.map fun k => (p, k)
def flights (W : Wd) : List (Nat × Pk) := flightsTo W 4
theorem flightsTo_succ (W : Wd) (n : Nat) : flightsTo W (n + 1) = flightsTo W n ++ (W.ls n).flight.map fun k => (n, k) := by
 simp [flightsTo, List.range_succ]
theorem flightsOk_iff (W : Wd) (p : Nat) : ∀ (fl : List Pk) (cs r : List Cd), flightsOk W p fl cs = some r ↔ ∃ c1, cs = c1 ++ r ∧ F2 (FlightOK W) (fl.map fun k => (p, k)) c1
 | [], cs, r => by
   simp only [flightsOk, Option.some.injEq, List.map_nil]
   constructor
   ·intro h; exact ⟨[], by simp [h], trivial⟩
   ·rintro ⟨c1, rfl, h⟩
    cases c1 with
    | nil => rfl
    | cons => exact h.elim
 | k :: t, [], r => by
   simp only [flightsOk, List.map_cons]
   constructor
   ·intro h; cases h
   ·rintro ⟨c1, h1, h⟩
    cases c1 with
    | nil => exact h.elim
    | cons => simp at h1
 | k :: t, c :: cs, r => by
   simp only [flightsOk, List.map_cons]
   by_cases hk : flightOk W p k c = true
   ·rw [if_pos hk, flightsOk_iff W p t cs r]
    constructor
    ·rintro ⟨c1, rfl, h⟩; exact ⟨c :: c1, rfl, (flight_iff W p k c).1 hk, h⟩
    ·rintro ⟨c1, h1, h⟩
     cases c1 with
     | nil => exact h.elim
     | cons d c1 =>
       simp only [List.cons_append, List.cons.injEq] at h1
       exact ⟨c1, h1.2, h.2⟩
   ·rw [if_neg hk]
    constructor
    ·intro h; cases h
    ·rintro ⟨c1, h1, h⟩
     cases c1 with
     | nil => exact h.elim
     | cons d c1 =>
       simp only [List.cons_append, List.cons.injEq] at h1
       rw [← h1.1] at h
       exact absurd ((flight_iff W p k c).2 h.1) hk
theorem pathsOk_iff (W : Wd) (cs : List Cd) : ∀ (n : Nat) (r : List Cd), pathsOk W n cs = some r ↔ (∀ p : Nat, p < n → PathOK W p) ∧ ∃ c1, cs = c1 ++ r ∧ F2 (FlightOK W) (flightsTo W n) c1
 | 0, r => by
   simp only [pathsOk, Option.some.injEq]
   constructor
   ·intro h; exact ⟨fun p hp => by omega, [], by simp [h], trivial⟩
   ·rintro ⟨_, c1, rfl, h⟩
    cases c1 with
    | nil => rfl
    | cons => exact h.elim
 | n + 1, r => by
   simp only [pathsOk]
   constructor
   ·intro h
    cases hn : pathsOk W n cs with
    | none => rw [hn] at h; cases h
    | some r1 =>
      rw [hn] at h
      simp only at h
      by_cases hp : pathOk W (n : Nat) = true
      ·rw [if_pos hp] at h
       obtain ⟨h1, c1, e1, f1⟩ := (pathsOk_iff W cs n r1).1 hn
       obtain ⟨c2, e2, f2⟩ := (flightsOk_iff W n _ _ _).1 h
       refine ⟨fun p hpn => ?_, c1 ++ c2, by rw [e1, e2, List.append_assoc], by rw [flightsTo_succ]; exact F2.append f1 f2⟩
       by_cases hlt : p < n
       ·exact h1 p hlt
       ·obtain rfl : p = n := by omega
        exact (path_iff W p).1 hp
      ·rw [if_neg hp] at h; cases h
   ·rintro ⟨h1, c1, e1, f1⟩
    rw [flightsTo_succ] at f1
    obtain ⟨m1, m2, rfl, f2, f3⟩ := F2.split f1
    have hn := (pathsOk_iff W cs n (m2 ++ r)).2 ⟨fun p hp => h1 p (by omega), m1, by rw [e1, List.append_assoc], f2⟩
    rw [hn]
    simp only
    rw [if_pos ((path_iff W n).2 (h1 n (by omega)))]
    exact (flightsOk_iff W n _ _ _).2 ⟨m2, rfl, f3⟩
structure WireOK (W : Wd) (x : Wi) : Prop where
 path : 0 ≤ x.path ∧ x.path ≤ 3
 frame : fmValid x.frame = true
 num : -1 ≤ x.num ∧ x.num ≤ 999
 gen : x.genuine = true →
  (x.frame.kind = 3 ∧ 0 ≤ x.num ∧ x.num ≤ (W.ls x.path).next - 1 ∧ Sent (W.sd x.frame.a) (fmPart x.frame) ∧ ∀ c ∈ W.carried, c.path = x.path → c.num = x.num → c.stream = x.frame.a ∧ c.part = fmPart x.frame) ∨
  (x.frame.kind = 4 ∧ x.num = -1 ∧ x.frame.b ≤ (W.rv x.frame.a).limit) ∨
  (x.frame.kind = 2 ∧ x.num = -1 ∧ rgBelow x.frame.ranges (W.ls x.frame.a).next ∧ ∀ c ∈ W.carried, c.path = x.frame.a → hasR x.frame.ranges c.num = true → gotPart (W.sd c.stream) (W.rv c.stream) c.part = true)
def OneKey (l : List Cd) : Prop := l.Pairwise fun a b => ¬ (a.path = b.path ∧ a.num = b.num)
theorem OneKey.eq {l : List Cd} (h : OneKey l) {c d : Cd} (hc : c ∈ l) (hd : d ∈ l) (hp : c.path = d.path) (hn : c.num = d.num) : c = d := by
 unfold OneKey at h
 induction l with
 | nil => simp at hc
 | cons x xs ih =>
   rw [List.pairwise_cons] at h
   rcases List.mem_cons.1 hc with rfl | hc' <;> rcases List.mem_cons.1 hd with rfl | hd'
   ·rfl
   ·exact (h.1 d hd' ⟨hp, hn⟩).elim
   ·exact (h.1 c hc' ⟨hp.symm, hn.symm⟩).elim
   ·exact ih h.2 hc' hd'
theorem fm2 {f : Fm} (h : fmValid f = true) (hk : f.kind = 2) : (0 ≤ f.a ∧ f.a ≤ 3) ∧ f.ranges ≠ [] ∧ f.ranges.length ≤ 16 ∧ rgOk (-2) f.ranges := by
 simp only [fmValid, hk, Bool.and_eq_true] at h
 have h2 := h.2
 simp [fieldsOk, inB_iff, rgValid_iff] at h2
 exact ⟨⟨by omega, by omega⟩, h2.2.1, h2.2.2⟩
theorem fm3 {f : Fm} (h : fmValid f = true) (hk : f.kind = 3) : (0 ≤ f.a ∧ f.a ≤ 2) ∧ (0 ≤ f.b ∧ f.b ≤ 30 - bl f.data) ∧ (0 ≤ f.c ∧ f.c ≤ 1) ∧ f.data.length ≤ 12 := by
 simp only [fmValid, hk, Bool.and_eq_true] at h
 have h1 := h.1.1.1
 have h2 := h.2
 simp [fieldsOk, inB_iff] at h1 h2
 exact ⟨⟨by omega, by omega⟩, ⟨by omega, by omega⟩, ⟨by omega, by omega⟩, h1⟩
theorem fm4 {f : Fm} (h : fmValid f = true) (hk : f.kind = 4) : (0 ≤ f.a ∧ f.a ≤ 2) ∧ (0 ≤ f.b ∧ f.b ≤ 30) := by
 simp only [fmValid, hk, Bool.and_eq_true] at h
 have h2 := h.2
 simp [fieldsOk, inB_iff] at h2
 exact ⟨⟨by omega, by omega⟩, ⟨by omega, by omega⟩⟩
structure WdOK (W : Wd) : Prop where
 now : 0 ≤ W.now ∧ W.now ≤ 999
 sends : W.sends.length = 3
 recvs : W.recvs.length = 3
 got : W.got.length = 3
 paths : W.paths.length = 4
 rtts : W.rtts.length = 4
 windows : W.windows.length = 4
 seen : W.seen.length = 4
 wns : wnsValid W.windows = true
 net : W.net.length ≤ 10
 streams : ∀ i : Nat, i < 3 → StOK (W.sends.getD i default) (W.recvs.getD i default) (W.got.getD i default)
 path : ∀ p : Nat, p < 4 → PathOK W p
 cars : F2 (FlightOK W) (flights W) W.carried
 wires : ∀ x ∈ W.net, WireOK W x
theorem keys_pw (W : Wd) (n : Nat) (h : ∀ p : Nat, p < n → (W.ls p).flight.Pairwise fun a b => a.num < b.num ∧ a.time ≤ b.time) : (flightsTo W n).Pairwise fun a b => ¬ (a.1 = b.1 ∧ a.2.num = b.2.num) := by
 induction n with
 | zero => simp [flightsTo]
 | succ n ih =>
   rw [flightsTo_succ, List.pairwise_append]
   refine ⟨ih fun p hp => h p (by omega), ?_, ?_⟩
   ·rw [List.pairwise_map]
    exact (h n (by omega)).imp fun hab => by rintro ⟨_, e⟩; simp only at e; omega
   ·intro a ha b hb
    simp only [List.mem_map] at hb
    obtain ⟨k, _, rfl⟩ := hb
    simp only [flightsTo, List.mem_flatMap, List.mem_range, List.mem_map] at ha
    obtain ⟨q, hq, k', _, rfl⟩ := ha
    simp only
    omega
theorem pw_f2 {α β : Type} {R : α → β → Prop} {Q : α → α → Prop} {T : β → β → Prop} (hq : ∀ a b c d, R a b → R c d → Q a c → T b d) : ∀ {l : List α} {m : List β}, F2 R l m → l.Pairwise Q → m.Pairwise T
 | [], [], _, _ => List.Pairwise.nil
 | a :: l, b :: m, h, hp => by
   rw [List.pairwise_cons] at hp ⊢
   refine ⟨fun y hy => ?_, pw_f2 hq h.2 hp.2⟩
   obtain ⟨x, hx, hr⟩ := F2.mem h.2 y hy
   exact hq _ _ _ _ h.1 hr (hp.1 x hx)
theorem oneKey_of {W : Wd} (hp : ∀ p : Nat, p < 4 → PathOK W p) (hc : F2 (FlightOK W) (flights W) W.carried) : OneKey W.carried := by
 have := keys_pw W 4 fun p h => (hp p h).ls.asc
 refine pw_f2 (fun a b c d h1 h2 h3 => ?_) hc this
 rintro ⟨e1, e2⟩
 rw [h1.path, h2.path] at e1
 rw [h1.num, h2.num] at e2
 exact h3 ⟨by omega, e2⟩
theorem WdOK.key {W : Wd} (h : WdOK W) : OneKey W.carried := oneKey_of h.path h.cars
end Go.Proofs.YtjbhiglaginpeaaGreat
namespace Go.Proofs.YtjbhiglaginpeaaGreat
open Go.RowKit
def RCar {α : Type} (R : World → (Nat → Prop) → List Value → α → Prop) : Prop := ∀ {w w' : World} {ok ok' : Nat → Prop}, Car w ok w' ok' → ∀ {cs : List Value} {x : α}, R w ok cs x → R w' ok' cs x
theorem rgCar : RCar RgR := fun _ _ _ h => h
def Inn (ro : Nat → Nat) (w : World) : Nat → Prop := fun b => ro b = 0 ∧ b < w.heap.size
theorem inn_old (ro : Nat → Nat) (w : World) : Sub (Inn ro w) (Old w) := fun _ h => h.2
def reRole (ro : Nat → Nat) (B g i : Nat) : Nat → Nat := fun b => if b < B then ro b else if b = g then i else 0
section
variable {α : Type} {R : World → (Nat → Prop) → List Value → α → Prop} {size t base i n c : Nat} {ro ro' : Nat → Nat} {w w' : World} {A : Option Addr} {l : List α}
structure OutS (R : World → (Nat → Prop) → List Value → α → Prop) (size t : Nat) (w : World) (base : Nat) (ro : Nat → Nat) (i : Nat) (A : Option Addr) (n c : Nat) (l : List α) : Prop where
 len : l.length = n
 cap : n ≤ c ∧ c ≤ maxLen
 nil : A = none → c = 0
 cells : ∃ css : List (List Value), css.length = n ∧ (∀ x ∈ css, x.length = size) ∧ (∀ (k : Nat) (cs : List Value) (x : α), css[k]? = some cs → l[k]? = some x → R w (Inn ro w) cs x) ∧ w.ownsRow base t size (.slice A n c) n css.flatten
 role : ∀ a, A = some a → ro a.block = i
theorem OutS.slice (hR : RCar R) (h : OutS R size t w base ro i A n c l) : SliceR R size w (Old w) A n c l := by
 obtain ⟨css, h1, h2, h3, ho⟩ := h.cells
 refine ⟨h.len, h.cap.1, h.cap.2, h.nil, css, h1, h2, fun k cs x a b => hR (Car.sub (inn_old ro w)) (h3 k cs x a b), ?_⟩
 have := Rd.of_own ho
 exact ⟨this.1, fun hn => by
  obtain ⟨b, o, e, hb, hc⟩ := this.2 hn
  exact ⟨b, o, e, hb, hc⟩⟩
theorem inn_car {o : Option Nat} (hg : w.grownBy w' o) (ho : ∀ g, o = some g → g < w.heap.size → ro g ≠ 0) (hro : ∀ b, b < w.heap.size → ro' b = ro b) : Car w (Inn ro w) w' (Inn ro' w') := by
 rintro b ⟨hb, hlt⟩
 refine ⟨⟨by rw [hro b hlt]; exact hb, Nat.lt_of_lt_of_le hlt hg.size⟩, hg.block b hlt (fun e => ?_)⟩
 exact ho b e.symm hlt hb
theorem flatten_set {css : List (List Value)} (h2 : ∀ x ∈ css, x.length = size) {k : Nat} (hk : k < css.length) {cs : List Value} (hcs : cs.length = size) : putMany css.flatten (k * size) cs = (css.set k cs).flatten := by
 have e1 : css = css.take k ++ [css[k]] ++ css.drop (k + 1) := by simp
 have e2 : css.set k cs = css.take k ++ [cs] ++ css.drop (k + 1) := by rw [List.set_eq_take_append_cons_drop, if_pos hk]; simp
 have hl : (css.take k).flatten.length = k * size := by rw [flatten_len (size := size) (fun x hx => h2 x (List.mem_of_mem_take hx)), List.length_take, Nat.min_eq_left (by omega)]
 rw [e2]
 conv => lhs; rw [e1]
 simp only [List.flatten_append, List.flatten_cons, List.flatten_nil, List.append_nil]
 rw [← hl]
 exact putMany_at cs _ _ _ (by rw [hcs]; exact h2 _ (List.getElem_mem hk))
theorem OutS.put (hR : RCar R) {g : Nat} (h : OutS R size t w base ro i (some ⟨g, 0, none⟩) n c l) (hi : i ≠ 0) {k : Nat} (hk : k < n) {cs : List Value} {x : α} (hcs : cs.length = size) (hx : R w (Inn ro w) cs x) :
 OutS R size t (w.setCells g (k * size) cs) base ro i (some ⟨g, 0, none⟩) n c (l.set k x) ∧ w.grownBy (w.setCells g (k * size) cs) (some g) := by
 obtain ⟨css, h1, h2, h3, ho⟩ := h.cells
 have hrole := h.role _ rfl
 obtain ⟨o1, o2⟩ := own_setCells cs w _ (k * size) ho
 rw [flatten_set h2 (by omega) hcs] at o1
 have hcar : Car w (Inn ro w) (w.setCells g (k * size) cs) (Inn ro (w.setCells g (k * size) cs)) := inn_car o2 (fun g' e _ => by injection e with e; subst e; rw [hrole]; exact hi) (fun _ _ => rfl)
 refine ⟨⟨by rw [List.length_set]; exact h.len, h.cap, h.nil, ⟨css.set k cs, by rw [List.length_set]; exact h1, fun y hy => ?_, fun j ds y a b => ?_, o1⟩, h.role⟩, o2⟩
 ·rcases List.mem_or_eq_of_mem_set hy with hy | hy
  ·exact h2 y hy
  ·rw [hy]; exact hcs
 ·rw [List.getElem?_set] at a b
  have hl := h.len
  by_cases hj : k = j
  ·subst hj
   rw [if_pos rfl, if_pos (by omega)] at a b
   injection a with a
   injection b with b
   subst a; subst b
   exact hR hcar hx
  ·rw [if_neg hj] at a b
   exact hR hcar (h3 j ds y a b)
theorem OutS.none_ : OutS R size t w base ro i none 0 0 [] :=
 ⟨rfl, ⟨Nat.le_refl _, Nat.zero_le _⟩, fun _ => rfl, ⟨[], rfl, by simp, by simp, World.ownsRow_nil _ _ _ _⟩, fun a e => by cases e⟩
end
end Go.Proofs.YtjbhiglaginpeaaGreat
