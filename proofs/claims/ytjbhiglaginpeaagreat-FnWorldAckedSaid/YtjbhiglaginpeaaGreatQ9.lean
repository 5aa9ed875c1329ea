/- Parts of the proof, joined from several texts. No condition. -/
import Derived.Laws.StructEq
import Derived.Test.YtjbhiglaginpeaaGreatQ5
import Derived.Test.YtjbhiglaginpeaaGreatQ8
set_option maxRecDepth 100000
set_option maxHeartbeats 16000000
set_option linter.unusedVariables false
set_option linter.unusedSimpArgs false
namespace Go.Proofs.YtjbhiglaginpeaaGreat
open Go.RowKit
def fitB : List Nat → List Value → Bool
 | [], [] => true
 | 0 :: s, .int .i64 _ :: r => fitB s r
 | 1 :: s, .bool _ :: r => fitB s r
 | 2 :: s, .string _ :: r => fitB s r
 | _, _ => false
def eqB : List Value → List Value → Bool
 | .int _ a :: r, .int _ b :: r' => (a == b) && eqB r r'
 | .bool a :: r, .bool b :: r' => (a == b) && eqB r r'
 | .string a :: r, .string b :: r' => (a.toList == b.toList) && eqB r r'
 | _, _ => true
theorem fit_nil {us : List Value} (h : fitB [] us = true) : us = [] := by
 cases us with
 | nil => rfl
 | cons u r => simp [fitB] at h
theorem fit_i {s : List Nat} {us : List Value} (h : fitB (0 :: s) us = true) : ∃ a r, us = .int .i64 a :: r ∧ fitB s r = true := by
 unfold fitB at h
 split at h
 all_goals first | (cases h; done) | (simp_all; done) | skip
 all_goals exact ⟨_, _, rfl, by simp_all⟩
theorem fit_b {s : List Nat} {us : List Value} (h : fitB (1 :: s) us = true) : ∃ a r, us = .bool a :: r ∧ fitB s r = true := by
 unfold fitB at h
 split at h
 all_goals first | (cases h; done) | (simp_all; done) | skip
 all_goals exact ⟨_, _, rfl, by simp_all⟩
theorem fit_s {s : List Nat} {us : List Value} (h : fitB (2 :: s) us = true) : ∃ a r, us = .string a :: r ∧ fitB s r = true := by
 unfold fitB at h
 split at h
 all_goals first | (cases h; done) | (simp_all; done) | skip
 all_goals exact ⟨_, _, rfl, by simp_all⟩
class EqA (P : Program) (T : Nat) (sh : outParam (List Nat)) : Prop where
 gd : P.eqGuardType P.depth T = false
 out : ∀ (us vs : List Value) (w : World), fitB sh us = true → fitB sh vs = true → (Op.equalIn 10000 T (.agg us.toArray) (.agg vs.toArray)).run P w = .ok (eqB us vs) w
def unS : List AV → List Value
 | [] => []
 | .d (.sc v) :: r => v :: unS r
 | _ :: r => unS r
def scA : List AV → Bool
 | [] => true
 | .d (.sc _) :: r => scA r
 | _ => false
theorem unS_eq {z : Cz} {w : World} {ok : Nat → Prop} : ∀ {xs : List AV} {us : List Value}, scA xs = true → us.length = xs.length → (∀ (j : Nat) (x : AV) (u : Value), xs[j]? = some x → us[j]? = some u → VR z w ok x u) → us = unS xs
 | [], us, _, hl, _ => by cases us <;> simp_all [unS]
 | .d (.sc v) :: r, [], _, hl, _ => by simp at hl
 | .d (.sc v) :: r, u :: us, h, hl, hv => by
   have h1 := (hv 0 _ _ rfl rfl).dsc.1
   rw [unS, ← unS_eq (xs := r) (us := us) (by simpa [scA] using h) (by simpa using hl) (fun j x u' hx hu => hv (j + 1) x u' (by simpa using hx) (by simpa using hu)), h1]
 | .d (.sl ..) :: _, _, h, _, _ => by simp [scA] at h
 | .un :: _, _, h, _, _ => by simp [scA] at h
 | .ptr _ _ :: _, _, h, _, _ => by simp [scA] at h
 | .ep _ _ _ _ :: _, _, h, _, _ => by simp [scA] at h
 | .dp _ _ :: _, _, h, _, _ => by simp [scA] at h
 | .own _ _ :: _, _, h, _, _ => by simp [scA] at h
 | .emp :: _, _, h, _, _ => by simp [scA] at h
 | .ag _ :: _, _, h, _, _ => by simp [scA] at h
 | .tu _ :: _, _, h, _, _ => by simp [scA] at h
section
variable {P : Program} {o : Oper} {s : St} {d : Nat}
theorem OT.cmpG {T T' : Nat} {p q : Operand} {xs ys : List AV} {sh : List Nat} {b : Bool} [h : EqA P T sh] (hd : o.dst = some d) (ho : o.op = .binOp .eql T p q T') (hp : s.ev p = some (.ag xs)) (hq : s.ev q = some (.ag ys)) (hx : (scA xs && scA ys && (fitB sh (unS xs) && fitB sh (unS ys))) = true) (hb : eqB (unS xs) (unS ys) = b) :
 OT P o s d (.d (.sc (.bool b))) [] [] := by
 refine .pure hd fun x' z s' a w hs hz => ⟨.bool b, ?_, .mk_sc rfl⟩
 have h1 := hz.ev (hs.ev hp)
 have h2 := hz.ev (hs.ev hq)
 simp only [Bool.and_eq_true] at hx
 obtain ⟨⟨x1, x2⟩, x3, x4⟩ := hx
 generalize hu : a.eval p = u at h1
 generalize hv : a.eval q = v at h2
 cases h1 with
 | @ag _ us hl hh =>
   cases h2 with
   | @ag _ vs hl' hh' =>
     have e1 := unS_eq x1 hl hh
     have e2 := unS_eq x2 hl' hh'
     rw [← e1] at x3 hb
     rw [← e2] at x4 hb
     have := h.out us vs w x3 x4
     simp [execOp, ho, hu, hv, run_eqGuard_agg w .eql T p q us.toArray vs.toArray h.gd, run_eql_struct, this, hb]
theorem OT.cmpGn {T T' : Nat} {p q : Operand} {xs ys : List AV} {sh : List Nat} {b : Bool} [h : EqA P T sh] (hd : o.dst = some d) (ho : o.op = .binOp .neq T p q T') (hp : s.ev p = some (.ag xs)) (hq : s.ev q = some (.ag ys)) (hx : (scA xs && scA ys && (fitB sh (unS xs) && fitB sh (unS ys))) = true) (hb : (!eqB (unS xs) (unS ys)) = b) :
 OT P o s d (.d (.sc (.bool b))) [] [] := by
 refine .pure hd fun x' z s' a w hs hz => ⟨.bool b, ?_, .mk_sc rfl⟩
 have h1 := hz.ev (hs.ev hp)
 have h2 := hz.ev (hs.ev hq)
 simp only [Bool.and_eq_true] at hx
 obtain ⟨⟨x1, x2⟩, x3, x4⟩ := hx
 generalize hu : a.eval p = u at h1
 generalize hv : a.eval q = v at h2
 cases h1 with
 | @ag _ us hl hh =>
   cases h2 with
   | @ag _ vs hl' hh' =>
     have e1 := unS_eq x1 hl hh
     have e2 := unS_eq x2 hl' hh'
     rw [← e1] at x3 hb
     rw [← e2] at x4 hb
     have := h.out us vs w x3 x4
     simp [execOp, ho, hu, hv, run_eqGuard_agg w .neq T p q us.toArray vs.toArray h.gd, run_neq_struct, this, hb]
end
instance : EqA Tryz.prog 77 [0, 0, 0, 0] := ⟨Tryz.eqGuardType77, fun us vs w hu0 hv0 => by
 obtain ⟨a0, u0, rfl, hu1⟩ := fit_i hu0
 obtain ⟨a1, u1, rfl, hu2⟩ := fit_i hu1
 obtain ⟨a2, u2, rfl, hu3⟩ := fit_i hu2
 obtain ⟨a3, u3, rfl, hu4⟩ := fit_i hu3
 obtain rfl := fit_nil hu4
 obtain ⟨b0, v0, rfl, hv1⟩ := fit_i hv0
 obtain ⟨b1, v1, rfl, hv2⟩ := fit_i hv1
 obtain ⟨b2, v2, rfl, hv3⟩ := fit_i hv2
 obtain ⟨b3, v3, rfl, hv4⟩ := fit_i hv3
 obtain rfl := fit_nil hv4
 clear hu0 hv0 hu1 hv1 hu2 hv2 hu3 hv3 hu4 hv4
 rw [run_equalIn_struct w 9999 77 _ _ (by kernel_rfl) Tryz.stoodInHeld77]
 simp [Program.fieldsOf, Tryz.underlying77, Op.eqFields, part, TyOne.run, run_equalIn_int, run_equalIn_bool', run_equalIn_string, Tryz.underlying3, Tryz.underlying9, Tryz.underlying4, eqB]
 repeat' split
 all_goals simp_all⟩
instance : EqA Tryz.prog 80 [0, 2, 1] := ⟨Tryz.eqGuardType80, fun us vs w hu0 hv0 => by
 obtain ⟨a0, u0, rfl, hu1⟩ := fit_i hu0
 obtain ⟨a1, u1, rfl, hu2⟩ := fit_s hu1
 obtain ⟨a2, u2, rfl, hu3⟩ := fit_b hu2
 obtain rfl := fit_nil hu3
 obtain ⟨b0, v0, rfl, hv1⟩ := fit_i hv0
 obtain ⟨b1, v1, rfl, hv2⟩ := fit_s hv1
 obtain ⟨b2, v2, rfl, hv3⟩ := fit_b hv2
 obtain rfl := fit_nil hv3
 clear hu0 hv0 hu1 hv1 hu2 hv2 hu3 hv3
 rw [run_equalIn_struct w 9999 80 _ _ (by kernel_rfl) Tryz.stoodInHeld80]
 simp [Program.fieldsOf, Tryz.underlying80, Op.eqFields, part, TyOne.run, run_equalIn_int, run_equalIn_bool', run_equalIn_string, Tryz.underlying3, Tryz.underlying9, Tryz.underlying4, eqB]
 repeat' split
 all_goals simp_all⟩
instance : EqA Tryz.prog 82 [0, 0, 0, 0, 2, 1] := ⟨Tryz.eqGuardType82, fun us vs w hu0 hv0 => by
 obtain ⟨a0, u0, rfl, hu1⟩ := fit_i hu0
 obtain ⟨a1, u1, rfl, hu2⟩ := fit_i hu1
 obtain ⟨a2, u2, rfl, hu3⟩ := fit_i hu2
 obtain ⟨a3, u3, rfl, hu4⟩ := fit_i hu3
 obtain ⟨a4, u4, rfl, hu5⟩ := fit_s hu4
 obtain ⟨a5, u5, rfl, hu6⟩ := fit_b hu5
 obtain rfl := fit_nil hu6
 obtain ⟨b0, v0, rfl, hv1⟩ := fit_i hv0
 obtain ⟨b1, v1, rfl, hv2⟩ := fit_i hv1
 obtain ⟨b2, v2, rfl, hv3⟩ := fit_i hv2
 obtain ⟨b3, v3, rfl, hv4⟩ := fit_i hv3
 obtain ⟨b4, v4, rfl, hv5⟩ := fit_s hv4
 obtain ⟨b5, v5, rfl, hv6⟩ := fit_b hv5
 obtain rfl := fit_nil hv6
 clear hu0 hv0 hu1 hv1 hu2 hv2 hu3 hv3 hu4 hv4 hu5 hv5 hu6 hv6
 rw [run_equalIn_struct w 9999 82 _ _ (by kernel_rfl) Tryz.stoodInHeld82]
 have hn := fun (w : World) (xs ys : Array Value) => run_equalIn_struct w 9998 80 xs ys (by kernel_rfl) Tryz.stoodInHeld80
 have ha := fun (w : World) => (TyAgg.run (P := Tryz.prog) (T := 80) w)
 simp [Program.fieldsOf, Tryz.underlying82, Op.eqFields, part, TyOne.run, run_equalIn_int, run_equalIn_bool', run_equalIn_string, Tryz.underlying3, Tryz.underlying9, Tryz.underlying4, eqB, hn, ha, Tryz.underlying80]
 repeat' split
 all_goals simp_all⟩
theorem eq_rt (a b : Rt) : eqB [.int .i64 a.latest, .int .i64 a.least, .int .i64 a.smooth, .int .i64 a.vary] [.int .i64 b.latest, .int .i64 b.least, .int .i64 b.smooth, .int .i64 b.vary] = decide (a = b) := by
 cases a; cases b
 rw [Bool.eq_iff_iff]
 simp [eqB]
instance : TyIs Tryz.prog 22 (.slice 5) := ⟨Tryz.underlying22⟩
theorem rt_zero (r : Rt) : r = rtZero ↔ r.latest = 0 ∧ r.least = 0 ∧ r.smooth = 0 ∧ r.vary = 0 := by
 cases r; simp [rtZero]
theorem rt_bd {r : Rt} (h : rtValid r = true) : (r.latest = 0 ∧ r.least = 0 ∧ r.smooth = 0 ∧ r.vary = 0) ∨ ((1 ≤ r.latest ∧ r.latest ≤ 999) ∧ (1 ≤ r.least ∧ r.least ≤ r.latest) ∧ (8 ≤ r.smooth ∧ r.smooth ≤ 7999) ∧ (0 ≤ r.vary ∧ r.vary ≤ 3999)) := by
 simp only [rtValid, Bool.or_eq_true, Bool.and_eq_true, decide_eq_true_eq, rt_zero, inB_iff] at h
 omega
theorem rtV0 {r : Rt} (h : r.latest = 0) : rtValid r = decide (r = rtZero) := by
 unfold rtValid
 rw [show inB r.latest 1 999 = false from by unfold inB; rw [decide_eq_false (by omega)]; rfl]
 simp
theorem rtV1 {r : Rt} (h : ¬ r.latest = 0) : rtValid r = ((inB r.latest 1 999 && inB r.least 1 r.latest) && (inB r.smooth 8 7999 && inB r.vary 0 3999)) := by
 unfold rtValid
 rw [decide_eq_false (fun e => h ((rt_zero r).1 e).1)]
 rfl
theorem rtU0 {r : Rt} {x : Int} (hb : rtValid r = true) (h : r.latest = 0) : rtUpd r x = ⟨x, x, 8 * x, 2 * x⟩ := by
 have := rt_bd hb
 unfold rtUpd
 exact if_pos ((rt_zero r).2 (by omega))
theorem rtU1 {r : Rt} {x : Int} (h : ¬ r.latest = 0) : rtUpd r x = ⟨x, min r.least x, r.smooth + (x - r.smooth / 8), r.vary + (max (r.smooth / 8 - x) (-(r.smooth / 8 - x)) - r.vary / 4)⟩ := by
 unfold rtUpd
 exact if_neg (fun e => h ((rt_zero r).1 e).1)
theorem rtD0 {r : Rt} (hb : rtValid r = true) (h : r.latest = 0) : rtDelay r = 112 := by
 have := rt_bd hb
 unfold rtDelay
 rw [if_pos ((rt_zero r).2 (by omega))]
 rfl
theorem rtD1 {r : Rt} (h : ¬ r.latest = 0) : rtDelay r = max (r.smooth / 8) r.latest + max (r.smooth / 8) r.latest / 8 := by
 unfold rtDelay
 rw [if_neg (fun e => h ((rt_zero r).1 e).1)]
theorem vlRttValid (r : Rt) : FnP Tryz.prog 201 [.ag (av (eRt r))] (aB (rtValid r)) := by
 refine fP Tryz.func201 Tryz.ntmps201 Tryz.results201 ?_
 repeat' (first
  | (apply K.g0; apply K.binOp; refine R.op rfl (OT.cmpG rfl rfl rfl rfl rfl (eq_rt r rtZero)) rfl ?_)
  | refine stp ?_
  | (apply K.g0; apply K.callF; refine cq (F := vl6In _ _ _) (G := ?_))
  | (apply K.g1; apply K.callF; refine cqt (F := vl6In _ _ _) (G := ?_))
  | (refine R.gS rfl rfl rfl ?_ ?_ <;> intro hb <;> (try have hb' := nrm hb) <;> try (exfalso; omega))
  | (refine WC.cond rfl ?_ ?_ <;> intro hb <;> (try have hb' := nrm hb) <;> try (exfalso; omega)))
 all_goals first
  | (rw [rtV0 (by assumption)]; (exact ret1))
  | (rw [rtV1 (by assumption), show inB r.latest 1 999 = false from by assumption, Bool.false_and, Bool.false_and]; (exact ret1))
  | (rw [rtV1 (by assumption), show inB r.least 1 r.latest = false from by assumption, Bool.and_false, Bool.false_and]; (exact ret1))
  | (rw [rtV1 (by assumption), show inB r.smooth 8 7999 = false from by assumption, Bool.false_and, Bool.and_false]; (exact ret1))
  | (rw [rtV1 (by assumption), show inB r.latest 1 999 = true from by assumption, show inB r.least 1 r.latest = true from by assumption, show inB r.smooth 8 7999 = true from by assumption, Bool.true_and, Bool.true_and, Bool.true_and]; (exact ret1))
theorem vl21Abs (n : Int) (h : -1000000 ≤ n ∧ n ≤ 1000000) : FnP Tryz.prog 203 [aI n] (aI (max n (-n))) := by
 refine fP Tryz.func203 Tryz.ntmps203 Tryz.results203 ?_
 repeat' (first
  | refine stp ?_
  | (refine WC.cond rfl ?_ ?_ <;> intro hb <;> (try have hb' := nrm hb) <;> try (exfalso; omega)))
 all_goals first
  | (rw [show max n (-n) = -n by omega]; (exact ret1))
  | (rw [show max n (-n) = n by omega]; (exact ret1))
theorem vl21Update (r : Rt) (x : Int) (h : rtValid r = true) (hx : 1 ≤ x ∧ x ≤ 999) : FnP Tryz.prog 193 [.ag (av (eRt r)), aI x, aI 0] (.ag (av (eRt (rtUpd r x)))) := by
 have hb := rt_bd h
 refine fP Tryz.func193 Tryz.ntmps193 Tryz.results193 ?_
 repeat' (first
  | refine stp ?_
  | (apply KA.g0; apply KA.callF; refine cqa (F := vl21Abs _ (by omega)) (G := ?_))
  | (refine WC.cond rfl ?_ ?_ <;> intro hb <;> (try have hb' := nrm hb) <;> try (exfalso; omega))
  | (apply K.rg 7; refine wdr [0, 1, 0, 4, 12, 31, 0, 64, 192, 0, 960, 1984, 4095, 8191, 16383] 12 [35, 36, 37, 38, 39, 40, 41, 42, 43, 44, 45, 46] [] ?_)
  | refine dcl ?_)
 all_goals first
  | (rw [rtU0 h (by assumption)]; (exact ret1))
  | (rw [rtU1 (by assumption)]; (exact ret1))
theorem vlRttLossDelay (r : Rt) (h : rtValid r = true) : FnP Tryz.prog 190 [.ag (av (eRt r))] (aI (rtDelay r)) := by
 have hb := rt_bd h
 refine fP Tryz.func190 Tryz.ntmps190 Tryz.results190 ?_
 repeat' (first
  | refine stp ?_
  | (apply K.g0; apply K.callF; refine cq (F := vlRttValid r) (G := ?_))
  | (refine WC.cond rfl ?_ ?_ <;> intro hb <;> (try have hb' := nrm hb) <;> try (exfalso; omega)))
 all_goals first
  | (rw [rtD0 h (by assumption)]; (exact ret1))
  | (rw [rtD1 (by assumption)]; (exact ret1))
  | (exfalso; simp_all; done)
def byteP (x : Int) : UInt8 := UInt8.ofNat x.toNat
theorem vl1Len (n : Int) (h : n < 64) : FnP Tryz.prog 188 [aI n] (aI 1) := by
 refine fP Tryz.func188 Tryz.ntmps188 Tryz.results188 ?_
 repeat' (first
  | refine stp ?_
  | fail)
 (exact ret1)
theorem vl1Bytes (n : Int) (h : 0 ≤ n ∧ n < 64) : FnP Tryz.prog 187 [aI n, aI 1] (.d (dS [byteP n])) := by
 refine fP Tryz.func187 Tryz.ntmps187 Tryz.results187 ?_
 repeat' (first
  | refine stp ?_
  | fail)
 refine WC.loop (fun k s => s = ⟨⟨38, []⟩, [(0, aI n), (1, aI 1), (5, aI 0), (6, aI 1)], []⟩) 0 rfl (imp (look [])) ?_
 rintro k s rfl
 repeat' (first
  | refine stp ?_
  | fail)
 refine WC.loop (fun k s => s = ⟨⟨38, []⟩, [(0, aI n), (1, aI 1), (5, aI 0), (7, .d (dS [])), (8, aI 1)], []⟩) 0 rfl (imp (look [])) ?_
 rintro k s rfl
 repeat' (first
  | refine stp ?_
  | fail)
 rw [show byteP n = UInt8.ofNat (0 + n).toNat from by unfold byteP; rw [Int.zero_add]]
 (exact ret1)
theorem vl1Join (l : List Int) (h : l.length ≤ 1000) (hb : ∀ x ∈ l, 0 ≤ x ∧ x < 64) : FnP Tryz.prog 161 [.d (dL 1 eIn l)] (.d (dS (l.map byteP))) := by
 refine fP Tryz.func161 Tryz.ntmps161 Tryz.results161 ?_
 repeat' (first
  | refine stp ?_
  | fail)
 refine WC.loop (fun k s => ∃ i, k + i = l.length ∧ s = ⟨⟨24, []⟩, [(0, .d (dL 1 eIn l)), (3, .d (dS ((l.take i).map byteP))), (4, aI i)], []⟩) l.length ⟨0, rfl, rfl⟩ (imp (look [])) ?_
 rintro k s ⟨i, hk, rfl⟩
 have hS : i < l.length → (l.take (i + 1)).map byteP = (l.take i).map byteP ++ [byteP (l.getD i default)] := fun h => by rw [take_snoc h, List.map_append]; rfl
 have hp : i < l.length → 0 ≤ l.getD i default ∧ l.getD i default < 64 := fun h => hb _ (getD_mem' h)
 have hln : ((l.take i).map byteP).length ≤ 1000 := by rw [List.length_map, List.length_take]; omega
 repeat' (first
  | refine stp ?_
  | (apply KA.g0; apply KA.callF; first | refine cqa (F := vl1Len _ (by omega)) (G := ?_) | refine cqa (F := vl1Bytes _ (by omega)) (G := ?_))
  | (refine WC.cond rfl ?_ ?_ <;> intro hb <;> (try have hb' := nrm hb) <;> try (exfalso; omega))
  | (apply K.rg 5; refine wdr [0, 0, 0, 6, 14, 0, 0, 96, 224, 480, 1022, 2047, 4095] 11 [11, 12, 13, 14, 15, 16, 17, 18, 19, 20, 21] [] ?_)
  | refine dcl ?_)
 all_goals first
  | (refine loopQ.n (k - 1) _ (by omega) ⟨i + 1, by omega, rfl⟩ ?_
     rw [hS (by omega)]
     exact imp (look []))
  | (obtain rfl : i = l.length := (by omega)
     rw [List.take_of_length_le (Nat.le_refl _)]
     (exact ret1))
theorem vl4Numbers3 : FnP Tryz.prog 119 [aI 3] (aI 3) := by
 refine fP Tryz.func119 Tryz.ntmps119 Tryz.results119 ?_
 repeat' (first
  | refine stp ?_
  | fail)
 (exact ret1)
def encP (f : Fm) : Bs := [byteP 3, byteP f.a, byteP f.b, byteP f.c, byteP (f.data.length : Int)] ++ f.data
theorem vl4Encode (f : Fm) (hk : f.kind = 3) (ha : 0 ≤ f.a ∧ f.a < 64) (hb : 0 ≤ f.b ∧ f.b < 64) (hc : 0 ≤ f.c ∧ f.c < 64) (hd : f.data.length < 64) (hr : f.ranges.length ≤ 1000) : FnP Tryz.prog 115 [.ag (av (eFm f))] (.d (dS (encP f))) := by
 obtain ⟨kd, a, b, c, dt, rs⟩ := f
 simp only at hk ha hb hc hd hr
 subst hk
 refine fP Tryz.func115 Tryz.ntmps115 Tryz.results115 ?_
 have hJ := vl1Join [3, a, b, c, (dt.length : Int)] (by simp) (by simp; omega)
 repeat' (first
  | (apply KA.g0; apply KA.callF; refine ak_callF rfl (LeFs.cons (LeF.f1 rfl rfl (fun m hm => by (match m, hm with | 0, _ => rfl | 1, _ => rfl | 2, _ => rfl | 3, _ => rfl | 4, _ => rfl))) LeFs.nil) hJ (by rfl) ?_)
  | refine stp ?_
  | (apply K.g0; apply K.callF; refine cq (F := vl4Numbers3) (G := ?_))
  | (apply K.rg 13; refine WC.drawD (ms := [0, 0, 2, 6, 14, 31, 63, 0, 128, 511, 1023]) 9 [79, 80, 81, 82, 83, 84, 85, 86, 87] [(5,[23]),(6,[84])] (by kernel_rfl) (by kernel_rfl) ?_)
  | refine dcl ?_)
 (exact ret1)
theorem pcsOf_none {b : Int → Option UInt8} {fr : Int} {k : Nat} (h : b (fr + k) = none) : pcsOf b fr (k + 1) = pcsOf b fr k := by
 show (match b (fr + k) with | none => _ | some c => _) = _
 rw [h]
theorem pcsOf_new {b : Int → Option UInt8} {fr : Int} {k : Nat} {c : UInt8} (h : b (fr + k) = some c) (h2 : k = 0 ∨ b (fr + k - 1) = none) : pcsOf b fr (k + 1) = pcsOf b fr k ++ [⟨fr + k, [c]⟩] := by
 show (match b (fr + k) with | none => _ | some c => _) = _
 rw [h]
 simp only
 rw [if_neg]
 rintro ⟨h3, h4⟩
 rcases h2 with h2 | h2
 ·omega
 ·exact h4 h2
theorem pcsOf_add {b : Int → Option UInt8} {fr : Int} {k : Nat} {c : UInt8} (h : b (fr + k) = some c) (h2 : 0 < k) (h3 : b (fr + k - 1) ≠ none) : pcsOf b fr (k + 1) = addLast (pcsOf b fr k) c := by
 show (match b (fr + k) with | none => _ | some c => _) = _
 rw [h]
 simp only
 rw [if_pos ⟨h2, h3⟩]
theorem addLast_set {L : List Pc} {c : UInt8} {k : Nat} (h : 0 < L.length) (hk : k = L.length - 1) : addLast L c = L.set k ⟨(L.getD k default).off, (L.getD k default).data ++ [c]⟩ := by
 subst hk
 have hl : L.getLast? = some (L.getD (L.length - 1) default) := by
  rw [List.getLast?_eq_getElem?, List.getD_eq_getElem?_getD, List.getElem?_eq_getElem (by omega)]; rfl
 unfold addLast
 rw [hl]
 simp only
 apply List.ext_getElem?
 intro i
 rw [List.getElem?_set]
 by_cases hi : i < L.length - 1
 ·rw [List.getElem?_append_left (by simpa using hi), if_neg (by omega), List.getElem?_dropLast, if_pos hi]
 ·rw [List.getElem?_append_right (by simpa using hi), List.length_dropLast]
  by_cases h2 : L.length - 1 = i
  ·subst h2
   rw [Nat.sub_self, if_pos rfl, if_pos (by omega)]
   rfl
  ·rw [if_neg h2, List.getElem?_eq_none (by simp; omega), List.getElem?_eq_none (by omega)]
theorem addLast_len (L : List Pc) (c : UInt8) : (addLast L c).length = L.length := by
 cases L with
 | nil => rfl
 | cons p t => rw [addLast_set (by simp) rfl, List.length_set]
theorem pcsOf_len (b : Int → Option UInt8) (fr : Int) : ∀ k : Nat, (pcsOf b fr k).length ≤ k
 | 0 => Nat.le_refl _
 | k + 1 => by
   have ih := pcsOf_len b fr k
   show (match b (fr + k) with | none => _ | some c => _ : List Pc).length ≤ _
   split
   ·omega
   ·split
    ·rw [addLast_len]; omega
    ·rw [List.length_append]; simp only [List.length_cons, List.length_nil]; omega
theorem byte_some {o : Option UInt8} (h : ¬ byteI o < 0) : o = some (UInt8.ofNat (byteI o).toNat) := by
 cases o with
 | none => exact absurd (by decide : byteI none < 0) h
 | some b => simp [byteI]
theorem vl31Pieces (b : Int → Option UInt8) (q : Nat) (hq : q ≤ 30) : FnP Tryz.prog 157 [.d (dL 1 eIn (bytesF b)), aI q] (.d (dL 2 ePc (pcsOf b q (30 - q)))) := by
 have hB := bytesF_len b
 refine fP Tryz.func157 Tryz.ntmps157 Tryz.results157 ?_
 repeat' (first
  | refine stp ?_
  | fail)
 refine WC.loop (fun k s => ∃ m L, k + m = 30 - q ∧ L = pcsOf b q m ∧ s = ⟨⟨61, []⟩, [(0, .d (dL 1 eIn (bytesF b))), (1, aI q), (5, .own 700 L.length), (6, aI ((q + m : Nat) : Int))], [(700, hL 50 2 ePc L)]⟩) (30 - q) ⟨0, [], rfl, rfl, rfl⟩ (imp (look [])) ?_
 rintro k s ⟨m, L, hk, hL, rfl⟩
 have hv : q + m < 30 → (bytesF b).getD (q + m) default = byteI (b (q + m : Int)) := fun h => bytesF_get b h
 have hv1 := byteI_bd (b (q + m : Int))
 have hp : 0 < m → (bytesF b).getD (((q + m : Nat) : Int) - 1).toNat default = byteI (b ((q : Int) + m - 1)) := fun h => by
  rw [show (((q + m : Nat) : Int) - 1).toNat = q + m - 1 by omega, bytesF_get b (by omega), show ((q + m - 1 : Nat) : Int) = (q : Int) + m - 1 by omega]
 obtain ⟨a1, a2, a3⟩ := pcs_all b q m
 rw [← hL] at a1 a2 a3
 have hne : 0 < m → ¬ byteI (b ((q : Int) + m - 1)) < 0 → 0 < L.length := fun h1 h2 => by
  obtain ⟨p, hp, _⟩ := a3 h1 (fun e => h2 ((byteI_neg _).2 e))
  cases hLL : L with
  | nil => rw [hLL] at hp; cases hp
  | cons => simp
 have hdl : (L.getD ((L.length : Int) - 1).toNat default).data.length ≤ 1000 := by
  by_cases h0 : 0 < L.length
  ·have := pc_low a1 _ (getD_mem' (i := ((L.length : Int) - 1).toNat) (by omega))
   unfold Pc.fin bl at this
   omega
  ·rw [List.length_eq_zero_iff.1 (by omega : L.length = 0)]; exact Nat.zero_le _
 have hlen : L.length ≤ 1000 := by
  rw [hL]
  exact Nat.le_trans (pcsOf_len b q m) (by omega)
 repeat' (first
  | refine stp ?_
  | (refine R.gS rfl rfl rfl ?_ ?_ <;> intro hb <;> (try have hb' := nrm hb) <;> try (exfalso; omega))
  | (refine WC.cond rfl ?_ ?_ <;> intro hb <;> (try have hb' := nrm hb) <;> try (exfalso; omega)))
 ·have hb0 : b (q + m : Int) = none := (byteI_neg _).1 (by rw [← hv (by omega)]; assumption)
  exact loopQ.n (k - 1) _ (by omega) ⟨m + 1, L, by omega, hL.trans (pcsOf_none hb0).symm, rfl⟩ (imp (look [(700, 700)]))
 ·have hb1 : b (q + m : Int) = some (UInt8.ofNat ((bytesF b).getD (q + m) default).toNat) := by rw [hv (by omega)]; exact byte_some (by rw [← hv (by omega)]; assumption)
  have hpr : ¬ byteI (b ((q : Int) + m - 1)) < 0 := by rw [← hp (by omega)]; omega
  have h0 := hne (by omega) hpr
  refine loopQ.n (k - 1) _ (by omega) ⟨m + 1, L.set ((L.length : Int) - 1).toNat ⟨(L.getD ((L.length : Int) - 1).toNat default).off, (L.getD ((L.length : Int) - 1).toNat default).data ++ [UInt8.ofNat ((bytesF b).getD (q + m) default).toNat]⟩, by omega, ?_, rfl⟩ (imp (look [(700, 700)]))
  rw [pcsOf_add hb1 (by omega) (fun e => hpr ((byteI_neg _).2 e)), ← hL, addLast_set (k := ((L.length : Int) - 1).toNat) h0 (by omega)]
 ·have hb1 : b (q + m : Int) = some (UInt8.ofNat ((bytesF b).getD (q + m) default).toNat) := by rw [hv (by omega)]; exact byte_some (by rw [← hv (by omega)]; assumption)
  have hpr : b ((q : Int) + m - 1) = none := (byteI_neg _).1 (by rw [← hp (by omega)]; omega)
  refine loopQ.n (k - 1) _ (by omega) ⟨m + 1, L ++ [⟨((q + m : Nat) : Int), [UInt8.ofNat ((bytesF b).getD (q + m) default).toNat]⟩], by omega, ?_, rfl⟩ (imp (look [(700, 59)]))
  rw [pcsOf_new hb1 (.inr hpr), ← hL, Int.natCast_add]
 ·have hb1 : b (q + m : Int) = some (UInt8.ofNat ((bytesF b).getD (q + m) default).toNat) := by rw [hv (by omega)]; exact byte_some (by rw [← hv (by omega)]; assumption)
  refine loopQ.n (k - 1) _ (by omega) ⟨m + 1, L ++ [⟨((q + m : Nat) : Int), [UInt8.ofNat ((bytesF b).getD (q + m) default).toNat]⟩], by omega, ?_, rfl⟩ (imp (look [(700, 59)]))
  rw [pcsOf_new hb1 (.inl (by omega)), ← hL, Int.natCast_add]
 ·obtain rfl : m = 30 - q := (by omega)
  rw [← hL]
  (exact ret1)
def rdR (x : Rv × Bs) : AV := .tu [.ag (av (eRv x.1)), aS x.2]
theorem vl31Read (r : Rv) (n : Int) (hr : RvOK r) (hl : r.pieces.length ≤ 1000) (hn : 0 ≤ n ∧ n ≤ 1000) : FnP Tryz.prog 112 [.ag (av (eRv r)), aI n] (rdR (rvRead r n)) := by
 have b1 := hr.read
 have b2 := hr.lim
 have b3 := ready_bd hr
 have b4 : rvReady r ≠ 0 → 0 < r.pieces.length ∧ rvReady r ≤ ((r.pieces.getD 0 default).data.length : Int) := fun h => by
  obtain ⟨h1, h2⟩ := ready_head hr h
  refine ⟨h1, ?_⟩
  have := (h2 (r.pieces.getD 0 default) (by rw [List.getD_eq_getElem?_getD, List.getElem?_eq_getElem h1]; rfl)).2
  exact this
 obtain ⟨q, hq⟩ : ∃ q : Nat, (q : Int) = r.read + min n (rvReady r) := ⟨(r.read + min n (rvReady r)).toNat, by omega⟩
 refine fP Tryz.func112 Tryz.ntmps112 Tryz.results112 ?_
 repeat' (first
  | refine stp ?_
  | (apply K.g0; apply K.callF; first | refine cq (F := vl31Ready r hl) (G := ?_) | refine cq (F := vl31Copy r hl) (G := ?_))
  | (apply KA.g0; apply KA.callF; first | refine cqa (F := vl31Bytes r hr hl) (G := ?_) | refine cqa (F := vl31Pieces (atL r.pieces) q (by omega)) (G := ?_))
  | (refine WC.cond rfl ?_ ?_ <;> intro hb <;> (try have hb' := nrm hb) <;> try (exfalso; omega))
  | (apply K.rg 5; refine wdr [0, 1, 0, 7, 0, 16, 0, 64, 0, 448, 1008, 0, 2048, 0, 8192, 32767, 0, 131071] 17 [24, 25, 26, 27, 28, 29, 30, 31, 32, 33, 34, 35, 36, 37, 38, 39, 8] [] ?_)
  | refine dcl ?_)
 ·rw [rvRead_eq hr hn.1, if_pos (by assumption)]; (exact ret2)
 ·rw [rvRead_eq hr hn.1, if_neg (by assumption), ← hq, show (30 - (q : Int)).toNat = 30 - q by omega]; (exact ret2)
theorem vl23Loss (l : List Wn) (i : Nat) (hv : wnsValid l = true) (hi : i < l.length) : FnP Tryz.prog 118 [.d (dL 4 eWn l), aI i] (.d (dL 4 eWn (wnLoss l i))) := by
 obtain ⟨b1, b2⟩ := wns_bd hv
 have b3 := b2 _ (getD_mem' hi)
 refine fP Tryz.func118 Tryz.ntmps118 Tryz.results118 ?_
 repeat' (first
  | refine stp ?_
  | fail)
 rw [show wnLoss l i = l.set i ⟨max ((l.getD i default).size / 2) 1, max ((l.getD i default).size / 2) 1, 0, (l.getD i default).rtt⟩ from by unfold wnLoss; rw [Int.max_comm]]
 (exact ret1)
theorem vl23Increase (l : List Wn) (i : Nat) (hv : wnsValid l = true) (hi : i < l.length) : FnP Tryz.prog 202 [.d (dL 4 eWn l), aI i] (aI (wnInc l i)) := by
 obtain ⟨b1, b2⟩ := wns_bd hv
 have b3 := b2 _ (getD_mem' hi)
 refine fP Tryz.func202 Tryz.ntmps202 Tryz.results202 ?_
 repeat' (first
  | refine stp ?_
  | fail)
 refine WC.loop (fun k s => ∃ j, k + j = l.length ∧ s = ⟨⟨55, []⟩, [(0, .d (dL 4 eWn l)), (1, aI i), (5, aI (wnBest (l.take j))), (6, aI (wnSum (l.take j))), (7, aI j)], []⟩) l.length ⟨0, rfl, rfl⟩ (imp (look [])) ?_
 rintro k s ⟨j, hk, rfl⟩
 have hS : j < l.length → wnBest (l.take (j + 1)) = max (wnBest (l.take j)) ((l.getD j default).size * 100000000 / ((l.getD j default).rtt * (l.getD j default).rtt)) ∧ wnSum (l.take (j + 1)) = wnSum (l.take j) + (l.getD j default).size * 10000 / (l.getD j default).rtt := fun h => by
  rw [take_snoc h]; simp [wnBest, wnSum]
 have hb := wnBest_bd b2 j
 have hq : j < l.length → _ := fun h => wn_q (b2 _ (getD_mem' h)).1 (b2 _ (getD_mem' h)).2.2.2
 have hj : j < l.length → (1 ≤ (l.getD j default).size ∧ (l.getD j default).size ≤ 64) ∧ (1 ≤ (l.getD j default).rtt ∧ (l.getD j default).rtt ≤ 99) := fun h => ⟨(b2 _ (getD_mem' h)).1, (b2 _ (getD_mem' h)).2.2.2⟩
 have hln : (l.take j).length ≤ 4 := by rw [List.length_take]; omega
 have hl1 : ¬ j < l.length → 1 ≤ (l.take j).length := fun h => by rw [List.length_take]; omega
 have hss : 0 ≤ wnSum (l.take j) * wnSum (l.take j) ∧ wnSum (l.take j) * wnSum (l.take j) ≤ 6553600000000 := by
  constructor
  ·exact Int.mul_nonneg (by omega) (by omega)
  ·exact Int.le_trans (Int.mul_le_mul (show wnSum (l.take j) ≤ 2560000 by omega) (show wnSum (l.take j) ≤ 2560000 by omega) (by omega) (by omega)) (by omega)
 have hs1 : ¬ j < l.length → 1 ≤ wnSum (l.take j) * wnSum (l.take j) := fun h => by
  have h1 := hl1 h
  exact Int.le_trans (by omega) (Int.mul_le_mul (show 1 ≤ wnSum (l.take j) by omega) (show 1 ≤ wnSum (l.take j) by omega) (by omega) (by omega))
 have hqq : ¬ j < l.length → 0 ≤ 1000 * wnBest (l.take j) / (wnSum (l.take j) * wnSum (l.take j)) ∧ 1000 * wnBest (l.take j) / (wnSum (l.take j) * wnSum (l.take j)) ≤ 1000 * wnBest (l.take j) := fun h => ⟨Int.ediv_nonneg (by omega) (by omega), Int.ediv_le_self _ (by omega)⟩
 have hq2 : 0 ≤ 1000 / (l.getD i default).size ∧ 1000 / (l.getD i default).size ≤ 1000 := ⟨Int.ediv_nonneg (by omega) (by omega), Int.ediv_le_self _ (by omega)⟩
 repeat' (first
  | refine stp ?_
  | (refine WC.cond rfl ?_ ?_ <;> intro hb <;> (try have hb' := nrm hb) <;> try (exfalso; omega))
  | (apply K.rg 9; refine wdr [0, 1, 0, 0, 12, 31, 0, 0, 192, 448, 960, 1984, 4095, 8191] 12 [42, 43, 44, 45, 46, 47, 48, 49, 50, 51, 52, 53] [] ?_)
  | refine dcl ?_)
 all_goals first
  | (refine loopQ.n (k - 1) _ (by omega) ⟨j + 1, by omega, rfl⟩ ?_
     rw [(hS (by omega)).1, (hS (by omega)).2]
     exact imp (look []))
  | (obtain rfl : j = l.length := (by omega)
     rw [List.take_of_length_le (Nat.le_refl _)]
     rw [show wnInc l i = min (1000 * wnBest l / (wnSum l * wnSum l)) (1000 / (l.getD i default).size) from rfl]
     (exact ret1))
theorem vl23Ack (l : List Wn) (i : Nat) (hv : wnsValid l = true) (hi : i < l.length) : FnP Tryz.prog 191 [.d (dL 4 eWn l), aI i] (.d (dL 4 eWn (wnAck l i))) := by
 obtain ⟨b1, b2⟩ := wns_bd hv
 have b3 := b2 _ (getD_mem' hi)
 have b4 := wnInc_bd2 hi b2
 refine fP Tryz.func191 Tryz.ntmps191 Tryz.results191 ?_
 repeat' (first
  | refine stp ?_
  | (apply KA.g0; apply KA.callF; refine cqa (F := vl23Increase l i hv hi) (G := ?_))
  | (refine WC.cond rfl ?_ ?_ <;> intro hb <;> (try have hb' := nrm hb) <;> try (exfalso; omega))
  | (apply K.rg 5; refine wdr [0, 1, 0, 0, 12, 31, 63, 127] 5 [23, 24, 25, 26, 27] [] ?_)
  | refine dcl ?_)
 all_goals first
  | (rw [show wnAck l i = l.set i { l.getD i default with size := (l.getD i default).size + 1 } from if_pos (by omega)]; (exact ret1))
  | (rw [show wnAck l i = l.set i { l.getD i default with credit := (l.getD i default).credit + wnInc l i - 1000, size := min ((l.getD i default).size + 1) 64 } from (if_neg (by omega)).trans (if_pos (by omega))]; (exact ret1))
  | (rw [show wnAck l i = l.set i { l.getD i default with credit := (l.getD i default).credit + wnInc l i } from (if_neg (by omega)).trans (if_neg (by omega))]; (exact ret1))
end Go.Proofs.YtjbhiglaginpeaaGreat
namespace Go.Proofs.YtjbhiglaginpeaaGreat
theorem rt_delay {r : Rt} (h : rtValid r = true) : 0 ≤ rtDelay r ∧ rtDelay r ≤ 100000 := by
 unfold rtValid at h
 simp only [Bool.or_eq_true, Bool.and_eq_true, decide_eq_true_eq, inB_iff] at h
 unfold rtDelay
 simp only
 split
 ·omega
 ·rcases h with h | h
  ·contradiction
  ·omega
theorem loseOne_paths (U : Wd) (p n : Int) (P : List Ls) : loseOne { U with paths := P } p n = { loseOne U p n with paths := P } := by
 unfold loseOne dropCd
 show (match (match carAt U p n with | none => none | some k => some (U.carried.getD k default, ({ U with paths := P, carried := U.carried.eraseIdx k } : Wd))) with | none => ({ U with paths := P } : Wd) | some (c, V) => { V with sends := V.sends.set c.stream.toNat (sdLoss (V.sd c.stream) c.part) }) = _
 cases carAt U p n <;> rfl
theorem loseAll_paths : ∀ (l : List Int) (U : Wd) (p : Int) (P : List Ls), loseAll { U with paths := P } p l = { loseAll U p l with paths := P }
 | [], _, _, _ => rfl
 | n :: t, U, p, P => by
   show loseAll (loseOne { U with paths := P } p n) p t = _
   rw [loseOne_paths, loseAll_paths t]
   rfl
theorem ackOne_paths (U : Wd) (p n : Int) (P : List Ls) : ackOne { U with paths := P } p n = { ackOne U p n with paths := P } := by
 unfold ackOne dropCd
 show (match (match carAt U p n with | none => none | some k => some (U.carried.getD k default, ({ U with paths := P, carried := U.carried.eraseIdx k } : Wd))) with | none => ({ U with paths := P } : Wd) | some (c, V) => { V with sends := V.sends.set c.stream.toNat (sdAck (V.sd c.stream) c.part), windows := wnAck V.windows p.toNat }) = _
 cases carAt U p n <;> rfl
theorem ackAll_paths : ∀ (l : List Int) (U : Wd) (p : Int) (P : List Ls), ackAll { U with paths := P } p l = { ackAll U p l with paths := P }
 | [], _, _, _ => rfl
 | n :: t, U, p, P => by
   show ackAll (ackOne { U with paths := P } p n) p t = _
   rw [ackOne_paths, ackAll_paths t]
   rfl
structure AckIn (W : Wd) (p : Nat) (acked : List Rg) : Prop where
 ok : rgOk (-2) acked
 below : rgBelow acked (W.ls p).next
 got : ∀ c ∈ W.carried, c.path = (p : Int) → hasR acked c.num = true → gotPart (W.sd c.stream) (W.rv c.stream) c.part = true
def ackX (W : Wd) (p : Nat) (acked : List Rg) : Ls × List Int × List Int := lsAck (W.ls p) acked W.now (rtDelay (W.rt p))
structure AckOK (W : Wd) (p : Nat) (x : Ls × List Int × List Int) : Prop where
 done : ∀ n ∈ x.2.1, ∃ c ∈ W.carried, c.path = (p : Int) ∧ c.num = n ∧ gotPart (W.sd c.stream) (W.rv c.stream) c.part = true
 lost : ∀ n ∈ x.2.2, ∃ c ∈ W.carried, c.path = (p : Int) ∧ c.num = n
 nodup : (x.2.1 ++ x.2.2).Nodup
 time : ∀ n ∈ x.2.1, ∃ t, timeOf (W.ls p).flight n = some t ∧ 0 ≤ t ∧ t ≤ 999
 few : x.2.1.length ≤ 12 ∧ x.2.2.length ≤ 12
theorem timeOf_mem {l : Ls} (h : LsOK l) {n : Int} (hn : ∃ k ∈ l.flight, k.num = n) : ∃ t, timeOf l.flight n = some t ∧ 0 ≤ t ∧ t ≤ 999 := by
 obtain ⟨k, hk, rfl⟩ := hn
 unfold timeOf
 cases hf : l.flight.find? (fun x => decide (x.num = k.num)) with
 | none =>
   have := List.find?_eq_none.1 hf k hk
   simp at this
 | some y =>
   have := (h.pk y (List.mem_of_find?_eq_some hf)).2.2.1
   exact ⟨y.time, rfl, this.1, this.2⟩
theorem ack_ok {W : Wd} (h : WdOK W) {p : Nat} (hp : p < 4) {acked : List Rg} (ha : AckIn W p acked) : AckOK W p (ackX W p acked) := by
 have hpt := h.path p hp
 obtain ⟨a1, a2, a3, a4, a5, a6⟩ := ls_ack hpt.ls ha.ok ha.below W.now (rtDelay (W.rt p))
 refine ⟨fun n hn => ?_, fun n hn => ?_, a4, fun n hn => ?_, ?_⟩
 ·obtain ⟨hh, k, hk, e⟩ := a5 n hn
  obtain ⟨c, hc, c1, c2⟩ := carOf h hp hk
  exact ⟨c, hc, c1, by rw [c2, e], ha.got c hc c1 (by rw [c2, e]; exact hh)⟩
 ·obtain ⟨k, hk, e⟩ := a6 n hn
  obtain ⟨c, hc, c1, c2⟩ := carOf h hp hk
  exact ⟨c, hc, c1, by rw [c2, e]⟩
 ·exact timeOf_mem hpt.ls (a5 n hn).2
 ·have := hpt.ls.few
  unfold ackX lsAck
  simp only [List.length_map]
  exact ⟨Nat.le_trans (List.length_filter_le _ _) this, Nat.le_trans (List.length_filter_le _ _) this⟩
def ackRt (W : Wd) (p : Nat) (done : List Int) : List Rt := match done.getLast? with
 | none => W.rtts
 | some n => match timeOf (W.ls p).flight n with
   | none => W.rtts
   | some t => if t < W.now then W.rtts.set p (rtUpd (W.rt p) (W.now - t)) else W.rtts
theorem ackRt_no {W : Wd} {p : Nat} {done : List Int} (h : done.length = 0) : ackRt W p done = W.rtts := by
 rw [List.length_eq_zero_iff.1 h]; rfl
theorem last_getD {α : Type} [Inhabited α] {l : List α} (h : 0 < l.length) : l.getLast? = some (l.getD (l.length - 1) default) := by
 rw [List.getLast?_eq_getElem?, List.getD_eq_getElem?_getD, List.getElem?_eq_getElem (by omega)]; rfl
theorem ackRt_late {W : Wd} {p : Nat} {done : List Int} (h : 0 < done.length) {t : Int} (ht : timeOf (W.ls p).flight (done.getD (done.length - 1) default) = some t) (hl : ¬ t < W.now) : ackRt W p done = W.rtts := by
 unfold ackRt; rw [last_getD h]; simp only [ht]; rw [if_neg hl]
theorem ackRt_upd {W : Wd} {p : Nat} {done : List Int} (h : 0 < done.length) {t : Int} (ht : timeOf (W.ls p).flight (done.getD (done.length - 1) default) = some t) (hl : t < W.now) : ackRt W p done = W.rtts.set p (rtUpd (W.rt p) (W.now - t)) := by
 unfold ackRt; rw [last_getD h]; simp only [ht]; rw [if_pos hl]
theorem doAck_eq {W : Wd} (h : WdOK W) {p : Nat} (hp : p < 4) {acked : List Rg} (ha : AckIn W p acked) {V : Wd} (hV : V = loseAll (ackAll W p (ackX W p acked).2.1) p (ackX W p acked).2.2) :
 doAck W p acked = ⟨W.now, V.sends, W.recvs, W.got, W.paths.set p (ackX W p acked).1, ackRt W p (ackX W p acked).2.1, if (ackX W p acked).2.2.isEmpty then V.windows else wnLoss V.windows p, W.seen, V.carried, W.net⟩ := by
 have hok := ack_ok h hp ha
 generalize hx : ackX W p acked = x at hok hV
 obtain ⟨l, done, lost⟩ := x
 have m1 := mid_ackAll h (p := (p : Int)) (by omega) done [] (mid_start h p W.paths) hok.done (by rw [List.nil_append]; exact (List.nodup_append.1 hok.nodup).1)
 rw [List.nil_append] at m1
 have m := mid_loseAll h lost done m1 hok.lost hok.nodup
 have e0 : ({ W with paths := W.paths } : Wd) = W := rfl
 rw [e0] at m
 change Mid W (loseAll (ackAll W p done) p lost) p (done ++ lost) W.paths at m
 rw [show loseAll (ackAll W p done) p lost = V from hV.symm] at m
 unfold ackX at hx
 unfold doAck
 rw [hx]
 simp only [Int.toNat_natCast]
 rw [ackAll_paths, loseAll_paths]
 rw [show loseAll (ackAll W p done) p lost = V from hV.symm]
 unfold ackRt
 by_cases hl : lost.isEmpty = true
 ·simp only [hl, if_true]
  cases done.getLast? with
  | none => simp only [m.now, m.recvs, m.got, m.rtts, m.seen, m.net]
  | some n =>
    simp only
    cases timeOf (W.ls p).flight n with
    | none => simp only [m.now, m.recvs, m.got, m.rtts, m.seen, m.net]
    | some t =>
      simp only
      split <;> simp only [m.now, m.recvs, m.got, m.rtts, m.seen, m.net]
 ·simp only [hl]
  cases done.getLast? with
  | none => simp [m.now, m.recvs, m.got, m.rtts, m.seen, m.net]
  | some n =>
    simp only
    cases timeOf (W.ls p).flight n with
    | none => simp [m.now, m.recvs, m.got, m.rtts, m.seen, m.net]
    | some t =>
      simp only
      split <;> simp [m.now, m.recvs, m.got, m.rtts, m.seen, m.net]
theorem cars_filter {W : Wd} (h : WdOK W) {p : Nat} (hp : p < 4) :
 W.carried.filter (fun c => decide (c.path ≤ (p : Int))) = W.carried.takeWhile (fun c => decide (c.path ≤ (p : Int))) ∧
 W.carried.take (W.carried.takeWhile (fun c => decide (c.path ≤ (p : Int)))).length = W.carried.takeWhile (fun c => decide (c.path ≤ (p : Int))) := by
 have hsp := flights_split W hp
 have hcars := h.cars
 rw [hsp] at hcars
 obtain ⟨C1, C2, hC, f1, f2⟩ := F2.split hcars
 have hc1 : ∀ c ∈ C1, decide (c.path ≤ (p : Int)) = true := by
  intro c hc
  obtain ⟨a, ha, hr⟩ := F2.mem f1 c hc
  simp only [flightsTo, List.mem_flatMap, List.mem_range, List.mem_map] at ha
  obtain ⟨q, hq, k, _, rfl⟩ := ha
  rw [hr.path]
  simp only [decide_eq_true_eq]
  omega
 have hc2 : ∀ c ∈ C2, decide (c.path ≤ (p : Int)) = false := by
  intro c hc
  obtain ⟨a, ha, hr⟩ := F2.mem f2 c hc
  simp only [flightsFrom, List.mem_flatMap, List.mem_map] at ha
  obtain ⟨q, hq, k, _, rfl⟩ := ha
  have := drop_gt hp hq
  rw [hr.path]
  simp only [decide_eq_false_iff_not]
  omega
 have htw : W.carried.takeWhile (fun c => decide (c.path ≤ (p : Int))) = C1 := by rw [hC]; exact takeWhile_parts hc1 hc2
 rw [htw]
 constructor
 ·rw [hC, List.filter_append, List.filter_eq_self.2 hc1, List.filter_eq_nil_iff.2 (fun c hc => by rw [hc2 c hc]; exact Bool.false_ne_true), List.append_nil]
 ·rw [hC, List.take_left']
  rfl
def finI (b : Bool) : Int := if b then 1 else 0
theorem doSend_out {W : Wd} {i p size : Int} (h : (inB i 0 2 = false ∨ inB p 0 3 = false ∨ inB size 1 12 = false) ∨ (W.windows.getD p.toNat default).size ≤ ((W.paths.getD p.toNat default).flight.length : Int)) : doSend W i p size = W := by
 unfold doSend
 rw [if_pos]
 rcases h with h | h
 ·rcases h with h | h | h <;> simp [h]
 ·have h' : (W.windows.getD p.toNat default).size ≤ ((W.ls p).flight.length : Int) := h
  rw [decide_eq_true h']
  simp
theorem doSend_none {W : Wd} {i p size : Int} (h : sdNext (W.sends.getD i.toNat default) size = none) : doSend W i p size = W := by
 have h' : sdNext (W.sd i) size = none := h
 unfold doSend
 rw [h']
 split <;> rfl
theorem doSend_full {W : Wd} {i p size : Int} {s : Sd} {q : Pt} (h : sdNext (W.sends.getD i.toNat default) size = some (s, q)) (h2 : lsSend (W.paths.getD p.toNat default) W.now (5 + bl q.data) = none) : doSend W i p size = W := by
 have h' : sdNext (W.sd i) size = some (s, q) := h
 have h3 : lsSend (W.ls p) W.now (5 + bl q.data) = none := h2
 unfold doSend
 rw [h']
 simp only
 rw [h3]
 split <;> rfl
theorem doSend_yes {W : Wd} {i size : Int} {p : Nat} (hi : inB i 0 2 = true) (hp : p < 4) (hz : inB size 1 12 = true) (hw : ¬ (W.windows.getD p default).size ≤ ((W.paths.getD p default).flight.length : Int)) {s : Sd} {q : Pt} (h : sdNext (W.sends.getD i.toNat default) size = some (s, q)) {l : Ls} {n : Int} (h2 : lsSend (W.paths.getD p default) W.now (5 + bl q.data) = some (l, n)) {A : List Cd} (hA : A = W.carried.filter (fun c => decide (c.path ≤ (p : Int)))) (hW : WdOK W) :
 doSend W i p size = post { W with sends := W.sends.set i.toNat s, paths := W.paths.set p l, carried := A ++ (⟨p, n, i, q⟩ : Cd) :: W.carried.drop A.length } ⟨p, n, ⟨3, i, q.off, finI q.fin, q.data, []⟩, true⟩ := by
 have h' : sdNext (W.sd i) size = some (s, q) := h
 have h3 : lsSend (W.ls p) W.now (5 + bl q.data) = some (l, n) := h2
 have h4 : ¬ (W.windows.getD (p : Int).toNat default).size ≤ ((W.ls p).flight.length : Int) := hw
 have h5 : inB (p : Int) 0 3 = true := inB_iff.2 (by omega)
 obtain ⟨c1, c2⟩ := cars_filter hW hp
 unfold doSend
 rw [h', hi, h5, hz, decide_eq_false h4]
 simp only [Bool.and_true, Bool.not_true, Bool.or_false, Bool.false_eq_true, if_false]
 rw [h3]
 simp only
 rw [c2, ← c1, ← hA, Int.toNat_natCast]
 rfl
theorem next_bds {W : Wd} (hW : WdOK W) {i size : Int} (hi : 0 ≤ i ∧ i ≤ 2) (hz : 1 ≤ size ∧ size ≤ 12) {s : Sd} {q : Pt} (h : sdNext (W.sends.getD i.toNat default) size = some (s, q)) : (0 ≤ q.off ∧ q.off ≤ 30) ∧ q.data.length ≤ 12 := by
 obtain ⟨_, _, hsent, hbl, _⟩ := st_next (hW.st hi) hz.1 h
 have := hsent.off
 unfold bl at hbl
 omega
theorem path_few {W : Wd} (h : WdOK W) {p : Nat} (hp : p < 4) : (W.paths.getD p default).flight.length ≤ 12 ∧ 0 ≤ (W.paths.getD p default).next ∧ (W.paths.getD p default).next ≤ 1000 := ⟨(h.path p hp).ls.few, (h.path p hp).ls.next⟩
end Go.Proofs.YtjbhiglaginpeaaGreat
namespace Go.Proofs.YtjbhiglaginpeaaGreat
open Go.RowKit
theorem rep_snoc {α : Type} {x : α} {i : Nat} : List.replicate (i + 1) x = List.replicate i x ++ [x] := List.replicate_succ'
def wn0 (p : Nat) : Wn := ⟨4, 8, 0, 10 * ((p : Int) + 1)⟩
theorem wn_snoc {i : Nat} : (List.range (i + 1)).map wn0 = (List.range i).map wn0 ++ [wn0 i] := by rw [List.range_succ, List.map_append]; rfl
theorem vlSendNew (limit : Int) (h : 0 ≤ limit ∧ limit ≤ 30) : FnP Tryz.prog 53 [aI limit] (.tu [.ag (av (eSd (sd0 limit))), aB true]) := by
 have hI := vl6In limit 0 30
 rw [inB_iff.2 h] at hI
 refine fP Tryz.func53 Tryz.ntmps53 Tryz.results53 ?_
 repeat' (first
  | refine stp ?_
  | (apply K.g0; apply K.callF; refine cq (F := hI) (G := ?_))
  | fail)
 (exact ret2)
theorem vlRecvNew (limit : Int) (h : 0 ≤ limit ∧ limit ≤ 30) : FnP Tryz.prog 54 [aI limit] (.tu [.ag (av (eRv (rv0 limit))), aB true]) := by
 have hI := vl6In limit 0 30
 rw [inB_iff.2 h] at hI
 refine fP Tryz.func54 Tryz.ntmps54 Tryz.results54 ?_
 repeat' (first
  | refine stp ?_
  | (apply K.g0; apply K.callF; refine cq (F := hI) (G := ?_))
  | fail)
 (exact ret2)
theorem vlLossNew : FnP Tryz.prog 56 [] (.ag (av (eLs ⟨0, [], -1⟩))) := by
 refine fP Tryz.func56 Tryz.ntmps56 Tryz.results56 ?_
 repeat' (first
  | refine stp ?_
  | fail)
 (exact ret1)
theorem vl51Path : FnP Tryz.prog 55 [] (aI 4) := by
 refine fP Tryz.func55 Tryz.ntmps55 Tryz.results55 ?_
 repeat' (first
  | refine stp ?_
  | fail)
 (exact ret1)
def newR : Option Wd → AV
 | some W => .tu [.ag (av (eWd W)), aB true]
 | none => .tu [.ag (av (eWd wdZero)), aB false]
theorem vlWorldNewNo (limit : Int) (h : inB limit 0 30 = false) : FnP Tryz.prog 27 [aI limit] (newR none) := by
 have hI := vl6In limit 0 30
 rw [h] at hI
 refine fP Tryz.func27 Tryz.ntmps27 Tryz.results27 ?_
 repeat' (first
  | refine stp ?_
  | (apply K.g0; apply K.callF; refine cq (F := hI) (G := ?_))
  | fail)
 (exact ret2)
theorem vlWorldNew (limit : Int) (h : 0 ≤ limit ∧ limit ≤ 30) : FnP Tryz.prog 27 [aI limit] (newR (some (wdNew limit))) := by
 have hI := vl6In limit 0 30
 rw [inB_iff.2 h] at hI
 refine fP Tryz.func27 Tryz.ntmps27 Tryz.results27 ?_
 repeat' (first
  | refine stp ?_
  | (apply K.g0; apply K.callF; refine cq (F := hI) (G := ?_))
  | fail)
 refine WC.loop (fun k s => ∃ (i : Nat) (A : List Sd) (B : List Rv) (C : List Bs), k + i = 3 ∧ A = List.replicate i (sd0 limit) ∧ B = List.replicate i (rv0 limit) ∧ C = List.replicate i [] ∧ s = ⟨⟨82, []⟩, [(0, aI limit), (2, .ptr 2 0), (4, .ptr 4 0), (5, aI (i : Nat))], [(2, .blk [.un, .un, .un, .un, .un, .un, .un, .un, .un, .un]), (4, .blk [aI 0, .own 701 A.length, .own 702 B.length, .own 703 C.length, .emp, .emp, .emp, .emp, .emp, .emp]), (701, hL 42 6 eSd A), (702, hL 45 4 eRv B), (703, hL 9 1 eBs C)]⟩) 3 ⟨0, [], [], [], rfl, rfl, rfl, rfl, rfl⟩ (imp (look [(2, 2), (4, 4)])) ?_
 rintro k s ⟨i, A, B, C, hk, hA, hB, hC, rfl⟩
 have lA : A.length = i := by rw [hA, List.length_replicate]
 have lB : B.length = i := by rw [hB, List.length_replicate]
 have lC : C.length = i := by rw [hC, List.length_replicate]
 repeat' (first
  | refine stp ?_
  | (apply K.g0; apply K.callF; first | refine cq (F := vlSendNew limit h) (G := ?_) | refine cq (F := vlRecvNew limit h) (G := ?_))
  | (refine WC.cond rfl ?_ ?_ <;> intro hb <;> (try have hb' := nrm hb) <;> try (exfalso; omega)))
 ·exact loopQ.n (k - 1) _ (by omega) ⟨i + 1, A ++ [sd0 limit], B ++ [rv0 limit], C ++ [[]], by omega, by rw [rep_snoc, hA], by rw [rep_snoc, hB], by rw [rep_snoc, hC], rfl⟩ (imp (look [(2, 2), (4, 4), (701, 36), (702, 42), (703, 47)]))
 obtain rfl : i = 3 := (by omega)
 clear hk hb hb'
 refine WC.loop (fun k s => ∃ (i : Nat) (D : List Ls) (E : List Rt) (F : List Wn) (G : List (List Rg)), k + i = 4 ∧ D = List.replicate i ⟨0, [], -1⟩ ∧ E = List.replicate i rtZero ∧ F = (List.range i).map wn0 ∧ G = List.replicate i [] ∧ s = ⟨⟨82, []⟩, [(0, aI limit), (2, .ptr 2 0), (4, .ptr 4 0), (10, aI (i : Nat))], [(2, .blk [.un, .un, .un, .un, .un, .un, .un, .un, .un, .un]), (4, .blk [aI 0, .own 701 A.length, .own 702 B.length, .own 703 C.length, .own 704 D.length, .own 705 E.length, .own 706 F.length, .own 707 G.length, .emp, .emp]), (701, hL 42 6 eSd A), (702, hL 45 4 eRv B), (703, hL 9 1 eBs C), (704, hL 75 3 eLs D), (705, hL 77 4 eRt E), (706, hL 97 4 eWn F), (707, hL 40 1 eSn G)]⟩) 4 ⟨0, [], [], [], [], rfl, rfl, rfl, rfl, rfl, rfl⟩ (imp (look [(2, 2), (4, 4), (701, 701), (702, 702), (703, 703)])) ?_
 rintro k s ⟨i, D, E, F, G, hk, hD, hE, hF, hG, rfl⟩
 have lD : D.length = i := by rw [hD, List.length_replicate]
 have lE : E.length = i := by rw [hE, List.length_replicate]
 have lF : F.length = i := by rw [hF, List.length_map, List.length_range]
 have lG : G.length = i := by rw [hG, List.length_replicate]
 repeat' (first
  | (apply K.g0; apply K.buildSlice; refine lk_slice1F (ys := [.d (dL 2 eRg [])]) rfl (LeFs.cons (LeF.c LeC.empd) LeFs.nil) rfl rfl rfl rfl ?_)
  | refine stp ?_
  | (apply K.g0; apply K.callF; refine cq (F := vl51Path) (G := ?_))
  | (apply KA.g0; apply KA.callF; refine cqa (F := vlLossNew) (G := ?_))
  | (refine WC.cond rfl ?_ ?_ <;> intro hb <;> (try have hb' := nrm hb) <;> try (exfalso; omega))
  | (apply K.rg 15; refine wdr [0, 1, 0, 4, 15, 31, 63] 4 [54, 55, 56, 57] [] ?_)
  | refine dcl ?_)
 ·exact loopQ.n (k - 1) _ (by omega) ⟨i + 1, D ++ [⟨0, [], -1⟩], E ++ [rtZero], F ++ [wn0 i], G ++ [[]], by omega, by rw [rep_snoc, hD], by rw [rep_snoc, hE], by rw [wn_snoc, hF], by rw [rep_snoc, hG], rfl⟩ (imp (look [(2, 2), (4, 4), (701, 701), (702, 702), (703, 703), (704, 58), (705, 64), (706, 73), (707, 79)]))
 obtain rfl : i = 4 := (by omega)
 have hW : wdNew limit = ⟨0, A, B, C, D, E, F, G, [], []⟩ := by rw [hA, hB, hC, hD, hE, hF, hG]; rfl
 rw [hW]
 (exact ret2)
end Go.Proofs.YtjbhiglaginpeaaGreat
