/- Parts of the proof, joined from several texts. No condition. -/
import Derived.Laws.BytesArg
import Derived.Laws.MakeOwn
import Derived.Test.YtjbhiglaginpeaaGreatQ2
set_option maxRecDepth 100000
set_option maxHeartbeats 16000000
set_option linter.unusedVariables false
set_option linter.unusedSimpArgs false
namespace Go.Proofs.YtjbhiglaginpeaaGreat
open Go.RowKit
section
variable {P : Program} {o : Oper} {s : St} {d : Nat}
theorem OT.quo {T T' : Nat} {p q : Operand} {k : IntKind} {x y : Int} (hd : o.dst = some d) (ho : o.op = .binOp .quo T p q T') (hp : s.ev p = some (.d (.sc (.int k x)))) (hq : s.ev q = some (.d (.sc (.int k y)))) (h0 : 0 ≤ x) (h1 : 0 < y) (hR : inR k (x / y)) :
 OT P o s d (.d (.sc (.int k (x / y)))) [] [] := by
 refine .pure hd fun x' z s' a w hs hz => ⟨.int k (x / y), ?_, .mk_sc rfl⟩
 obtain ⟨e1, e2⟩ := VR.int2 (hz.ev (hs.ev hp)) (hz.ev (hs.ev hq))
 have h2 : ¬ y = 0 := by omega
 have h3 : x.tdiv y = x / y := Int.tdiv_eq_ediv_of_nonneg h0
 unfold inR at hR
 simp [execOp, ho, e1, e2, eqGuard, binOp, Op.intDiv, h2, h3, hR]
theorem OT.neg {T : Nat} {q : Operand} {k : IntKind} {x : Int} (hd : o.dst = some d) (ho : o.op = .unOp .neg T q) (hq : s.ev q = some (.d (.sc (.int k x)))) (hR : inR k (-x)) : OT P o s d (.d (.sc (.int k (-x)))) [] [] :=
 .pure hd fun x' z s' a w hs hz => ⟨.int k (-x), by unfold inR at hR; simp [execOp, ho, (hz.ev (hs.ev hq)).dsc.1, Op.unary, Op.intArith, hR], .mk_sc rfl⟩
theorem OT.cut {T T' : Nat} {q : Operand} {k k' : IntKind} {x y : Int} {dT : TypeDesc} [h : TyIs P T dT] [h' : TyIs P T' (.int k')] (hd : o.dst = some d) (ho : o.op = .convert T T' q) (hq : s.ev q = some (.d (.sc (.int k x)))) (hr : k'.wrap x = y) : OT P o s d (.d (.sc (.int k' y))) [] [] := by
 refine .pure hd fun x' z s' a w hs hz => ⟨.int k' y, ?_, .mk_sc rfl⟩
 simp [execOp, ho, (hz.ev (hs.ev hq)).dsc.1, convert, run_underlying h.out, run_underlying h'.out, Conv.intToInt, hr]
theorem OT.indexD0 {T e k n : Nat} {f : Nat → List D} {p q : Operand} [h : SlcT P T e k] (hd : o.dst = some d) (ho : o.op = .indexAddr T p q) (hp : s.ev p = some (.d (.sl k n f))) (hq : s.ev q = some (.d (.sc (.int .i64 0)))) (hl : 0 < n) : OT P o s d (.dp (f 0) 0) [] [] := .indexD hd ho hp hq 0 rfl hl
theorem OT.indexO0 {T e k n n' i t : Nat} {f : Nat → List D} {p q : Operand} [h : SlcT P T e k] (hd : o.dst = some d) (ho : o.op = .indexAddr T p q) (hp : s.ev p = some (.own i n)) (hq : s.ev q = some (.d (.sc (.int .i64 0)))) (hi : look s.hp i = some (.arr t k n' f)) (hl : 0 < n) : OT P o s d (.ep i k 0 0) [] [] := .indexO hd ho hp hq hi 0 rfl hl
theorem inR_u8 {x : Int} (h : 0 ≤ x ∧ x ≤ 255) : inR .u8 x := by
 unfold inR IntKind.wrap
 simp only [IntKind.signed, IntKind.bits]
 simp
 omega
theorem u8_bd (b : UInt8) : -9223372036854775808 ≤ (b.toNat : Int) ∧ (b.toNat : Int) ≤ 9223372036854775807 := by have := b.toNat_lt; omega
inductive Bd (s : St) (dflt : Int) : Option Operand → Int → Prop
 | no : Bd s dflt none dflt
 | yes {q : Operand} {x : Int} (h : s.ev q = some (.d (.sc (.int .i64 x)))) : Bd s dflt (some q) x
theorem Bd.run {x' : Ctx} {z : Cz} {s s' : St} {a : Act} {w : World} {dflt : Int} {q : Option Operand} {x : Int} (h : Bd s dflt q x) (hs : s.le s') (hz : Sim x' z s' a w) : (q = none ∧ x = dflt) ∨ ∃ p, q = some p ∧ a.eval p = .int .i64 x := by
 cases h with
 | no => exact .inl ⟨rfl, rfl⟩
 | yes h => exact .inr ⟨_, rfl, (hz.ev (hs.ev h)).dsc.1⟩
theorem run_bound {x : Int} {y : Nat} (h0 : 0 ≤ x) (h1 : x ≤ y) (code : BoundsCode) (w : World) : (Instr.sliceBound (.int .i64 x) y code).run P w = .ok x.toNat w := by
 simp [Instr.sliceBound, asIntOf, h0, h1]
theorem run_bounds {x' : Ctx} {z : Cz} {s s' : St} {a : Act} {w : World} {lo hi : Option Operand} {x y : Int} {b : Bool} {n c : Nat} (hlo : Bd s 0 lo x) (hhi : Bd s n hi y) (hs : s.le s') (hz : Sim x' z s' a w) (h0 : 0 ≤ x) (h1 : x ≤ y) (h2 : y ≤ n) (hc : n ≤ c) :
 (Instr.sliceBounds b n c (lo.map a.eval) (hi.map a.eval) none).run P w = .ok (x.toNat, y.toNat, c) w := by
 have e1 := run_bound (P := P) (x := x) (y := y.toNat) h0 (by omega)
 have e2 := run_bound (P := P) (x := y) (y := c) (by omega) (by omega)
 rcases hlo.run hs hz with ⟨rfl, rfl⟩ | ⟨p, rfl, hp⟩ <;> rcases hhi.run hs hz with ⟨rfl, rfl⟩ | ⟨q, rfl, hq⟩
 ·simp [Instr.sliceBounds]
 ·simp [Instr.sliceBounds, hq, e2]
 ·have e1' := run_bound (P := P) (x := x) (y := n) h0 (by omega)
  simp [Instr.sliceBounds, hp, e1']
 ·simp [Instr.sliceBounds, hp, hq, e1, e2]
theorem OT.partS {T : Nat} {p : Operand} {lo hi : Option Operand} {X : List UInt8} {x y : Int} [ht : TyIs P T .string] (hd : o.dst = some d) (ho : o.op = .slice T p lo hi none) (hp : s.ev p = some (.d (.sc (.string (S X))))) (hlo : Bd s 0 lo x) (hhi : Bd s X.length hi y) (h0 : 0 ≤ x) (h1 : x ≤ y) (h2 : y ≤ X.length) :
 OT P o s d (.d (.sc (.string (S ((X.drop x.toNat).take (y - x).toNat))))) [] [] := by
 refine .pure hd fun x' z s' a w hs hz => ⟨.string (S ((X.drop x.toNat).take (y - x).toNat)), ?_, .mk_sc rfl⟩
 have e1 := (hz.ev (hs.ev hp)).dsc.1
 have hb := run_bounds (P := P) (b := false) (c := X.length) hlo hhi hs hz h0 h1 h2 (Nat.le_refl _)
 have hsz : (S X).size = X.length := S_size X
 have hxy : (y - x).toNat = y.toNat - x.toNat := by omega
 simp [execOp, ho, e1, Instr.sliceAt, Instr.slice, run_underlying ht.out, hsz, hb, S_extract, hxy]
theorem OT.partS0 {T : Nat} {p : Operand} {hi : Option Operand} {X : List UInt8} {y : Int} [ht : TyIs P T .string] (hd : o.dst = some d) (ho : o.op = .slice T p none hi none) (hp : s.ev p = some (.d (.sc (.string (S X))))) (hhi : Bd s X.length hi y) (h1 : 0 ≤ y) (h2 : y ≤ X.length) :
 OT P o s d (.d (.sc (.string (S (X.take y.toNat))))) [] [] := by
 have := OT.partS (P := P) hd ho hp .no hhi (Int.le_refl 0) h1 h2
 simpa using this
theorem OT.partS1 {T : Nat} {p : Operand} {lo : Option Operand} {X : List UInt8} {x : Int} [ht : TyIs P T .string] (hd : o.dst = some d) (ho : o.op = .slice T p lo none none) (hp : s.ev p = some (.d (.sc (.string (S X))))) (hlo : Bd s 0 lo x) (h0 : 0 ≤ x) (h1 : x ≤ X.length) :
 OT P o s d (.d (.sc (.string (S (X.drop x.toNat))))) [] [] := by
 have := OT.partS (P := P) hd ho hp hlo .no h0 h1 (Int.le_refl _)
 rw [List.take_of_length_le (by rw [List.length_drop]; omega)] at this
 exact this
theorem OT.partD {T e k n : Nat} {f : Nat → List D} {p : Operand} {lo hi : Option Operand} {x y : Int} [h : SlcT P T e k] (hd : o.dst = some d) (ho : o.op = .slice T p lo hi none) (hp : s.ev p = some (.d (.sl k n f))) (hlo : Bd s 0 lo x) (hhi : Bd s n hi y) (h0 : 0 ≤ x) (h1 : x ≤ y) (h2 : y ≤ n) :
 OT P o s d (.d (.sl k (y - x).toNat (fun i => f (x.toNat + i)))) [] [] := by
 refine .pure hd fun x' z s' a w hs hz => ?_
 have hv := hz.ev (hs.ev hp)
 obtain ⟨g1, g2, i, zz, g3, g4, g5, g6, g7⟩ := h.out
 generalize hu : a.eval p = u at hv
 cases hv with
 | d h' =>
   cases h' with
   | @sl A _ c _ _ us b r hn hc hA hb hl hu' hr =>
     have hbd := run_bounds (P := P) (b := true) (c := c) hlo hhi hs hz h0 h1 h2 hn
     have hsz : y.toNat - x.toNat = (y - x).toNat := by omega
     refine ⟨.slice (if c = x.toNat then A else A.map (·.add (x.toNat * k))) (y - x).toNat (c - x.toNat), ?_, .d ?_⟩
     ·simp [execOp, ho, hu, Instr.sliceAt, Instr.slice, run_underlying g1, hbd, run_size g3, g5, hsz]
     ·refine .sl (fun i j => us (x.toNat + i) j) b (r + x.toNat * k) (by omega) (by omega) (fun e => ?_) (fun hpos => ?_) (fun i hi => hl _ (by omega)) (fun i j hi hj => ?_) (fun i j dd hi hdd => hr _ _ _ (by omega) hdd)
      ·by_cases hcx : c = x.toNat
       ·omega
       ·rw [if_neg hcx] at e
        have : A = none := by cases A <;> simp_all
        have := hA this
        omega
      ·have hcx : ¬ c = x.toNat := by omega
       rw [if_neg hcx]
       obtain ⟨rfl, hok⟩ := hb (by omega)
       exact ⟨by simp [add0], hok⟩
      ·have := hu' (x.toNat + i) j (by omega) hj
       rwa [Nat.add_mul, ← Nat.add_assoc] at this
theorem OT.partO {T e k i n t n' : Nat} {f : Nat → List D} {p : Operand} {lo hi : Option Operand} {y : Int} [h : SlcT P T e k] (hd : o.dst = some d) (ho : o.op = .slice T p lo hi none) (hp : s.ev p = some (.own i n)) (_hi : look s.hp i = some (.arr t k n' f)) (hlo : Bd s 0 lo 0) (hhi : Bd s n hi y) (h1 : 0 ≤ y) (h2 : y ≤ n) :
 OT P o s d (.own i y.toNat) [] [] := by
 refine .pure hd fun x' z s' a w hs hz => ?_
 have hv := hz.ev (hs.ev hp)
 obtain ⟨g1, g2, ii, zz, g3, g4, g5, g6, g7⟩ := h.out
 generalize hu : a.eval p = u at hv
 cases hv with
 | @own _ _ A hn hc hA =>
   have hbd := run_bounds (P := P) (b := true) (c := z.c i) hlo hhi hs hz (Int.le_refl 0) h1 h2 hn
   refine ⟨.slice A y.toNat (z.c i), ?_, .own (by omega) hc hA⟩
   rw [Int.toNat_zero] at hbd
   cases A with
   | none => simp [execOp, ho, hu, Instr.sliceAt, Instr.slice, run_underlying g1, hbd, run_size g3]
   | some ad =>
     have : ad.add 0 = ad := by cases ad; rename_i b off sp; cases sp <;> simp [Addr.add]
     simp [execOp, ho, hu, Instr.sliceAt, Instr.slice, run_underlying g1, hbd, run_size g3, this]
theorem OT.str1 {T T' e i t n : Nat} {f : Nat → List D} {q : Operand} {x : Int} [h : TyIs P T (.slice e)] [h8 : TyIs P e (.int .u8)] [h' : TyIs P T' .string] (hd : o.dst = some d) (ho : o.op = .convert T T' q) (hq : s.ev q = some (.own i 1)) (hi : look s.hp i = some (.arr t 1 n f)) (hn : Nat.blt 0 n = true) (hf : f 0 = [.sc (.int .u8 x)]) :
 OT P o s d (.d (.sc (.string (S [UInt8.ofNat x.toNat])))) [] [] := by
 refine .pure hd fun x' z s' a w hs hz => ?_
 have hv := hz.ev (hs.ev hq)
 obtain ⟨us, h1, h2, h3, h4, h5, h6⟩ := hz.arr (hs.hp _ _ hi)
 have hn := blt_lt hn
 generalize hu : a.eval q = u at hv
 cases hv with
 | own hn1 hc hA =>
   obtain rfl := hA (by omega)
   have hl : 0 < us.length := by rw [h2]; omega
   have h0 : us[0]? = some us[0] := List.getElem?_eq_getElem hl
   have hr := h6 0 0 _ _ hn (by rw [hf]; rfl) (by rw [Nat.zero_mul]; exact h0)
   have hc0 : w.cell? ⟨z.b i, 0, none⟩ = some (.int .u8 x) := by
    rw [cell_of_heap (h1 (by omega)), h0]
    generalize us[0] = v at hr
    cases hr; rfl
   refine ⟨_, ?_, .mk_sc rfl⟩
   have := run_convert_bytes_arg (P := P) w T e h.out h8.out (z.b i) 0 1 (z.c i) [x] rfl (fun j hj => by
    obtain rfl : j = 0 := by omega
    exact hc0) T' h'.out
   simp only [execOp, ho, hu, Sem.run_bind, this, Result.andThen_ok, Sem.run_pure]
   rfl
def plN (k : Nat) : Nat → List (Nat × Nat)
 | 0 => []
 | n + 1 => plN k n ++ [(n * k, k)]
theorem plN_get (k : Nat) : ∀ (n i : Nat) (p : Nat × Nat), (plN k n)[i]? = some p → p = (i * k, k)
 | 0, i, p, h => by simp [plN] at h
 | n + 1, i, p, h => by
   have hl : ∀ n, (plN k n).length = n := fun n => by induction n with | zero => rfl | succ n ih => simp [plN, ih]
   rw [plN] at h
   by_cases hi : i < n
   ·rw [List.getElem?_append_left (by rw [hl]; exact hi)] at h
    exact plN_get k n i p h
   ·rw [List.getElem?_append_right (by rw [hl]; omega), hl] at h
    have : i - n = 0 := by have := (List.getElem?_eq_some_iff.1 h).1; simp at this; omega
    rw [this] at h
    simp only [List.getElem?_cons_zero, Option.some.injEq] at h
    rw [← h, show i = n by omega]
theorem OT.sliceN {T e k n : Nat} {parts : Array (Nat × Operand)} {vs : List (Nat × AV)} {xs : List AV} [h : SlcT P T e k] (hd : o.dst = some d) (ho : o.op = .buildSlice T n parts) (hv : evs s parts.toList = some vs) (hf : afill (plN k n) (List.replicate (n * k) .un) vs = some xs) (hall : allD xs = true) (hn0 : Nat.blt 0 n = true) (hsz : Nat.ble (n * k) 16777216 = true) :
 OT P o s d (.own d n) [(d, .arr e k n (fun i => ((xs.map dOf).drop (i * k)).take k))] [] := by
 refine ⟨hd, fun x s' a w hs hn hfr ⟨z, hz⟩ K Q hK => ?_⟩
 have hfd := hfr d _ (List.mem_singleton.2 rfl)
 have hn0 := blt_lt hn0
 have hds := LeDs.all hall
 have hsz := Nat.le_of_ble_eq_true hsz
 obtain ⟨g1, g2, i, zz, g3, g4, g5, g6, g7⟩ := h.out
 obtain ⟨l1, l2⟩ := hds.get
 obtain ⟨q1, q2⟩ := evs_ok hs hz _ _ hv
 obtain ⟨cs', h1, h2⟩ := fill_ok (z := z) (w := w) (ok := okB x.X z s'.hp w) (place := fun i => some (i * k, k)) (pl := plN k n) (fun i p h => by rw [plN_get k n i p h]) vs (parts.toList.map fun (i, q) => (i, a.eval q)) (List.replicate (n * k) .un) ((Array.range (n * k)).map (zz.cells[· % zz.cells.size]!)) xs
  ⟨by simp, fun j y u hy hu => by
    obtain rfl : y = .un := by
     have := List.mem_of_getElem? hy
     exact List.eq_of_mem_replicate this
    exact .un⟩ hf (by rw [q1, List.map_map]; rfl) q2
 have hcs : cs'.size = n * k := by
  have hfl : ∀ (ps : List (Nat × Value)) (c c' : Array Value) (pl : Nat → Option (Nat × Nat)), Instr.fill pl c ps = some c' → c'.size = c.size := by
   intro ps
   induction ps with
   | nil => intro c c' pl hh; simp only [Instr.fill, Option.some.injEq] at hh; rw [hh]
   | cons p r ih =>
     intro c c' pl hh
     simp only [Instr.fill] at hh
     split at hh
     ·cases hh
     ·split at hh
      ·cases hh
      ·rw [ih _ _ _ hh, ← Array.foldl_toList]
       have hfd : ∀ (l : List (Value × Nat)) (off : Nat) (c : Array Value), (l.foldl (fun (c : Array Value) (p : Value × Nat) => c.setIfInBounds (off + p.2) p.1) c).size = c.size := by
        intro l off
        induction l with
        | nil => intro c; rfl
        | cons y r ih2 => intro c; rw [List.foldl_cons, ih2]; simp
       exact hfd _ _ _
  have := hfl _ _ _ _ h1
  simpa using this
 have hxl : xs.length = n * k := by rw [← h2.1]; simpa using hcs
 have hzero : (zeroValue e).run P w = .ok zz w := by simp only [zeroValue, typeInfo, program, Sem.run_bind, Sem.run, Result.andThen_ok, g3, g4, Sem.run_pure]
 have hpt : (parts.map fun (x : Nat × Operand) => (x.1, a.eval x.2)).toList = parts.toList.map fun (i, q) => (i, a.eval q) := by simp
 have hk0 := g2.1
 have hnk : 0 < n * k := Nat.mul_pos hn0 hk0
 have hr : (execOp a.eval o).run P w = .ok (.value (.slice (some ⟨w.heap.size, 0, none⟩) n n)) (w.alloc (.cells cs' e)) := by
  have hk2 : ¬ (n * k > 2 ^ 24) := by omega
  have hk3 : ¬ (n * k = 0) := by omega
  simp only [execOp, ho, Instr.buildSlice, Sem.run_bind, run_underlying g1, run_size g3, g5, Result.andThen_ok]
  rw [if_neg hk2, if_neg hk3]
  simp only [Sem.run_bind, Sem.run_pure, Result.andThen_ok, hzero]
  rw [hpt, h1]
  simp [newRow, newObj, Sem.run]
 unfold Oper.wp
 rw [hr]
 show K (a.put o.dst _) _
 rw [hd]
 have hb : Below w.heap.size w (w.alloc (.cells cs' e)) := (Below.refl _ _).alloc (Nat.le_refl _) _
 have hnm : n ≤ maxLen := by
  have : n * 1 ≤ n * k := Nat.mul_le_mul_left _ hk0
  unfold maxLen; omega
 have hz2 := hz.newArr hb (i := d) (t := e) (k := k) (n := n) (c := n) (f := fun i => ((xs.map dOf).drop (i * k)).take k) (us := cs'.toList) (g := w.heap.size) hfd (Nat.le_refl _) hnm (by simpa using hcs) (fun m hm => by
  have : (m + 1) * k ≤ n * k := Nat.mul_le_mul_right _ hm
  rw [Nat.add_mul] at this
  simp; omega)
  (fun _ => ⟨Nat.le_refl _, by simpa using heap_alloc_new w (.cells cs' e)⟩) (fun m j dd u hm hd' hu => by
    have hj : j < k := by have := (List.getElem?_eq_some_iff.1 hd').1; simp at this; omega
    rw [List.getElem?_take, if_pos hj, List.getElem?_drop] at hd'
    obtain ⟨x', hx1, hx2⟩ := l2 _ dd hd'
    exact hx2.rep (h2.2 _ x' u hx1 hu))
 refine hK _ _ ⟨_, hz2.put hn ?_⟩
 have h3 := VR.own (z := z.set d w.heap.size n) (w := w.alloc (.cells cs' e)) (ok := okB x.X (z.set d w.heap.size n) ((d, .arr e k n (fun i => ((xs.map dOf).drop (i * k)).take k)) :: s'.hp) (w.alloc (.cells cs' e))) (i := d) (n := n) (A := some ⟨w.heap.size, 0, none⟩) (by rw [Cz.set_c]; exact Nat.le_refl _) (by rw [Cz.set_c]; exact hnm) (fun _ => by rw [Cz.set_b])
 rw [Cz.set_c] at h3
 exact h3
theorem OT.make1 {T e : Nat} {q r : Operand} {x : Int} {v0 : Value} [h : SlcT P T e 1] [hzt : ZT P e v0] (hd : o.dst = some d) (ho : o.op = .makeSlice T q r) (hq : s.ev q = some (.d (.sc (.int .i64 x)))) (hr : s.ev r = some (.d (.sc (.int .i64 x)))) (h0 : 0 ≤ x) (h1 : x ≤ 1000) (hv : lone v0 = true) :
 OT P o s d (.own d x.toNat) [(d, .arr e 1 x.toNat (fun _ => [.sc v0]))] [] := by
 refine ⟨hd, fun xx s' a w hs hn hfr ⟨z, hz⟩ K Q hK => ?_⟩
 have hfd := hfr d _ (List.mem_singleton.2 rfl)
 have e1 := (hz.ev (hs.ev hq)).dsc.1
 have e2 := (hz.ev (hs.ev hr)).dsc.1
 obtain ⟨g1, g2, i, zz, g3, g4, g5, g6, g7⟩ := h.out
 obtain ⟨i', g3', g4'⟩ := hzt.out
 rw [g3] at g3'
 injection g3' with g3'
 subst g3'
 rw [g4] at g4'
 injection g4' with g4'
 subst g4'
 have hrun := run_make (P := P) w T e i zz g1 g3 g4 .i64 .i64 x x h0 (Int.le_refl _) (by
  have : (i.bytes : Int) * x ≤ 1024 * 1000 := Int.mul_le_mul (by omega) h1 h0 (by omega)
  omega) (by omega)
 rw [g5, Nat.mul_one] at hrun
 have hzc : zz.cells = #[zz] := by cases zz <;> simp_all [lone, Value.cells]
 unfold Oper.wp execOp
 simp only [ho, e1, e2, Sem.run_bind, hrun, Result.andThen_ok, Sem.run_pure]
 show K (a.put o.dst _) _
 rw [hd]
 have hb : Below w.heap.size w (w.alloc (.cells (madeCells zz.cells x.toNat) e)) := (Below.refl _ _).alloc (Nat.le_refl _) _
 have hmx : x.toNat ≤ maxLen := by unfold maxLen; omega
 have hz2 := hz.newArr hb (i := d) (t := e) (k := 1) (n := x.toNat) (c := x.toNat) (f := fun _ => [.sc zz]) (us := (madeCells zz.cells x.toNat).toList) (g := w.heap.size) hfd (Nat.le_refl _) hmx (by simp [madeCells]) (fun _ _ => rfl)
  (fun _ => ⟨Nat.le_refl _, by simpa using heap_alloc_new w (.cells (madeCells zz.cells x.toNat) e)⟩) (fun m j dd u hm hd' hu => by
    have hj : j = 0 := by have := (List.getElem?_eq_some_iff.1 hd').1; simp at this; omega
    subst hj
    simp only [List.getElem?_cons_zero, Option.some.injEq] at hd'
    subst hd'
    have : u = zz := by
     rw [hzc] at hu
     simp [madeCells] at hu
     obtain ⟨k', _, hu⟩ := hu
     rw [← hu, Nat.mod_one]
     rfl
    rw [this]
    exact .sc hv)
 exact hK _ _ ⟨_, hz2.put hn (VR.own_mk (Nat.le_refl _) hmx (fun _ => rfl))⟩
mutual
inductive LeF (H : List (Nat × Ob)) : AV → AV → List Nat → Prop
 | c {x y : AV} (h : LeC x y) : LeF H x y []
 | fz {j n n' n2 t k : Nat} {f f' : Nat → List D} (h : look H j = some (.arr t k n2 f)) (hle : n ≤ n2) (hn : n = n') (hf : ∀ m, m < n → f m = f' m) : LeF H (.own j n) (.d (.sl k n' f')) [j]
 | ag {xs ys : List AV} {l : List Nat} (h : LeFs H xs ys l) : LeF H (.ag xs) (.ag ys) l
inductive LeFs (H : List (Nat × Ob)) : List AV → List AV → List Nat → Prop
 | nil : LeFs H [] [] []
 | cons {x y : AV} {xs ys : List AV} {l l' : List Nat} (h : LeF H x y l) (t : LeFs H xs ys l') : LeFs H (x :: xs) (y :: ys) (l ++ l')
end
theorem Sim.frozen {x : Ctx} {z : Cz} {s : St} {a : Act} {w : World} (hz : Sim x z s a w) {rm : List Nat} {j n n2 t k : Nat} {f f' : Nat → List D} {u : Value} (e : look s.hp j = some (.arr t k n2 f)) (hle : n ≤ n2) (hf : ∀ m, m < n → f m = f' m) (hj : j ∈ rm) (hv : VR z w (okB x.X z s.hp w) (.own j n) u) : Rep w (okB x.X z (rmL rm s.hp) w) u (.sl k n f') := by
 cases hv with
 | @own _ _ A h1 h2 h3 =>
   have hkin : Kin w (okB x.X z s.hp w) w (okB x.X z (rmL rm s.hp) w) := fun b hb => ⟨⟨hb.1, hb.2.1, fun i ob ei hp => by
    rw [look_rmL] at ei
    split at ei
    ·cases ei
    ·exact hb.2.2 i ob ei hp⟩, rfl⟩
   obtain ⟨us, g1, g2, g3, g4, g5, g6⟩ := hz.arr e
   refine .sl (fun i i' => us.getD (i * k + i') undef) (z.b j) 0 h1 h2 (fun e' => ?_) (fun hn0 => ⟨h3 (by omega), ?_⟩) (fun i hi => by rw [← hf i hi]; exact g5 i (by omega)) (fun i i' hi hi' => ?_) (fun i i' d hi hd => ?_)
   ·rcases Nat.eq_zero_or_pos (z.c j) with h0 | h0
    ·exact h0
    ·rw [h3 h0] at e'; cases e'
   ·have hpj : 0 < z.c j := by omega
    obtain ⟨p1, p2, p3⟩ := hz.ph j _ e (show phys z j _ from hpj)
    refine ⟨p1, p3, fun i ob ei hp => ?_⟩
    rw [look_rmL] at ei
    split at ei
    ·cases ei
    ·rename_i hni
     intro e'
     have := hz.inj i j ob _ ei e hp (show phys z j _ from hpj) e'
     subst this
     exact hni hj
   ·have hle' : (i + 1) * k ≤ z.c j * k := Nat.mul_le_mul_right _ (by omega)
    rw [Nat.add_mul] at hle'
    rw [Nat.zero_add, cell_of_heap (g1 (by omega)), List.getD_eq_getElem?_getD, List.getElem?_eq_getElem (by omega)]
    rfl
   ·have hle' : (i + 1) * k ≤ z.c j * k := Nat.mul_le_mul_right _ (by omega)
    rw [Nat.add_mul] at hle'
    rw [← hf i hi] at hd
    have hi' : i' < k := by rw [← g5 i (by omega)]; exact (List.getElem?_eq_some_iff.1 hd).1
    have hu : us[i * k + i']? = some (us.getD (i * k + i') undef) := by rw [List.getD_eq_getElem?_getD, List.getElem?_eq_getElem (by omega)]; rfl
    exact (g6 i i' d _ (by omega) hd hu).mov hkin
theorem VR.rm {x : Ctx} {z : Cz} {s : St} {w : World} {rm : List Nat} {y : AV} {u : Value} (h : VR z w (okB x.X z s.hp w) y u) : VR z w (okB x.X z (rmL rm s.hp) w) y u :=
 h.mov (fun b hb => ⟨⟨hb.1, hb.2.1, fun i ob ei hp => by
  rw [look_rmL] at ei
  split at ei
  ·cases ei
  ·exact hb.2.2 i ob ei hp⟩, rfl⟩) (fun _ _ => ⟨rfl, rfl⟩)
mutual
theorem LeF.vr {x : Ctx} {z : Cz} {s s' : St} {a : Act} {w : World} (hs : s.le s') (hz : Sim x z s' a w) {rm : List Nat} : ∀ {y y' : AV} {l : List Nat} {u : Value}, LeF s.hp y y' l → (∀ j ∈ l, j ∈ rm) → VR z w (okB x.X z s'.hp w) y u → VR z w (okB x.X z (rmL rm s'.hp) w) y' u
 | _, _, _, _, .c h, _, hv => (h.vr hv).rm
 | _, _, _, _, .fz h hle hn hf, hl, hv => by
   subst hn
   exact .d (hz.frozen (hs.hp _ _ h) hle hf (hl _ (List.mem_singleton.2 rfl)) hv)
 | _, _, _, _, .ag h, hl, hv => by
   cases hv with
   | ag hl' hu => obtain ⟨e1, e2⟩ := LeFs.vr hs hz h hl hl' hu; exact .ag e1 e2
theorem LeFs.vr {x : Ctx} {z : Cz} {s s' : St} {a : Act} {w : World} (hs : s.le s') (hz : Sim x z s' a w) {rm : List Nat} : ∀ {xs ys : List AV} {l : List Nat} {us : List Value}, LeFs s.hp xs ys l → (∀ j ∈ l, j ∈ rm) → us.length = xs.length → (∀ (j : Nat) (y : AV) (u : Value), xs[j]? = some y → us[j]? = some u → VR z w (okB x.X z s'.hp w) y u) →
 us.length = ys.length ∧ ∀ (j : Nat) (y : AV) (u : Value), ys[j]? = some y → us[j]? = some u → VR z w (okB x.X z (rmL rm s'.hp) w) y u
 | _, _, _, us, .nil, _, hl, _ => ⟨hl, fun j y u hy => by simp at hy⟩
 | _, _, _, [], .cons _ _, _, hl, _ => by simp at hl
 | _, _, _, u :: us, .cons hx ht, hrm, hl, hu => by
   obtain ⟨e1, e2⟩ := LeFs.vr hs hz ht (us := us) (fun j hj => hrm j (List.mem_append_right _ hj)) (by simpa using hl) (fun j y u' hy hu' => hu (j + 1) y u' (by simpa using hy) (by simpa using hu'))
   refine ⟨by simp [e1], fun j y u' hy hu' => ?_⟩
   cases j with
   | zero =>
     simp only [List.getElem?_cons_zero, Option.some.injEq] at hy hu'
     subst hy; subst hu'
     exact LeF.vr hs hz hx (fun j hj => hrm j (List.mem_append_left _ hj)) (hu 0 _ _ rfl rfl)
   | succ j => exact e2 j y u' (by simpa using hy) (by simpa using hu')
end
theorem Sim.rm {x : Ctx} {z : Cz} {s : St} {a : Act} {w : World} (h : Sim x z s a w) (rm : List Nat) : Sim x z (s.rm rm) a w :=
 h.weak (s' := s) (s := s.rm rm) ⟨rfl, fun _ _ e => e, fun i ob e => by
  have e' : look (rmL rm s.hp) i = some ob := e
  rw [look_rmL] at e'
  split at e'
  ·cases e'
  ·exact e'⟩
theorem OT.callF {f : FuncId} {qs : Array Operand} {ts : Array TypeId} {avs args : List AV} {r : AV} {rm : List Nat} (hd : o.dst = some d) (ho : o.op = .call { callee := .value (.func f), args := qs, argTypes := ts }) (hq : evl s qs.toList = some avs) (hle : LeFs s.hp avs args rm) (hF : FnP P f args r) : OT P o s d r [] rm := by
 refine ⟨hd, fun x s' a w hs hn _ ⟨z, hz⟩ K Q hK => ?_⟩
 have hv0 := evl_ok hs hz _ _ hq
 have hv := LeFs.vr hs hz hle (fun j hj => hj) hv0.1 hv0.2
 have hz2 := hz.rm rm
 have hcall := hF.2 z w _ _ (fun b hb => hb.1) hv
 have hev : a.eval (.func f) = .func (.func f) #[] #[] := rfl
 unfold Oper.wp execOp
 simp only [ho, resolve, invoke, hev, Deferred.ofValue, Sem.run_bind, Sem.run_pure, Result.andThen_ok, Array.empty_append, Array.append_empty, callFunc_run hF.1]
 have he : (qs.map a.eval) = (qs.toList.map a.eval).toArray := by rw [← Array.toList_map, Array.toArray_toList]
 rw [he]
 refine hcall.mono fun e w' ⟨u, e1, h1, h2⟩ => ?_
 subst e1
 show K (a.put o.dst u) w'
 rw [hd]
 refine hK _ _ ⟨z, (hz2.grow h2).put hn (h1.mov (fun b hb => ⟨?_, rfl⟩) (fun _ _ => ⟨rfl, rfl⟩))⟩
 rcases hb with hb | ⟨hb1, hb2⟩
 ·exact ⟨Nat.lt_of_lt_of_le hb.1 h2.size, hb.2⟩
 ·exact ⟨hb2, fun hx => by have := (hz2.xo b hx).1; have := hz2.fr.size; omega, fun i ob e hp e' => by have := (hz2.ph i ob e hp).1; omega⟩
theorem OT.slice1F {T e k : Nat} {q : Operand} {v : AV} {ys : List AV} {rm : List Nat} [h : SlcT P T e k] (hd : o.dst = some d) (ho : o.op = .buildSlice T 1 #[(0, q)]) (hq : s.ev q = some v) (hle : LeFs s.hp (cellsA v) ys rm) (hall : allD ys = true) (hk : ys.length = k) : OT P o s d (.own d 1) [(d, .arr e k 1 (fun _ => ys.map dOf))] rm := by
 refine ⟨hd, fun x s' a w hs hn hf ⟨z, hz⟩ K Q hK => ?_⟩
 have hfd0 := hf d _ (List.mem_singleton.2 rfl)
 obtain ⟨g1, g2, i, zz, g3, g4, g5, g6, g7⟩ := h.out
 obtain ⟨l1, l2⟩ := (LeDs.all hall).get
 have hvv := hz.ev (hs.ev hq)
 have hlen : (cellsA v).length = ys.length := by
  have : ∀ {xs ys : List AV} {l : List Nat}, LeFs s.hp xs ys l → xs.length = ys.length := by
   intro xs ys l hh
   induction xs generalizing ys l with
   | nil => cases hh; rfl
   | cons x r ih => cases hh with | cons h t => simp [ih t]
  exact this hle
 have hne : cellsA v ≠ [] := fun e => by rw [e] at hlen; simp at hlen; omega
 obtain ⟨c1, c2⟩ := cellsA_ok hvv hne
 have hv2 := LeFs.vr hs hz hle (fun j hj => hj) c1 c2
 have hz' := hz.rm rm
 have hfd : (s'.rm rm).free d := ⟨hfd0.1, hfd0.2.1, fun j ob e => by
  have e' : look (rmL rm s'.hp) j = some ob := e
  rw [look_rmL] at e'
  split at e'
  ·cases e'
  ·exact hfd0.2.2 j ob e'⟩
 have hus : (a.eval q).cells.size = k := by have : (a.eval q).cells.toList.length = k := by omega
                                            simpa using this
 have hfill : Instr.fill (fun i => some (i * k, k)) ((Array.range k).map (zz.cells[· % zz.cells.size]!)) [(0, a.eval q)] = some (a.eval q).cells := by
  simp only [Instr.fill]
  rw [if_neg (by simp [hus])]
  congr 1
  have h1 := fold_set 0 (a.eval q).cells.toList 0 ((Array.range k).map (zz.cells[· % zz.cells.size]!)) (by simp [hus])
  have h2 : ((a.eval q).cells.zipIdx.foldl (fun (c : Array Value) (p : Value × Nat) => c.setIfInBounds (0 + p.2) p.1) ((Array.range k).map (zz.cells[· % zz.cells.size]!))).toList = (a.eval q).cells.toList := by
   rw [← Array.foldl_toList, Array.toList_zipIdx]
   refine h1.trans ?_
   unfold aput
   simp [hus]
  have h3 := congrArg List.toArray h2
  simpa using h3
 have hzero : (zeroValue e).run P w = .ok zz w := by simp only [zeroValue, typeInfo, program, Sem.run_bind, Sem.run, Result.andThen_ok, g3, g4, Sem.run_pure]
 have hr : (execOp a.eval o).run P w = .ok (.value (.slice (some ⟨w.heap.size, 0, none⟩) 1 1)) (w.alloc (.cells (a.eval q).cells e)) := by
  have hk2 : ¬ (1 * k > 2 ^ 24) := by have := g2.2; omega
  have hk3 : ¬ (1 * k = 0) := by have := g2.1; omega
  simp only [execOp, ho, Instr.buildSlice, Sem.run_bind, run_underlying g1, run_size g3, g5, Result.andThen_ok]
  rw [if_neg hk2, if_neg hk3]
  simp only [Sem.run_bind, Sem.run_pure, Result.andThen_ok, hzero, Nat.one_mul, List.map_toArray, List.map_cons, List.map_nil, hfill]
  simp [newRow, newObj, Sem.run]
 unfold Oper.wp
 rw [hr]
 show K (a.put o.dst _) _
 rw [hd]
 have hb : Below w.heap.size w (w.alloc (.cells (a.eval q).cells e)) := (Below.refl _ _).alloc (Nat.le_refl _) _
 have hz2 := hz'.newArr hb (i := d) (t := e) (k := k) (n := 1) (c := 1) (f := fun _ => ys.map dOf) (us := (a.eval q).cells.toList) (g := w.heap.size) hfd (Nat.le_refl _) (by unfold maxLen; omega) (by simp [hus]) (fun _ _ => by simpa using hk)
  (fun _ => ⟨Nat.le_refl _, by simpa using heap_alloc_new w (.cells (a.eval q).cells e)⟩) (fun m j dd u hm hd' hu => by
    obtain rfl : m = 0 := by omega
    rw [Nat.zero_mul, Nat.zero_add] at hu
    obtain ⟨x', hx1, hx2⟩ := l2 j dd hd'
    exact hx2.rep (hv2.2 j x' u hx1 hu))
 exact hK _ _ ⟨_, hz2.put hn (VR.own_mk (Nat.le_refl _) (by unfold maxLen; omega) (fun _ => rfl))⟩
theorem OT.callQ {f : FuncId} {qs : Array Operand} {ts : Array TypeId} {avs args : List AV} {r : AV} (hd : o.dst = some d) (ho : o.op = .call { callee := .value (.func f), args := qs, argTypes := ts }) (hq : evl s qs.toList = some avs) (hle : LeCs avs args) (hF : FnP P f args r) : OT P o s d r [] [] := .callP hd ho hq hF hle
theorem OT.callN {f : FuncId} {qs : Array Operand} {ts : Array TypeId} {avs args : List AV} {c n t k n' : Nat} {g : Nat → List D} (hd : o.dst = some d) (ho : o.op = .call { callee := .value (.func f), args := qs, argTypes := ts }) (hq : evl s qs.toList = some avs) (hle : LeCs avs args) (hF : FnH P f [] args [] (.own c n) [(c, .arr t k n' g)]) : OT P o s d (.own d n) [(d, .arr t k n' g)] [] := by
 refine ⟨hd, fun x s' a w hs hn hf ⟨z, hz⟩ K Q hK => ?_⟩
 have hfd := hf d _ (List.mem_singleton.2 rfl)
 have hv := hle.vrs (evl_ok hs hz _ _ hq)
 have hcall := hF.2 z w (fun b => b < w.heap.size ∧ ¬ okB x.X z s'.hp w b) _ (fun b hb => hb.1) ⟨fun i ob hi => (by cases hi), fun i ob hi => (by cases hi), fun i j ob ob' hi => (by cases hi)⟩ ⟨hv.1, fun j y u hy hu => (hv.2 j y u hy hu).mov (fun b hb => ⟨⟨hb.1, fun hx => hx.2 hb, fun i ob hi => (by cases hi)⟩, rfl⟩) (fun _ _ => ⟨rfl, rfl⟩)⟩
 have hev : a.eval (.func f) = .func (.func f) #[] #[] := rfl
 unfold Oper.wp execOp
 simp only [ho, resolve, invoke, hev, Deferred.ofValue, Sem.run_bind, Sem.run_pure, Result.andThen_ok, Array.empty_append, Array.append_empty, callFunc_run hF.1]
 have he : (qs.map a.eval) = (qs.toList.map a.eval).toArray := by rw [← Array.toList_map, Array.toArray_toList]
 rw [he]
 refine hcall.mono fun e w' ⟨u, z', e1, h1, h2, h3, h4, h5⟩ => ?_
 subst e1
 show K (a.put o.dst u) w'
 rw [hd]
 have hb : Below w.heap.size w w' := ⟨h3.os, h3.tape, h3.output, h3.size, fun b hb => h3.block b hb (fun ⟨i, ob, hi, _⟩ => by cases hi)⟩
 have hlk : look [(c, Ob.arr t k n' g)] c = some (.arr t k n' g) := by rw [look_cons, if_pos rfl]
 have hor := h2.1 c _ hlk
 have hkin : Kin w' (okB (fun b => b < w.heap.size ∧ ¬ okB x.X z s'.hp w b) z' [(c, .arr t k n' g)] w') w' (okB x.X (z.set d (z'.b c) (z'.c c)) ((d, .arr t k n' g) :: s'.hp) w') := fun b hb' => by
  obtain ⟨b1, b2, b3⟩ := hb'
  have hcase : okB x.X z s'.hp w b ∨ w.heap.size ≤ b := by
   by_cases hbw : b < w.heap.size
   ·exact .inl (Classical.byContradiction fun hno => b2 ⟨hbw, hno⟩)
   ·exact .inr (by omega)
  refine ⟨⟨b1, fun hx => ?_, fun i ob ei hp => ?_⟩, rfl⟩
  ·rcases hcase with hc | hc
   ·exact hc.2.1 hx
   ·have := (hz.xo b hx).1; have := hz.fr.size; omega
  ·rw [look_cons] at ei
   by_cases hi : d = i
   ·subst hi
    rw [if_pos rfl] at ei
    injection ei with ei
    subst ei
    rw [Cz.set_b]
    refine b3 c _ hlk ?_
    unfold phys at hp ⊢
    rw [Cz.set_c] at hp
    exact hp
   ·rw [if_neg hi] at ei
    rw [(z.set_ne _ _ (Ne.symm hi)).1]
    have hp' := (phys_set z (z'.b c) (z'.c c) (Ne.symm hi)).1 hp
    rcases hcase with hc | hc
    ·exact hc.2.2 i ob ei hp'
    ·have := (hz.ph i ob ei hp').1; omega
 cases hor with
 | @arr _ _ _ _ us g1 g2 g3 g4 g5 g6 =>
   have hz2 := hz.name hb (i := d) (g := z'.b c) (c := z'.c c) (ob := .arr t k n' g) hfd (fun hp => by
    unfold phys at hp
    rw [Cz.set_c] at hp
    refine ⟨?_, (Array.getElem?_eq_some_iff.1 (g1 hp)).1⟩
    rcases h4 c _ hlk hp with ⟨i, ob, hi, _⟩ | h
    ·cases hi
    ·exact h) (.arr (us := us) (fun hp => by rw [Cz.set_c] at hp; rw [Cz.set_b]; exact g1 hp) (by rw [Cz.set_c]; exact g2) (by rw [Cz.set_c]; exact g3) (by rw [Cz.set_c]; exact g4) g5 (fun m j dd u hm hdd hu => (g6 m j dd u hm hdd hu).mov hkin))
   cases h1 with
   | @own _ _ A q1 q2 q3 => exact hK _ _ ⟨_, hz2.put hn (VR.own_mk q1 q2 q3)⟩
end
mutual
theorem idsIn_mono {ks ks' : List Nat} (h : ∀ k, k ∈ ks → k ∈ ks') : ∀ {x : AV}, idsIn ks x = true → idsIn ks' x = true
 | .ptr i _, hx => by rw [idsIn] at hx ⊢; exact memB_iff.2 (h _ (memB_iff.1 hx))
 | .ep i _ _ _, hx => by rw [idsIn] at hx ⊢; exact memB_iff.2 (h _ (memB_iff.1 hx))
 | .own i _, hx => by rw [idsIn] at hx ⊢; exact memB_iff.2 (h _ (memB_iff.1 hx))
 | .ag _, hx => by rw [idsIn] at hx ⊢; exact idsInL_mono h hx
 | .tu _, hx => by rw [idsIn] at hx ⊢; exact idsInL_mono h hx
 | .un, _ => rfl
 | .d _, _ => rfl
 | .dp _ _, _ => rfl
 | .emp, _ => rfl
theorem idsInL_mono {ks ks' : List Nat} (h : ∀ k, k ∈ ks → k ∈ ks') : ∀ {xs : List AV}, idsInL ks xs = true → idsInL ks' xs = true
 | [], _ => rfl
 | x :: r, hx => by
   rw [idsInL, Bool.and_eq_true] at hx ⊢
   exact ⟨idsIn_mono h hx.1, idsInL_mono h hx.2⟩
end
section
variable {H H1 : List (Nat × Ob)} {σ : Nat → Option Nat} {e l : List (Nat × AV)} {r : List (Nat × Ob)} {x y : AV} {xs ys : List AV} {t : Nat} {v v' : Value} {d d' : D} {i j n m o : Nat} {i' j' n' o' : Nat} {ob : Ob}
theorem KE.ee (h : LeE H H1 σ e ((t, y) :: l)) : LeE H H1 σ e ((t, y) :: l) := h
theorem KE.hh (h : LeH H H1 σ ((i, ob) :: r)) : LeH H H1 σ ((i, ob) :: r) := h
theorem KE.vv (h : LeV H H1 σ x y) : LeV H H1 σ x y := h
theorem KE.vs (h : LeVs H H1 σ xs (y :: ys)) : LeVs H H1 σ xs (y :: ys) := h
theorem KE.u : LeV H H1 σ x .un := .un
end
theorem Imp.mk2 {nt : NI} {e e1 : List (Nat × AV)} {h h1 : List (Nat × Ob)} (σ : Nat → Option Nat) (he : LeE h h1 σ e e1) (hh : LeH h h1 σ h1) (hi : (injB σ h1 && idB σ nt.ini) = true) : Imp ⟨nt, e, h⟩ ⟨nt, e1, h1⟩ := Imp.mk σ rfl he hh hi
section
variable {H : List (Nat × Ob)} {σ : Nat → Option Nat} {j n n' t k : Nat} {f f' : Nat → List D}
theorem LeV.f0 (h : look H j = some (.arr t k n f)) : LeV H [] σ (.own j n) (.d (.sl k n f)) := LeV.fz h (Nat.le_refl _) (fun _ _ h => by cases h) rfl (fun _ _ => rfl)
theorem LeV.f1 (h : look H j = some (.arr t k n f)) (hn : n = n') (hf : ∀ m, m < n → f m = f' m) : LeV H [] σ (.own j n) (.d (.sl k n' f')) := LeV.fz h (Nat.le_refl _) (fun _ _ h => by cases h) hn hf
def noB (σ : Nat → Option Nat) (H1 : List (Nat × Ob)) (j : Nat) : Bool := H1.all fun p => match σ p.1 with | some a => !(Nat.beq a j) | none => true
theorem noB_ok {σ : Nat → Option Nat} {H1 : List (Nat × Ob)} {j : Nat} (h : noB σ H1 j = true) : ∀ i ob, look H1 i = some ob → σ i ≠ some j := fun i ob hi e => by
 have := List.all_eq_true.1 h _ (look_mem hi)
 simp [e] at this
theorem LeV.f2 {H1 : List (Nat × Ob)} (h : look H j = some (.arr t k n f)) (hno : noB σ H1 j = true) : LeV H H1 σ (.own j n) (.d (.sl k n f)) := LeV.fz h (Nat.le_refl _) (noB_ok hno) rfl (fun _ _ => rfl)
theorem LeV.f3 {H1 : List (Nat × Ob)} (h : look H j = some (.arr t k n f)) (hno : noB σ H1 j = true) (hn : n = n') (hf : ∀ m, m < n → f m = f' m) : LeV H H1 σ (.own j n) (.d (.sl k n' f')) := LeV.fz h (Nat.le_refl _) (noB_ok hno) hn hf
theorem LeF.f0 (h : look H j = some (.arr t k n f)) : LeF H (.own j n) (.d (.sl k n f)) [j] := .fz h (Nat.le_refl _) rfl (fun _ _ => rfl)
theorem LeF.f1 (h : look H j = some (.arr t k n f)) (hn : n = n') (hf : ∀ m, m < n → f m = f' m) : LeF H (.own j n) (.d (.sl k n' f')) [j] := .fz h (Nat.le_refl _) hn hf
end
section
variable {P : Program} {l : List Oper} {ms : List Nat} {rms : List (Nat × List Nat)} {base : St} {j : Nat} {o : Oper} {rest : List Oper} {done : List (Nat × Ent)} {Q : Exit → St → Prop}
theorem DR.gS {g t : Nat} {b want : Bool} (_hg : o.guard = some (g, want)) (_hgd : (l.toArray[g]?).bind (·.dst) = some t) (_hb : look (stD ms rms base done j o).env t = some (.d (.sc (.bool b)))) (ht : b = true → DR P l ms rms base Q j (o :: rest) done) (hf : b = false → DR P l ms rms base Q j (o :: rest) done) : DR P l ms rms base Q j (o :: rest) done := by
 cases b
 ·exact hf rfl
 ·exact ht rfl
theorem forgV_nil (x : AV) : forgV [] x = x := rfl
theorem OTg.callU {ops : Array Oper} {s : St} {d f : Nat} {qs : Array Operand} {ts : Array TypeId} {avs args : List AV} {r : AV} {i : Nat} {ob ob' : Ob} (hg : o.guard = none) (hd : o.dst = some d) (ho : o.op = .call { callee := .value (.func f), args := qs, argTypes := ts }) (hq : evl s qs.toList = some avs) (hle : LeCs avs args) (hF : FnH P f [i] args [(i, ob)] r [(i, ob')])
 (hi : look s.hp i = some ob) (hids : (idsIn [i] r && ob'.idsIn [i]) = true) : OTg P ops o s (some d) r [] [(i, ob')] [] := by
 refine ⟨hd, fun x s' a w hs hn _ hsim K Q hK => ?_⟩
 rw [if_pos (by simp [Region.wanted, hg])]
 left
 rw [Bool.and_eq_true] at hids
 have hq' : evl ⟨s'.nt, s'.env, s'.hp⟩ qs.toList = some avs := by
  have key : ∀ (l : List Operand) (vs : List AV), evl s l = some vs → evl s' l = some vs := by
   intro l
   induction l with
   | nil => intro vs h; exact h
   | cons q r ih =>
     intro vs h
     rw [evl] at h ⊢
     split at h
     ·rename_i v vs' e1 e2
      rw [hs.ev e1, ih vs' e2]
      exact h
     ·cases h
  exact key _ _ hq
 have hnk : newK [i] (keys [(i, ob)] ++ keys [(i, ob')]) = [] := by simp [newK, keys, memB]
 refine wp_callH (P := P) (nt := s'.nt) (e := s'.env) (h := s'.hp) ho hq' hF hle (hin := [(i, ob)]) (hout := [(i, ob')]) (kp := [i]) (by
  show look s'.hp i = some ob ∧ True
  exact ⟨hs.hp i ob hi, trivial⟩) (by
  rw [hnk]
  simp only [memB, List.all_cons, List.all_nil, Bool.and_true, Bool.not_false, Bool.and_eq_true]
  refine ⟨by simp, ?_⟩
  have h2 := hids.2
  cases ob' with
  | blk xs => simpa [Ob.idsIn, keys] using idsInL_mono (ks := [i]) (ks' := [i, i, i]) (by simp) h2
  | arr => rfl) (idsIn_mono (ks := [i]) (by simp [keys]) hids.1) hsim (fun z u w' g1 g2 => ?_)
 refine hK _ _ ⟨z, ?_⟩
 have hafE : ∀ t y, look s'.env t = some y → look (afterE [i] [(i, ob)] [(i, ob')] s'.env) t = some y := fun t y e => by
  unfold afterE
  rw [hnk]
  have : ∀ l : List (Nat × AV), forgE [] l = l := fun l => by induction l with | nil => rfl | cons p r ih => obtain ⟨t, y⟩ := p; rw [forgE, ih, forgV_nil]
  rw [this]
  exact e
 have hforgH : ∀ l : List (Nat × Ob), forgH [] l = l := fun l => by
  induction l with
  | nil => rfl
  | cons p r ih =>
    obtain ⟨t, y⟩ := p
    rw [forgH, ih]
    cases y with
    | blk xs =>
      have : xs.map (forgV []) = xs := by
       induction xs with
       | nil => rfl
       | cons x r ih2 => rw [List.map_cons, ih2, forgV_nil]
      simp only [forgO, this]
    | arr => rfl
 have hle2 : (((s'.rm []).add []).add [(i, ob')]).le ⟨s'.nt, afterE [i] [(i, ob)] [(i, ob')] s'.env, afterH [i] [(i, ob)] [(i, ob')] s'.hp⟩ := by
  refine ⟨rfl, fun t y e => hafE t y e, fun k ok e => ?_⟩
  have e : look ([(i, ob')] ++ ([] ++ rmL [] s'.hp)) k = some ok := e
  show look (afterH [i] [(i, ob)] [(i, ob')] s'.hp) k = some ok
  unfold afterH
  rw [hnk, hforgH]
  simp only [List.nil_append, rmL] at e
  rw [look_app] at e ⊢
  cases hk : look [(i, ob')] k with
  | some y => rw [hk] at e; exact e
  | none =>
    rw [hk] at e
    simp only [] at e ⊢
    rw [look_rmL, if_neg]
    ·exact e
    ·intro hm
     have : k = i := by simpa [keys] using hm
     subst this
     rw [look_cons, if_pos rfl] at hk
     cases hk
 rw [hd]
 exact (g1.weak hle2).put (hn d rfl) (g2.mov (fun b hb => ⟨⟨hb.1, hb.2.1, fun k ok e hp => hb.2.2 k ok (hle2.hp k ok e) hp⟩, rfl⟩) (fun _ _ => ⟨rfl, rfl⟩))
end
section
variable {P : Program} {ops : Array Oper} {o : Oper} {rest : List Oper} {nt : NI} {e : List (Nat × AV)} {h : List (Nat × Ob)} {Q : Exit → St → Prop}
theorem R.hcall {f : FuncId} {qs : Array Operand} {ts : Array TypeId} {avs args : List AV} {r : AV} {kp : List Nat} {hin hout : List (Nat × Ob)} {d : Nat} (hg : o.guard = none) (hd : o.dst = some d) (ho : o.op = .call { callee := .value (.func f), args := qs, argTypes := ts }) (hq : evl ⟨nt, e, h⟩ qs.toList = some avs) (hle : LeCs avs args) (hF : FnH P f kp args hin r hout) (hsub : SubH h hin)
 (hck : ((((nt.ini.all fun i => !memB i (newK kp (keys hin ++ keys hout))) && (hout.all fun p => p.2.idsIn (keys hin ++ keys hout ++ kp))) && (idsIn (keys hin ++ keys hout ++ kp) r && Nat.blt d nt.n)) = true))
 (k : WL P ops rest ⟨nt, (d, r) :: afterE kp hin hout e, afterH kp hin hout h⟩ Q) : WL P ops (o :: rest) ⟨nt, e, h⟩ Q := R.callH hg hd ho hq hF hle hsub hck k
end
section
variable {P : Program} {ops : Array Oper} {o : Oper} {rest : List Oper} {nt : NI} {e : List (Nat × AV)} {h : List (Nat × Ob)} {Q : Exit → St → Prop} {d : Nat}
theorem R.newR {v : AV} {i : Nat} {ob : Ob} {rm : List Nat} (hg : o.guard = none) (ho : OT P o ⟨nt, e, h⟩ d v [(i, ob)] rm) (hd : Nat.blt d nt.n = true) (hf : freeB ⟨nt, e, h⟩ i = true) (k : Mv rm h [] fun h' => WL P ops rest ⟨nt, (d, v) :: e, (i, ob) :: h'⟩ Q) : WL P ops (o :: rest) ⟨nt, e, h⟩ Q := by
 have hk := k.out
 simp only [List.reverse_nil, List.nil_append] at hk
 rw [← rmL_eq] at hk
 exact WL.new hg ho hd hf hk
theorem R.opR {v : AV} {rm : List Nat} (hg : o.guard = none) (ho : OT P o ⟨nt, e, h⟩ d v [] rm) (hd : Nat.blt d nt.n = true) (k : Mv rm h [] fun h' => WL P ops rest ⟨nt, (d, v) :: e, h'⟩ Q) : WL P ops (o :: rest) ⟨nt, e, h⟩ Q := by
 have hk := k.out
 simp only [List.reverse_nil, List.nil_append] at hk
 refine ⟨fun x a w hs => wpList_plain hg fun _ hK => ho.2 x _ a w (St.le.refl _) (blt_lt hd) (fun i ob hm => by cases hm) hs _ _ fun a' w' hs' => hK _ _ (hk.out x a' w' ?_)⟩
 rw [← rmL_eq]
 exact hs'
end
def clnE (ks : List Nat) : List (Nat × AV) → Bool
 | [] => true
 | (_, x) :: r => !menAny ks x && clnE ks r
def clnO (ks : List Nat) : Ob → Bool
 | .blk xs => xs.all fun x => !menAny ks x
 | .arr _ _ _ _ => true
def clnH (ks : List Nat) : List (Nat × Ob) → Bool
 | [] => true
 | (_, o) :: r => clnO ks o && clnH ks r
theorem clnE_ok {ks : List Nat} : ∀ {e : List (Nat × AV)}, clnE ks e = true → forgE ks e = e
 | [], _ => rfl
 | (t, x) :: r, h => by
   rw [clnE, Bool.and_eq_true, Bool.not_eq_true'] at h
   rw [forgE, clnE_ok h.2]
   unfold forgV
   rw [h.1]
theorem clnO_ok {ks : List Nat} {o : Ob} (h : clnO ks o = true) : forgO ks o = o := by
 cases o with
 | blk xs =>
   rw [forgO]
   congr 1
   refine (List.map_congr_left (fun x hx => ?_)).trans (List.map_id _)
   have := List.all_eq_true.1 h x hx
   rw [Bool.not_eq_true'] at this
   show forgV ks x = x
   unfold forgV
   rw [this]
 | arr => rfl
theorem clnH_ok {ks : List Nat} : ∀ {h : List (Nat × Ob)}, clnH ks h = true → forgH ks h = h
 | [], _ => rfl
 | (i, o) :: r, h => by
   rw [clnH, Bool.and_eq_true] at h
   rw [forgH, clnO_ok h.1, clnH_ok h.2]
section
variable {P : Program} {ops : Array Oper} {o : Oper} {rest : List Oper} {nt : NI} {e : List (Nat × AV)} {h : List (Nat × Ob)} {Q : Exit → St → Prop} {d : Nat}
theorem Mv.rm {ds : List Nat} {K : List (Nat × Ob) → Prop} (hk : Mv ds h [] K) : K (rmL ds h) := by
 have := hk.out
 rw [← rmL_eq] at this
 simpa using this
theorem R.hcallQ {f : FuncId} {qs : Array Operand} {ts : Array TypeId} {avs args : List AV} {r : AV} {kp : List Nat} {hin hout : List (Nat × Ob)} {d : Nat} (hg : o.guard = none) (hd : o.dst = some d) (ho : o.op = .call { callee := .value (.func f), args := qs, argTypes := ts }) (hq : evl ⟨nt, e, h⟩ qs.toList = some avs) (hle : LeCs avs args) (hF : FnH P f kp args hin r hout) (hsub : SubH h hin)
 (hck : ((((nt.ini.all fun i => !memB i (newK kp (keys hin ++ keys hout))) && (hout.all fun p => p.2.idsIn (keys hin ++ keys hout ++ kp))) && (idsIn (keys hin ++ keys hout ++ kp) r && Nat.blt d nt.n)) = true))
 (hcl : (clnE (newK kp (keys hin ++ keys hout)) e && clnH (newK kp (keys hin ++ keys hout)) h) = true)
 (k : Mv (keys hin ++ keys hout) h [] fun h' => Bk hout [] fun a => Bk a h' fun hh => WL P ops rest ⟨nt, (d, r) :: e, hh⟩ Q) : WL P ops (o :: rest) ⟨nt, e, h⟩ Q := by
 rw [Bool.and_eq_true] at hcl
 have hk := (k.rm.out).out
 simp only [List.append_nil, List.reverse_reverse] at hk
 refine R.callH hg hd ho hq hF hle hsub hck ?_
 have hs : clnH (newK kp (keys hin ++ keys hout)) (rmL (keys hin ++ keys hout) h) = true := by
  have : ∀ (i : Nat) (l : List (Nat × Ob)), clnH (newK kp (keys hin ++ keys hout)) l = true → clnH (newK kp (keys hin ++ keys hout)) (rmL.rm1 i l) = true := by
   intro i l
   induction l with
   | nil => intro _; rfl
   | cons p r ih =>
     obtain ⟨j, x⟩ := p
     intro hh
     rw [clnH, Bool.and_eq_true] at hh
     rw [rmL.rm1]
     cases Nat.beq j i with
     | true => exact ih hh.2
     | false => simp only []; rw [clnH, Bool.and_eq_true]; exact ⟨hh.1, ih hh.2⟩
  have key : ∀ (ds : List Nat) (l : List (Nat × Ob)), clnH (newK kp (keys hin ++ keys hout)) l = true → clnH (newK kp (keys hin ++ keys hout)) (rmL ds l) = true := by
   intro ds
   induction ds with
   | nil => intro l hl; exact hl
   | cons i t ih => intro l hl; rw [rmL]; exact ih _ (this i l hl)
  exact key _ _ hcl.2
 unfold afterE afterH
 rw [clnE_ok hcl.1, clnH_ok hs]
 exact hk
end
end Go.Proofs.YtjbhiglaginpeaaGreat
namespace Go.Proofs.YtjbhiglaginpeaaGreat
open Go.RowKit
section
variable {P : Program} {o : Oper} {s : St} {d : Nat}
theorem OT.nilCk {i p : Nat} {q : Operand} (hd : o.dst = some d) (ho : o.op = .nilCheck q) (hq : s.ev q = some (.ptr i p)) : OT P o s d (.ptr i p) [] [] := by
 refine .pure hd fun x' z s' a w hs hz => ⟨.pointer (some ⟨z.b i, p, none⟩), ?_, .ptr⟩
 have := hz.ev (hs.ev hq)
 generalize hu : a.eval q = u at this
 cases this
 simp [execOp, ho, hu]
theorem OT.nilCkE {i n m p : Nat} {q : Operand} (hd : o.dst = some d) (ho : o.op = .nilCheck q) (hq : s.ev q = some (.ep i n m p)) : OT P o s d (.ep i n m p) [] [] := by
 refine .pure hd fun x' z s' a w hs hz => ⟨.pointer (some ⟨z.b i, m * n + p, none⟩), ?_, .ep⟩
 have := hz.ev (hs.ev hq)
 generalize hu : a.eval q = u at this
 cases this
 simp [execOp, ho, hu]
end
section
variable {P : Program} {ops : Array Oper} {o : Oper} {rest : List Oper} {nt : NI} {e : List (Nat × AV)} {h : List (Nat × Ob)} {Q : Exit → St → Prop} {d : Nat}
theorem run_eqNil {T e k : Nat} [h : SlcT P T e k] (A : Option Addr) (n c : Nat) (w : World) : (Op.equal T (.slice A n c) (.slice none 0 0)).run P w = .ok A.isNone w := by
 show (Op.equalIn (9999 + 1) T _ _).run P w = _
 rw [Op.equalIn, Sem.run_bind, run_underlying h.out.1, Result.andThen_ok]
 cases A <;> rfl
theorem R.isnil {T T' el k n : Nat} {p : Operand} {v : AV} [SlcT P T el k] (hg : o.guard = none) (hd : o.dst = some d) (ho : o.op = .binOp .eql T p (.const (.slice none 0 0)) T') (hp : (St.mk nt e h).ev p = some v) (hv : (∃ i, v = .own i n) ∨ (∃ k f, v = .d (.sl k n f))) (hn : Nat.blt d nt.n = true)
 (kk : ∀ b : Bool, (b = true → n = 0) → WL P ops rest ⟨nt, (d, .d (.sc (.bool b))) :: e, h⟩ Q) : WL P ops (o :: rest) ⟨nt, e, h⟩ Q := ⟨fun x a w hs => by
 obtain ⟨z, hz⟩ := hs
 have hu := hz.ev hp
 obtain ⟨A, c, hA, hb⟩ : ∃ A c, a.eval p = .slice A n c ∧ (A.isNone = true → n = 0) := by
  generalize a.eval p = u at hu
  rcases hv with ⟨i, rfl⟩ | ⟨k', f, rfl⟩
  ·cases hu with
   | @own _ _ A h1 h2 h3 =>
     refine ⟨A, _, rfl, fun h => ?_⟩
     by_cases hc : 0 < z.c i
     ·rw [h3 hc] at h; cases h
     ·omega
  ·cases hu with
   | d h' => cases h' with
     | @sl A _ c _ _ us b o h1 h2 h3 h4 h5 h6 h7 =>
       refine ⟨A, c, rfl, fun h => ?_⟩
       by_cases hc : 0 < n
       ·rw [(h4 hc).1] at h; cases h
       ·omega
 refine wpList_plain hg fun _ hK => ?_
 have hr : (execOp a.eval o).run P w = .ok (.value (.bool A.isNone)) w := by
  have hev : a.eval (.const (.slice none 0 0)) = .slice none 0 0 := rfl
  simp [execOp, ho, hA, hev, eqGuard, binOp, run_eqNil]
 unfold Oper.wp
 rw [hr]
 show _
 refine hK _ _ ?_
 rw [hd]
 exact (kk A.isNone hb).out x _ w ⟨z, hz.put (blt_lt hn) (.mk_sc rfl)⟩⟩
theorem R.isnilD {T T' el k n k' : Nat} {f : Nat → List D} {p : Operand} [SlcT P T el k] (hg : o.guard = none) (hd : o.dst = some d) (ho : o.op = .binOp .eql T p (.const (.slice none 0 0)) T') (hp : (St.mk nt e h).ev p = some (.d (.sl k' n f))) (hn : Nat.blt d nt.n = true)
 (kk : ∀ b : Bool, (b = true → n = 0) → WL P ops rest ⟨nt, (d, .d (.sc (.bool b))) :: e, h⟩ Q) : WL P ops (o :: rest) ⟨nt, e, h⟩ Q := R.isnil hg hd ho hp (.inr ⟨_, _, rfl⟩) hn kk
end
end Go.Proofs.YtjbhiglaginpeaaGreat
