/- Parts of the proof, joined from several texts. No condition. -/
import Derived.Deep.Quiet
import Derived.Deep.QuietTactic
import Derived.BigQuiet
import Derived.Deep.RegionHeld
import Derived.Deep.RegionHeld2
import Derived.Deep.RegionHeld3
import Derived.ProofKit
import Derived.OpenShut
import Derived.ShutString
import Derived.ChangeOld
import Derived.SliceStrings
import Derived.Test.YtjbhiglaginpeaaGreatRows
import Derived.JoinedOf
import Derived.KernelRfl
import Derived.Test.YtjbhiglaginpeaaGreatQ9
import Derived.Test.YtjbhiglaginpeaaGreatQ0
import Derived.Test.YtjbhiglaginpeaaGreatQ7
import Derived.Test.YtjbhiglaginpeaaGreatQ2
import Derived.Test.YtjbhiglaginpeaaGreatQ6
set_option maxRecDepth 100000
set_option maxHeartbeats 16000000
set_option linter.unusedVariables false
set_option linter.unusedSimpArgs false
namespace Go.Proofs.YtjbhiglaginpeaaGreat
open Go.RowKit
theorem eqB_self (l : List Value) : eqB l l = true := by
 induction l with
 | nil => rfl
 | cons u r ih =>
   unfold eqB
   split
   all_goals first
    | rfl
    | (rename_i h1 h2
       injection h1 with h1 h3
       injection h2 with h2 h4
       subst h1
       injection h2 with h2 h5
       subst h3 h4
       simp_all)
    | (rename_i h1 h2
       injection h1 with h1 h3
       injection h2 with h2 h4
       subst h1
       injection h2 with h2
       subst h3 h4
       simp_all)
instance : EqA Tryz.prog 116 [0, 0] := ⟨Tryz.eqGuardType116, fun us vs w hu0 hv0 => by
 obtain ⟨a0, u0, rfl, hu1⟩ := fit_i hu0
 obtain ⟨a1, u1, rfl, hu2⟩ := fit_i hu1
 obtain rfl := fit_nil hu2
 obtain ⟨b0, v0, rfl, hv1⟩ := fit_i hv0
 obtain ⟨b1, v1, rfl, hv2⟩ := fit_i hv1
 obtain rfl := fit_nil hv2
 clear hu0 hv0 hu1 hv1 hu2 hv2
 rw [run_equalIn_struct w 9999 116 _ _ (by kernel_rfl) Tryz.stoodInHeld116]
 simp [Program.fieldsOf, Tryz.underlying116, Op.eqFields, part, TyOne.run, run_equalIn_int, run_equalIn_bool', run_equalIn_string, Tryz.underlying3, Tryz.underlying9, Tryz.underlying4, eqB]
 repeat' split
 all_goals simp_all⟩
instance : EqA Tryz.prog 114 [0, 0, 0] := ⟨Tryz.eqGuardType114, fun us vs w hu0 hv0 => by
 obtain ⟨a0, u0, rfl, hu1⟩ := fit_i hu0
 obtain ⟨a1, u1, rfl, hu2⟩ := fit_i hu1
 obtain ⟨a2, u2, rfl, hu3⟩ := fit_i hu2
 obtain rfl := fit_nil hu3
 obtain ⟨b0, v0, rfl, hv1⟩ := fit_i hv0
 obtain ⟨b1, v1, rfl, hv2⟩ := fit_i hv1
 obtain ⟨b2, v2, rfl, hv3⟩ := fit_i hv2
 obtain rfl := fit_nil hv3
 clear hu0 hv0 hu1 hv1 hu2 hv2 hu3 hv3
 rw [run_equalIn_struct w 9999 114 _ _ (by kernel_rfl) Tryz.stoodInHeld114]
 simp [Program.fieldsOf, Tryz.underlying114, Op.eqFields, part, TyOne.run, run_equalIn_int, run_equalIn_bool', run_equalIn_string, Tryz.underlying3, Tryz.underlying9, Tryz.underlying4, eqB]
 repeat' split
 all_goals simp_all⟩
instance : EqA Tryz.prog 97 [0, 0, 0, 0] := ⟨Tryz.eqGuardType97, fun us vs w hu0 hv0 => by
 obtain ⟨a0, u0, rfl, hu1⟩ := fit_i hu0
 obtain ⟨a1, u1, rfl, hu2⟩ := fit_i hu1
 obtain ⟨a2, u2, rfl, hu3⟩ := fit_i hu2
 obtain ⟨a3, u3, rfl, hu4⟩ := fit_i hu3
 obtain rfl := fit_nil hu4
 obtain ⟨b0, v0, rfl, hv1⟩ := fit_i hv0
 obtain ⟨b1, v1, rfl, hv2⟩ := fit_i hv1
 obtain ⟨b2, v2, rfl, hv3⟩ := fit_i hv2
 obtain ⟨b3, v3, rfl, hv4⟩ := fit_i hv3
 obtain rfl := fit_nil hv4
 clear hu0 hv0 hu1 hv1 hu2 hv2 hu3 hv3 hu4 hv4
 rw [run_equalIn_struct w 9999 97 _ _ (by kernel_rfl) Tryz.stoodInHeld97]
 simp [Program.fieldsOf, Tryz.underlying97, Op.eqFields, part, TyOne.run, run_equalIn_int, run_equalIn_bool', run_equalIn_string, Tryz.underlying3, Tryz.underlying9, Tryz.underlying4, eqB]
 repeat' split
 all_goals simp_all⟩
instance : EqA Tryz.prog 50 [0, 2] := ⟨Tryz.eqGuardType50, fun us vs w hu0 hv0 => by
 obtain ⟨a0, u0, rfl, hu1⟩ := fit_i hu0
 obtain ⟨a1, u1, rfl, hu2⟩ := fit_s hu1
 obtain rfl := fit_nil hu2
 obtain ⟨b0, v0, rfl, hv1⟩ := fit_i hv0
 obtain ⟨b1, v1, rfl, hv2⟩ := fit_s hv1
 obtain rfl := fit_nil hv2
 clear hu0 hv0 hu1 hv1 hu2 hv2
 rw [run_equalIn_struct w 9999 50 _ _ (by kernel_rfl) Tryz.stoodInHeld50]
 simp [Program.fieldsOf, Tryz.underlying50, Op.eqFields, part, TyOne.run, run_equalIn_int, run_equalIn_bool', run_equalIn_string, Tryz.underlying3, Tryz.underlying9, Tryz.underlying4, eqB]
 repeat' split
 all_goals simp_all⟩
end Go.Proofs.YtjbhiglaginpeaaGreat
namespace Go.Proofs.YtjbhiglaginpeaaGreat
open Go.RowKit
open Classical in
noncomputable def grew (W x : World) : World := if Below W.heap.size W x then x else W
theorem grew_below (W x : World) : Below W.heap.size W (grew W x) := by
 unfold grew
 split
 ·assumption
 ·exact Below.refl _ _
theorem grew_cell (W x : World) (a : Addr) (h : (W.cell? a).isSome = true) : (grew W x).cell? a = W.cell? a := by
 refine (grew_below W x).cell ?_
 cases hc : W.cell? a with
 | none => rw [hc] at h; cases h
 | some v => exact World.block_lt_of_cell? W a hc
attribute [go_sem] grew_cell
end Go.Proofs.YtjbhiglaginpeaaGreat
namespace Go.Proofs.YtjbhiglaginpeaaGreat
open Go.RowKit
theorem SliceR.grew {α : Type} {R : World → (Nat → Prop) → List Value → α → Prop} {size : Nat} {W : World} {ok : Nat → Prop} {A : Option Addr} {n c : Nat} {l : List α} (hR : RCar R) (h : SliceR R size W ok A n c l) (hok : Sub ok (Old W)) {x : World} : SliceR R size (grew W x) ok A n c l := h.below hR hok (grew_below W x) (Nat.le_refl _)
theorem b_grow {W w' : World} (h : Below W.heap.size W w') (o : Obj) : Below W.heap.size W (w'.alloc o) := h.alloc h.size _
theorem b_then {W w' w'' : World} (h : Below W.heap.size W w') (k : Below w'.heap.size w' w'') : Below W.heap.size W w'' := h.trans (k.mono h.size)
theorem b_alloc (w : World) (o : Obj) : Below w.heap.size w (w.alloc o) := (Below.refl _ _).alloc (Nat.le_refl _) o
def Rv.agg (x : Rv) (A : Option Addr) (n c : Nat) : Value := .agg #[.int .i64 x.read, .slice A n c, .int .i64 x.final, .int .i64 x.limit]
def PcsBd (l : List Pc) : Prop := ∀ p ∈ l, 0 ≤ p.off ∧ p.fin ≤ 30
def byteV (o : Option UInt8) : Value := match o with
 | none => .tuple #[.int .u8 0, .bool false]
 | some b => .tuple #[.int .u8 (b.toNat : Int), .bool true]
def Sd.agg (x : Sd) (A : Option Addr) (n c : Nat) (A' : Option Addr) (n' c' : Nat) : Value := .agg #[.string (S x.data), .bool x.fin, .int .i64 x.limit, .int .i64 x.next, .slice A n c, .slice A' n' c']
def Pt.agg (p : Pt) : Value := .agg #[.int .i64 p.off, .string (S p.data), .bool p.fin]
def Fm.agg (f : Fm) (A : Option Addr) (n c : Nat) : Value := .agg #[.int .i64 f.kind, .int .i64 f.a, .int .i64 f.b, .int .i64 f.c, .string (S f.data), .slice A n c]
structure InsIs (b n c i : Nat) (us vs : List Value) (w : World) (A' : Option Addr) (c' g : Nat) (us' : List Value) (w' : World) : Prop where
 room : n + 1 ≤ c'
 cap : c' ≤ maxLen
 len : us'.length = c' * 6
 at_ : A' = some ⟨g, 0, none⟩ ∧ w'.heap[g]? = some (.cells us'.toArray 82 (0, 0))
 where_ : w.heap.size ≤ g ∨ (0 < c ∧ g = b)
 row : us'.take ((n + 1) * 6) = us.take (i * 6) ++ vs ++ (us.take (n * 6)).drop (i * 6)
 grown : w.grownBy w' (if 0 < c then some b else none)
def InsSays (b n c i : Nat) (us vs : List Value) (w : World) (e : Ending) (w' : World) : Prop := ∃ A' c' g us', e = .returned (.slice A' (n + 1) c') ∧ InsIs b n c i us vs w A' c' g us' w'
theorem rawInsEnd (A : Option Addr) (n c b vb vc : Nat) (us vs : List Value) (w : World) (hn : n ≤ c) (hc : c ≤ maxLen) (hl : us.length = c * 6) (hA : 0 < c → A = some ⟨b, 0, none⟩ ∧ w.heap[b]? = some (.cells us.toArray 82 (0, 0))) (hA0 : A = none → c = 0)
 (hvc : 1 ≤ vc) (ok : Nat → Prop) (f : Nat → List D) (hnw : Cells w ok 6 (some ⟨vb, 0, none⟩) 1 f vs) (hone : ∀ u ∈ vs, u.oneCell' = true) (hbig : n + 1 ≤ 100000000) :
 Calls Tryz.prog 105 #[.slice A n c, .int .i64 n, .slice (some ⟨vb, 0, none⟩) 1 vc] w (InsSays b n c n us vs w) := by
 obtain ⟨A', c', g, us', w', hrun, k1, k2, k3, k4, k5, k6⟩ := run_app (P := Tryz.prog) (T := 33) (e := 82) (k := 6) 33 w A n c b us hn hc hl hA hA0 (some ⟨vb, 0, none⟩) 1 vc (fun h => by cases h) hvc ok f vs hnw hone hbig
 have mixed : Tryz.prog.follows Departure.mixedOrders = true := by kernel_rfl
 have hcn : (n : Int) ≤ 9223372036854775807 := by omega
 have hap : Hid ((Builtin.append_ #[33, 33] 33 #[.slice A n c, .slice (some ⟨vb, 0, none⟩) 1 vc]).run Tryz.prog w = .ok (.slice A' (n + 1) c') w') := hrun
 have hK : Hid (InsIs b n c n us vs w A' c' g us' w') := ⟨k1, k2, k3, ⟨(k4 (by omega)).1, (k4 (by omega)).2.1⟩, (k4 (by omega)).2.2, by rw [k5, List.drop_eq_nil_of_le (by rw [List.length_take]; exact Nat.min_le_left _ _), List.append_nil], k6⟩
 have hcc : c ≤ 9223372036854775807 := by unfold maxLen at hc; omega
 have h0 : A = none → n = 0 := fun h => by have := hA0 h; omega
 clear hrun k1 k2 k3 k4 k5 k6 hl hA hA0 hnw hone hbig hc
 have hfin : InsSays b n c n us vs w (.returned (.slice A' (n + 1) c')) w' := ⟨A', c', g, us', rfl, hK.out⟩
 obtain ⟨V, hV⟩ : ∃ V, V = Value.slice A' (n + 1) c' := ⟨_, rfl⟩
 rw [← hV] at hap hfin
 suffices h : Calls Tryz.prog 105 #[.slice A n c, .int .i64 n, .slice (some ⟨vb, 0, none⟩) 1 vc] w (fun e x => e = .returned V ∧ x = w') from h.mono fun e x hx => by rw [hx.1, hx.2]; exact hfin
 clear hK hfin hV
 go_enter Tryz.func105, Tryz.ntmps105
 cases A with
 | none =>
   obtain rfl := h0 rfl
   go_wp2_with (at_builtin; refine wpl_appR rfl _ _ _ rfl _ _ rfl rfl hap.out ?_)
   all_goals (go_ret; exact ⟨rfl, rfl⟩)
 | some a =>
   obtain ⟨ab, ao, asp⟩ := a
   clear h0
   go_wp2_with (at_builtin; refine wpl_appR rfl _ _ _ rfl _ _ rfl rfl hap.out ?_)
   all_goals (go_ret; exact ⟨rfl, rfl⟩)
theorem rawInsIn (b n c i vb vc : Nat) (us vs vus : List Value) (w : World) (hi : i < n) (hroom : n + 1 ≤ c) (hc : c ≤ maxLen) (hvb : vb ≠ b) (hl : us.length = c * 6) (hg : w.heap[b]? = some (.cells us.toArray 82 (0, 0)))
 (hv : w.heap[vb]? = some (.cells vus.toArray 82 (0, 0))) (hvl : vs.length = 6) (hvs : ∀ (j : Nat) (u : Value), vs[j]? = some u → vus[j]? = some u) (h1 : ∀ u ∈ us.take (n * 6), u.oneCell' = true) (h1v : ∀ u ∈ vs, u.oneCell' = true) :
 Calls Tryz.prog 105 #[.slice (some ⟨b, 0, none⟩) n c, .int .i64 i, .slice (some ⟨vb, 0, none⟩) 1 vc] w (InsSays b n c i us vs w) := by
 have mixed : Tryz.prog.follows Departure.mixedOrders = true := by kernel_rfl
 have hz2 : ¬ ((i : Int) = (n : Int)) := by omega
 have hcc : c ≤ 9223372036854775807 := by unfold maxLen at hc; omega
 obtain ⟨cs, hcs⟩ : ∃ cs, cs = (us.take (n * 6)).drop (i * 6) := ⟨_, rfl⟩
 have hcl : cs.length = (n - i) * 6 := by rw [hcs, List.length_drop, List.length_take]; omega
 have hov : ∀ lb cb, (callFunc 151 #[.slice (some ⟨vb, 0, none⟩) 1 vc, .slice (some ⟨b, (i + 1) * 6, none⟩) lb cb]).run Tryz.prog w = .ok (.value (.bool false)) w := fun lb cb => by
  rw [run_callFunc_extern Tryz.func151 (by kernel_rfl) (by kernel_rfl) (by kernel_rfl) (e := Extern.SlicesOverlaps.overlaps #[33, 33] #[4]) (by kernel_rfl),
   Lib.run_overlaps_apart w 33 4 82 (SlcT.out (P := Tryz.prog) (T := 33) (e := 82) (k := 6)).1 6 (fun w => by
    obtain ⟨_, _, i0, z0, t3, _, t5, _⟩ := (SlcT.out (P := Tryz.prog) (T := 33) (e := 82) (k := 6))
    rw [run_size t3, t5]) ⟨vb, 0, none⟩ ⟨b, (i + 1) * 6, none⟩ 1 vc lb cb hvb 82 82 vus.length us.length (by simp [World.shape?, hv]) (by simp [World.shape?, hg]) (by omega) (frozen_of_heap hv 0) (frozen_of_heap hv _)]
  rfl
 have hcp1 : ∀ ty dc sc, (Builtin.copy_ #[33, 33] ty #[.slice (some ⟨b, (i + 1) * 6, none⟩) (n - i) dc, .slice (some ⟨b, i * 6, none⟩) (n + 1 - i) sc]).run Tryz.prog w.drew = .ok (goInt (n - i : Nat)) (w.drew.setRow b (aput us ((i + 1) * 6) cs).toArray) := fun ty dc sc =>
  run_copyR (P := Tryz.prog) (T := 33) (e := 82) (k := 6) w.drew ty b ((i + 1) * 6) (n - i) dc us hg ⟨b, i * 6, none⟩ (n + 1 - i) sc cs (n - i) (by simp only [Nat.min_def]; split <;> omega) hcl
   (fun j u hj => by
     rw [Addr.add_lit]
     show w.cell? _ = _
     rw [cell_of_heap hg]
     rw [hcs, List.getElem?_drop, List.getElem?_take] at hj
     split at hj
     ·exact hj
     ·cases hj) (by rw [hl]; omega) (fun u hu => by rw [hcs] at hu; exact h1 u (List.mem_of_mem_drop hu))
 have hl1 : (aput us ((i + 1) * 6) cs).length = c * 6 := by rw [aput_len _ _ _ (by rw [hcl, hl]; omega), hl]
 obtain ⟨W1, hW1⟩ : ∃ W1, W1 = w.drew.setRow b (aput us ((i + 1) * 6) cs).toArray := ⟨_, rfl⟩
 have hg1 : W1.heap[b]? = some (.cells (aput us ((i + 1) * 6) cs).toArray 82 (0, 0)) := by rw [hW1]; exact setRow_heap w.drew b _ _ _ _ hg
 have hv1 : W1.heap[vb]? = some (.cells vus.toArray 82 (0, 0)) := by rw [hW1]; exact (setRow_other w.drew b vb _ hvb).trans hv
 have hcp2 : ∀ ty dc, (Builtin.copy_ #[33, 33] ty #[.slice (some ⟨b, i * 6, none⟩) (n + 1 - i) dc, .slice (some ⟨vb, 0, none⟩) 1 vc]).run Tryz.prog W1 = .ok (goInt (1 : Nat)) (W1.setRow b (aput (aput us ((i + 1) * 6) cs) (i * 6) vs).toArray) := fun ty dc =>
  run_copyR (P := Tryz.prog) (T := 33) (e := 82) (k := 6) W1 ty b (i * 6) (n + 1 - i) dc _ hg1 ⟨vb, 0, none⟩ 1 vc vs 1 (by simp only [Nat.min_def]; split <;> omega) (by omega)
   (fun j u hj => by rw [Addr.add_lit, Nat.zero_add, cell_of_heap hv1]; exact hvs j u hj) (by rw [hl1]; omega) h1v
 have hcp1' : ∀ ty dc sc, (Builtin.copy_ #[33, 33] ty #[.slice (some ⟨b, (i + 1) * 6, none⟩) (n - i) dc, .slice (some ⟨b, i * 6, none⟩) (n + 1 - i) sc]).run Tryz.prog w.drew = .ok (goInt (n - i : Nat)) W1 := fun ty dc sc => by rw [hW1]; exact hcp1 ty dc sc
 have hK : Hid (InsIs b n c i us vs w (some ⟨b, 0, none⟩) c b (aput (aput us ((i + 1) * 6) cs) (i * 6) vs) (W1.setRow b (aput (aput us ((i + 1) * 6) cs) (i * 6) vs).toArray)) := by
  have hg2 := setRow_heap W1 b _ (aput (aput us ((i + 1) * 6) cs) (i * 6) vs).toArray _ _ hg1
  have hl2 : (aput (aput us ((i + 1) * 6) cs) (i * 6) vs).length = c * 6 := by rw [aput_len _ _ _ (by rw [hvl, hl1]; omega), hl1]
  refine ⟨hroom, hc, hl2, ⟨rfl, hg2⟩, .inr ⟨by omega, rfl⟩, ?_, ?_⟩
  ·rw [← hcs]
   apply List.ext_getElem?
   intro j
   rw [List.getElem?_take]
   by_cases hj : j < (n + 1) * 6
   ·rw [if_pos hj, aput_get _ _ _ (by rw [hvl, hl1]; omega), hvl]
    by_cases hj1 : i * 6 ≤ j ∧ j < i * 6 + 6
    ·rw [if_pos hj1, List.append_assoc, List.getElem?_append_right (by rw [List.length_take]; omega), List.length_take, List.getElem?_append_left (by omega)]
     congr 1
     omega
    ·rw [if_neg hj1, aput_get _ _ _ (by rw [hcl, hl]; omega), hcl]
     by_cases hj2 : j < i * 6
     ·rw [if_neg (by omega), List.append_assoc, List.getElem?_append_left (by rw [List.length_take]; omega), List.getElem?_take, if_pos hj2]
     ·rw [if_pos (by omega), List.getElem?_append_right (by rw [List.length_append, List.length_take]; omega), List.length_append, List.length_take]
      congr 1
      omega
   ·rw [if_neg hj]
    symm
    rw [List.getElem?_eq_none_iff, List.length_append, List.length_append, List.length_take]
    omega
  ·rw [if_pos (by omega), hW1]
   have r1 : w.grownBy w.drew (some b) := ⟨rfl, rfl, rfl, Nat.le_refl _, fun _ _ _ => rfl⟩
   have r2 := grown_setRow w.drew b (aput us ((i + 1) * 6) cs).toArray
   have r3 := grown_setRow (w.drew.setRow b (aput us ((i + 1) * 6) cs).toArray) b (aput (aput us ((i + 1) * 6) cs) (i * 6) vs).toArray
   exact grown_thn (grown_thn r1 r2) r3
 have hfin : InsSays b n c i us vs w (.returned (.slice (some ⟨b, 0, none⟩) (n + 1) c)) (W1.setRow b (aput (aput us ((i + 1) * 6) cs) (i * 6) vs).toArray) := ⟨_, _, _, _, rfl, hK.out⟩
 suffices h : Calls Tryz.prog 105 #[.slice (some ⟨b, 0, none⟩) n c, .int .i64 i, .slice (some ⟨vb, 0, none⟩) 1 vc] w (fun e x => e = .returned (.slice (some ⟨b, 0, none⟩) (n + 1) c) ∧ x = W1.setRow b (aput (aput us ((i + 1) * 6) cs) (i * 6) vs).toArray) from h.mono fun e x hx => by rw [hx.1, hx.2]; exact hfin
 clear hK hfin
 have hb1 : (0 : Int) ≤ (i : Int) + 1 := by omega
 have hin : i ≤ n := by omega
 have hb2 : ¬ (c = i + 1) := by omega
 have hb3 : (i : Int) ≤ (n : Int) + 1 := by omega
 have hb4 : ¬ (c = i) := by omega
 have hw1 : IntKind.i64.wrap ((i : Int) + 1) = (i : Int) + 1 := by rw [IntKind.wrap_i64]; omega
 have htn : ((i : Int) + 1).toNat = i + 1 := by omega
 have hA : Hid (∀ ty dc sc, (Builtin.copy_ #[33, 33] ty #[.slice (some ⟨b, (i + 1) * 6, none⟩) (n - i) dc, .slice (some ⟨b, i * 6, none⟩) (n + 1 - i) sc]).run Tryz.prog w.drew = .ok (goInt (n - i : Nat)) W1) := hcp1'
 clear hcp1 hcp1' hW1 hg1 hv1 hl1 hcs hcl h1 h1v hvs hvl hl
 go_enter Tryz.func105, Tryz.ntmps105
 go_wp2_with (simp only [hov])
 go_region_law_o (refine step_copyR rfl _ _ _ rfl (.slice (some ⟨b, (i + 1) * 6, none⟩) (n - i) (c - (i + 1))) (.slice (some ⟨b, i * 6, none⟩) (n + 1 - i) (c - i)) (by simp [Act.eval, Act.put]) (by simp [Act.eval, Act.put]) (hA.out _ _ _) ?_)
 go_wp2
 go_ret
 exact ⟨rfl, rfl⟩
theorem rawInsGrow (b n c i vb vc : Nat) (us vs vus : List Value) (w : World) (hi : i < n) (hn : n ≤ c) (hroom : c < n + 1) (hbig : n ≤ 1000000) (hl : us.length = c * 6) (hg : w.heap[b]? = some (.cells us.toArray 82 (0, 0)))
 (hv : w.heap[vb]? = some (.cells vus.toArray 82 (0, 0))) (hvl : vs.length = 6) (hvs : ∀ (j : Nat) (u : Value), vs[j]? = some u → vus[j]? = some u) (h1 : ∀ u ∈ us.take (n * 6), u.oneCell' = true) (h1v : ∀ u ∈ vs, u.oneCell' = true) :
 Calls Tryz.prog 105 #[.slice (some ⟨b, 0, none⟩) n c, .int .i64 i, .slice (some ⟨vb, 0, none⟩) 1 vc] w (InsSays b n c i us vs w) := by
 have mixed : Tryz.prog.follows Departure.mixedOrders = true := by kernel_rfl
 obtain ⟨t1, t2, i0, z0, t3, t4, t5, t6, t7⟩ := (SlcT.out (P := Tryz.prog) (T := 33) (e := 82) (k := 6))
 have hbw : b < w.heap.size := (Array.getElem?_eq_some_iff.1 hg).1
 have hvw : vb < w.heap.size := (Array.getElem?_eq_some_iff.1 hv).1
 have hz2 : ¬ ((i : Int) = (n : Int)) := by omega
 have hz3 : (c : Int) < (n : Int) + 1 := by omega
 have hkk : (n : Int) + 1 - (i : Int) = ((n + 1 - i : Nat) : Int) := by omega
 have hik : i + (n + 1 - i) = n + 1 := by omega
 have hold : (Builtin.firstCells i0.size i (.slice (some ⟨b, 0, none⟩) i c)).run Tryz.prog w.drew = .ok (us.take (i * 6)).toArray w.drew :=
  run_firstCells_some (P := Tryz.prog) w.drew i0.size i ⟨b, 0, none⟩ i c (us.take (i * 6)) (by rw [List.length_take, t5]; omega) (fun j u hj => by
   rw [Addr.add_lit, Nat.zero_add]
   show w.cell? _ = _
   rw [cell_of_heap hg]
   rw [List.getElem?_take] at hj
   split at hj
   ·exact hj
   ·cases hj)
 have hnb : (n + 1) * i0.bytes ≤ 1000001 * 1024 := Nat.mul_le_mul (by omega) t7
 have hkb : (n + 1 - i) * i0.bytes ≤ (n + 1) * i0.bytes := Nat.mul_le_mul_right _ (by omega)
 obtain ⟨G, hG⟩ : ∃ G, G = grownCap w (n + 1) c 82 := ⟨_, rfl⟩
 obtain ⟨ROW, hROW⟩ : ∃ ROW : List Value, ROW = ((us.take (i * 6)).toArray ++ Builtin.zeroCells z0.cells (n + 1 - i) ++ Builtin.zeroCells z0.cells (G - (n + 1))).toList := ⟨_, rfl⟩
 have hGn : n + 1 ≤ G := by rw [hG]; exact grownCap_ge w _ _ _
 have hG0 : G ≤ maxLen := by
  rw [hG]
  exact grownCap_le_maxLen w (n + 1) c 82 (by unfold maxLen; omega)
 have hG63 : G ≤ 9223372036854775807 := by unfold maxLen at hG0; omega
 have hRl : ROW.length = G * 6 := by
  rw [hROW]
  simp only [Array.length_toList, Array.size_append, size_zeroCells, t6, List.size_toArray, List.length_take]
  omega
 have hrz : ∀ ty, (Builtin.append_ #[33, 3] ty #[.slice (some ⟨b, 0, none⟩) i c, .int .i64 ((n : Int) + 1 - (i : Int))]).run Tryz.prog w = .ok (.slice (some ⟨w.heap.size, 0, none⟩) (n + 1) G) (w.drew.alloc (.cells ROW.toArray 82)) := fun ty => by
  have h := Lib.run_append_grow_zeros w 33 3 ty 82 i0 z0 .i64 .i64 t1 (by kernel_rfl) t3 t4 (some ⟨b, 0, none⟩) i c (us.take (i * 6)) hold (n + 1 - i) (by omega) (by omega) (by omega) (by omega) (by omega) (by rw [hik]; exact growslice_fits (by omega) (by omega))
  rw [hik, ← hG] at h
  rw [hkk, hROW, Array.toArray_toList]
  exact h
 obtain ⟨W1, hW1⟩ : ∃ W1, W1 = w.drew.alloc (.cells ROW.toArray 82) := ⟨_, rfl⟩
 rw [← hW1] at hrz
 have hgn : W1.heap[w.heap.size]? = some (.cells ROW.toArray 82 (0, 0)) := by rw [hW1]; exact heap_alloc_new w.drew _
 have hb1' : Below w.heap.size w W1 := by rw [hW1]; exact ((Below.refl _ _).drew).alloc (Nat.le_refl _) _
 have hgo : W1.heap[b]? = some (.cells us.toArray 82 (0, 0)) := (hb1'.block b hbw).trans hg
 have hgv : W1.heap[vb]? = some (.cells vus.toArray 82 (0, 0)) := (hb1'.block vb hvw).trans hv
 have hcpA : ∀ ty dc, (Builtin.copy_ #[33, 33] ty #[.slice (some ⟨w.heap.size, i * 6, none⟩) (n + 1 - i) dc, .slice (some ⟨vb, 0, none⟩) 1 vc]).run Tryz.prog W1 = .ok (goInt (1 : Nat)) (W1.setRow w.heap.size (aput ROW (i * 6) vs).toArray) := fun ty dc =>
  run_copyR (P := Tryz.prog) (T := 33) (e := 82) (k := 6) W1 ty w.heap.size (i * 6) (n + 1 - i) dc ROW hgn ⟨vb, 0, none⟩ 1 vc vs 1 (by simp only [Nat.min_def]; split <;> omega) (by omega)
   (fun j u hj => by rw [Addr.add_lit, Nat.zero_add, cell_of_heap hgv]; exact hvs j u hj) (by rw [hRl]; omega) h1v
 have hl1 : (aput ROW (i * 6) vs).length = G * 6 := by rw [aput_len _ _ _ (by rw [hvl, hRl]; omega), hRl]
 obtain ⟨W2, hW2⟩ : ∃ W2, W2 = W1.setRow w.heap.size (aput ROW (i * 6) vs).toArray := ⟨_, rfl⟩
 rw [← hW2] at hcpA
 have hg2 : W2.heap[w.heap.size]? = some (.cells (aput ROW (i * 6) vs).toArray 82 (0, 0)) := by rw [hW2]; exact setRow_heap W1 _ _ _ _ _ hgn
 have hgo2 : W2.heap[b]? = some (.cells us.toArray 82 (0, 0)) := by rw [hW2]; exact (setRow_other W1 w.heap.size b _ (by omega)).trans hgo
 obtain ⟨cs, hcs⟩ : ∃ cs, cs = (us.take (n * 6)).drop (i * 6) := ⟨_, rfl⟩
 have hcl : cs.length = (n - i) * 6 := by rw [hcs, List.length_drop, List.length_take]; omega
 have hcpB : ∀ ty dc sc, (Builtin.copy_ #[33, 33] ty #[.slice (some ⟨w.heap.size, (i + 1) * 6, none⟩) (n - i) dc, .slice (some ⟨b, i * 6, none⟩) (n - i) sc]).run Tryz.prog W2.drew = .ok (goInt (n - i : Nat)) (W2.drew.setRow w.heap.size (aput (aput ROW (i * 6) vs) ((i + 1) * 6) cs).toArray) := fun ty dc sc =>
  run_copyR (P := Tryz.prog) (T := 33) (e := 82) (k := 6) W2.drew ty w.heap.size ((i + 1) * 6) (n - i) dc _ hg2 ⟨b, i * 6, none⟩ (n - i) sc cs (n - i) (by simp) hcl
   (fun j u hj => by
     rw [Addr.add_lit]
     show W2.cell? _ = _
     rw [cell_of_heap hgo2]
     rw [hcs, List.getElem?_drop, List.getElem?_take] at hj
     split at hj
     ·exact hj
     ·cases hj) (by rw [hl1]; omega) (fun u hu => by rw [hcs] at hu; exact h1 u (List.mem_of_mem_drop hu))
 obtain ⟨W3, hW3⟩ : ∃ W3, W3 = W2.drew.setRow w.heap.size (aput (aput ROW (i * 6) vs) ((i + 1) * 6) cs).toArray := ⟨_, rfl⟩
 rw [← hW3] at hcpB
 have hK : InsIs b n c i us vs w (some ⟨w.heap.size, 0, none⟩) G w.heap.size (aput (aput ROW (i * 6) vs) ((i + 1) * 6) cs) W3 := by
  have hg3 : W3.heap[w.heap.size]? = some (.cells (aput (aput ROW (i * 6) vs) ((i + 1) * 6) cs).toArray 82 (0, 0)) := by rw [hW3]; exact setRow_heap W2.drew _ _ _ _ _ hg2
  have hl2 : (aput (aput ROW (i * 6) vs) ((i + 1) * 6) cs).length = G * 6 := by rw [aput_len _ _ _ (by rw [hcl, hl1]; omega), hl1]
  refine ⟨hGn, hG0, hl2, ⟨rfl, hg3⟩, .inl (Nat.le_refl _), ?_, ?_⟩
  ·rw [← hcs]
   apply List.ext_getElem?
   intro j
   rw [List.getElem?_take]
   by_cases hj : j < (n + 1) * 6
   ·rw [if_pos hj, aput_get _ _ _ (by rw [hcl, hl1]; omega), hcl]
    by_cases hj2 : (i + 1) * 6 ≤ j
    ·rw [if_pos (by omega), List.getElem?_append_right (by rw [List.length_append, List.length_take]; omega), List.length_append, List.length_take]
     congr 1
     omega
    ·rw [if_neg (by omega), aput_get _ _ _ (by rw [hvl, hRl]; omega), hvl]
     by_cases hj1 : i * 6 ≤ j
     ·rw [if_pos (by omega), List.append_assoc, List.getElem?_append_right (by rw [List.length_take]; omega), List.length_take, List.getElem?_append_left (by omega)]
      congr 1
      omega
     ·rw [if_neg (by omega), List.append_assoc, List.getElem?_append_left (by rw [List.length_take]; omega), hROW, Array.toList_append, Array.toList_append, List.append_assoc, List.getElem?_append_left (by simp only [List.length_take]; omega)]
   ·rw [if_neg hj]
    symm
    rw [List.getElem?_eq_none_iff, List.length_append, List.length_append, List.length_take]
    omega
  ·have r1 : Below w.heap.size w W2 := by
    rw [hW2]
    have g2 := grown_setRow W1 w.heap.size (aput ROW (i * 6) vs).toArray
    exact ⟨g2.os.trans hb1'.os, g2.tape.trans hb1'.tape, g2.output.trans hb1'.output, Nat.le_trans hb1'.size g2.size, fun j hj => (g2.block j (Nat.lt_of_lt_of_le hj hb1'.size) (by intro e; injection e with e; omega)).trans (hb1'.block j hj)⟩
   have r2 : w.grownBy W3 none := by
    rw [hW3]
    have g2 := grown_setRow W2.drew w.heap.size (aput (aput ROW (i * 6) vs) ((i + 1) * 6) cs).toArray
    exact ⟨g2.os.trans r1.os, g2.tape.trans r1.tape, g2.output.trans r1.output, Nat.le_trans r1.size g2.size, fun j hj _ => (g2.block j (Nat.lt_of_lt_of_le hj r1.size) (by intro e; injection e with e; omega)).trans (r1.block j hj)⟩
   exact ⟨r2.os, r2.tape, r2.output, r2.size, fun j hj _ => r2.block j hj (by simp)⟩
 have hfin : InsSays b n c i us vs w (.returned (.slice (some ⟨w.heap.size, 0, none⟩) (n + 1) G)) W3 := ⟨_, _, _, _, rfl, hK⟩
 suffices h : Calls Tryz.prog 105 #[.slice (some ⟨b, 0, none⟩) n c, .int .i64 i, .slice (some ⟨vb, 0, none⟩) 1 vc] w (fun e x => e = .returned (.slice (some ⟨w.heap.size, 0, none⟩) (n + 1) G) ∧ x = W3) from h.mono fun e x hx => by rw [hx.1, hx.2]; exact hfin
 have hGi : ¬ (G = i) := by omega
 have hGim : ¬ (G = i + 1) := by omega
 have hci : ¬ (c = i) := by omega
 have hw1 : IntKind.i64.wrap ((i : Int) + 1) = (i : Int) + 1 := by rw [IntKind.wrap_i64]; omega
 have hb1 : (0 : Int) ≤ (i : Int) + 1 := by omega
 have hin : i ≤ n := by omega
 have htn : ((i : Int) + 1).toNat = i + 1 := by omega
 have hb3 : (i : Int) ≤ (n : Int) := by omega
 have hAz : Hid (∀ ty, (Builtin.append_ #[33, 3] ty #[.slice (some ⟨b, 0, none⟩) i c, .int .i64 ((n : Int) + 1 - (i : Int))]).run Tryz.prog w = .ok (.slice (some ⟨w.heap.size, 0, none⟩) (n + 1) G) W1) := hrz
 have hB : Hid (∀ ty dc sc, (Builtin.copy_ #[33, 33] ty #[.slice (some ⟨w.heap.size, (i + 1) * 6, none⟩) (n - i) dc, .slice (some ⟨b, i * 6, none⟩) (n - i) sc]).run Tryz.prog W2.drew = .ok (goInt (n - i : Nat)) W3) := hcpB
 clear hkk hik hold hROW hG hRl hrz hcpB hW1 hW2 hW3 hgn hgo hgv hg2 hgo2 hl1 hcs hcl hb1' hK hfin h1 h1v hvs hvl hl hg hv t1 t2 t3 t4 t5 t6 t7 hnb hkb
 go_enter Tryz.func105, Tryz.ntmps105
 go_wp2_with (at_builtin; refine wpl_appR rfl _ _ _ rfl _ _ rfl rfl (hAz.out _) ?_)
 go_region_law_o (refine step_copyR rfl _ _ _ rfl (.slice (some ⟨w.heap.size, (i + 1) * 6, none⟩) (n - i) (G - (i + 1))) (.slice (some ⟨b, i * 6, none⟩) (n - i) (c - i)) (by simp [Act.eval, Act.put]) (by simp [Act.eval, Act.put]) (hB.out _ _ _) ?_)
 go_wp2
 go_ret
 exact ⟨rfl, rfl⟩
theorem ins_getD {α : Type} [Inhabited α] {l : List α} {x : α} {i : Nat} (hi : i ≤ l.length) (m : Nat) : (l.take i ++ x :: l.drop i).getD m default = if m < i then l.getD m default else if m = i then x else l.getD (m - 1) default := by
 simp only [List.getD_eq_getElem?_getD]
 have ht : (l.take i).length = i := by rw [List.length_take]; omega
 by_cases h1 : m < i
 ·rw [if_pos h1, List.getElem?_append_left (by omega), List.getElem?_take, if_pos h1]
 ·rw [if_neg h1, List.getElem?_append_right (by omega), ht]
  by_cases h2 : m = i
  ·subst h2; simp
  ·rw [if_neg h2, show m - i = (m - i - 1) + 1 by omega, List.getElem?_cons_succ, List.getElem?_drop]
   congr 2
   omega
theorem vmInsert (q p c : Nat) (hpq : p ≠ q) (hcq : c ≠ q) (hcp : c ≠ p) (l : List Cd) (x : Cd) (f : Nat → List D) (i : Nat) (hf : f 0 = eCd x) (hi : i ≤ l.length) (hl : l.length ≤ 100000) :
 FnH Tryz.prog 105 [q, p] [.own q l.length, aI i, .own p 1] [(q, hL 82 6 eCd l), (p, .arr 82 6 1 f)] (.own c (l.take i ++ x :: l.drop i).length) [(c, hL 82 6 eCd (l.take i ++ x :: l.drop i))] := by
 have hlen : (l.take i ++ x :: l.drop i).length = l.length + 1 := by rw [List.length_append, List.length_cons, List.length_take, List.length_drop]; omega
 have he : ∀ y : Cd, (eCd y).length = 6 := fun _ => rfl
 refine ⟨⟨_, Tryz.func105, by kernel_rfl, rfl⟩, fun z w X vs hX hin hus => ?_⟩
 have hq : look [(q, hL 82 6 eCd l), (p, Ob.arr 82 6 1 f)] q = some (hL 82 6 eCd l) := by rw [look_cons, if_pos rfl]
 have hp : look [(q, hL 82 6 eCd l), (p, Ob.arr 82 6 1 f)] p = some (.arr 82 6 1 f) := by rw [look_cons, if_neg (Ne.symm hpq), look_cons, if_pos rfl]
 obtain ⟨e1, e2⟩ := hus
 simp only [List.length_cons, List.length_nil, Nat.zero_add, Nat.reduceAdd] at e1
 obtain ⟨v0, v1, v2, rfl⟩ : ∃ v0 v1 v2, vs = [v0, v1, v2] := by
  match vs, e1 with
  | [a, b, c], _ => exact ⟨a, b, c, rfl⟩
 have a0 := e2 0 _ _ rfl rfl
 have a1 := (e2 1 _ _ rfl rfl).dsc.1
 have a2 := e2 2 _ _ rfl rfl
 subst a1
 have oq := hin.1 q _ hq
 have op := hin.1 p _ hp
 generalize hO : okB X z [(q, hL 82 6 eCd l), (p, Ob.arr 82 6 1 f)] w = ok at *
 cases oq with
 | @arr _ _ _ _ us hh hl1 hn1 hc hf1 h =>
 cases op with
 | @arr _ _ _ _ vus hhp hlp hnp hcp1 hfp hp1 =>
 cases a0 with
 | @own _ _ A _ _ hA =>
 cases a2 with
 | @own _ _ B _ _ hB =>
   have hcp0 : 0 < z.c p := by omega
   obtain rfl := hB hcp0
   have hhp0 := hhp hcp0
   have hnk : l.length * 6 ≤ z.c q * 6 := Nat.mul_le_mul_right _ hn1
   obtain ⟨cs, hcs⟩ : ∃ cs, cs = vus.take 6 := ⟨_, rfl⟩
   have hcsl : cs.length = 6 := by rw [hcs, List.length_take]; omega
   have hcsg : ∀ (j : Nat) (u : Value), cs[j]? = some u → vus[j]? = some u := fun j u hj => by
    rw [hcs, List.getElem?_take] at hj
    split at hj
    ·exact hj
    ·cases hj
   have hCells : Cells w ok 6 (some ⟨z.b p, 0, none⟩) 1 f cs := by
    refine ⟨by omega, fun _ => ⟨z.b p, 0, rfl, fun j u hj => ?_⟩, fun m hm => hfp m hm, fun m j d u hm hd hu => hp1 m j d u hm hd ?_⟩
    ·rw [Nat.zero_add, cell_of_heap hhp0]; exact hcsg j u hj
    ·obtain rfl : m = 0 := by omega
     exact hcsg _ u hu
   have hone := hCells.one (by omega)
   have hA0 : A = none → z.c q = 0 := fun e => by
    rcases Nat.eq_zero_or_pos (z.c q) with h0 | h0
    ·exact h0
    ·rw [hA h0] at e; cases e
   have hus1 : ∀ u ∈ us.take (l.length * 6), u.oneCell' = true := fun u hu => by
    obtain ⟨r, hr, rfl⟩ := List.getElem_of_mem hu
    have hr' := hr
    rw [List.length_take] at hr'
    refine (h (r / 6) (r % 6) ((eCd (l.getD (r / 6) default))[r % 6]'(by rw [he]; omega)) _ (by omega) (List.getElem?_eq_getElem (by rw [he]; omega)) ?_).one
    rw [show r / 6 * 6 + r % 6 = r by omega, List.getElem_take]
    exact List.getElem?_eq_getElem (by omega)
   have key : Calls Tryz.prog 105 #[.slice A l.length (z.c q), .int .i64 i, .slice (some ⟨z.b p, 0, none⟩) 1 (z.c p)] w (InsSays (z.b q) l.length (z.c q) i us cs w) := by
    by_cases hin1 : i = l.length
    ·subst hin1
     exact rawInsEnd A l.length (z.c q) (z.b q) (z.b p) (z.c p) us cs w hn1 hc hl1 (fun h0 => ⟨hA h0, hh h0⟩) hA0 (by omega) ok f hCells hone (by omega)
    ·have hc0 : 0 < z.c q := by omega
     obtain rfl := hA hc0
     by_cases hroom : l.length + 1 ≤ z.c q
     ·exact rawInsIn (z.b q) l.length (z.c q) i (z.b p) (z.c p) us cs vus w (by omega) hroom hc (fun e => hpq (hin.2.2 p q _ _ hp hq hcp0 hc0 e)) hl1 (hh hc0) hhp0 hcsl hcsg hus1 hone
     ·exact rawInsGrow (z.b q) l.length (z.c q) i (z.b p) (z.c p) us cs vus w (by omega) hn1 (by omega) (by omega) hl1 (hh hc0) hhp0 hcsl hcsg hus1 hone
   refine key.mono ?_
   rintro e w' ⟨A', c', g, us', rfl, hI⟩
   have hr := hI.room
   have hrow := hI.row
   have hlk : ∀ (i' : Nat) (ob : Ob), look [(c, hL 82 6 eCd (l.take i ++ x :: l.drop i))] i' = some ob → c = i' ∧ ob = hL 82 6 eCd (l.take i ++ x :: l.drop i) := fun i' ob hh' => look_1 hh'
   have hkin : Kin w ok w' (okB X (z.set c g c') [(c, hL 82 6 eCd (l.take i ++ x :: l.drop i))] w') := fun b hb => by
    rw [← hO] at hb
    have hgb : g ≠ b := by
     rcases hI.where_ with hw | ⟨hc0, rfl⟩
     ·have := hb.1; omega
     ·exact hb.2.2 q _ hq hc0
    refine ⟨⟨Nat.lt_of_lt_of_le hb.1 hI.grown.size, hb.2.1, fun i' ob hi' hp' => ?_⟩, hI.grown.block b hb.1 ?_⟩
    ·obtain ⟨rfl, rfl⟩ := hlk i' ob hi'
     rw [Cz.set_b]; exact hgb
    ·split
     ·rename_i hc0
      intro e'
      injection e' with e'
      exact hb.2.2 q _ hq hc0 e'.symm
     ·intro e'; cases e'
   refine ⟨_, z.set c g c', rfl, ?_, ⟨fun i' ob hi' => ?_, fun i' ob hi' hp' => ?_, fun i' j' ob ob' hi' hj' _ _ _ => ?_⟩, ⟨hI.grown.os, hI.grown.tape, hI.grown.output, hI.grown.size, fun b hb hnf => hI.grown.block b hb ?_⟩, fun i' ob hi' hp' => ?_, fun i' hi' => z.set_ne g c' (fun e => by subst e; simp only [List.mem_cons, List.not_mem_nil, or_false] at hi'; rcases hi' with h | h <;> contradiction)⟩
   ·rw [hlen]
    exact VR.own_mk hr hI.cap (fun _ => hI.at_.1)
   ·obtain ⟨rfl, rfl⟩ := hlk i' ob hi'
    refine .arr (us := us') (fun _ => by rw [Cz.set_b]; exact hI.at_.2) (by rw [Cz.set_c]; exact hI.len) (by rw [Cz.set_c, hlen]; exact hr) (by rw [Cz.set_c]; exact hI.cap) (fun m _ => he _) (fun m j d u hm hd hu => ?_)
    rw [hlen] at hm
    have hj : j < 6 := by rw [← he ((l.take i ++ x :: l.drop i).getD m default)]; exact (List.getElem?_eq_some_iff.1 hd).1
    refine Rep.mov (w := w) (ok := ok) ?_ hkin
    have hu2 : (us'.take ((l.length + 1) * 6))[m * 6 + j]? = some u := by rw [List.getElem?_take, if_pos (by omega)]; exact hu
    rw [hrow] at hu2
    have ht : (us.take (i * 6)).length = i * 6 := by rw [List.length_take]; omega
    rw [ins_getD hi] at hd
    by_cases h1 : m < i
    ·rw [if_pos h1] at hd
     rw [List.append_assoc, List.getElem?_append_left (by omega), List.getElem?_take, if_pos (by omega)] at hu2
     exact h m j d u (by omega) hd hu2
    ·rw [if_neg h1] at hd
     by_cases h2 : m = i
     ·subst h2
      rw [if_pos rfl] at hd
      rw [List.append_assoc, List.getElem?_append_right (by omega), ht, List.getElem?_append_left (by omega), show m * 6 + j - m * 6 = j by omega] at hu2
      rw [← hf] at hd
      exact hp1 0 j d u (by omega) hd (by rw [Nat.zero_mul, Nat.zero_add]; exact hcsg j u hu2)
     ·rw [if_neg h2] at hd
      rw [List.getElem?_append_right (by rw [List.length_append]; omega), List.length_append, ht, hcsl, List.getElem?_drop, List.getElem?_take] at hu2
      rw [show i * 6 + (m * 6 + j - (i * 6 + 6)) = (m - 1) * 6 + j by omega] at hu2
      split at hu2
      ·exact h (m - 1) j d u (by omega) hd hu2
      ·cases hu2
   ·obtain ⟨rfl, rfl⟩ := hlk i' ob hi'
    rw [Cz.set_b]
    have hgw := (Array.getElem?_eq_some_iff.1 hI.at_.2).1
    refine ⟨hgw, ?_⟩
    rcases hI.where_ with hw | ⟨hc0, rfl⟩
    ·intro hx; have := hX _ hx; omega
    ·exact (hin.2.1 _ _ hq hc0).2
   ·exact (hlk i' ob hi').1.symm.trans (hlk j' ob' hj').1
   ·split
    ·rename_i hc0
     intro e'
     injection e' with e'
     exact hnf ⟨q, _, hq, hc0, e'.symm⟩
    ·intro e'; cases e'
   ·obtain ⟨rfl, rfl⟩ := hlk i' ob hi'
    rw [Cz.set_b]
    rcases hI.where_ with hw | ⟨hc0, rfl⟩
    ·exact .inr hw
    ·exact .inl ⟨_, _, hq, hc0, rfl⟩
end Go.Proofs.YtjbhiglaginpeaaGreat
namespace Go.Proofs.YtjbhiglaginpeaaGreat
def rtStep (p : Nat) (now : Int) (done : List Int) (R : List Rt) (k : Pk) : List Rt := if done.getLast? = some k.num ∧ k.time < now then R.set p (rtUpd (R.getD p default) (now - k.time)) else R
def rtLoop (p : Nat) (now : Int) (done : List Int) (R : List Rt) (l : List Pk) : List Rt := l.foldl (rtStep p now done) R
theorem rt_hit {p : Nat} {now : Int} {done : List Int} {R : List Rt} {k : Pk} (h : 0 < done.length) (hk : k.num = done.getD (done.length - 1) default) (ht : k.time < now) : rtStep p now done R k = R.set p (rtUpd (R.getD p default) (now - k.time)) := by
 unfold rtStep; rw [if_pos]; exact ⟨by rw [last_getD h, hk], ht⟩
theorem rt_miss {p : Nat} {now : Int} {done : List Int} {R : List Rt} {k : Pk} (h : done.length = 0 ∨ (0 < done.length ∧ k.num ≠ done.getD (done.length - 1) default) ∨ ¬ k.time < now) : rtStep p now done R k = R := by
 unfold rtStep; rw [if_neg]
 rintro ⟨h1, h2⟩
 rcases h with h | ⟨h, h3⟩ | h
 ·rw [List.length_eq_zero_iff.1 h] at h1; simp at h1
 ·rw [last_getD h] at h1; injection h1 with h1; exact h3 h1.symm
 ·exact h h2
theorem rtLoop_snoc {p : Nat} {now : Int} {done : List Int} {R : List Rt} {l : List Pk} {i : Nat} (h : i < l.length) : rtLoop p now done R (l.take (i + 1)) = rtStep p now done (rtLoop p now done R (l.take i)) (l.getD i default) := by
 have : l.take (i + 1) = l.take i ++ [l.getD i default] := by
  rw [List.take_add_one, List.getD_eq_getElem?_getD, List.getElem?_eq_getElem h]; rfl
 rw [this]; unfold rtLoop; rw [List.foldl_append]; rfl
theorem rtLoop_len {p : Nat} {now : Int} {done : List Int} : ∀ {l : List Pk} {R : List Rt}, (rtLoop p now done R l).length = R.length
 | [], _ => rfl
 | k :: t, R => by
   show (rtLoop p now done (rtStep p now done R k) t).length = R.length
   rw [rtLoop_len]
   unfold rtStep
   split
   ·exact List.length_set
   ·rfl
theorem rtLoop_out {p : Nat} {now : Int} {done : List Int} : ∀ {l : List Pk} {R : List Rt}, (∀ k ∈ l, done.getLast? ≠ some k.num) → rtLoop p now done R l = R
 | [], _, _ => rfl
 | k :: t, R, h => by
   have h1 : rtStep p now done R k = R := by unfold rtStep; rw [if_neg]; exact fun hh => h k List.mem_cons_self hh.1
   show rtLoop p now done (rtStep p now done R k) t = R
   rw [h1]
   exact rtLoop_out (fun k' hk' => h k' (List.mem_cons_of_mem _ hk'))
theorem nums_at {l : List Pk} (h : (l.map Pk.num).Nodup) {i j : Nat} (hi : i < j) (hj : j < l.length) : (l.getD i default).num ≠ (l.getD j default).num := by
 have := List.pairwise_iff_getElem.1 h i j (by simp; omega) (by simpa using hj) hi
 rw [List.getElem_map, List.getElem_map] at this
 rw [List.getD_eq_getElem?_getD, List.getD_eq_getElem?_getD, List.getElem?_eq_getElem hj, List.getElem?_eq_getElem (by omega)]
 exact this
theorem rtLoop_pre {p : Nat} {now : Int} {done : List Int} {R : List Rt} {l : List Pk} (h : (l.map Pk.num).Nodup) {i : Nat} (hi : i < l.length) (hd : done.getLast? = some (l.getD i default).num) : rtLoop p now done R (l.take i) = R := by
 refine rtLoop_out fun k hk => ?_
 obtain ⟨j, hj, rfl⟩ := List.getElem_of_mem hk
 rw [List.length_take] at hj
 rw [List.getElem_take, hd]
 have := nums_at h (i := j) (j := i) (by omega) hi
 rw [List.getD_eq_getElem?_getD (i := j), List.getElem?_eq_getElem (by omega)] at this
 intro e
 injection e with e
 exact this e.symm
theorem rtLoop_eq {W : Wd} {p : Nat} {done : List Int} (h : ((W.ls p).flight.map Pk.num).Nodup) (hd : ∀ n ∈ done, ∃ t, timeOf (W.ls p).flight n = some t ∧ 0 ≤ t ∧ t ≤ 999) : rtLoop p W.now done W.rtts (W.ls p).flight = ackRt W p done := by
 unfold ackRt
 cases hl : done.getLast? with
 | none =>
   refine rtLoop_out fun k _ => ?_
   rw [hl]; exact fun e => by cases e
 | some n =>
   obtain ⟨t, ht, _⟩ := hd n (List.mem_of_getLast? hl)
   simp only [ht]
   unfold timeOf at ht
   obtain ⟨k, hk, rfl⟩ := Option.map_eq_some_iff.1 ht
   obtain ⟨hn, xs, bs, hfl, has⟩ := List.find?_eq_some_iff_append.1 hk
   have hn' : k.num = n := by simpa using hn
   rw [hfl, List.map_append, List.map_cons, List.nodup_append] at h
   obtain ⟨_, h2, _⟩ := h
   rw [hfl]
   unfold rtLoop
   rw [List.foldl_append, List.foldl_cons]
   have e1 : xs.foldl (rtStep p W.now done) W.rtts = W.rtts := rtLoop_out fun a ha => by
    have := has a ha
    rw [hl]
    intro e
    injection e with e
    simp [e] at this
   rw [e1]
   have e2 : ∀ R, bs.foldl (rtStep p W.now done) R = R := fun R => rtLoop_out fun b hb => by
    rw [hl]
    intro e
    injection e with e
    have := (List.nodup_cons.1 h2).1
    exact this (by rw [hn', e]; exact List.mem_map_of_mem hb)
   rw [e2]
   unfold rtStep
   have hrt : W.rtts.getD p default = W.rt p := rfl
   by_cases hlt : k.time < W.now
   ·rw [if_pos ⟨by rw [hl, hn'], hlt⟩, if_pos hlt, hrt]
   ·rw [if_neg (fun e => hlt e.2), if_neg hlt]
end Go.Proofs.YtjbhiglaginpeaaGreat
namespace Go.Proofs.YtjbhiglaginpeaaGreat
open Go.ChangeShapes Go.WideShapes Go.ChangeAt Go.RowKit
theorem own : ownKnob Tryz.prog.godebug = none := by kernel_rfl
theorem laidOut : laidOutB Tryz.prog = true := by kernel_rfl
section
variable {H : Type} {enc : TypeId × Value → H} {P : Program} {w : World} {base : Nat} {spare : Nat → Bool} {held : Bool}
theorem rd_of {w : World} {a : Addr} {n : Nat} {xs : List Value} (hl : xs.length = n) (hc : ∀ j u, xs[j]? = some u → w.cell? (a.add j) = some u) : Rd w w.heap.size 1 (some a) n xs := by
 refine ⟨by omega, fun hn => ?_⟩
 obtain ⟨b, o, spot⟩ := a
 have h0 : w.cell? ⟨b, o, spot⟩ = some (xs[0]'(by omega)) := by simpa [Addr.add] using hc 0 _ (List.getElem?_eq_getElem (by omega))
 have hspot : spot = none := by simpa using World.cell?_spot h0
 subst hspot
 exact ⟨b, o, rfl, World.block_lt_of_cell? w ⟨b, o, none⟩ h0, fun j u hu => by have := hc j u hu; rwa [add_lit] at this⟩
theorem open_Byts {t e : TypeId} {a : Option Addr} {len cap : Nat} {d : DataW H} {p : List MemPlace} (ht : P.underlying t = some (.slice e)) (he : P.underlying e = some (.int .u8)) (hc : P.cellsOf e = 1)
 (h : DataW.Trod enc P w 0 (fun _ => true) true t (.slice a len cap) d p) : ∃ bs, Byts w w.heap.size a len cap bs := by
 obtain ⟨fuel, hf⟩ := h
 rcases open_ints ht he hc hf with ⟨hcs, _⟩ | ⟨x, l, c, zs, hcs, _, hl, hm, hz, _, hcell, hwz⟩
 ·simp [Value.cells] at hcs
  obtain ⟨rfl, rfl, rfl⟩ := hcs
  exact ⟨[], Rd.none_, by omega, by omega⟩
 ·simp [Value.cells] at hcs
  obtain ⟨rfl, rfl, rfl⟩ := hcs
  simp only [if_true] at hz
  have hb : ∀ n ∈ zs, 0 ≤ n ∧ n ≤ 255 := by
   intro n hn
   have := hwz n hn
   simp [Lit.wf, IntKind.min, IntKind.max, IntKind.signed, IntKind.bits] at this
   exact this
  refine ⟨(zs.take len).map fun n => UInt8.ofNat n.toNat, rd_of (by simp; omega) (fun j u hu => ?_), hl, hm⟩
  rw [List.map_map, List.getElem?_map] at hu
  have hj : j < len := by
   rcases Nat.lt_or_ge j len with h | h
   ·exact h
   ·rw [List.getElem?_eq_none (by simp; omega)] at hu; cases hu
  rw [List.getElem?_take, if_pos hj, List.getElem?_eq_getElem (by omega)] at hu
  simp only [Option.map_some, Option.some.injEq, Function.comp] at hu
  rw [hcell j (by omega), ← hu]
  have := hb (zs[j]'(by omega)) (List.getElem_mem _)
  have e1 : zs.getD j 0 = zs[j]'(by omega) := by simp [List.getD_eq_getElem?_getD, List.getElem?_eq_getElem (show j < zs.length by omega)]
  rw [e1]
  simp only [Option.some.injEq, Value.int.injEq, true_and]
  have h2 : (UInt8.ofNat (zs[j]'(by omega)).toNat).toNat = (zs[j]'(by omega)).toNat := by simp; omega
  rw [h2]
  omega
end
theorem open_nil {H : Type} {enc : TypeId × Value → H} {P : Program} {w : World} {t e : TypeId} {a : Option Addr} {len cap : Nat} {d : DataW H} {p : List MemPlace} (ht : P.underlying t = some (.slice e)) (he : P.underlying e = some (.int .u8)) (hc : P.cellsOf e = 1)
 (h : DataW.Trod enc P w 0 (fun _ => true) true t (.slice a len cap) d p) : a = none → cap = 0 := by
 obtain ⟨fuel, hf⟩ := h
 rcases open_ints ht he hc hf with ⟨hcs, _⟩ | ⟨x, l, c, zs, hcs, _⟩
 ·simp [Value.cells] at hcs
  exact fun _ => hcs.2.2
 ·simp [Value.cells] at hcs
  intro h
  rw [hcs.1] at h
  cases h
theorem Byts.rep {w : World} {B n c : Nat} {A : Option Addr} {bs : List UInt8} (h : Byts w B A n c bs) (h0 : A = none → c = 0) : Rep w (fun b => b < B) (.slice A n c) (dL 1 eBy bs) := by
 have hl := h.len
 obtain ⟨⟨_, hr⟩, hn, hc⟩ := h
 obtain ⟨b, o, hb⟩ : ∃ b o, 0 < n → (A = some ⟨b, o, none⟩ ∧ b < B) ∧ ∀ (j : Nat) (u : Value), (bs.map fun b => Value.int .u8 (b.toNat : Int))[j]? = some u → w.cell? ⟨b, o + j, none⟩ = some u := by
  by_cases hp : 0 < n
  ·obtain ⟨b, o, h1, h2, h3⟩ := hr hp
   exact ⟨b, o, fun _ => ⟨⟨h1, h2⟩, h3⟩⟩
  ·exact ⟨0, 0, fun h => absurd h hp⟩
 have e : dL 1 eBy bs = .sl 1 n (fun j => eBy (bs.getD j default)) := by rw [← hl]; rfl
 rw [e]
 refine .sl (fun i _ => .int .u8 ((bs.getD i default).toNat : Int)) b o hn hc h0 (fun hp => (hb hp).1) (fun i hi => rfl) (fun i j hi hj => ?_) (fun i j d hi hd => ?_)
 ·obtain rfl : j = 0 := by omega
  rw [Nat.mul_one, Nat.add_zero]
  refine (hb (by omega)).2 i _ ?_
  rw [List.getElem?_map, List.getElem?_eq_getElem (by omega), List.getD_eq_getElem?_getD, List.getElem?_eq_getElem (by omega)]
  rfl
 ·match j, hd with
  | 0, hd =>
    simp only [eBy, List.getElem?_cons_zero, Option.some.injEq] at hd
    subst hd
    exact .sc rfl
theorem FnE.law {P : Program} {f : FuncId} {bs : List UInt8} (h : FnE P f [] [.d (dL 1 eBy bs)] [] (fun (_ : Unit) _ => True) (fun _ _ => aB true) (fun _ _ => [])) {w : World} {A : Option Addr} {n c : Nat} (hb : Byts w w.heap.size A n c bs) (h0 : A = none → c = 0) :
 Calls P f #[.slice A n c] w fun e w' => e = .returned (.bool true) ∧ Below w.heap.size w w' := by
 refine (h.2 ⟨fun _ => 0, fun _ => 0⟩ w (fun _ => False) [.slice A n c] (fun b hb => hb.elim) ⟨fun i ob hi => (by cases hi), fun i ob hi => (by cases hi), fun i j ob ob' hi => (by cases hi)⟩ ⟨rfl, fun j y u hy hu => ?_⟩).mono ?_
 ·match j, hy, hu with
  | 0, hy, hu =>
    simp only [List.getElem?_cons_zero, Option.some.injEq] at hy hu
    subst hy hu
    exact .d ((hb.rep h0).mov fun b hb => ⟨⟨hb, fun h => h, fun i ob hi => by cases hi⟩, rfl⟩)
 ·rintro e w' ⟨_, q, _, u, z', rfl, h1, h2, h3, h4, h5⟩
  refine ⟨?_, ⟨h3.os, h3.tape, h3.output, h3.size, fun b hb => h3.block b hb (fun ⟨i, ob, hi, _⟩ => by cases hi)⟩⟩
  cases h1 with
  | d h => cases h with
    | sc h => rfl
end Go.Proofs.YtjbhiglaginpeaaGreat
namespace Go.Proofs.YtjbhiglaginpeaaGreat
def headChars : List Char := [Char.ofNat 104, Char.ofNat 97, Char.ofNat 114, Char.ofNat 110, Char.ofNat 101, Char.ofNat 115, Char.ofNat 115, Char.ofNat 32, Char.ofNat 100, Char.ofNat 53, Char.ofNat 55, Char.ofNat 52, Char.ofNat 50, Char.ofNat 98, Char.ofNat 98, Char.ofNat 52, Char.ofNat 57, Char.ofNat 55, Char.ofNat 52, Char.ofNat 57, Char.ofNat 98, Char.ofNat 51, Char.ofNat 97, Char.ofNat 50, Char.ofNat 102, Char.ofNat 99, Char.ofNat 53, Char.ofNat 56, Char.ofNat 48, Char.ofNat 50, Char.ofNat 54, Char.ofNat 100, Char.ofNat 57, Char.ofNat 101, Char.ofNat 102, Char.ofNat 51, Char.ofNat 49, Char.ofNat 55, Char.ofNat 100, Char.ofNat 97, Char.ofNat 55, Char.ofNat 54, Char.ofNat 97, Char.ofNat 56, Char.ofNat 55, Char.ofNat 52, Char.ofNat 102, Char.ofNat 101, Char.ofNat 51, Char.ofNat 99, Char.ofNat 49, Char.ofNat 97, Char.ofNat 99, Char.ofNat 97, Char.ofNat 53, Char.ofNat 50, Char.ofNat 55, Char.ofNat 101, Char.ofNat 97, Char.ofNat 102, Char.ofNat 49, Char.ofNat 51, Char.ofNat 49, Char.ofNat 54, Char.ofNat 54, Char.ofNat 55, Char.ofNat 52, Char.ofNat 52, Char.ofNat 52, Char.ofNat 55, Char.ofNat 102, Char.ofNat 100, Char.ofNat 32, Char.ofNat 99, Char.ofNat 117, Char.ofNat 116, Char.ofNat 32, Char.ofNat 97, Char.ofNat 116, Char.ofNat 32, Char.ofNat 108, Char.ofNat 111, Char.ofNat 111, Char.ofNat 112, Char.ofNat 46, Char.ofNat 101, Char.ofNat 120, Char.ofNat 97, Char.ofNat 109, Char.ofNat 112, Char.ofNat 108, Char.ofNat 101, Char.ofNat 47, Char.ofNat 109, Char.ofNat 117, Char.ofNat 108, Char.ofNat 116, Char.ofNat 105, Char.ofNat 112, Char.ofNat 97, Char.ofNat 116, Char.ofNat 104, Char.ofNat 116, Char.ofNat 114, Char.ofNat 97, Char.ofNat 110, Char.ofNat 115, Char.ofNat 112, Char.ofNat 111, Char.ofNat 114, Char.ofNat 116, Char.ofNat 47, Char.ofNat 108, Char.ofNat 97, Char.ofNat 119, Char.ofNat 115, Char.ofNat 46, Char.ofNat 70, Char.ofNat 110, Char.ofNat 87, Char.ofNat 111, Char.ofNat 114, Char.ofNat 108, Char.ofNat 100, Char.ofNat 76, Char.ofNat 105, Char.ofNat 109, Char.ofNat 105, Char.ofNat 116, Char.ofNat 115, Char.ofNat 32, Char.ofNat 108, Char.ofNat 111, Char.ofNat 111, Char.ofNat 112, Char.ofNat 46, Char.ofNat 101, Char.ofNat 120, Char.ofNat 97, Char.ofNat 109, Char.ofNat 112, Char.ofNat 108, Char.ofNat 101, Char.ofNat 47, Char.ofNat 109, Char.ofNat 117, Char.ofNat 108, Char.ofNat 116, Char.ofNat 105, Char.ofNat 112, Char.ofNat 97, Char.ofNat 116, Char.ofNat 104, Char.ofNat 116, Char.ofNat 114, Char.ofNat 97, Char.ofNat 110, Char.ofNat 115, Char.ofNat 112, Char.ofNat 111, Char.ofNat 114, Char.ofNat 116, Char.ofNat 47, Char.ofNat 108, Char.ofNat 97, Char.ofNat 119, Char.ofNat 115, Char.ofNat 46, Char.ofNat 70, Char.ofNat 110, Char.ofNat 87, Char.ofNat 111, Char.ofNat 114, Char.ofNat 108, Char.ofNat 100, Char.ofNat 77, Char.ofNat 97, Char.ofNat 110, Char.ofNat 121, Char.ofNat 32, Char.ofNat 108, Char.ofNat 111, Char.ofNat 111, Char.ofNat 112, Char.ofNat 46, Char.ofNat 101, Char.ofNat 120, Char.ofNat 97, Char.ofNat 109, Char.ofNat 112, Char.ofNat 108, Char.ofNat 101, Char.ofNat 47, Char.ofNat 109, Char.ofNat 117, Char.ofNat 108, Char.ofNat 116, Char.ofNat 105, Char.ofNat 112, Char.ofNat 97, Char.ofNat 116, Char.ofNat 104, Char.ofNat 116, Char.ofNat 114, Char.ofNat 97, Char.ofNat 110, Char.ofNat 115, Char.ofNat 112, Char.ofNat 111, Char.ofNat 114, Char.ofNat 116, Char.ofNat 47, Char.ofNat 108, Char.ofNat 97, Char.ofNat 119, Char.ofNat 115, Char.ofNat 46, Char.ofNat 70, Char.ofNat 110, Char.ofNat 87, Char.ofNat 111, Char.ofNat 114, Char.ofNat 108, Char.ofNat 100, Char.ofNat 69, Char.ofNat 110, Char.ofNat 100, Char.ofNat 32, Char.ofNat 108, Char.ofNat 111, Char.ofNat 111, Char.ofNat 112, Char.ofNat 46, Char.ofNat 101, Char.ofNat 120, Char.ofNat 97, Char.ofNat 109, Char.ofNat 112, Char.ofNat 108, Char.ofNat 101, Char.ofNat 47, Char.ofNat 109, Char.ofNat 117, Char.ofNat 108, Char.ofNat 116, Char.ofNat 105, Char.ofNat 112, Char.ofNat 97, Char.ofNat 116, Char.ofNat 104, Char.ofNat 116, Char.ofNat 114, Char.ofNat 97, Char.ofNat 110, Char.ofNat 115, Char.ofNat 112, Char.ofNat 111, Char.ofNat 114, Char.ofNat 116, Char.ofNat 47, Char.ofNat 108, Char.ofNat 97, Char.ofNat 119, Char.ofNat 115, Char.ofNat 46, Char.ofNat 70, Char.ofNat 110, Char.ofNat 87, Char.ofNat 111, Char.ofNat 114, Char.ofNat 108, Char.ofNat 100, Char.ofNat 80, Char.ofNat 114, Char.ofNat 101, Char.ofNat 102, Char.ofNat 105, Char.ofNat 120, Char.ofNat 32, Char.ofNat 108, Char.ofNat 111, Char.ofNat 111, Char.ofNat 112, Char.ofNat 46, Char.ofNat 101, Char.ofNat 120, Char.ofNat 97, Char.ofNat 109, Char.ofNat 112, Char.ofNat 108, Char.ofNat 101, Char.ofNat 47, Char.ofNat 109, Char.ofNat 117, Char.ofNat 108, Char.ofNat 116, Char.ofNat 105, Char.ofNat 112, Char.ofNat 97, Char.ofNat 116, Char.ofNat 104, Char.ofNat 116, Char.ofNat 114, Char.ofNat 97, Char.ofNat 110, Char.ofNat 115, Char.ofNat 112, Char.ofNat 111, Char.ofNat 114, Char.ofNat 116, Char.ofNat 47, Char.ofNat 108, Char.ofNat 97, Char.ofNat 119, Char.ofNat 115, Char.ofNat 46, Char.ofNat 70, Char.ofNat 110, Char.ofNat 87, Char.ofNat 111, Char.ofNat 114, Char.ofNat 108, Char.ofNat 100, Char.ofNat 87, Char.ofNat 97, Char.ofNat 105, Char.ofNat 116, Char.ofNat 105, Char.ofNat 110, Char.ofNat 103, Char.ofNat 32, Char.ofNat 108, Char.ofNat 111, Char.ofNat 111, Char.ofNat 112, Char.ofNat 46, Char.ofNat 101, Char.ofNat 120, Char.ofNat 97, Char.ofNat 109, Char.ofNat 112, Char.ofNat 108, Char.ofNat 101, Char.ofNat 47, Char.ofNat 109, Char.ofNat 117, Char.ofNat 108, Char.ofNat 116, Char.ofNat 105, Char.ofNat 112, Char.ofNat 97, Char.ofNat 116, Char.ofNat 104, Char.ofNat 116, Char.ofNat 114, Char.ofNat 97, Char.ofNat 110, Char.ofNat 115, Char.ofNat 112, Char.ofNat 111, Char.ofNat 114, Char.ofNat 116, Char.ofNat 47, Char.ofNat 108, Char.ofNat 97, Char.ofNat 119, Char.ofNat 115, Char.ofNat 46, Char.ofNat 70, Char.ofNat 110, Char.ofNat 87, Char.ofNat 111, Char.ofNat 114, Char.ofNat 108, Char.ofNat 100, Char.ofNat 65, Char.ofNat 99, Char.ofNat 107, Char.ofNat 101, Char.ofNat 100, Char.ofNat 32, Char.ofNat 108, Char.ofNat 111, Char.ofNat 111, Char.ofNat 112, Char.ofNat 46, Char.ofNat 101, Char.ofNat 120, Char.ofNat 97, Char.ofNat 109, Char.ofNat 112, Char.ofNat 108, Char.ofNat 101, Char.ofNat 47, Char.ofNat 109, Char.ofNat 117, Char.ofNat 108, Char.ofNat 116, Char.ofNat 105, Char.ofNat 112, Char.ofNat 97, Char.ofNat 116, Char.ofNat 104, Char.ofNat 116, Char.ofNat 114, Char.ofNat 97, Char.ofNat 110, Char.ofNat 115, Char.ofNat 112, Char.ofNat 111, Char.ofNat 114, Char.ofNat 116, Char.ofNat 47, Char.ofNat 108, Char.ofNat 97, Char.ofNat 119, Char.ofNat 115, Char.ofNat 46, Char.ofNat 70, Char.ofNat 110, Char.ofNat 87, Char.ofNat 111, Char.ofNat 114, Char.ofNat 108, Char.ofNat 100, Char.ofNat 80, Char.ofNat 108, Char.ofNat 97, Char.ofNat 121]
def headRest : List (List Char) := ([[Char.ofNat 99, Char.ofNat 117, Char.ofNat 116], [Char.ofNat 97, Char.ofNat 116], [Char.ofNat 108, Char.ofNat 111, Char.ofNat 111, Char.ofNat 112, Char.ofNat 46, Char.ofNat 101, Char.ofNat 120, Char.ofNat 97, Char.ofNat 109, Char.ofNat 112, Char.ofNat 108, Char.ofNat 101, Char.ofNat 47, Char.ofNat 109, Char.ofNat 117, Char.ofNat 108, Char.ofNat 116, Char.ofNat 105, Char.ofNat 112, Char.ofNat 97, Char.ofNat 116, Char.ofNat 104, Char.ofNat 116, Char.ofNat 114, Char.ofNat 97, Char.ofNat 110, Char.ofNat 115, Char.ofNat 112, Char.ofNat 111, Char.ofNat 114, Char.ofNat 116, Char.ofNat 47, Char.ofNat 108, Char.ofNat 97, Char.ofNat 119, Char.ofNat 115, Char.ofNat 46, Char.ofNat 70, Char.ofNat 110, Char.ofNat 87, Char.ofNat 111, Char.ofNat 114, Char.ofNat 108, Char.ofNat 100, Char.ofNat 76, Char.ofNat 105, Char.ofNat 109, Char.ofNat 105, Char.ofNat 116, Char.ofNat 115], [Char.ofNat 108, Char.ofNat 111, Char.ofNat 111, Char.ofNat 112, Char.ofNat 46, Char.ofNat 101, Char.ofNat 120, Char.ofNat 97, Char.ofNat 109, Char.ofNat 112, Char.ofNat 108, Char.ofNat 101, Char.ofNat 47, Char.ofNat 109, Char.ofNat 117, Char.ofNat 108, Char.ofNat 116, Char.ofNat 105, Char.ofNat 112, Char.ofNat 97, Char.ofNat 116, Char.ofNat 104, Char.ofNat 116, Char.ofNat 114, Char.ofNat 97, Char.ofNat 110, Char.ofNat 115, Char.ofNat 112, Char.ofNat 111, Char.ofNat 114, Char.ofNat 116, Char.ofNat 47, Char.ofNat 108, Char.ofNat 97, Char.ofNat 119, Char.ofNat 115, Char.ofNat 46, Char.ofNat 70, Char.ofNat 110, Char.ofNat 87, Char.ofNat 111, Char.ofNat 114, Char.ofNat 108, Char.ofNat 100, Char.ofNat 77, Char.ofNat 97, Char.ofNat 110, Char.ofNat 121], [Char.ofNat 108, Char.ofNat 111, Char.ofNat 111, Char.ofNat 112, Char.ofNat 46, Char.ofNat 101, Char.ofNat 120, Char.ofNat 97, Char.ofNat 109, Char.ofNat 112, Char.ofNat 108, Char.ofNat 101, Char.ofNat 47, Char.ofNat 109, Char.ofNat 117, Char.ofNat 108, Char.ofNat 116, Char.ofNat 105, Char.ofNat 112, Char.ofNat 97, Char.ofNat 116, Char.ofNat 104, Char.ofNat 116, Char.ofNat 114, Char.ofNat 97, Char.ofNat 110, Char.ofNat 115, Char.ofNat 112, Char.ofNat 111, Char.ofNat 114, Char.ofNat 116, Char.ofNat 47, Char.ofNat 108, Char.ofNat 97, Char.ofNat 119, Char.ofNat 115, Char.ofNat 46, Char.ofNat 70, Char.ofNat 110, Char.ofNat 87, Char.ofNat 111, Char.ofNat 114, Char.ofNat 108, Char.ofNat 100, Char.ofNat 69, Char.ofNat 110, Char.ofNat 100], [Char.ofNat 108, Char.ofNat 111, Char.ofNat 111, Char.ofNat 112, Char.ofNat 46, Char.ofNat 101, Char.ofNat 120, Char.ofNat 97, Char.ofNat 109, Char.ofNat 112, Char.ofNat 108, Char.ofNat 101, Char.ofNat 47, Char.ofNat 109, Char.ofNat 117, Char.ofNat 108, Char.ofNat 116, Char.ofNat 105, Char.ofNat 112, Char.ofNat 97, Char.ofNat 116, Char.ofNat 104, Char.ofNat 116, Char.ofNat 114, Char.ofNat 97, Char.ofNat 110, Char.ofNat 115, Char.ofNat 112, Char.ofNat 111, Char.ofNat 114, Char.ofNat 116, Char.ofNat 47, Char.ofNat 108, Char.ofNat 97, Char.ofNat 119, Char.ofNat 115, Char.ofNat 46, Char.ofNat 70, Char.ofNat 110, Char.ofNat 87, Char.ofNat 111, Char.ofNat 114, Char.ofNat 108, Char.ofNat 100, Char.ofNat 80, Char.ofNat 114, Char.ofNat 101, Char.ofNat 102, Char.ofNat 105, Char.ofNat 120], [Char.ofNat 108, Char.ofNat 111, Char.ofNat 111, Char.ofNat 112, Char.ofNat 46, Char.ofNat 101, Char.ofNat 120, Char.ofNat 97, Char.ofNat 109, Char.ofNat 112, Char.ofNat 108, Char.ofNat 101, Char.ofNat 47, Char.ofNat 109, Char.ofNat 117, Char.ofNat 108, Char.ofNat 116, Char.ofNat 105, Char.ofNat 112, Char.ofNat 97, Char.ofNat 116, Char.ofNat 104, Char.ofNat 116, Char.ofNat 114, Char.ofNat 97, Char.ofNat 110, Char.ofNat 115, Char.ofNat 112, Char.ofNat 111, Char.ofNat 114, Char.ofNat 116, Char.ofNat 47, Char.ofNat 108, Char.ofNat 97, Char.ofNat 119, Char.ofNat 115, Char.ofNat 46, Char.ofNat 70, Char.ofNat 110, Char.ofNat 87, Char.ofNat 111, Char.ofNat 114, Char.ofNat 108, Char.ofNat 100, Char.ofNat 87, Char.ofNat 97, Char.ofNat 105, Char.ofNat 116, Char.ofNat 105, Char.ofNat 110, Char.ofNat 103], [Char.ofNat 108, Char.ofNat 111, Char.ofNat 111, Char.ofNat 112, Char.ofNat 46, Char.ofNat 101, Char.ofNat 120, Char.ofNat 97, Char.ofNat 109, Char.ofNat 112, Char.ofNat 108, Char.ofNat 101, Char.ofNat 47, Char.ofNat 109, Char.ofNat 117, Char.ofNat 108, Char.ofNat 116, Char.ofNat 105, Char.ofNat 112, Char.ofNat 97, Char.ofNat 116, Char.ofNat 104, Char.ofNat 116, Char.ofNat 114, Char.ofNat 97, Char.ofNat 110, Char.ofNat 115, Char.ofNat 112, Char.ofNat 111, Char.ofNat 114, Char.ofNat 116, Char.ofNat 47, Char.ofNat 108, Char.ofNat 97, Char.ofNat 119, Char.ofNat 115, Char.ofNat 46, Char.ofNat 70, Char.ofNat 110, Char.ofNat 87, Char.ofNat 111, Char.ofNat 114, Char.ofNat 108, Char.ofNat 100, Char.ofNat 65, Char.ofNat 99, Char.ofNat 107, Char.ofNat 101, Char.ofNat 100], [Char.ofNat 108, Char.ofNat 111, Char.ofNat 111, Char.ofNat 112, Char.ofNat 46, Char.ofNat 101, Char.ofNat 120, Char.ofNat 97, Char.ofNat 109, Char.ofNat 112, Char.ofNat 108, Char.ofNat 101, Char.ofNat 47, Char.ofNat 109, Char.ofNat 117, Char.ofNat 108, Char.ofNat 116, Char.ofNat 105, Char.ofNat 112, Char.ofNat 97, Char.ofNat 116, Char.ofNat 104, Char.ofNat 116, Char.ofNat 114, Char.ofNat 97, Char.ofNat 110, Char.ofNat 115, Char.ofNat 112, Char.ofNat 111, Char.ofNat 114, Char.ofNat 116, Char.ofNat 47, Char.ofNat 108, Char.ofNat 97, Char.ofNat 119, Char.ofNat 115, Char.ofNat 46, Char.ofNat 70, Char.ofNat 110, Char.ofNat 87, Char.ofNat 111, Char.ofNat 114, Char.ofNat 108, Char.ofNat 100, Char.ofNat 80, Char.ofNat 108, Char.ofNat 97, Char.ofNat 121]] : List (List Char)).tail
theorem head_ofList : Tryz.prog.initOrder = String.ofList headChars := by kernel_rfl
theorem head_chars : Tryz.prog.initOrder.toList = headChars := by rw [head_ofList, String.toList_ofList]
theorem head_cut : behindMainWord (wordsSigns headChars) = "cut".toList :: headRest := by kernel_rfl
theorem strip_cut (rest : List (List Char)) : stripLifts liftWords ("cut".toList :: rest) = ([], "cut".toList :: rest) := by rfl
theorem make_cut {P : Program} {rest : List (List Char)} (h : behindMainWord (wordsSigns P.initOrder.toList) = "cut".toList :: rest) : P.make = some .cut := by
 unfold Program.make; rw [h]; rfl
theorem lifts_cut {P : Program} {rest : List (List Char)} (h : behindMainWord (wordsSigns P.initOrder.toList) = "cut".toList :: rest) : P.liftsFinal = false := by
 unfold Program.liftsFinal Program.headLifts; rw [h, strip_cut]; rfl
theorem open_cut {P : Program} {rest : List (List Char)} (h : behindMainWord (wordsSigns P.initOrder.toList) = "cut".toList :: rest) (h1 : P.laysLater = false) (h2 : P.bearsReflect = false) (h3 : P.doorFits [] = true) : P.mayEnter = true := by
 unfold Program.mayEnter; rw [h]; dsimp only; rw [strip_cut, h1, h2, h3]; rfl
theorem head_now : behindMainWord (wordsSigns Tryz.prog.initOrder.toList) = "cut".toList :: headRest := by rw [head_chars]; exact head_cut
theorem no_later : Tryz.prog.laysLater = false := by kernel_rfl
theorem no_reflect : Tryz.prog.bearsReflect = false := by kernel_rfl
theorem door_fits : Tryz.prog.doorFits [] = true := by kernel_rfl
theorem words_make : Tryz.prog.make = some .cut := make_cut head_now
theorem words_lifts : Tryz.prog.liftsFinal = false := lifts_cut head_now
theorem words_open : Tryz.prog.mayEnter = true := open_cut head_now no_later no_reflect door_fits
theorem and_both {a b : Bool} (ha : a = true) (hb : b = true) : (a && b) = true := by rw [ha, hb]; rfl
end Go.Proofs.YtjbhiglaginpeaaGreat
