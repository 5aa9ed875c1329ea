/- Parts of the proof, joined from several texts. No condition. -/
import Derived.Test.YtjbhiglaginpeaaGreatRows
import Derived.WalkKit
import Derived.WalkSpells
import Derived.WalkLawsBesides
import Derived.Deep.AppendLies
import Derived.Deep.Draws
import Derived.Lib.Hide
import Derived.Maps.AppendAt
import Derived.Deep.QuietTactic
import Derived.BigQuiet
import Derived.Laws.BytesArg
import Derived.ArgAppend
import Derived.Below
import Derived.KernelRfl
set_option maxRecDepth 100000
set_option maxHeartbeats 16000000
set_option linter.unusedVariables false
set_option linter.unusedSimpArgs false
namespace Go.Proofs.YtjbhiglaginpeaaGreat
open Go.RowKit
def S (l : List UInt8) : ByteArray := ⟨l.toArray⟩
theorem S_size (l : List UInt8) : (S l).size = l.length := by simp [S, ByteArray.size]
theorem S_append (a b : List UInt8) : S a ++ S b = S (a ++ b) := ByteArray.mk_append_mk a b
theorem S_toList (l : List UInt8) : (S l).toList = l := ByteArray.toList_mk l
theorem S_extract (l : List UInt8) (a b : Nat) : (S l).extract a b = S ((l.drop a).take (b - a)) := ByteArray.extract_mk l a b
theorem S_nil : (ByteArray.mk #[]) = S [] := rfl
theorem S_getU (l : List UInt8) (i : Nat) (h : i < (S l).size) : ((S l)[i]'h) = l.getD i 0 := by
 have h' : i < l.length := by rwa [S_size] at h
 have e : (S l)[i]'h = l[i] := rfl
 rw [e, List.getD_eq_getElem?_getD, List.getElem?_eq_getElem h']; rfl
theorem wrap64_u8 (b : UInt8) : wrap64 (b.toNat : Int) = b.toNat := by
 have := UInt8.toNat_lt b
 exact IntWalk.wrap64_in _ ⟨by omega, by omega⟩
attribute [go_sem] S_size S_append S_toList S_extract S_nil S_getU wrap64_u8
theorem add_lit (b o j : Nat) : (⟨b, o, none⟩ : Addr).add j = ⟨b, o + j, none⟩ := by unfold Addr.add; split <;> simp_all
def Rd (w : World) (B size : Nat) (A : Option Addr) (n : Nat) (xs : List Value) : Prop :=
 xs.length = n * size ∧ (0 < n → ∃ b o, A = some ⟨b, o, none⟩ ∧ b < B ∧ ∀ j u, xs[j]? = some u → w.cell? ⟨b, o + j, none⟩ = some u)
section
variable {w w' : World} {B B' size n : Nat} {A : Option Addr} {xs : List Value}
theorem Rd.none_ : Rd w B size A 0 [] := ⟨by simp, fun h => absurd h (by omega)⟩
theorem Rd.keep (h : Rd w B size A n xs) (hk : ∀ p : Addr, p.block < B → w'.cell? p = w.cell? p) : Rd w' B size A n xs :=
 ⟨h.1, fun hn => by
   obtain ⟨b, o, e, hb, hc⟩ := h.2 hn
   exact ⟨b, o, e, hb, fun j u hu => (hk _ hb).trans (hc j u hu)⟩⟩
theorem Rd.below (h : Rd w B size A n xs) (hb : Below B w w') : Rd w' B size A n xs := h.keep fun _ hp => hb.cell hp
theorem Rd.at_ {k : Nat} (h : Rd w B 1 A n xs) (hk : k < n) : ∃ b o u, A = some ⟨b, o, none⟩ ∧ b < B ∧ xs[k]? = some u ∧ w.cell? ⟨b, o + k, none⟩ = some u := by
 obtain ⟨b, o, e, hb, hc⟩ := h.2 (by omega)
 have hl : k < xs.length := by have := h.1; omega
 exact ⟨b, o, xs[k], e, hb, List.getElem?_eq_getElem hl, hc k _ (List.getElem?_eq_getElem hl)⟩
theorem Rd.of_own {base : Nat} {e : TypeId} {c : Nat} (h : w.ownsRow base e size (.slice A n c) n xs) : Rd w w.heap.size size A n xs := by
 refine ⟨h.1, fun hn => ?_⟩
 rcases h.2 with ⟨h0, h1⟩ | ⟨g, cap, cur, hv, _, hh, _⟩
 ·omega
 ·have hA : A = some ⟨g, 0, none⟩ := by injection hv
  subst hA
  have hlt : g < w.heap.size := by
   rcases Nat.lt_or_ge g w.heap.size with hlt | hge
   ·exact hlt
   ·rw [Array.getElem?_eq_none hge] at hh; cases hh
  refine ⟨g, 0, rfl, hlt, fun j u hu => ?_⟩
  have := h.cells (g := g) rfl j u hu
  rwa [add_lit] at this
end
def Strs (M : Nat) (w : World) (B : Nat) (A : Option Addr) (n : Nat) (ss : List (List UInt8)) : Prop :=
 Rd w B 1 A n (ss.map fun s => .string (S s)) ∧ n ≤ M ∧ ∀ s ∈ ss, s.length ≤ M
section
variable {w w' : World} {M B B' n : Nat} {A : Option Addr} {ss : List (List UInt8)}
theorem Strs.len (h : Strs M w B A n ss) : ss.length = n := by have := h.1.1; simpa using this
end
def strV (ss : List (List UInt8)) : List Value := ss.map fun s => .string (S s)
def Byts (w : World) (B : Nat) (A : Option Addr) (n c : Nat) (bs : List UInt8) : Prop :=
 Rd w B 1 A n (bs.map fun b => .int .u8 (b.toNat : Int)) ∧ n ≤ c ∧ c ≤ maxLen
theorem Byts.len {w : World} {B n c : Nat} {A : Option Addr} {bs : List UInt8} (h : Byts w B A n c bs) : bs.length = n := by have := h.1.1; simpa using this
theorem Strs.rd {w : World} {M B n : Nat} {A : Option Addr} {ss : List (List UInt8)} (h : Strs M w B A n ss) : Rd w B 1 A n (strV ss) := h.1
theorem ret_int {k : IntKind} {a b : Int} (h : a = b) : Ending.returned (.int k a) = .returned (.int k b) := by rw [h]
theorem ret_bool {a b : Bool} (h : a = b) : Ending.returned (.bool a) = .returned (.bool b) := by rw [h]
theorem below_drewN {B : Nat} {a w : World} (h : Below B a w) (n : Nat) : Below B a (w.drewN n) := ⟨h.os, h.tape, h.output, h.size, h.block⟩
def withinB (n lo hi : Int) : Bool := decide (lo ≤ n) && decide (n ≤ hi)
end Go.Proofs.YtjbhiglaginpeaaGreat
namespace Go.Proofs.YtjbhiglaginpeaaGreat
open Go.RowKit
inductive D where
 | sc (v : Value)
 | sl (k n : Nat) (f : Nat → List D)
def lone : Value → Bool
 | .bool _ | .int .. | .string _ | .pointer none => true
 | _ => false
theorem lone_cell {v : Value} (h : lone v = true) : v.oneCell' = true := by cases v <;> simp_all [lone, Value.oneCell']
inductive Rep (w : World) (ok : Nat → Prop) : Value → D → Prop
 | sc {v : Value} (h : lone v = true) : Rep w ok v (.sc v)
 | sl {A : Option Addr} {n c k : Nat} {f : Nat → List D} (us : Nat → Nat → Value) (b o : Nat) (hn : n ≤ c) (hc : c ≤ maxLen) (hA : A = none → c = 0)
    (hb : 0 < n → A = some ⟨b, o, none⟩ ∧ ok b) (hl : ∀ i, i < n → (f i).length = k)
    (hu : ∀ i j, i < n → j < k → w.cell? ⟨b, o + i * k + j, none⟩ = some (us i j))
    (hr : ∀ i j d, i < n → (f i)[j]? = some d → Rep w ok (us i j) d) : Rep w ok (.slice A n c) (.sl k n f)
def Kin (w : World) (ok : Nat → Prop) (w' : World) (ok' : Nat → Prop) : Prop := ∀ b, ok b → ok' b ∧ w'.heap[b]? = w.heap[b]?
theorem Kin.cell {w w' : World} {ok ok' : Nat → Prop} (h : Kin w ok w' ok') {b : Nat} (hb : ok b) (o : Nat) : w'.cell? ⟨b, o, none⟩ = w.cell? ⟨b, o, none⟩ := World.cell?_of_block (w := w) (h b hb).2
theorem Rep.mov {w w' : World} {ok ok' : Nat → Prop} {v : Value} {d : D} (h : Rep w ok v d) (hc : Kin w ok w' ok') : Rep w' ok' v d := by
 induction h with
 | sc h => exact .sc h
 | sl us b o hn hm hA hb hl hu _ ih =>
   exact .sl us b o hn hm hA (fun h => ⟨(hb h).1, (hc _ (hb h).2).1⟩) hl (fun i j hi hj => (hc.cell (hb (by omega)).2 _).trans (hu i j hi hj)) ih
theorem Rep.one {w : World} {ok : Nat → Prop} {v : Value} {d : D} (h : Rep w ok v d) : v.oneCell' = true := by
 cases h with
 | sc h => exact lone_cell h
 | sl => rfl
inductive AV where
 | un
 | d (x : D)
 | ptr (i o : Nat)
 | ep (i s k o : Nat)
 | dp (x : List D) (o : Nat)
 | own (i n : Nat)
 | emp
 | ag (xs : List AV)
 | tu (xs : List AV)
structure Cz where
 b : Nat → Nat
 c : Nat → Nat
inductive VR (z : Cz) (w : World) (ok : Nat → Prop) : AV → Value → Prop
 | un {u : Value} : VR z w ok .un u
 | d {x : D} {u : Value} (h : Rep w ok u x) : VR z w ok (.d x) u
 | ptr {i o : Nat} : VR z w ok (.ptr i o) (.pointer (some ⟨z.b i, o, none⟩))
 | ep {i s k o : Nat} : VR z w ok (.ep i s k o) (.pointer (some ⟨z.b i, k * s + o, none⟩))
 | dp {x : List D} {o : Nat} (b p : Nat) (us : Nat → Value) (hb : ok b) (hu : ∀ j, j < x.length → w.cell? ⟨b, p + j, none⟩ = some (us j)) (hr : ∀ j d, x[j]? = some d → Rep w ok (us j) d) : VR z w ok (.dp x o) (.pointer (some ⟨b, p + o, none⟩))
 | own {i n : Nat} {A : Option Addr} (hn : n ≤ z.c i) (hc : z.c i ≤ maxLen) (hA : 0 < z.c i → A = some ⟨z.b i, 0, none⟩) : VR z w ok (.own i n) (.slice A n (z.c i))
 | emp {A : Option Addr} : VR z w ok .emp (.slice A 0 0)
 | ag {xs : List AV} {us : List Value} (hl : us.length = xs.length) (h : ∀ (j : Nat) (x : AV) (u : Value), xs[j]? = some x → us[j]? = some u → VR z w ok x u) : VR z w ok (.ag xs) (.agg us.toArray)
 | tu {xs : List AV} {us : List Value} (hl : us.length = xs.length) (h : ∀ (j : Nat) (x : AV) (u : Value), xs[j]? = some x → us[j]? = some u → VR z w ok x u) : VR z w ok (.tu xs) (.tuple us.toArray)
mutual
def men (i : Nat) : AV → Bool
 | .ptr j _ => Nat.beq j i
 | .ep j _ _ _ => Nat.beq j i
 | .own j _ => Nat.beq j i
 | .ag xs => menL i xs
 | .tu xs => menL i xs
 | .un => false
 | .d _ => false
 | .dp _ _ => false
 | .emp => false
def menL (i : Nat) : List AV → Bool
 | [] => false
 | x :: r => men i x || menL i r
end
theorem menL_of {i : Nat} {x : AV} : ∀ {xs : List AV} {j : Nat}, xs[j]? = some x → men i x = true → menL i xs = true
 | [], _, h, _ => by simp at h
 | y :: r, 0, h, hm => by
   simp only [List.getElem?_cons_zero, Option.some.injEq] at h
   subst h
   simp [menL, hm]
 | y :: r, j + 1, h, hm => by
   simp only [List.getElem?_cons_succ] at h
   simp [menL, menL_of h hm]
theorem VR.mov {z z' : Cz} {w w' : World} {ok ok' : Nat → Prop} {x : AV} {u : Value} (h : VR z w ok x u) (hc : Kin w ok w' ok') : (∀ i, men i x = true → z'.b i = z.b i ∧ z'.c i = z.c i) → VR z' w' ok' x u := by
 induction h with
 | un => exact fun _ => .un
 | d h => exact fun _ => .d (h.mov hc)
 | @ptr i o => intro hz; rw [← (hz i (by simp [men])).1]; exact .ptr
 | @ep i s k o => intro hz; rw [← (hz i (by simp [men])).1]; exact .ep
 | dp b p us hb hu hr => exact fun _ => .dp b p us (hc b hb).1 (fun j hj => (hc.cell hb _).trans (hu j hj)) (fun j d hd => (hr j d hd).mov hc)
 | @own i n A hn hm hA =>
   intro hz
   obtain ⟨h1, h2⟩ := hz i (by simp [men])
   rw [← h2] at hn hm hA
   rw [← h1] at hA
   rw [← h2]
   exact .own hn hm hA
 | emp => exact fun _ => .emp
 | ag hl _ ih => exact fun hz => .ag hl (fun j x u hx hu => ih j x u hx hu (fun i hi => hz i (by rw [men]; exact menL_of hx hi)))
 | tu hl _ ih => exact fun hz => .tu hl (fun j x u hx hu => ih j x u hx hu (fun i hi => hz i (by rw [men]; exact menL_of hx hi)))
inductive Ob where
 | blk (xs : List AV)
 | arr (t k n : Nat) (f : Nat → List D)
def Ob.men (i : Nat) : Ob → Bool
 | .blk xs => menL i xs
 | .arr _ _ _ _ => false
structure NI where
 n : Nat
 ini : List Nat
structure St where
 nt : NI
 env : List (Nat × AV)
 hp : List (Nat × Ob)
def look {α : Type} : List (Nat × α) → Nat → Option α
 | [], _ => none
 | (t, x) :: r, s => match Nat.beq t s with
   | true => some x
   | false => look r s
theorem look_cons {α : Type} (t : Nat) (x : α) (r : List (Nat × α)) (s : Nat) : look ((t, x) :: r) s = if t = s then some x else look r s := by
 rw [look]
 by_cases h : t = s
 ·subst h; simp
 ·have : Nat.beq t s = false := by cases hb : Nat.beq t s <;> simp_all [Nat.beq_eq]
  rw [this, if_neg h]
def phys (z : Cz) (i : Nat) : Ob → Prop
 | .blk _ => True
 | .arr _ _ _ _ => 0 < z.c i
structure Ctx where
 w0 : World
 z0 : Cz
 X : Nat → Prop
 F : Nat → Prop
def okB (X : Nat → Prop) (z : Cz) (hp : List (Nat × Ob)) (w : World) (b : Nat) : Prop := b < w.heap.size ∧ ¬ X b ∧ ∀ i ob, look hp i = some ob → phys z i ob → z.b i ≠ b
inductive OR (z : Cz) (w : World) (ok : Nat → Prop) (i : Nat) : Ob → Prop
 | blk {xs : List AV} {us : List Value} {t : TypeId} (hh : w.heap[z.b i]? = some (.cells us.toArray t (0, 0))) (hl : xs.length ≤ us.length) (h : ∀ (j : Nat) (y : AV) (u : Value), xs[j]? = some y → us[j]? = some u → VR z w ok y u) (ht : 100000 ≤ i → t + 100000 = i ∧ us.length = xs.length) : OR z w ok i (.blk xs)
 | arr {t k n : Nat} {f : Nat → List D} {us : List Value} (hh : 0 < z.c i → w.heap[z.b i]? = some (.cells us.toArray t (0, 0))) (hl : us.length = z.c i * k) (hn : n ≤ z.c i) (hc : z.c i ≤ maxLen) (hf : ∀ m, m < n → (f m).length = k)
    (h : ∀ (m j : Nat) (d : D) (u : Value), m < n → (f m)[j]? = some d → us[m * k + j]? = some u → Rep w ok u d) : OR z w ok i (.arr t k n f)
theorem OR.mov {z z' : Cz} {w w' : World} {ok ok' : Nat → Prop} {i : Nat} {ob : Ob} (h : OR z w ok i ob) (hc : Kin w ok w' ok') (hz : ∀ j, ob.men j = true → z'.b j = z.b j ∧ z'.c j = z.c j) (hi : z'.b i = z.b i ∧ z'.c i = z.c i) (hb : phys z i ob → w'.heap[z.b i]? = w.heap[z.b i]?) : OR z' w' ok' i ob := by
 cases h with
 | blk hh hl h ht => exact .blk (by rw [hi.1, hb trivial]; exact hh) hl (fun j y u hy hu => (h j y u hy hu).mov hc (fun k hk => hz k (by rw [Ob.men]; exact menL_of hy hk))) ht
 | arr hh hl hn hm hf h => exact .arr (fun hc => by rw [hi.2] at hc; rw [hi.1, hb hc]; exact hh hc) (by rw [hi.2]; exact hl) (by rw [hi.2]; exact hn) (by rw [hi.2]; exact hm) hf (fun m j d u hm hd hu => (h m j d u hm hd hu).mov hc)
structure Frm (x : Ctx) (w : World) : Prop where
 os : w.os = x.w0.os
 tape : w.tape = x.w0.tape
 output : w.output = x.w0.output
 size : x.w0.heap.size ≤ w.heap.size
 block : ∀ b, b < x.w0.heap.size → ¬ x.F b → w.heap[b]? = x.w0.heap[b]?
structure Sim (x : Ctx) (z : Cz) (st : St) (a : Act) (w : World) : Prop where
 fr : Frm x w
 nt : a.tmps.size = st.nt.n
 zi : ∀ i, i ∈ st.nt.ini → z.b i = x.z0.b i ∧ z.c i = x.z0.c i
 df : a.defers = []
 env : ∀ t y, look st.env t = some y → VR z w (okB x.X z st.hp w) y (a.tmps.getD t undef)
 hp : ∀ i ob, look st.hp i = some ob → OR z w (okB x.X z st.hp w) i ob
 ph : ∀ i ob, look st.hp i = some ob → phys z i ob → z.b i < w.heap.size ∧ (x.F (z.b i) ∨ x.w0.heap.size ≤ z.b i) ∧ ¬ x.X (z.b i)
 inj : ∀ i j ob ob', look st.hp i = some ob → look st.hp j = some ob' → phys z i ob → phys z j ob' → z.b i = z.b j → i = j
 xo : ∀ b, x.X b → b < x.w0.heap.size ∧ ¬ x.F b
def SimE (x : Ctx) (st : St) (a : Act) (w : World) : Prop := ∃ z, Sim x z st a w
structure St.le (s s' : St) : Prop where
 nt : s.nt = s'.nt
 env : ∀ t y, look s.env t = some y → look s'.env t = some y
 hp : ∀ i ob, look s.hp i = some ob → look s'.hp i = some ob
theorem St.le.refl (s : St) : s.le s := ⟨rfl, fun _ _ h => h, fun _ _ h => h⟩
theorem St.le.trans {s s' s'' : St} (h : s.le s') (h' : s'.le s'') : s.le s'' := ⟨h.nt.trans h'.nt, fun t y e => h'.env t y (h.env t y e), fun i ob e => h'.hp i ob (h.hp i ob e)⟩
theorem Sim.weak {x : Ctx} {z : Cz} {s s' : St} {a : Act} {w : World} (hs : s.le s') (h : Sim x z s' a w) : Sim x z s a w := by
 have hk : Kin w (okB x.X z s'.hp w) w (okB x.X z s.hp w) := fun b hb => ⟨⟨hb.1, hb.2.1, fun i ob e => hb.2.2 i ob (hs.hp i ob e)⟩, rfl⟩
 exact ⟨h.fr, h.nt.trans (by rw [hs.nt]), (by rw [hs.nt]; exact h.zi), h.df, fun t y e => (h.env t y (hs.env t y e)).mov hk (fun _ _ => ⟨rfl, rfl⟩), fun i ob e => (h.hp i ob (hs.hp i ob e)).mov hk (fun _ _ => ⟨rfl, rfl⟩) ⟨rfl, rfl⟩ (fun _ => rfl),
  fun i ob e => h.ph i ob (hs.hp i ob e), fun i j ob ob' e e' => h.inj i j ob ob' (hs.hp i ob e) (hs.hp j ob' e'), h.xo⟩
theorem SimE.weak {x : Ctx} {s s' : St} {a : Act} {w : World} (hs : s.le s') (h : SimE x s' a w) : SimE x s a w := let ⟨z, h⟩ := h; ⟨z, h.weak hs⟩
def St.put (s : St) (d : Nat) (v : AV) : St := { s with env := (d, v) :: s.env }
theorem getD_put {a : Act} {d t : Nat} {u : Value} (hd : d < a.tmps.size) : (a.put (some d) u).tmps.getD t undef = if d = t then u else a.tmps.getD t undef := by
 unfold Act.put
 simp only [Array.getD_eq_getD_getElem?]
 by_cases h : d = t
 ·subst h
  rw [if_pos rfl, Array.getElem?_setIfInBounds_self_of_lt hd]
  rfl
 ·rw [if_neg h, Array.getElem?_setIfInBounds_ne h]
theorem Sim.put {x : Ctx} {z : Cz} {s : St} {a : Act} {w : World} (h : Sim x z s a w) {d : Nat} {v : AV} {u : Value} (hd : d < s.nt.n) (hv : VR z w (okB x.X z s.hp w) v u) : Sim x z (s.put d v) (a.put (some d) u) w := by
 have hd' : d < a.tmps.size := by rw [h.nt]; exact hd
 refine ⟨h.fr, by unfold Act.put St.put; simpa using h.nt, h.zi, h.df, fun t y e => ?_, h.hp, h.ph, h.inj, h.xo⟩
 rw [getD_put hd']
 unfold St.put at e
 rw [look_cons] at e
 by_cases ht : d = t
 ·rw [if_pos ht] at e ⊢
  injection e with e
  subst e
  exact hv
 ·rw [if_neg ht] at e ⊢
  exact h.env t y e
theorem Sim.grow {x : Ctx} {z : Cz} {s : St} {a : Act} {w w' : World} (h : Sim x z s a w) (hb : Below w.heap.size w w') : Sim x z s a w' := by
 have hk : Kin w (okB x.X z s.hp w) w' (okB x.X z s.hp w') := fun b hb' => ⟨⟨Nat.lt_of_lt_of_le hb'.1 hb.size, hb'.2.1, hb'.2.2⟩, hb.block b hb'.1⟩
 refine ⟨⟨hb.os.trans h.fr.os, hb.tape.trans h.fr.tape, hb.output.trans h.fr.output, Nat.le_trans h.fr.size hb.size, fun b h1 h2 => (hb.block b (Nat.lt_of_lt_of_le h1 h.fr.size)).trans (h.fr.block b h1 h2)⟩, h.nt, h.zi, h.df,
  fun t y e => (h.env t y e).mov hk (fun _ _ => ⟨rfl, rfl⟩), fun i ob e => (h.hp i ob e).mov hk (fun _ _ => ⟨rfl, rfl⟩) ⟨rfl, rfl⟩ (fun hp => hb.block _ (h.ph i ob e hp).1),
  fun i ob e hp => ⟨Nat.lt_of_lt_of_le (h.ph i ob e hp).1 hb.size, (h.ph i ob e hp).2⟩, h.inj, h.xo⟩
def St.free (s : St) (i : Nat) : Prop := i ∉ s.nt.ini ∧ (∀ t y, look s.env t = some y → men i y = false) ∧ (∀ j ob, look s.hp j = some ob → j ≠ i ∧ ob.men i = false)
def Cz.set (z : Cz) (i b c : Nat) : Cz := ⟨fun j => if j = i then b else z.b j, fun j => if j = i then c else z.c j⟩
theorem Cz.set_b (z : Cz) (i b c : Nat) : (z.set i b c).b i = b := if_pos rfl
theorem Cz.set_c (z : Cz) (i b c : Nat) : (z.set i b c).c i = c := if_pos rfl
theorem Cz.set_ne (z : Cz) {i j : Nat} (b c : Nat) (h : j ≠ i) : (z.set i b c).b j = z.b j ∧ (z.set i b c).c j = z.c j := ⟨if_neg h, if_neg h⟩
theorem zi_set {z z0 : Cz} {l : List Nat} {i g c : Nat} (hi : i ∉ l) (h : ∀ j, j ∈ l → z.b j = z0.b j ∧ z.c j = z0.c j) : ∀ j, j ∈ l → (z.set i g c).b j = z0.b j ∧ (z.set i g c).c j = z0.c j := fun j hj => by
 have hne : j ≠ i := fun e => by subst e; exact hi hj
 rw [(z.set_ne g c hne).1, (z.set_ne g c hne).2]
 exact h j hj
theorem phys_set (z : Cz) {i j : Nat} (b c : Nat) (h : j ≠ i) {ob : Ob} : phys (z.set i b c) j ob ↔ phys z j ob := by
 cases ob with
 | blk => exact Iff.rfl
 | arr => unfold phys; rw [(z.set_ne b c h).2]
theorem Sim.name {x : Ctx} {z : Cz} {s : St} {a : Act} {w w' : World} (h : Sim x z s a w) (hb : Below w.heap.size w w') {i g c : Nat} {ob : Ob} (hi : s.free i) (hg : phys (z.set i g c) i ob → w.heap.size ≤ g ∧ g < w'.heap.size)
 (ho : OR (z.set i g c) w' (okB x.X (z.set i g c) ((i, ob) :: s.hp) w') i ob) : Sim x (z.set i g c) { s with hp := (i, ob) :: s.hp } a w' := by
 have hok : ∀ b, okB x.X z s.hp w b → okB x.X (z.set i g c) ((i, ob) :: s.hp) w' b := fun b hb' => by
  refine ⟨Nat.lt_of_lt_of_le hb'.1 hb.size, hb'.2.1, fun j ob' e hp => ?_⟩
  rw [look_cons] at e
  by_cases hj : i = j
  ·subst hj
   rw [if_pos rfl] at e
   injection e with e
   subst e
   rw [Cz.set_b]
   have := hb'.1
   have := (hg hp).1
   omega
  ·rw [if_neg hj] at e
   rw [(z.set_ne g c (Ne.symm hj)).1]
   exact hb'.2.2 j ob' e ((phys_set z g c (Ne.symm hj)).1 hp)
 have hk : Kin w (okB x.X z s.hp w) w' (okB x.X (z.set i g c) ((i, ob) :: s.hp) w') := fun b hb' => ⟨hok b hb', hb.block b hb'.1⟩
 have hm : ∀ y, men i y = false → ∀ j, men j y = true → (z.set i g c).b j = z.b j ∧ (z.set i g c).c j = z.c j := fun y hy j hj => z.set_ne g c (fun e => by subst e; rw [hy] at hj; cases hj)
 refine ⟨⟨hb.os.trans h.fr.os, hb.tape.trans h.fr.tape, hb.output.trans h.fr.output, Nat.le_trans h.fr.size hb.size, fun b h1 h2 => (hb.block b (Nat.lt_of_lt_of_le h1 h.fr.size)).trans (h.fr.block b h1 h2)⟩, h.nt, zi_set hi.1 h.zi, h.df,
  fun t y e => (h.env t y e).mov hk (hm y (hi.2.1 t y e)), fun j ob' e => ?_, fun j ob' e hp => ?_, fun j k ob1 ob2 e1 e2 p1 p2 he => ?_, h.xo⟩
 ·rw [look_cons] at e
  by_cases hj : i = j
  ·subst hj
   rw [if_pos rfl] at e
   injection e with e
   subst e
   exact ho
  ·rw [if_neg hj] at e
   exact (h.hp j ob' e).mov hk (fun k hk' => z.set_ne g c (fun e' => by
    subst e'
    rw [(hi.2.2 j ob' e).2] at hk'
    cases hk')) (z.set_ne g c (Ne.symm hj)) (fun hp => hb.block _ (h.ph j ob' e hp).1)
 ·rw [look_cons] at e
  by_cases hj : i = j
  ·subst hj
   rw [if_pos rfl] at e
   injection e with e
   subst e
   rw [Cz.set_b]
   obtain ⟨g1, g2⟩ := hg hp
   exact ⟨g2, .inr (Nat.le_trans h.fr.size g1), fun hx => by have := (h.xo _ hx).1; have := h.fr.size; omega⟩
  ·rw [if_neg hj] at e
   rw [(z.set_ne g c (Ne.symm hj)).1]
   obtain ⟨h1, h2⟩ := h.ph j ob' e ((phys_set z g c (Ne.symm hj)).1 hp)
   exact ⟨Nat.lt_of_lt_of_le h1 hb.size, h2⟩
 ·rw [look_cons] at e1 e2
  by_cases hj : i = j
  ·by_cases hk' : i = k
   ·exact hj.symm.trans hk'
   ·subst hj
    rw [if_pos rfl] at e1
    injection e1 with e1
    subst e1
    rw [if_neg hk'] at e2
    rw [Cz.set_b, (z.set_ne g c (Ne.symm hk')).1] at he
    have := (h.ph k ob2 e2 ((phys_set z g c (Ne.symm hk')).1 p2)).1
    have := (hg p1).1
    omega
  ·rw [if_neg hj] at e1
   by_cases hk' : i = k
   ·subst hk'
    rw [if_pos rfl] at e2
    injection e2 with e2
    subst e2
    rw [Cz.set_b, (z.set_ne g c (Ne.symm hj)).1] at he
    have := (h.ph j ob1 e1 ((phys_set z g c (Ne.symm hj)).1 p1)).1
    have := (hg p2).1
    omega
   ·rw [if_neg hk'] at e2
    rw [(z.set_ne g c (Ne.symm hj)).1, (z.set_ne g c (Ne.symm hk')).1] at he
    exact h.inj j k ob1 ob2 e1 e2 ((phys_set z g c (Ne.symm hj)).1 p1) ((phys_set z g c (Ne.symm hk')).1 p2) he
def memB (i : Nat) : List Nat → Bool
 | [] => false
 | j :: r => Nat.beq j i || memB i r
theorem memB_iff {i : Nat} : ∀ {l : List Nat}, memB i l = true ↔ i ∈ l
 | [] => by simp [memB]
 | j :: r => by
   rw [memB, Bool.or_eq_true, memB_iff, List.mem_cons]
   constructor
   ·rintro (h | h)
    ·exact .inl (Nat.eq_of_beq_eq_true h).symm
    ·exact .inr h
   ·rintro (h | h)
    ·subst h; exact .inl (Nat.beq_refl _)
    ·exact .inr h
def rmL {α : Type} : List Nat → List (Nat × α) → List (Nat × α)
 | [], h => h
 | i :: r, h => rmL r (rm1 i h)
where
 rm1 (i : Nat) : List (Nat × α) → List (Nat × α)
  | [] => []
  | (j, x) :: r => match Nat.beq j i with
    | true => rm1 i r
    | false => (j, x) :: rm1 i r
theorem look_rm1 {α : Type} (i j : Nat) : ∀ h : List (Nat × α), look (rmL.rm1 i h) j = if j = i then none else look h j
 | [] => by simp [rmL.rm1, look]
 | (k, x) :: r => by
   rw [rmL.rm1, look_cons]
   cases hb : Nat.beq k i with
   | true =>
     have hki : k = i := Nat.eq_of_beq_eq_true hb
     simp only []
     rw [look_rm1 i j r]
     by_cases hj : j = i
     ·rw [if_pos hj, if_pos hj]
     ·rw [if_neg hj, if_neg hj, if_neg (by omega)]
   | false =>
     have hki : k ≠ i := Nat.ne_of_beq_eq_false hb
     simp only []
     rw [look_cons, look_rm1 i j r]
     by_cases hk : k = j
     ·rw [if_pos hk, if_pos hk, if_neg (by omega)]
     ·rw [if_neg hk, if_neg hk]
theorem look_rmL {α : Type} (j : Nat) : ∀ (l : List Nat) (h : List (Nat × α)), look (rmL l h) j = if j ∈ l then none else look h j
 | [], h => by simp [rmL]
 | i :: r, h => by
   rw [rmL, look_rmL j r, look_rm1]
   by_cases h1 : j ∈ r
   ·simp [h1]
   ·by_cases h2 : j = i
    ·simp [h2]
    ·simp [h1, h2]
theorem Sim.chg {x : Ctx} {z : Cz} {s : St} {a : Act} {w w' : World} (h : Sim x z s a w) {i : Nat} {ob0 ob : Ob} (h0 : look s.hp i = some ob0) (p0 : phys z i ob0) (hg : w.grownBy w' (some (z.b i)))
 (ho : (∀ b, okB x.X z s.hp w b → okB x.X z ((i, ob) :: s.hp) w' b ∧ w'.heap[b]? = w.heap[b]?) → OR z w' (okB x.X z ((i, ob) :: s.hp) w') i ob) (p1 : phys z i ob) : Sim x z { s with hp := (i, ob) :: s.hp } a w' := by
 obtain ⟨b1, b2, b3⟩ := h.ph i ob0 h0 p0
 have hk : Kin w (okB x.X z s.hp w) w' (okB x.X z ((i, ob) :: s.hp) w') := fun b hb => by
  have hne : z.b i ≠ b := hb.2.2 i ob0 h0 p0
  refine ⟨⟨Nat.lt_of_lt_of_le hb.1 hg.size, hb.2.1, fun j ob' e hp => ?_⟩, hg.block b hb.1 (fun e => hne (by injection e with e; exact e.symm))⟩
  rw [look_cons] at e
  by_cases hj : i = j
  ·subst hj; exact hne
  ·rw [if_neg hj] at e; exact hb.2.2 j ob' e hp
 have hfr : ∀ b, b < x.w0.heap.size → ¬ x.F b → w'.heap[b]? = x.w0.heap[b]? := fun b h1 h2 => by
  refine (hg.block b (Nat.lt_of_lt_of_le h1 h.fr.size) (fun e => ?_)).trans (h.fr.block b h1 h2)
  injection e with e
  subst e
  rcases b2 with b2 | b2
  ·exact h2 b2
  ·omega
 refine ⟨⟨hg.os.trans h.fr.os, hg.tape.trans h.fr.tape, hg.output.trans h.fr.output, Nat.le_trans h.fr.size hg.size, hfr⟩, h.nt, h.zi, h.df, fun t y e => (h.env t y e).mov hk (fun _ _ => ⟨rfl, rfl⟩), fun j ob' e => ?_, fun j ob' e hp => ?_, fun j k ob1 ob2 e1 e2 p1' p2' he => ?_, h.xo⟩
 ·rw [look_cons] at e
  by_cases hj : i = j
  ·subst hj
   rw [if_pos rfl] at e
   injection e with e
   subst e
   exact ho hk
  ·rw [if_neg hj] at e
   refine (h.hp j ob' e).mov hk (fun _ _ => ⟨rfl, rfl⟩) ⟨rfl, rfl⟩ (fun hp => hg.block _ (h.ph j ob' e hp).1 (fun e' => hj ?_))
   injection e' with e'
   exact (h.inj j i ob' ob0 e h0 hp p0 e').symm
 ·rw [look_cons] at e
  by_cases hj : i = j
  ·subst hj
   exact ⟨Nat.lt_of_lt_of_le b1 hg.size, b2, b3⟩
  ·rw [if_neg hj] at e
   exact ⟨Nat.lt_of_lt_of_le (h.ph j ob' e hp).1 hg.size, (h.ph j ob' e hp).2⟩
 ·rw [look_cons] at e1 e2
  by_cases hj : i = j
  ·by_cases hk' : i = k
   ·exact hj.symm.trans hk'
   ·rw [if_neg hk'] at e2
    subst hj
    exact h.inj i k ob0 ob2 h0 e2 p0 p2' he
  ·rw [if_neg hj] at e1
   by_cases hk' : i = k
   ·subst hk'
    exact h.inj j i ob1 ob0 e1 h0 p1' p0 he
   ·rw [if_neg hk'] at e2
    exact h.inj j k ob1 ob2 e1 e2 p1' p2' he
theorem Sim.renew {x : Ctx} {z : Cz} {s : St} {a : Act} {w w' : World} (h : Sim x z s a w) {i d g c : Nat} {ob0 ob : Ob} (h0 : look s.hp i = some ob0) (hd : s.free d) (hg : w.grownBy w' (if 0 < z.c i then some (z.b i) else none)) (hph : phys z i ob0 ↔ 0 < z.c i)
 (hgg : phys (z.set d g c) d ob → (w.heap.size ≤ g ∨ (0 < z.c i ∧ g = z.b i)) ∧ g < w'.heap.size)
 (ho : Kin w (okB x.X z s.hp w) w' (okB x.X (z.set d g c) ((d, ob) :: rmL [i] s.hp) w') → OR (z.set d g c) w' (okB x.X (z.set d g c) ((d, ob) :: rmL [i] s.hp) w') d ob) :
 Sim x (z.set d g c) { s with hp := (d, ob) :: rmL [i] s.hp } a w' := by
 have hdi : d ≠ i := Ne.symm (hd.2.2 i ob0 h0).1
 have hlk : ∀ j ob', look (rmL [i] s.hp) j = some ob' → j ≠ i ∧ look s.hp j = some ob' := fun j ob' e => by
  rw [look_rmL] at e
  by_cases hj : j ∈ [i]
  ·rw [if_pos hj] at e; cases e
  ·rw [if_neg hj] at e; exact ⟨by simpa using hj, e⟩
 have hsame : ∀ b, b < w.heap.size → (0 < z.c i → b ≠ z.b i) → w'.heap[b]? = w.heap[b]? := fun b hb hne => hg.block b hb (fun e => by
  split at e
  ·rename_i hc; injection e with e; exact hne hc e
  ·cases e)
 have hm : ∀ y, men d y = false → ∀ j, men j y = true → (z.set d g c).b j = z.b j ∧ (z.set d g c).c j = z.c j := fun y hy j hj => z.set_ne g c (fun e => by subst e; rw [hy] at hj; cases hj)
 have hk : Kin w (okB x.X z s.hp w) w' (okB x.X (z.set d g c) ((d, ob) :: rmL [i] s.hp) w') := fun b hb => by
  have hne : 0 < z.c i → z.b i ≠ b := fun hc => hb.2.2 i ob0 h0 (hph.2 hc)
  refine ⟨⟨Nat.lt_of_lt_of_le hb.1 hg.size, hb.2.1, fun j ob' e hp => ?_⟩, hsame b hb.1 (fun hc e => hne hc e.symm)⟩
  rw [look_cons] at e
  by_cases hj : d = j
  ·subst hj
   rw [if_pos rfl] at e
   injection e with e
   subst e
   rw [Cz.set_b]
   rcases (hgg hp).1 with h1 | ⟨h1, h2⟩
   ·have := hb.1; omega
   ·rw [h2]; exact hne h1
  ·rw [if_neg hj] at e
   rw [(z.set_ne g c (Ne.symm hj)).1]
   exact hb.2.2 j ob' (hlk j ob' e).2 ((phys_set z g c (Ne.symm hj)).1 hp)
 refine ⟨⟨hg.os.trans h.fr.os, hg.tape.trans h.fr.tape, hg.output.trans h.fr.output, Nat.le_trans h.fr.size hg.size, fun b h1 h2 => ?_⟩, h.nt, zi_set hd.1 h.zi, h.df, fun t y e => (h.env t y e).mov hk (hm y (hd.2.1 t y e)), fun j ob' e => ?_, fun j ob' e hp => ?_, fun j k ob1 ob2 e1 e2 p1' p2' he => ?_, h.xo⟩
 ·refine (hsame b (Nat.lt_of_lt_of_le h1 h.fr.size) (fun hc e => ?_)).trans (h.fr.block b h1 h2)
  subst e
  rcases (h.ph i ob0 h0 (hph.2 hc)).2.1 with b2 | b2
  ·exact h2 b2
  ·omega
 ·rw [look_cons] at e
  by_cases hj : d = j
  ·subst hj
   rw [if_pos rfl] at e
   injection e with e
   subst e
   exact ho hk
  ·rw [if_neg hj] at e
   obtain ⟨e1, e2⟩ := hlk j ob' e
   exact (h.hp j ob' e2).mov hk (fun k hk' => z.set_ne g c (fun e' => by
    subst e'
    rw [(hd.2.2 j ob' e2).2] at hk'
    cases hk')) (z.set_ne g c (Ne.symm hj)) (fun hp => hsame _ (h.ph j ob' e2 hp).1 (fun hc e' => e1 (h.inj j i ob' ob0 e2 h0 hp (hph.2 hc) e')))
 ·rw [look_cons] at e
  by_cases hj : d = j
  ·subst hj
   rw [if_pos rfl] at e
   injection e with e
   subst e
   rw [Cz.set_b]
   obtain ⟨g1, g2⟩ := hgg hp
   refine ⟨g2, ?_⟩
   rcases g1 with g1 | ⟨g1, g3⟩
   ·exact ⟨.inr (Nat.le_trans h.fr.size g1), fun hx => by have := (h.xo _ hx).1; have := h.fr.size; omega⟩
   ·rw [g3]; exact (h.ph i ob0 h0 (hph.2 g1)).2
  ·rw [if_neg hj] at e
   rw [(z.set_ne g c (Ne.symm hj)).1]
   obtain ⟨h1, h2⟩ := h.ph j ob' (hlk j ob' e).2 ((phys_set z g c (Ne.symm hj)).1 hp)
   exact ⟨Nat.lt_of_lt_of_le h1 hg.size, h2⟩
 ·have key : ∀ k ob2, d ≠ k → look (rmL [i] s.hp) k = some ob2 → phys (z.set d g c) k ob2 → phys (z.set d g c) d ob → g ≠ z.b k := fun k ob2 hk' e2 p2 pd e => by
   obtain ⟨k1, k2⟩ := hlk k ob2 e2
   have pk := (phys_set z g c (Ne.symm hk')).1 p2
   rcases (hgg pd).1 with g1 | ⟨g1, g3⟩
   ·have := (h.ph k ob2 k2 pk).1; omega
   ·exact k1 (h.inj k i ob2 ob0 k2 h0 pk (hph.2 g1) (by rw [← e, g3]))
  rw [look_cons] at e1 e2
  by_cases hj : d = j
  ·by_cases hk' : d = k
   ·exact hj.symm.trans hk'
   ·subst hj
    rw [if_pos rfl] at e1
    injection e1 with e1
    subst e1
    rw [if_neg hk'] at e2
    rw [Cz.set_b, (z.set_ne g c (Ne.symm hk')).1] at he
    exact absurd he (key k ob2 hk' e2 p2' p1')
  ·rw [if_neg hj] at e1
   by_cases hk' : d = k
   ·subst hk'
    rw [if_pos rfl] at e2
    injection e2 with e2
    subst e2
    rw [Cz.set_b, (z.set_ne g c (Ne.symm hj)).1] at he
    exact absurd he.symm (key j ob1 hj e1 p1' p2')
   ·rw [if_neg hk'] at e2
    rw [(z.set_ne g c (Ne.symm hj)).1, (z.set_ne g c (Ne.symm hk')).1] at he
    exact h.inj j k ob1 ob2 (hlk j ob1 e1).2 (hlk k ob2 e2).2 ((phys_set z g c (Ne.symm hj)).1 p1') ((phys_set z g c (Ne.symm hk')).1 p2') he
end Go.Proofs.YtjbhiglaginpeaaGreat
namespace Go.Proofs.YtjbhiglaginpeaaGreat
open Go.RowKit
class TyOne (P : Program) (T : Nat) : Prop where
 out : ∃ d, P.underlying T = some d ∧ (match d with | .struct _ | .array _ _ => true | _ => false) = false
class TyAgg (P : Program) (T : Nat) (n : outParam Nat) : Prop where
 out : (∃ fs, P.underlying T = some (.struct fs)) ∧ ∃ i, P.info? T = some i ∧ i.size = n
class FldO (P : Program) (T k : Nat) (off : outParam Nat) : Prop where
 out : ∃ fs f, P.underlying T = some (.struct fs) ∧ fs[k]? = some f ∧ f.offset = off ∧ ((P.info? f.type).any fun i => i.size != 0) = true
class FldT (P : Program) (T k : Nat) (off t : outParam Nat) : Prop where
 out : ∃ fs f, P.underlying T = some (.struct fs) ∧ fs[k]? = some f ∧ f.offset = off ∧ f.type = t
class SlcT (P : Program) (T : Nat) (e k : outParam Nat) : Prop where
 out : P.underlying T = some (.slice e) ∧ (0 < k ∧ k ≤ 100) ∧ ∃ i z, P.info? e = some i ∧ i.zero = some z ∧ i.size = k ∧ z.cells.size = k ∧ i.bytes ≤ 1024
theorem TyOne.run {P : Program} {T : Nat} [h : TyOne P T] (w : World) : (isAgg T).run P w = .ok false w := by
 obtain ⟨d, h1, h2⟩ := h.out
 unfold isAgg
 rw [Sem.run_bind, run_underlying h1, Result.andThen_ok]
 split at h2 <;> simp_all
theorem run_size {P : Program} {T : Nat} {i : TypeInfo} (h : P.info? T = some i) (w : World) : (sizeOf T).run P w = .ok i.size w := by
 simp only [sizeOf, typeInfo, program, Sem.run_bind, Sem.run, Result.andThen_ok, h, Sem.run_pure]
theorem TyAgg.run {P : Program} {T n : Nat} [h : TyAgg P T n] (w : World) : (isAgg T).run P w = .ok true w ∧ (sizeOf T).run P w = .ok n w := by
 obtain ⟨⟨fs, h1⟩, i, h2, rfl⟩ := h.out
 refine ⟨?_, run_size h2 w⟩
 unfold isAgg
 rw [Sem.run_bind, run_underlying h1, Result.andThen_ok]
 rfl
def cv1 : Value → AV
 | .slice none 0 0 => .emp
 | .bool b => .d (.sc (.bool b))
 | .int k n => .d (.sc (.int k n))
 | .string s => .d (.sc (.string s))
 | .pointer none => .d (.sc (.pointer none))
 | _ => .un
def cv : Value → AV
 | .agg cs => .ag (cs.toList.map cv1)
 | v => cv1 v
theorem cv1_ok (z : Cz) (w : World) (ok : Nat → Prop) (v : Value) : VR z w ok (cv1 v) v := by
 unfold cv1
 split <;> first | exact .emp | exact .un | exact .d (.sc rfl)
theorem cv_ok (z : Cz) (w : World) (ok : Nat → Prop) (v : Value) : VR z w ok (cv v) v := by
 unfold cv
 split
 ·rename_i cs
  have : VR z w ok (.ag (cs.toList.map cv1)) (.agg cs.toList.toArray) := .ag (by simp) (fun j x u hx hu => by
   rw [List.getElem?_map, hu] at hx
   simp only [Option.map_some, Option.some.injEq] at hx
   subst hx
   exact cv1_ok ..)
  simpa using this
 ·exact cv1_ok ..
def St.ev (s : St) : Operand → Option AV
 | .tmp t => look s.env t
 | .const v => some (cv v)
 | _ => none
theorem St.le.ev {s s' : St} (h : s.le s') {q : Operand} {y : AV} (e : s.ev q = some y) : s'.ev q = some y := by
 cases q <;> first | exact h.env _ _ e | exact e
theorem Sim.ev {x : Ctx} {z : Cz} {s : St} {a : Act} {w : World} (h : Sim x z s a w) {q : Operand} {y : AV} (e : s.ev q = some y) : VR z w (okB x.X z s.hp w) y (a.eval q) := by
 cases q with
 | tmp t => exact h.env t y e
 | const v =>
   simp only [St.ev, Option.some.injEq] at e
   subst e
   exact cv_ok ..
 | _ => cases e
def St.rm (s : St) (l : List Nat) : St := { s with hp := rmL l s.hp }
def St.add (s : St) (nw : List (Nat × Ob)) : St := { s with hp := nw ++ s.hp }
def OT (P : Program) (o : Oper) (s : St) (d : Nat) (v : AV) (nw : List (Nat × Ob)) (rm : List Nat) : Prop :=
 o.dst = some d ∧ ∀ (x : Ctx) (s' : St) (a : Act) (w : World), s.le s' → d < s'.nt.n → (∀ i ob, (i, ob) ∈ nw → s'.free i) → SimE x s' a w →
  ∀ (K : Act → World → Prop) (Q : Exit → Act → World → Prop), (∀ a' w', SimE x (((s'.rm rm).add nw).put d v) a' w' → K a' w') → o.wp P a w K Q
theorem OT.pure {P : Program} {o : Oper} {s : St} {d : Nat} {v : AV} (hd : o.dst = some d) (h : ∀ x z s' a w, s.le s' → Sim x z s' a w → ∃ u, (execOp a.eval o).run P w = .ok (.value u) w ∧ VR z w (okB x.X z s'.hp w) v u) : OT P o s d v [] [] := by
 refine ⟨hd, fun x s' a w hs hn _ ⟨z, hz⟩ K Q hK => ?_⟩
 obtain ⟨u, hr, hv⟩ := h x z s' a w hs hz
 unfold Oper.wp
 rw [hr]
 show K (a.put o.dst u) w
 rw [hd]
 exact hK _ _ ⟨z, hz.put hn hv⟩
section
variable {P : Program} {o : Oper} {s : St} {d : Nat}
theorem VR.dsc {z : Cz} {w : World} {ok : Nat → Prop} {v u : Value} (h : VR z w ok (.d (.sc v)) u) : u = v ∧ lone v = true := by
 cases h with
 | d h => cases h with | sc h => exact ⟨rfl, h⟩
theorem VR.mk_sc {z : Cz} {w : World} {ok : Nat → Prop} {v : Value} (h : lone v = true) : VR z w ok (.d (.sc v)) v := .d (.sc h)
theorem OT.move {q : Operand} {v : AV} (hd : o.dst = some d) (ho : o.op = .move q) (hq : s.ev q = some v) : OT P o s d v [] [] :=
 .pure hd fun x z s' a w hs hz => ⟨_, by simp [execOp, ho], hz.ev (hs.ev hq)⟩
theorem OT.assign {q : Operand} {v : AV} (hd : o.dst = some d) (ho : o.op = .assign q) (hq : s.ev q = some v) : OT P o s d v [] [] :=
 .pure hd fun x z s' a w hs hz => ⟨_, by simp [execOp, ho], hz.ev (hs.ev hq)⟩
def ari (op : BinOp) (x y : Int) : Option Int := match op with
 | .add => some (x + y)
 | .sub => some (x - y)
 | .mul => some (x * y)
 | _ => none
def inR (k : IntKind) (x : Int) : Prop := k.wrap x = x
theorem inR_i64 {x : Int} (h : -9223372036854775808 ≤ x ∧ x ≤ 9223372036854775807) : inR .i64 x := IntWalk.i64_in _ (by omega)
theorem VR.int2 {z : Cz} {w : World} {ok : Nat → Prop} {v v' u u' : Value} (h : VR z w ok (.d (.sc v)) u) (h' : VR z w ok (.d (.sc v')) u') : u = v ∧ u' = v' := ⟨h.dsc.1, h'.dsc.1⟩
theorem OT.ari {op : BinOp} {T T' : Nat} {p q : Operand} {k : IntKind} {x y r : Int} (hd : o.dst = some d) (ho : o.op = .binOp op T p q T') (hp : s.ev p = some (.d (.sc (.int k x)))) (hq : s.ev q = some (.d (.sc (.int k y)))) (hr : Go.Proofs.YtjbhiglaginpeaaGreat.ari op x y = some r) (hR : inR k r) :
 OT P o s d (.d (.sc (.int k r))) [] [] := by
 refine .pure hd fun x' z s' a w hs hz => ⟨.int k r, ?_, .mk_sc rfl⟩
 obtain ⟨e1, e2⟩ := VR.int2 (hz.ev (hs.ev hp)) (hz.ev (hs.ev hq))
 unfold inR at hR
 cases op <;> simp only [Go.Proofs.YtjbhiglaginpeaaGreat.ari, Option.some.injEq, reduceCtorEq] at hr <;> subst hr <;> simp [execOp, ho, e1, e2, eqGuard, binOp, Op.intArith, hR]
def cmpI (op : BinOp) (x y : Int) : Option Bool := match op with
 | .eql => some (x == y)
 | .neq => some (x != y)
 | .lss => some (decide (x < y))
 | .leq => some (decide (x ≤ y))
 | .gtr => some (decide (x > y))
 | .geq => some (decide (x ≥ y))
 | _ => none
theorem OT.cmp {op : BinOp} {T T' : Nat} {p q : Operand} {k : IntKind} {x y : Int} {b : Bool} (hd : o.dst = some d) (ho : o.op = .binOp op T p q T') (hp : s.ev p = some (.d (.sc (.int k x)))) (hq : s.ev q = some (.d (.sc (.int k y)))) (hb : cmpI op x y = some b) :
 OT P o s d (.d (.sc (.bool b))) [] [] := by
 refine .pure hd fun x' z s' a w hs hz => ⟨.bool b, ?_, .mk_sc rfl⟩
 obtain ⟨e1, e2⟩ := VR.int2 (hz.ev (hs.ev hp)) (hz.ev (hs.ev hq))
 cases op <;> simp only [cmpI, Option.some.injEq, reduceCtorEq] at hb <;> subst hb <;> simp [execOp, ho, e1, e2, eqGuard, binOp, Op.intCmp]
theorem OT.not {T : Nat} {q : Operand} {b : Bool} (hd : o.dst = some d) (ho : o.op = .unOp .not T q) (hq : s.ev q = some (.d (.sc (.bool b)))) : OT P o s d (.d (.sc (.bool (!b)))) [] [] :=
 .pure hd fun x z s' a w hs hz => ⟨.bool (!b), by simp [execOp, ho, (hz.ev (hs.ev hq)).dsc.1, Op.unary], .mk_sc rfl⟩
theorem OT.pickT {c p q : Operand} {v : AV} (hd : o.dst = some d) (ho : o.op = .pick c p q) (hc : s.ev c = some (.d (.sc (.bool true)))) (hp : s.ev p = some v) : OT P o s d v [] [] :=
 .pure hd fun x z s' a w hs hz => ⟨a.eval p, by simp [execOp, ho, (hz.ev (hs.ev hc)).dsc.1, asBool], hz.ev (hs.ev hp)⟩
theorem OT.pickF {c p q : Operand} {v : AV} (hd : o.dst = some d) (ho : o.op = .pick c p q) (hc : s.ev c = some (.d (.sc (.bool false)))) (hp : s.ev q = some v) : OT P o s d v [] [] :=
 .pure hd fun x z s' a w hs hz => ⟨a.eval q, by simp [execOp, ho, (hz.ev (hs.ev hc)).dsc.1, asBool], hz.ev (hs.ev hp)⟩
theorem OT.pickTh {c p q : Operand} {v : AV} {b : Bool} (hd : o.dst = some d) (ho : o.op = .pick c p q) (hc : s.ev c = some (.d (.sc (.bool b)))) (hb : b = true) (hp : s.ev p = some v) : OT P o s d v [] [] := by subst hb; exact .pickT hd ho hc hp
theorem OT.pickFh {c p q : Operand} {v : AV} {b : Bool} (hd : o.dst = some d) (ho : o.op = .pick c p q) (hc : s.ev c = some (.d (.sc (.bool b)))) (hb : b = false) (hp : s.ev q = some v) : OT P o s d v [] [] := by subst hb; exact .pickF hd ho hc hp
class TyIs (P : Program) (T : Nat) (d : outParam TypeDesc) : Prop where
 out : P.underlying T = some d
theorem run_eqB {T : Nat} [h : TyIs P T .bool] (x y : Bool) (w : World) : (Op.equal T (.bool x) (.bool y)).run P w = .ok (x == y) w := by
 show (Op.equalIn (9999 + 1) T (.bool x) (.bool y)).run P w = _
 rw [Op.equalIn, Sem.run_bind, run_underlying h.out, Result.andThen_ok]
 rfl
def cmpB (op : BinOp) (x y : Bool) : Option Bool := match op with
 | .eql => some (x == y)
 | .neq => some (!(x == y))
 | _ => none
theorem OT.cmpB {op : BinOp} {T T' : Nat} {p q : Operand} {x y b : Bool} [TyIs P T .bool] (hd : o.dst = some d) (ho : o.op = .binOp op T p q T') (hp : s.ev p = some (.d (.sc (.bool x)))) (hq : s.ev q = some (.d (.sc (.bool y)))) (hb : Go.Proofs.YtjbhiglaginpeaaGreat.cmpB op x y = some b) :
 OT P o s d (.d (.sc (.bool b))) [] [] := by
 have ht := fun w => run_eqB (P := P) (T := T) x y w
 refine .pure hd fun x' z s' a w hs hz => ⟨.bool b, ?_, .mk_sc rfl⟩
 obtain ⟨e1, e2⟩ := VR.int2 (hz.ev (hs.ev hp)) (hz.ev (hs.ev hq))
 cases op <;> simp only [Go.Proofs.YtjbhiglaginpeaaGreat.cmpB, Option.some.injEq, reduceCtorEq] at hb <;> subst hb <;> simp [execOp, ho, e1, e2, eqGuard, binOp, ht]
def cmpS (op : BinOp) (x y : List UInt8) : Option Bool := match op with
 | .eql => some (x == y)
 | .neq => some (!(x == y))
 | _ => none
theorem OT.cmpS {op : BinOp} {T T' : Nat} {p q : Operand} {x y : List UInt8} {b : Bool} (hd : o.dst = some d) (ho : o.op = .binOp op T p q T') (hp : s.ev p = some (.d (.sc (.string (S x))))) (hq : s.ev q = some (.d (.sc (.string (S y))))) (hb : Go.Proofs.YtjbhiglaginpeaaGreat.cmpS op x y = some b) :
 OT P o s d (.d (.sc (.bool b))) [] [] := by
 refine .pure hd fun x' z s' a w hs hz => ⟨.bool b, ?_, .mk_sc rfl⟩
 obtain ⟨e1, e2⟩ := VR.int2 (hz.ev (hs.ev hp)) (hz.ev (hs.ev hq))
 cases op <;> simp only [Go.Proofs.YtjbhiglaginpeaaGreat.cmpS, Option.some.injEq, reduceCtorEq] at hb <;> subst hb <;> simp [execOp, ho, e1, e2, eqGuard, binOp, Op.stringOp, S_toList]
theorem OT.cat {T T' : Nat} {p q : Operand} {x y : List UInt8} (hd : o.dst = some d) (ho : o.op = .binOp .add T p q T') (hp : s.ev p = some (.d (.sc (.string (S x))))) (hq : s.ev q = some (.d (.sc (.string (S y))))) (hl : x.length + y.length ≤ 9223372036854775807) :
 OT P o s d (.d (.sc (.string (S (x ++ y))))) [] [] := by
 refine .pure hd fun x' z s' a w hs hz => ⟨.string (S (x ++ y)), ?_, .mk_sc rfl⟩
 obtain ⟨e1, e2⟩ := VR.int2 (hz.ev (hs.ev hp)) (hz.ev (hs.ev hq))
 have hn : ¬ (((S x).size + (S y).size : Nat) : Int) > IntKind.i64.max := by
  have h9 : IntKind.i64.max = 9223372036854775807 := by decide +kernel
  rw [S_size, S_size, h9]
  omega
 simp only [execOp, ho, e1, e2, eqGuard, binOp, Op.stringOp, Sem.run_bind, Sem.run_pure, Result.andThen_ok]
 rw [if_neg hn]
 simp [S_append]
theorem OT.lenS {T : Nat} {q : Operand} {x : List UInt8} [h : TyIs P T .string] (hd : o.dst = some d) (ho : o.op = .call { callee := .builtin .len, args := #[q], argTypes := #[T] }) (hq : s.ev q = some (.d (.sc (.string (S x))))) : OT P o s d (.d (.sc (.int .i64 (x.length : Int)))) [] [] :=
 .pure hd fun x' z s' a w hs hz => ⟨.int .i64 (x.length : Int), by
  simp [execOp, ho, resolve, invoke, builtin, (hz.ev (hs.ev hq)).dsc.1, Builtin.len_, run_underlying h.out, goInt, S_size], .mk_sc rfl⟩
theorem OT.atS {T : Nat} {p q : Operand} {x : List UInt8} {m : Int} [h : TyIs P T .string] (hd : o.dst = some d) (ho : o.op = .index T p q) (hp : s.ev p = some (.d (.sc (.string (S x))))) (hq : s.ev q = some (.d (.sc (.int .i64 m)))) (k : Nat) (hk : m = (k : Int)) (hl : k < x.length) :
 OT P o s d (.d (.sc (.int .u8 ((x.getD k 0).toNat : Int)))) [] [] := by
 refine .pure hd fun x' z s' a w hs hz => ⟨.int .u8 ((x.getD k 0).toNat : Int), ?_, .mk_sc rfl⟩
 obtain ⟨e1, e2⟩ := VR.int2 (hz.ev (hs.ev hp)) (hz.ev (hs.ev hq))
 subst hk
 have hs' : k < (S x).size := by rw [S_size]; exact hl
 simp [execOp, ho, e1, e2, Instr.index, asIntOf, run_underlying h.out, hs', S_getU]
def low_ (l : Option Int) : Int := l.getD 0
theorem OT.min2 {q r : Operand} {k : IntKind} {x y : Int} {ts : Array TypeId} (hd : o.dst = some d) (ho : o.op = .call { callee := .builtin .min, args := #[q, r], argTypes := ts }) (hq : s.ev q = some (.d (.sc (.int k x)))) (hr : s.ev r = some (.d (.sc (.int k y)))) : OT P o s d (.d (.sc (.int k (min x y)))) [] [] := by
 refine .pure hd fun x' z s' a w hs hz => ⟨.int k (min x y), ?_, .mk_sc rfl⟩
 obtain ⟨e1, e2⟩ := VR.int2 (hz.ev (hs.ev hq)) (hz.ev (hs.ev hr))
 have : (if y < x then y else x) = min x y := by split <;> omega
 simp [execOp, ho, resolve, invoke, builtin, e1, e2, Builtin.min_, Builtin.min2, this]
theorem OT.min3 {q r t : Operand} {k : IntKind} {x y v : Int} {ts : Array TypeId} (hd : o.dst = some d) (ho : o.op = .call { callee := .builtin .min, args := #[q, r, t], argTypes := ts }) (hq : s.ev q = some (.d (.sc (.int k x)))) (hr : s.ev r = some (.d (.sc (.int k y)))) (ht : s.ev t = some (.d (.sc (.int k v)))) : OT P o s d (.d (.sc (.int k (min (min x y) v)))) [] [] := by
 refine .pure hd fun x' z s' a w hs hz => ⟨.int k (min (min x y) v), ?_, .mk_sc rfl⟩
 obtain ⟨e1, e2⟩ := VR.int2 (hz.ev (hs.ev hq)) (hz.ev (hs.ev hr))
 have e3 := (hz.ev (hs.ev ht)).dsc.1
 have h1 : (if y < x then y else x) = min x y := by split <;> omega
 have h2 : (if v < min x y then v else min x y) = min (min x y) v := by split <;> omega
 simp [execOp, ho, resolve, invoke, builtin, e1, e2, e3, Builtin.min_, Builtin.min2, h1, h2]
theorem OT.max2 {q r : Operand} {k : IntKind} {x y : Int} {ts : Array TypeId} (hd : o.dst = some d) (ho : o.op = .call { callee := .builtin .max, args := #[q, r], argTypes := ts }) (hq : s.ev q = some (.d (.sc (.int k x)))) (hr : s.ev r = some (.d (.sc (.int k y)))) : OT P o s d (.d (.sc (.int k (max x y)))) [] [] := by
 refine .pure hd fun x' z s' a w hs hz => ⟨.int k (max x y), ?_, .mk_sc rfl⟩
 obtain ⟨e1, e2⟩ := VR.int2 (hz.ev (hs.ev hq)) (hz.ev (hs.ev hr))
 have : (if y > x then y else x) = max x y := by split <;> omega
 simp [execOp, ho, resolve, invoke, builtin, e1, e2, Builtin.max_, Builtin.max2, this]
theorem OT.conv {T T' : Nat} {q : Operand} {k k' : IntKind} {x : Int} {dT : TypeDesc} [h : TyIs P T dT] [h' : TyIs P T' (.int k')] (hd : o.dst = some d) (ho : o.op = .convert T T' q) (hq : s.ev q = some (.d (.sc (.int k x)))) (hr : inR k' x) : OT P o s d (.d (.sc (.int k' x))) [] [] := by
 refine .pure hd fun x' z s' a w hs hz => ⟨.int k' x, ?_, .mk_sc rfl⟩
 unfold inR at hr
 simp [execOp, ho, (hz.ev (hs.ev hq)).dsc.1, convert, run_underlying h.out, run_underlying h'.out, Conv.intToInt, hr]
theorem OT.extract {q : Operand} {xs : List AV} {j : Nat} {v : AV} (hd : o.dst = some d) (ho : o.op = .extract q j) (hq : s.ev q = some (.tu xs)) (hv : xs[j]? = some v) : OT P o s d v [] [] := by
 refine .pure hd fun x' z s' a w hs hz => ?_
 have := hz.ev (hs.ev hq)
 generalize hu : a.eval q = u at this
 cases this with
 | @tu _ us hl h =>
   have hj : j < us.length := by rw [hl]; exact (List.getElem?_eq_some_iff.1 hv).1
   have hj' : us[j]? = some us[j] := List.getElem?_eq_getElem hj
   refine ⟨us[j], ?_, h j v _ hv hj'⟩
   simp [execOp, ho, hu, Instr.extract, hj]
theorem add0 (b o j : Nat) : (⟨b, o, none⟩ : Addr).add j = ⟨b, o + j, none⟩ := add_lit b o j
theorem run_fieldAt {T k off : Nat} [hf : FldO P T k off] (w : World) (b p : Nat) : (Instr.fieldAt T (.pointer (some ⟨b, p, none⟩)) k).run P w = .ok (.pointer (some ⟨b, p + off, none⟩)) w := by
 obtain ⟨fs, f, g1, g2, rfl, g0⟩ := hf.out
 obtain ⟨i, g3, g4⟩ : ∃ i, P.info? f.type = some i ∧ i.size ≠ 0 := by
  cases h : P.info? f.type with
  | none => rw [h] at g0; cases g0
  | some i => rw [h] at g0; exact ⟨i, rfl, by simpa using g0⟩
 simp [Instr.fieldAt, run_underlying g1, g2, Instr.sureAddr, fieldPlace, run_size g3, g4, add0]
theorem OT.fieldAddr {T k off i p : Nat} {q : Operand} [FldO P T k off] (hd : o.dst = some d) (ho : o.op = .fieldAddr T q k) (hq : s.ev q = some (.ptr i p)) : OT P o s d (.ptr i (p + off)) [] [] := by
 refine .pure hd fun x' z s' a w hs hz => ⟨.pointer (some ⟨z.b i, p + off, none⟩), ?_, .ptr⟩
 have := hz.ev (hs.ev hq)
 generalize hu : a.eval q = u at this
 cases this
 simp [execOp, ho, hu, run_fieldAt]
theorem OT.fieldAddrE {T k off i n m p : Nat} {q : Operand} [FldO P T k off] (hd : o.dst = some d) (ho : o.op = .fieldAddr T q k) (hq : s.ev q = some (.ep i n m p)) : OT P o s d (.ep i n m (p + off)) [] [] := by
 refine .pure hd fun x' z s' a w hs hz => ⟨.pointer (some ⟨z.b i, m * n + p + off, none⟩), ?_, by rw [Nat.add_assoc]; exact .ep⟩
 have := hz.ev (hs.ev hq)
 generalize hu : a.eval q = u at this
 cases this
 simp [execOp, ho, hu, run_fieldAt]
theorem OT.fieldAddrD {T k off p : Nat} {y : List D} {q : Operand} [FldO P T k off] (hd : o.dst = some d) (ho : o.op = .fieldAddr T q k) (hq : s.ev q = some (.dp y p)) : OT P o s d (.dp y (p + off)) [] [] := by
 refine .pure hd fun x' z s' a w hs hz => ?_
 have := hz.ev (hs.ev hq)
 generalize hu : a.eval q = u at this
 cases this with
 | dp b r us hb hu' hr =>
   exact ⟨.pointer (some ⟨b, r + p + off, none⟩), by simp [execOp, ho, hu, run_fieldAt], by rw [Nat.add_assoc]; exact .dp b r us hb hu' hr⟩
theorem OT.lenD {T e k n : Nat} {f : Nat → List D} {q : Operand} [h : SlcT P T e k] {k' : Nat} (hd : o.dst = some d) (ho : o.op = .call { callee := .builtin .len, args := #[q], argTypes := #[T] }) (hq : s.ev q = some (.d (.sl k' n f))) : OT P o s d (.d (.sc (.int .i64 (n : Int)))) [] [] := by
 refine .pure hd fun x' z s' a w hs hz => ⟨.int .i64 (n : Int), ?_, .mk_sc rfl⟩
 have := hz.ev (hs.ev hq)
 generalize hu : a.eval q = u at this
 cases this with
 | d h' => cases h' with | sl => simp [execOp, ho, hu, resolve, invoke, builtin, Builtin.len_, run_underlying h.out.1, goInt]
theorem OT.lenO {T e k i n : Nat} {q : Operand} [h : SlcT P T e k] (hd : o.dst = some d) (ho : o.op = .call { callee := .builtin .len, args := #[q], argTypes := #[T] }) (hq : s.ev q = some (.own i n)) : OT P o s d (.d (.sc (.int .i64 (n : Int)))) [] [] := by
 refine .pure hd fun x' z s' a w hs hz => ⟨.int .i64 (n : Int), ?_, .mk_sc rfl⟩
 have := hz.ev (hs.ev hq)
 generalize hu : a.eval q = u at this
 cases this with
 | own => simp [execOp, ho, hu, resolve, invoke, builtin, Builtin.len_, run_underlying h.out.1, goInt]
theorem OT.indexD {T e k n : Nat} {f : Nat → List D} {p q : Operand} {m : Int} [h : SlcT P T e k] (hd : o.dst = some d) (ho : o.op = .indexAddr T p q) (hp : s.ev p = some (.d (.sl k n f))) (hq : s.ev q = some (.d (.sc (.int .i64 m)))) (j : Nat) (hj : m = (j : Int)) (hl : j < n) : OT P o s d (.dp (f j) 0) [] [] := by
 refine .pure hd fun x' z s' a w hs hz => ?_
 have hv := hz.ev (hs.ev hp)
 have e2 := (hz.ev (hs.ev hq)).dsc.1
 obtain ⟨g1, g2, i, zz, g3, g4, g5, g6, g7⟩ := h.out
 subst hj
 generalize hu : a.eval p = u at hv
 cases hv with
 | d h' =>
   cases h' with
   | sl us b r hn hc hA hb hl' hu' hr =>
     obtain ⟨rfl, hok⟩ := hb (by omega)
     refine ⟨.pointer (some ⟨b, r + j * k + 0, none⟩), ?_, .dp b (r + j * k) (us j) hok (fun i hi => hu' j i hl (by rw [hl' j hl] at hi; exact hi)) (fun i dd hdd => hr j i dd hl hdd)⟩
     simp [execOp, ho, hu, e2, Instr.indexAt, asIntOf, run_underlying g1, hl, run_size g3, g5, add0]
theorem OT.indexO {T e k n n' i t : Nat} {f : Nat → List D} {p q : Operand} {m : Int} [h : SlcT P T e k] (hd : o.dst = some d) (ho : o.op = .indexAddr T p q) (hp : s.ev p = some (.own i n)) (hq : s.ev q = some (.d (.sc (.int .i64 m)))) (_hi : look s.hp i = some (.arr t k n' f)) (j : Nat) (hj : m = (j : Int)) (hl : j < n) : OT P o s d (.ep i k j 0) [] [] := by
 refine .pure hd fun x' z s' a w hs hz => ?_
 have hv := hz.ev (hs.ev hp)
 have e2 := (hz.ev (hs.ev hq)).dsc.1
 obtain ⟨g1, g2, ii, zz, g3, g4, g5, g6, g7⟩ := h.out
 subst hj
 generalize hu : a.eval p = u at hv
 cases hv with
 | own hn hc hA =>
   obtain rfl := hA (by omega)
   refine ⟨.pointer (some ⟨z.b i, j * k + 0, none⟩), ?_, .ep⟩
   simp [execOp, ho, hu, e2, Instr.indexAt, asIntOf, run_underlying g1, hl, run_size g3, g5, add0]
theorem OT.indexDz {T e k n : Nat} {f : Nat → List D} {p q : Operand} {m : Int} [h : SlcT P T e k] (hd : o.dst = some d) (ho : o.op = .indexAddr T p q) (hp : s.ev p = some (.d (.sl k n f))) (hq : s.ev q = some (.d (.sc (.int .i64 m)))) (h0 : 0 ≤ m) (hl : m < n) : OT P o s d (.dp (f m.toNat) 0) [] [] := .indexD hd ho hp hq m.toNat (by omega) (by omega)
theorem OT.indexOz {T e k n n' i t : Nat} {f : Nat → List D} {p q : Operand} {m : Int} [h : SlcT P T e k] (hd : o.dst = some d) (ho : o.op = .indexAddr T p q) (hp : s.ev p = some (.own i n)) (hq : s.ev q = some (.d (.sc (.int .i64 m)))) (_hi : look s.hp i = some (.arr t k n' f)) (h0 : 0 ≤ m) (hl : m < n) : OT P o s d (.ep i k m.toNat 0) [] [] := .indexO hd ho hp hq _hi m.toNat (by omega) (by omega)
end
section
variable {P : Program} {o : Oper} {s : St} {d : Nat}
theorem Sim.blk {x : Ctx} {z : Cz} {s : St} {a : Act} {w : World} (h : Sim x z s a w) {i : Nat} {xs : List AV} (e : look s.hp i = some (.blk xs)) :
 ∃ (us : List Value) (t : TypeId), w.heap[z.b i]? = some (.cells us.toArray t (0, 0)) ∧ xs.length ≤ us.length ∧ ∀ (j : Nat) (y : AV) (u : Value), xs[j]? = some y → us[j]? = some u → VR z w (okB x.X z s.hp w) y u := by
 have := h.hp i _ e
 cases this with
 | blk hh hl h _ => exact ⟨_, _, hh, hl, h⟩
theorem Sim.blkT {x : Ctx} {z : Cz} {s : St} {a : Act} {w : World} (h : Sim x z s a w) {i : Nat} {xs : List AV} (e : look s.hp i = some (.blk xs)) :
 ∃ (us : List Value) (t : TypeId), w.heap[z.b i]? = some (.cells us.toArray t (0, 0)) ∧ xs.length ≤ us.length ∧ (∀ (j : Nat) (y : AV) (u : Value), xs[j]? = some y → us[j]? = some u → VR z w (okB x.X z s.hp w) y u) ∧ (100000 ≤ i → t + 100000 = i ∧ us.length = xs.length) := by
 have := h.hp i _ e
 cases this with
 | blk hh hl h ht => exact ⟨_, _, hh, hl, h, ht⟩
theorem Sim.arr {x : Ctx} {z : Cz} {s : St} {a : Act} {w : World} (h : Sim x z s a w) {i t k n : Nat} {f : Nat → List D} (e : look s.hp i = some (.arr t k n f)) :
 ∃ us : List Value, (0 < z.c i → w.heap[z.b i]? = some (.cells us.toArray t (0, 0))) ∧ us.length = z.c i * k ∧ n ≤ z.c i ∧ z.c i ≤ maxLen ∧ (∀ m, m < n → (f m).length = k) ∧
   ∀ (m j : Nat) (d : D) (u : Value), m < n → (f m)[j]? = some d → us[m * k + j]? = some u → Rep w (okB x.X z s.hp w) u d := by
 have := h.hp i _ e
 cases this with
 | arr hh hl hn hc hf h => exact ⟨_, hh, hl, hn, hc, hf, h⟩
theorem cell_of_heap {w : World} {b : Nat} {us : List Value} {t : TypeId} {fz : Nat × Nat} (h : w.heap[b]? = some (.cells us.toArray t fz)) (j : Nat) : w.cell? ⟨b, j, none⟩ = us[j]? := by
 simp [World.cell?, h]
theorem frozen_of_heap {w : World} {b : Nat} {us : Array Value} {t : TypeId} (h : w.heap[b]? = some (.cells us t (0, 0))) (j : Nat) : w.frozen? ⟨b, j, none⟩ = false := by
 simp [World.frozen?, h]
theorem run_load1 {T : Nat} [TyOne P T] {w : World} {ad : Addr} {u : Value} (h : w.cell? ad = some u) : (Instr.loadAt T (.pointer (some ad))).run P w = .ok u w := by
 simp [Instr.loadAt, Instr.sureAddr, loadVar, TyOne.run, load, Sem.run, h]
theorem run_loadA {T n : Nat} [TyAgg P T n] {w : World} {ad : Addr} {us : List Value} (hl : us.length = n) (h : ∀ j u, us[j]? = some u → w.cell? (ad.add j) = some u) : (Instr.loadAt T (.pointer (some ad))).run P w = .ok (.agg us.toArray) w := by
 subst hl
 simp [Instr.loadAt, Instr.sureAddr, loadVar, (TyAgg.run (P := P) (T := T) w).1, (TyAgg.run (P := P) (T := T) w).2, run_loadCells_list w ad us h]
theorem OT.load1 {T i p : Nat} {q : Operand} {xs : List AV} {v : AV} [TyOne P T] (hd : o.dst = some d) (ho : o.op = .load T q) (hq : s.ev q = some (.ptr i p)) (hi : look s.hp i = some (.blk xs)) (hv : xs[p]? = some v) : OT P o s d v [] [] := by
 refine .pure hd fun x' z s' a w hs hz => ?_
 have := hz.ev (hs.ev hq)
 generalize hu : a.eval q = u at this
 cases this
 obtain ⟨us, t, h1, h2, h3⟩ := hz.blk (hs.hp _ _ hi)
 have hj : p < us.length := Nat.lt_of_lt_of_le (List.getElem?_eq_some_iff.1 hv).1 h2
 have hj' : us[p]? = some us[p] := List.getElem?_eq_getElem hj
 have hc : w.cell? ⟨z.b i, p, none⟩ = some us[p] := (cell_of_heap h1 p).trans hj'
 exact ⟨us[p], by simp [execOp, ho, hu, run_load1 hc], h3 p v _ hv hj'⟩
theorem OT.loadA {T i p n : Nat} {q : Operand} {xs : List AV} [TyAgg P T n] (hd : o.dst = some d) (ho : o.op = .load T q) (hq : s.ev q = some (.ptr i p)) (hi : look s.hp i = some (.blk xs)) (hl : p + n ≤ xs.length) : OT P o s d (.ag ((xs.drop p).take n)) [] [] := by
 refine .pure hd fun x' z s' a w hs hz => ?_
 have := hz.ev (hs.ev hq)
 generalize hu : a.eval q = u at this
 cases this
 obtain ⟨us, t, h1, h2, h3⟩ := hz.blk (hs.hp _ _ hi)
 refine ⟨.agg ((us.drop p).take n).toArray, ?_, .ag (by simp; omega) (fun j y u hy hu => ?_)⟩
 ·have := run_loadA (P := P) (T := T) (n := n) (w := w) (ad := ⟨z.b i, p, none⟩) (us := (us.drop p).take n) (by simp; omega) (fun j u hj => by
   rw [add0, cell_of_heap h1, ← hj, List.getElem?_take, List.getElem?_drop]
   have : j < n := by have := (List.getElem?_eq_some_iff.1 hj).1; simp at this; omega
   rw [if_pos this])
  simp [execOp, ho, hu, this]
 ·rw [List.getElem?_take, List.getElem?_drop] at hy hu
  by_cases hjn : j < n
  ·rw [if_pos hjn] at hy hu; exact h3 _ _ _ hy hu
  ·rw [if_neg hjn] at hy; cases hy
theorem OT.load1D {T p : Nat} {q : Operand} {y : List D} {v : D} [TyOne P T] (hd : o.dst = some d) (ho : o.op = .load T q) (hq : s.ev q = some (.dp y p)) (hv : y[p]? = some v) : OT P o s d (.d v) [] [] := by
 refine .pure hd fun x' z s' a w hs hz => ?_
 have := hz.ev (hs.ev hq)
 generalize hu : a.eval q = u at this
 cases this with
 | dp b r us hb h1 h2 =>
   have hc := h1 p (List.getElem?_eq_some_iff.1 hv).1
   exact ⟨us p, by simp [execOp, ho, hu, run_load1 hc], .d (h2 p v hv)⟩
theorem OT.loadAD {T p n : Nat} {q : Operand} {y : List D} [TyAgg P T n] (hd : o.dst = some d) (ho : o.op = .load T q) (hq : s.ev q = some (.dp y p)) (hl : p + n ≤ y.length) : OT P o s d (.ag (((y.drop p).take n).map .d)) [] [] := by
 refine .pure hd fun x' z s' a w hs hz => ?_
 have := hz.ev (hs.ev hq)
 generalize hu : a.eval q = u at this
 cases this with
 | dp b r us hb h1 h2 =>
   have hget : ∀ j, j < n → ((List.range n).map fun j => us (p + j))[j]? = some (us (p + j)) := fun j hj => by simp [hj]
   refine ⟨.agg ((List.range n).map fun j => us (p + j)).toArray, ?_, .ag (by simp; omega) (fun j v u hv hu => ?_)⟩
   ·have := run_loadA (P := P) (T := T) (n := n) (w := w) (ad := ⟨b, r + p, none⟩) (us := (List.range n).map fun j => us (p + j)) (by simp) (fun j u hj => by
     have hjn : j < n := by have := (List.getElem?_eq_some_iff.1 hj).1; simpa using this
     rw [hget j hjn] at hj
     rw [add0, Nat.add_assoc, ← hj]
     exact h1 (p + j) (by omega))
    simp only [execOp, ho, hu, Sem.run_bind, this, Result.andThen_ok, Sem.run_pure]
   ·rw [List.getElem?_map, List.getElem?_take] at hv
    by_cases hjn : j < n
    ·rw [if_pos hjn, List.getElem?_drop] at hv
     rw [hget j hjn] at hu
     injection hu with hu
     subst hu
     cases hy : y[p + j]? with
     | none => rw [hy] at hv; cases hv
     | some dd =>
       rw [hy] at hv
       injection hv with hv
       subst hv
       exact .d (h2 _ _ hy)
    ·rw [if_neg hjn] at hv; cases hv
theorem Sim.elem {x : Ctx} {z : Cz} {s : St} {a : Act} {w : World} (h : Sim x z s a w) {i t k n m : Nat} {f : Nat → List D} (e : look s.hp i = some (.arr t k n f)) (hm : m < n) :
 ∃ us : List Value, us.length = k ∧ (∀ j u, us[j]? = some u → w.cell? ⟨z.b i, m * k + j, none⟩ = some u) ∧ ∀ (j : Nat) (d : D) (u : Value), (f m)[j]? = some d → us[j]? = some u → Rep w (okB x.X z s.hp w) u d := by
 obtain ⟨us, h1, h2, h3, h4, h5, h6⟩ := h.arr e
 have hle : (m + 1) * k ≤ z.c i * k := Nat.mul_le_mul_right _ (by omega)
 rw [Nat.add_mul] at hle
 refine ⟨(us.drop (m * k)).take k, by simp; omega, fun j u hj => ?_, fun j dd u hd hu => ?_⟩
 ·rw [cell_of_heap (h1 (by omega)), ← hj, List.getElem?_take, List.getElem?_drop]
  have : j < k := by have := (List.getElem?_eq_some_iff.1 hj).1; simp at this; omega
  rw [if_pos this]
 ·rw [List.getElem?_take, List.getElem?_drop] at hu
  by_cases hjk : j < k
  ·rw [if_pos hjk] at hu; exact h6 m j dd u hm hd hu
  ·rw [if_neg hjk] at hu; cases hu
theorem OT.load1E {T i t k m n p : Nat} {q : Operand} {f : Nat → List D} {v : D} [TyOne P T] (hd : o.dst = some d) (ho : o.op = .load T q) (hq : s.ev q = some (.ep i k m p)) (hi : look s.hp i = some (.arr t k n f)) (hm : m < n) (hv : (f m)[p]? = some v) : OT P o s d (.d v) [] [] := by
 refine .pure hd fun x' z s' a w hs hz => ?_
 have := hz.ev (hs.ev hq)
 generalize hu : a.eval q = u at this
 cases this
 obtain ⟨us, h1, h2, h3⟩ := hz.elem (hs.hp _ _ hi) hm
 obtain ⟨_, _, _, _, _, h5, _⟩ := hz.arr (hs.hp _ _ hi)
 have hj : p < us.length := by rw [h1, ← h5 m hm]; exact (List.getElem?_eq_some_iff.1 hv).1
 have hj' : us[p]? = some us[p] := List.getElem?_eq_getElem hj
 have hc := h2 p _ hj'
 exact ⟨us[p], by simp [execOp, ho, hu, run_load1 hc], .d (h3 p v _ hv hj')⟩
theorem OT.loadAE {T i t k m n p n' : Nat} {q : Operand} {f : Nat → List D} [TyAgg P T n'] (hd : o.dst = some d) (ho : o.op = .load T q) (hq : s.ev q = some (.ep i k m p)) (hi : look s.hp i = some (.arr t k n f)) (hm : m < n) (hl : p + n' ≤ k) : OT P o s d (.ag ((((f m).drop p).take n').map .d)) [] [] := by
 refine .pure hd fun x' z s' a w hs hz => ?_
 have := hz.ev (hs.ev hq)
 generalize hu : a.eval q = u at this
 cases this
 obtain ⟨us, h1, h2, h3⟩ := hz.elem (hs.hp _ _ hi) hm
 obtain ⟨_, _, _, _, _, h5, _⟩ := hz.arr (hs.hp _ _ hi)
 have hfl := h5 m hm
 refine ⟨.agg ((us.drop p).take n').toArray, ?_, .ag (by simp; omega) (fun j y u hy hu => ?_)⟩
 ·have := run_loadA (P := P) (T := T) (n := n') (w := w) (ad := ⟨z.b i, m * k + p, none⟩) (us := (us.drop p).take n') (by simp; omega) (fun j u hj => by
   have hjn : j < n' := by have := (List.getElem?_eq_some_iff.1 hj).1; simp at this; omega
   rw [List.getElem?_take, if_pos hjn, List.getElem?_drop] at hj
   rw [add0, Nat.add_assoc]
   exact h2 _ _ hj)
  simp only [execOp, ho, hu, Sem.run_bind, this, Result.andThen_ok, Sem.run_pure]
 ·rw [List.getElem?_map, List.getElem?_take, List.getElem?_drop] at hy
  rw [List.getElem?_take, List.getElem?_drop] at hu
  by_cases hjn : j < n'
  ·rw [if_pos hjn] at hy hu
   cases hd' : (f m)[p + j]? with
   | none => rw [hd'] at hy; cases hy
   | some dd =>
     rw [hd'] at hy
     injection hy with hy
     subst hy
     exact .d (h3 _ _ _ hd' hu)
  ·rw [if_neg hjn] at hy; cases hy
def cellsA : AV → List AV
 | .ag xs => xs
 | .un => []
 | .tu _ => []
 | x => [x]
theorem cellsA_ok {z : Cz} {w : World} {ok : Nat → Prop} {v : AV} {u : Value} (h : VR z w ok v u) (hne : cellsA v ≠ []) : u.cells.toList.length = (cellsA v).length ∧ ∀ (j : Nat) (y : AV) (u' : Value), (cellsA v)[j]? = some y → u.cells.toList[j]? = some u' → VR z w ok y u' := by
 have one : ∀ {v : AV} {u : Value}, VR z w ok v u → u.cells = #[u] → cellsA v = [v] → u.cells.toList.length = (cellsA v).length ∧ ∀ (j : Nat) (y : AV) (u' : Value), (cellsA v)[j]? = some y → u.cells.toList[j]? = some u' → VR z w ok y u' := by
  intro v u h e1 e2
  rw [e1, e2]
  refine ⟨rfl, fun j y u' h1 h2 => ?_⟩
  cases j with
  | zero =>
    simp only [List.getElem?_cons_zero, Option.some.injEq] at h1 h2
    subst h1
    subst h2
    exact h
  | succ j => simp at h1
 cases h with
 | un => exact absurd rfl hne
 | d h' =>
   refine one (.d h') ?_ rfl
   have := h'.one
   unfold Value.cells
   split
   ·simp [Value.oneCell'] at this
   ·rfl
 | ptr => exact one .ptr rfl rfl
 | ep => exact one .ep rfl rfl
 | dp b p us hb hu hr => exact one (.dp b p us hb hu hr) rfl rfl
 | own hn hc hA => exact one (.own hn hc hA) rfl rfl
 | emp => exact one .emp rfl rfl
 | ag hl h => exact ⟨by simpa [Value.cells, cellsA] using hl, fun j y u' h1 h2 => h j y u' h1 (by simpa [Value.cells] using h2)⟩
 | tu => exact absurd rfl hne
theorem menL_cells {i : Nat} {v : AV} (h : men i v = false) : menL i (cellsA v) = false := by
 cases v <;> simp_all [cellsA, men, menL]
theorem cv1_men (i : Nat) (v : Value) : men i (cv1 v) = false := by unfold cv1; split <;> rfl
theorem menL_cv (i : Nat) : ∀ l : List Value, menL i (l.map cv1) = false
 | [] => rfl
 | v :: r => by simp [menL, cv1_men, menL_cv i r]
theorem cv_men (i : Nat) (v : Value) : men i (cv v) = false := by
 unfold cv
 split
 ·rw [men]; exact menL_cv i _
 ·exact cv1_men i _
theorem St.free.ev {s : St} {i : Nat} (h : s.free i) {q : Operand} {v : AV} (e : s.ev q = some v) : men i v = false := by
 cases q with
 | tmp t => exact h.2.1 t v e
 | const c =>
   simp only [St.ev, Option.some.injEq] at e
   subst e
   exact cv_men i c
 | _ => cases e
theorem OT.mkblk {T : TypeId} {xs : List AV} {n : Nat} (hd : o.dst = some d) (hT : 100000 ≤ n → T + 100000 = n) (h : ∀ x z s' a w, s.le s' → s'.free n → Sim x z s' a w → ∃ us : List Value, (execOp a.eval o).run P w = .ok (.value (.pointer (some ⟨w.heap.size, 0, none⟩))) (w.alloc (.cells us.toArray T)) ∧ us.length = xs.length ∧ menL n xs = false ∧ ∀ (j : Nat) (y : AV) (u : Value), xs[j]? = some y → us[j]? = some u → VR z w (okB x.X z s'.hp w) y u) : OT P o s d (.ptr n 0) [(n, .blk xs)] [] := by
 refine ⟨hd, fun x s' a w hs hn hf ⟨z, hz⟩ K Q hK => ?_⟩
 have hfd := hf n _ (List.mem_singleton.2 rfl)
 obtain ⟨us, hr, hl, hmx, hv⟩ := h x z s' a w hs hfd hz
 have hb : Below w.heap.size w (w.alloc (.cells us.toArray T)) := (Below.refl _ _).alloc (Nat.le_refl _) _
 unfold Oper.wp
 rw [hr]
 show K (a.put o.dst _) _
 rw [hd]
 have hz2 := hz.name hb (i := n) (g := w.heap.size) (c := 0) (ob := .blk xs) hfd (fun _ => ⟨Nat.le_refl _, by simp⟩) (.blk (us := us) (t := T) (by rw [Cz.set_b]; exact heap_alloc_new w _) (Nat.le_of_eq hl.symm) (fun j y u hy hu => (hv j y u hy hu).mov (fun b hb' => ?_) (fun k hk => z.set_ne _ _ (fun e => by
  subst e
  rw [menL_of hy hk] at hmx
  cases hmx))) (fun h => ⟨hT h, hl⟩))
 ·exact hK _ _ ⟨_, hz2.put hn (by have : z.set n w.heap.size 0 = z.set n w.heap.size 0 := rfl
                                  have h1 := VR.ptr (z := z.set n w.heap.size 0) (w := w.alloc (.cells us.toArray T)) (ok := okB x.X (z.set n w.heap.size 0) ((n, .blk xs) :: s'.hp) (w.alloc (.cells us.toArray T))) (i := n) (o := 0)
                                  rw [Cz.set_b] at h1
                                  exact h1)⟩
 ·refine ⟨⟨Nat.lt_of_lt_of_le hb'.1 hb.size, hb'.2.1, fun j ob' e hp => ?_⟩, hb.block b hb'.1⟩
  rw [look_cons] at e
  by_cases hj : n = j
  ·subst hj; rw [Cz.set_b]; have := hb'.1; omega
  ·rw [if_neg hj] at e
   rw [(z.set_ne _ _ (Ne.symm hj)).1]
   exact hb'.2.2 j ob' e ((phys_set z _ _ (Ne.symm hj)).1 hp)
theorem OT.box {T : Nat} {q : Operand} {v : AV} (hd : o.dst = some d) (ho : o.op = .box T q) (hq : s.ev q = some v) (hne : cellsA v ≠ []) (hsm : Nat.blt d 100000 = true) : OT P o s d (.ptr d 0) [(d, .blk (cellsA v))] [] :=
 .mkblk (T := T) hd (fun h => absurd (Nat.le_of_ble_eq_true hsm) (by omega)) fun x z s' a w hs hf hz => by
  obtain ⟨h1, h2⟩ := cellsA_ok (hz.ev (hs.ev hq)) hne
  refine ⟨(a.eval q).cells.toList, ?_, h1, menL_cells (hf.ev (hs.ev hq)), h2⟩
  simp [execOp, ho, Instr.box, newVar, newRow, newObj, Sem.run]
class ZT (P : Program) (T : Nat) (zv : outParam Value) : Prop where
 out : ∃ i, P.info? T = some i ∧ i.zero = some zv
theorem ZT.run {T : Nat} {zv : Value} [h : ZT P T zv] (w : World) : (zeroValue T).run P w = .ok zv w := by
 obtain ⟨i, h1, h2⟩ := h.out
 simp only [zeroValue, typeInfo, program, Sem.run_bind, Sem.run, Result.andThen_ok, h1, h2, Sem.run_pure]
theorem OT.allocN {T n : Nat} {zv : Value} [h : ZT P T zv] (hd : o.dst = some d) (ho : o.op = .alloc T) (hT : 100000 ≤ n → T + 100000 = n) : OT P o s d (.ptr n 0) [(n, .blk (zv.cells.toList.map cv1))] [] :=
 .mkblk (T := T) hd hT fun x z s' a w hs hf hz => by
  refine ⟨zv.cells.toList, ?_, by simp, menL_cv n _, fun j y u hy hu => ?_⟩
  ·simp [execOp, ho, Instr.alloc, ZT.run, newVar, newRow, newObj, Sem.run]
  ·rw [List.getElem?_map, hu] at hy
   simp only [Option.map_some, Option.some.injEq] at hy
   subst hy
   exact cv1_ok ..
theorem OT.alloc {T : Nat} {zv : Value} [h : ZT P T zv] (hd : o.dst = some d) (ho : o.op = .alloc T) (hsm : Nat.blt d 100000 = true) : OT P o s d (.ptr d 0) [(d, .blk (zv.cells.toList.map cv1))] [] :=
 .allocN hd ho (fun h => absurd (Nat.le_of_ble_eq_true hsm) (by omega))
end
section
variable {P : Program} {o : Oper} {s : St} {d : Nat}
def LV (z : Cz) (w : World) (ok : Nat → Prop) (xs : List AV) (us : List Value) : Prop := us.length = xs.length ∧ ∀ (j : Nat) (y : AV) (u : Value), xs[j]? = some y → us[j]? = some u → VR z w ok y u
def aput {α : Type} (cs : List α) (off : Nat) (xs : List α) : List α := cs.take off ++ xs ++ cs.drop (off + xs.length)
theorem aput_get {α : Type} (cs : List α) (off : Nat) (xs : List α) (h : off + xs.length ≤ cs.length) (j : Nat) : (aput cs off xs)[j]? = if off ≤ j ∧ j < off + xs.length then xs[j - off]? else cs[j]? := by
 unfold aput
 have ht : (cs.take off).length = off := by rw [List.length_take]; omega
 by_cases h1 : j < off
 ·rw [if_neg (by omega), List.append_assoc, List.getElem?_append_left (by omega), List.getElem?_take, if_pos h1]
 ·by_cases h2 : j < off + xs.length
  ·rw [if_pos (by omega), List.append_assoc, List.getElem?_append_right (by omega), ht, List.getElem?_append_left (by omega)]
  ·rw [if_neg (by omega), List.append_assoc, List.getElem?_append_right (by omega), ht, List.getElem?_append_right (by omega), List.getElem?_drop]
   congr 1
   omega
theorem aput_len {α : Type} (cs : List α) (off : Nat) (xs : List α) (h : off + xs.length ≤ cs.length) : (aput cs off xs).length = cs.length := by
 unfold aput
 simp
 omega
theorem LV.put {z : Cz} {w : World} {ok : Nat → Prop} {xs ys : List AV} {us vs : List Value} (h : LV z w ok xs us) (h' : LV z w ok ys vs) {off : Nat} (ho : off + ys.length ≤ xs.length) : LV z w ok (aput xs off ys) (aput us off vs) := by
 have hl := h.1
 have hl' := h'.1
 refine ⟨by rw [aput_len _ _ _ (by omega), aput_len _ _ _ ho, hl], fun j y u hy hu => ?_⟩
 rw [aput_get _ _ _ ho] at hy
 rw [aput_get _ _ _ (by omega)] at hu
 by_cases hj : off ≤ j ∧ j < off + ys.length
 ·rw [if_pos hj] at hy
  rw [if_pos (by omega)] at hu
  exact h'.2 _ _ _ hy hu
 ·rw [if_neg hj] at hy
  rw [if_neg (by omega)] at hu
  exact h.2 _ _ _ hy hu
def LVle (z : Cz) (w : World) (ok : Nat → Prop) (xs : List AV) (us : List Value) : Prop := xs.length ≤ us.length ∧ ∀ (j : Nat) (y : AV) (u : Value), xs[j]? = some y → us[j]? = some u → VR z w ok y u
theorem LVle.put {z : Cz} {w : World} {ok : Nat → Prop} {xs ys : List AV} {us vs : List Value} (h : LVle z w ok xs us) (h' : LV z w ok ys vs) {off : Nat} (ho : off + ys.length ≤ xs.length) : LVle z w ok (aput xs off ys) (aput us off vs) := by
 have hl := h.1
 have hl' := h'.1
 refine ⟨by rw [aput_len xs _ _ (by omega), aput_len us _ _ (by omega)]; exact hl, fun j y u hy hu => ?_⟩
 rw [aput_get _ _ _ ho] at hy
 rw [aput_get _ _ _ (by omega)] at hu
 by_cases hj : off ≤ j ∧ j < off + ys.length
 ·rw [if_pos hj] at hy
  rw [if_pos (by omega)] at hu
  exact h'.2 _ _ _ hy hu
 ·rw [if_neg hj] at hy
  rw [if_neg (by omega)] at hu
  exact h.2 _ _ _ hy hu
theorem fold_set (off : Nat) : ∀ (vs : List Value) (k : Nat) (cs : Array Value), off + k + vs.length ≤ cs.size →
 ((vs.zipIdx k).foldl (fun (c : Array Value) (p : Value × Nat) => c.setIfInBounds (off + p.2) p.1) cs).toList = aput cs.toList (off + k) vs
 | [], k, cs, h => by simp [aput]
 | v :: r, k, cs, h => by
   simp only [List.length_cons] at h
   rw [List.zipIdx_cons, List.foldl_cons, fold_set off r (k + 1) _ (by simp; omega)]
   refine List.ext_getElem? fun j => ?_
   rw [aput_get _ _ _ (by simp; omega), aput_get _ _ _ (by simp; omega)]
   simp only [List.length_cons, Array.toList_setIfInBounds]
   by_cases h1 : off + k ≤ j ∧ j < off + k + (r.length + 1)
   ·rw [if_pos h1]
    by_cases h2 : j = off + k
    ·subst h2
     rw [if_neg (by omega), List.getElem?_set_self (by simp; omega)]
     simp
    ·rw [if_pos (by omega), show j - (off + k) = (j - (off + (k + 1))) + 1 by omega, List.getElem?_cons_succ]
   ·rw [if_neg h1, if_neg (by omega), List.getElem?_set_ne (by omega)]
def afill (pl : List (Nat × Nat)) : List AV → List (Nat × AV) → Option (List AV)
 | cs, [] => some cs
 | cs, (i, x) :: r => match pl[i]? with
   | none => none
   | some (off, sz) => match Nat.beq (cellsA x).length sz && (Nat.ble 1 sz && Nat.ble (off + sz) cs.length) with
     | true => afill pl (aput cs off (cellsA x)) r
     | false => none
theorem fill_ok {z : Cz} {w : World} {ok : Nat → Prop} {place : Nat → Option (Nat × Nat)} {pl : List (Nat × Nat)} (hp : ∀ i p, pl[i]? = some p → place i = some p) : ∀ (ps : List (Nat × AV)) (us : List (Nat × Value)) (xs : List AV) (cs : Array Value) (ys : List AV),
 LV z w ok xs cs.toList → afill pl xs ps = some ys → ps.map (·.1) = us.map (·.1) → (∀ (j : Nat) (p : Nat × AV) (u : Nat × Value), ps[j]? = some p → us[j]? = some u → VR z w ok p.2 u.2) → ∃ cs', Instr.fill place cs us = some cs' ∧ LV z w ok ys cs'.toList
 | [], us, xs, cs, ys, h, e, hm, _ => by
   obtain rfl : us = [] := by cases us <;> simp_all
   simp only [afill, Option.some.injEq] at e
   subst e
   exact ⟨cs, rfl, h⟩
 | (i, x) :: r, [], _, _, _, _, _, hm, _ => by simp at hm
 | (i, x) :: r, (i', u) :: us, xs, cs, ys, h, e, hm, hv => by
   simp only [List.map_cons, List.cons.injEq] at hm
   obtain ⟨rfl, hm⟩ := hm
   rw [afill] at e
   split at e
   ·cases e
   ·rename_i off sz hpl
    split at e
    ·rename_i hb
     simp only [Bool.and_eq_true, Nat.ble_eq] at hb
     obtain ⟨hb1, hb2, hb3⟩ := hb
     replace hb1 := Nat.eq_of_beq_eq_true hb1
     have hvx := hv 0 _ _ rfl rfl
     have hne : cellsA x ≠ [] := fun e => by rw [e] at hb1; simp at hb1; omega
     have hc := cellsA_ok hvx hne
     have hl := h.1
     have hsz : u.cells.size = sz := by rw [← hb1, ← hc.1]; rfl
     have hcs : cs.size = xs.length := by rw [← hl]; rfl
     have hb3' : off + (cellsA x).length ≤ xs.length := by rw [hb1]; exact hb3
     have key : (u.cells.zipIdx.foldl (fun (c : Array Value) (p : Value × Nat) => c.setIfInBounds (off + p.2) p.1) cs).toList = aput cs.toList off u.cells.toList := by
      have := fold_set off u.cells.toList 0 cs (by show off + 0 + u.cells.size ≤ cs.size; omega)
      rw [Nat.add_zero] at this
      rw [← this, ← Array.foldl_toList, Array.toList_zipIdx]
     obtain ⟨cs', h1, h2⟩ := fill_ok hp r us (aput xs off (cellsA x)) (u.cells.zipIdx.foldl (fun (c : Array Value) (p : Value × Nat) => c.setIfInBounds (off + p.2) p.1) cs) ys
      (by rw [key]; exact h.put hc hb3') e hm (fun j p q hp' hq => hv (j + 1) p q (by simpa using hp') (by simpa using hq))
     refine ⟨cs', ?_, h2⟩
     simp only [Instr.fill]
     rw [hp _ _ hpl]
     simp only []
     rw [if_neg (by simp [hsz]; omega)]
     exact h1
    ·cases e
class PlT (P : Program) (T : Nat) (pl : outParam (List (Nat × Nat))) : Prop where
 out : ∃ fs : Array Field, P.underlying T = some (.struct fs) ∧ (fs.toList.map fun f => (P.info? f.type).map fun i => (f.offset, i.size)) = pl.map some
theorem run_places {P : Program} (w : World) : ∀ (fs : List Field) (pl : List (Nat × Nat)), (fs.map fun f => (P.info? f.type).map fun i => (f.offset, i.size)) = pl.map some → ((fs.mapM fun f => do pure (f.offset, ← sizeOf f.type)) : Sem (List (Nat × Nat))).run P w = .ok pl w
 | [], pl, h => by
   obtain rfl : pl = [] := by cases pl <;> simp_all
   rfl
 | f :: r, [], h => by simp at h
 | f :: r, p :: pl, h => by
   simp only [List.map_cons, List.cons.injEq] at h
   obtain ⟨h1, h2⟩ := h
   obtain ⟨i, hi, rfl⟩ := Option.map_eq_some_iff.1 h1
   rw [List.mapM_cons, Sem.run_bind, Sem.run_bind, run_size hi]
   simp only [Result.andThen_ok, Sem.run_pure]
   rw [Sem.run_bind, run_places w r pl h2]
   rfl
def evs (s : St) : List (Nat × Operand) → Option (List (Nat × AV))
 | [] => some []
 | (i, q) :: r => match s.ev q, evs s r with
   | some v, some vs => some ((i, v) :: vs)
   | _, _ => none
theorem evs_ok {x : Ctx} {z : Cz} {s s' : St} {a : Act} {w : World} (hs : s.le s') (h : Sim x z s' a w) : ∀ (ps : List (Nat × Operand)) (vs : List (Nat × AV)), evs s ps = some vs → vs.map (·.1) = ps.map (·.1) ∧ (∀ (j : Nat) (p : Nat × AV) (u : Nat × Value), vs[j]? = some p → (ps.map fun (i, q) => (i, a.eval q))[j]? = some u → VR z w (okB x.X z s'.hp w) p.2 u.2)
 | [], vs, e => by simp only [evs, Option.some.injEq] at e; subst e; simp
 | (i, q) :: r, vs, e => by
   rw [evs] at e
   split at e
   ·rename_i v vs' h1 h2
    injection e with e
    subst e
    obtain ⟨g1, g2⟩ := evs_ok hs h r vs' h2
    refine ⟨by simp [g1], fun j p u hp hu => ?_⟩
    cases j with
    | zero =>
      simp only [List.map_cons, List.getElem?_cons_zero, Option.some.injEq] at hp hu
      subst hp; subst hu
      exact h.ev (hs.ev h1)
    | succ j => exact g2 j p u (by simpa using hp) (by simpa using hu)
   ·cases e
theorem OT.build {T : Nat} {parts : Array (Nat × Operand)} {zv : Value} {pl : List (Nat × Nat)} {vs : List (Nat × AV)} {xs : List AV} [hz : ZT P T zv] [hpl : PlT P T pl] (hd : o.dst = some d) (ho : o.op = .build T parts) (hv : evs s parts.toList = some vs)
 (hf : afill pl (zv.cells.toList.map cv1) vs = some xs) : OT P o s d (.ag xs) [] [] := by
 refine .pure hd fun x z s' a w hs hsim => ?_
 obtain ⟨g1, g2⟩ := evs_ok hs hsim _ _ hv
 obtain ⟨fs, e1, e0⟩ := hpl.out
 have e2 : ((fs.mapM fun f => do Pure.pure (f.offset, ← sizeOf f.type)) : Sem (Array (Nat × Nat))).run P w = .ok pl.toArray w := by
  rw [← Array.toArray_toList (xs := fs), List.mapM_toArray, map_eq_pure_bind, Sem.run_bind, run_places w _ _ e0]
  rfl
 obtain ⟨cs', h1, h2⟩ := fill_ok (z := z) (w := w) (ok := okB x.X z s'.hp w) (place := (pl.toArray[·]?)) (pl := pl) (fun i p h => by simpa using h) vs (parts.toList.map fun (i, q) => (i, a.eval q)) _ zv.cells _
  ⟨by simp, fun j y u hy hu => by
    rw [List.getElem?_map, hu] at hy
    simp only [Option.map_some, Option.some.injEq] at hy
    subst hy
    exact cv1_ok ..⟩ hf (by rw [g1, List.map_map]; rfl) g2
 refine ⟨.agg cs', ?_, by have := VR.ag (z := z) (w := w) (ok := okB x.X z s'.hp w) h2.1 h2.2; simpa using this⟩
 have hpt : (parts.map fun (x : Nat × Operand) => (x.1, a.eval x.2)).toList = parts.toList.map fun (i, q) => (i, a.eval q) := by simp
 simp only [execOp, ho, Instr.build, Sem.run_bind, ZT.run, Result.andThen_ok, run_underlying e1, e2]
 rw [hpt, h1]
 rfl
inductive LeD : AV → D → Prop
 | d {x : D} : LeD (.d x) x
 | emp {k : Nat} {f : Nat → List D} : LeD .emp (.sl k 0 f)
theorem LeD.rep {z : Cz} {w : World} {ok : Nat → Prop} {x : AV} {y : D} {u : Value} (h : LeD x y) (hv : VR z w ok x u) : Rep w ok u y := by
 cases h with
 | d => cases hv with | d h => exact h
 | emp => cases hv with | emp => exact .sl (fun _ _ => undef) 0 0 (Nat.le_refl _) (Nat.zero_le _) (fun _ => rfl) (fun h => absurd h (by omega)) (fun i h => absurd h (by omega)) (fun i j h => absurd h (by omega)) (fun i j d h => absurd h (by omega))
inductive LeDs : List AV → List D → Prop
 | nil : LeDs [] []
 | cons {x : AV} {y : D} {xs : List AV} {ys : List D} (h : LeD x y) (t : LeDs xs ys) : LeDs (x :: xs) (y :: ys)
theorem LeDs.get {xs : List AV} {ys : List D} (h : LeDs xs ys) : xs.length = ys.length ∧ ∀ (j : Nat) (y : D), ys[j]? = some y → ∃ x, xs[j]? = some x ∧ LeD x y := by
 induction h with
 | nil => exact ⟨rfl, fun j y h => by simp at h⟩
 | cons h t ih =>
   refine ⟨by simp [ih.1], fun j y e => ?_⟩
   cases j with
   | zero =>
     simp only [List.getElem?_cons_zero, Option.some.injEq] at e
     subst e
     exact ⟨_, rfl, h⟩
   | succ j => exact ih.2 j y (by simpa using e)
theorem OT.slice0 {T e k : Nat} [h : SlcT P T e k] (hd : o.dst = some d) (ho : o.op = .buildSlice T 0 #[]) : OT P o s d .emp [] [] := by
 refine ⟨hd, fun x s' a w hs hn hf ⟨z, hz⟩ K Q hK => ?_⟩
 obtain ⟨g1, g2, i, zz, g3, g4, g5, g6, g7⟩ := h.out
 have hr : (execOp a.eval o).run P w = .ok (.value (.slice (some ⟨w.heap.size, 0, none⟩) 0 0)) (w.alloc (.cells #[] e)) := by
  simp [execOp, ho, Instr.buildSlice, run_underlying g1, run_size g3, Instr.fill, newRow, newObj, Sem.run, show Array.range 0 = #[] from rfl]
 unfold Oper.wp
 rw [hr]
 show K (a.put o.dst _) _
 rw [hd]
 exact hK _ _ ⟨z, (hz.grow ((Below.refl _ _).alloc (Nat.le_refl _) _)).put hn .emp⟩
theorem Sim.newArr {x : Ctx} {z : Cz} {s : St} {a : Act} {w w' : World} (h : Sim x z s a w) (hb : Below w.heap.size w w') {i t k n c : Nat} {f : Nat → List D} {us : List Value} (hi : s.free i) (hc : n ≤ c) (hc' : c ≤ maxLen) (hl : us.length = c * k) (hf : ∀ m, m < n → (f m).length = k)
 {g : Nat} (hg : 0 < c → w.heap.size ≤ g ∧ w'.heap[g]? = some (.cells us.toArray t (0, 0))) (hr : ∀ (m j : Nat) (d : D) (u : Value), m < n → (f m)[j]? = some d → us[m * k + j]? = some u → Rep w (okB x.X z s.hp w) u d) :
 Sim x (z.set i g c) { s with hp := (i, .arr t k n f) :: s.hp } a w' := by
 refine h.name hb hi (fun hp => ?_) (.arr (us := us) (fun hp => ?_) (by rw [Cz.set_c]; exact hl) (by rw [Cz.set_c]; exact hc) (by rw [Cz.set_c]; exact hc') hf (fun m j d u hm hd hu => (hr m j d u hm hd hu).mov (fun b hb' => ?_)))
 ·unfold phys at hp
  rw [Cz.set_c] at hp
  exact ⟨(hg hp).1, (Array.getElem?_eq_some_iff.1 (hg hp).2).1⟩
 ·rw [Cz.set_c] at hp
  rw [Cz.set_b]
  exact (hg hp).2
 ·refine ⟨⟨Nat.lt_of_lt_of_le hb'.1 hb.size, hb'.2.1, fun j ob' e hp => ?_⟩, hb.block b hb'.1⟩
  rw [look_cons] at e
  by_cases hj : i = j
  ·subst hj
   rw [if_pos rfl] at e
   injection e with e
   subst e
   unfold phys at hp
   rw [Cz.set_c] at hp
   rw [Cz.set_b]
   have := hb'.1
   have := (hg hp).1
   omega
  ·rw [if_neg hj] at e
   rw [(z.set_ne _ _ (Ne.symm hj)).1]
   exact hb'.2.2 j ob' e ((phys_set z _ _ (Ne.symm hj)).1 hp)
theorem OT.slice1 {T e k : Nat} {q : Operand} {v : AV} {row : List D} [h : SlcT P T e k] (hd : o.dst = some d) (ho : o.op = .buildSlice T 1 #[(0, q)]) (hq : s.ev q = some v) (hrow : LeDs (cellsA v) row) (hk : row.length = k) : OT P o s d (.own d 1) [(d, .arr e k 1 (fun _ => row))] [] := by
 refine ⟨hd, fun x s' a w hs hn hf ⟨z, hz⟩ K Q hK => ?_⟩
 have hfd := hf d _ (List.mem_singleton.2 rfl)
 obtain ⟨g1, g2, i, zz, g3, g4, g5, g6, g7⟩ := h.out
 obtain ⟨l1, l2⟩ := hrow.get
 have hne : cellsA v ≠ [] := fun e => by rw [e] at l1; simp at l1; omega
 have hvv := hz.ev (hs.ev hq)
 obtain ⟨c1, c2⟩ := cellsA_ok hvv hne
 have hus : (a.eval q).cells.size = k := by have : (a.eval q).cells.toList.length = k := by omega
                                            simpa using this
 have hfill : Instr.fill (fun i => some (i * k, k)) ((Array.range k).map (zz.cells[· % zz.cells.size]!)) [(0, a.eval q)] = some (a.eval q).cells := by
  simp only [Instr.fill]
  rw [if_neg (by simp [hus])]
  congr 1
  have h1 := fold_set 0 (a.eval q).cells.toList 0 ((Array.range k).map (zz.cells[· % zz.cells.size]!)) (by simp [hus])
  have h2 : ((a.eval q).cells.zipIdx.foldl (fun (c : Array Value) (p : Value × Nat) => c.setIfInBounds (0 + p.2) p.1) ((Array.range k).map (zz.cells[· % zz.cells.size]!))).toList = (a.eval q).cells.toList := by
   rw [← Array.foldl_toList, Array.toList_zipIdx]
   refine h1.trans ?_
   unfold aput
   simp [hus]
  have h3 := congrArg List.toArray h2
  simpa using h3
 have hzero : (zeroValue e).run P w = .ok zz w := by simp only [zeroValue, typeInfo, program, Sem.run_bind, Sem.run, Result.andThen_ok, g3, g4, Sem.run_pure]
 have hr : (execOp a.eval o).run P w = .ok (.value (.slice (some ⟨w.heap.size, 0, none⟩) 1 1)) (w.alloc (.cells (a.eval q).cells e)) := by
  have hk2 : ¬ (1 * k > 2 ^ 24) := by have := g2.2; omega
  have hk3 : ¬ (1 * k = 0) := by have := g2.1; omega
  simp only [execOp, ho, Instr.buildSlice, Sem.run_bind, run_underlying g1, run_size g3, g5, Result.andThen_ok]
  rw [if_neg hk2, if_neg hk3]
  simp only [Sem.run_bind, Sem.run_pure, Result.andThen_ok, hzero, Nat.one_mul, List.map_toArray, List.map_cons, List.map_nil, hfill]
  simp [newRow, newObj, Sem.run]
 unfold Oper.wp
 rw [hr]
 show K (a.put o.dst _) _
 rw [hd]
 have hb : Below w.heap.size w (w.alloc (.cells (a.eval q).cells e)) := (Below.refl _ _).alloc (Nat.le_refl _) _
 have hz2 := hz.newArr hb (i := d) (t := e) (k := k) (n := 1) (c := 1) (f := fun _ => row) (us := (a.eval q).cells.toList) (g := w.heap.size) hfd (Nat.le_refl _) (by unfold maxLen; omega) (by simp [hus]) (fun _ _ => hk)
  (fun _ => ⟨Nat.le_refl _, by simpa using heap_alloc_new w (.cells (a.eval q).cells e)⟩) (fun m j dd u hm hd' hu => by
    obtain rfl : m = 0 := by omega
    rw [Nat.zero_mul, Nat.zero_add] at hu
    obtain ⟨x', hx1, hx2⟩ := l2 j dd hd'
    exact hx2.rep (c2 j x' u hx1 hu))
 refine hK _ _ ⟨_, hz2.put hn ?_⟩
 have h1 := VR.own (z := z.set d w.heap.size 1) (w := w.alloc (.cells (a.eval q).cells e)) (ok := okB x.X (z.set d w.heap.size 1) ((d, .arr e k 1 (fun _ => row)) :: s'.hp) (w.alloc (.cells (a.eval q).cells e))) (i := d) (n := 1) (A := some ⟨w.heap.size, 0, none⟩) (by rw [Cz.set_c]; exact Nat.le_refl _) (by rw [Cz.set_c]; unfold maxLen; omega) (fun _ => by rw [Cz.set_b])
 rw [Cz.set_c] at h1
 exact h1
end
section
variable {P : Program} {o : Oper} {s : St} {d : Nat}
inductive Src (s : St) (k : Nat) : AV → Nat → (Nat → List D) → Prop
 | d {m : Nat} {f : Nat → List D} : Src s k (.d (.sl k m f)) m f
 | own {j m n t : Nat} {f : Nat → List D} (h : look s.hp j = some (.arr t k n f)) (hm : m ≤ n) : Src s k (.own j m) m f
 | emp {f : Nat → List D} : Src s k .emp 0 f
def Cells (w : World) (ok : Nat → Prop) (k : Nat) (A : Option Addr) (m : Nat) (f : Nat → List D) (news : List Value) : Prop :=
 news.length = m * k ∧ (0 < m → ∃ b r, A = some ⟨b, r, none⟩ ∧ ∀ j u, news[j]? = some u → w.cell? ⟨b, r + j, none⟩ = some u) ∧ (∀ i, i < m → (f i).length = k) ∧ ∀ i j d u, i < m → (f i)[j]? = some d → news[i * k + j]? = some u → Rep w ok u d
theorem Src.cells {x : Ctx} {z : Cz} {s s' : St} {a : Act} {w : World} {k m : Nat} {v : AV} {u : Value} {f : Nat → List D} (h : Src s k v m f) (hk : 0 < k) (hs : s.le s') (hz : Sim x z s' a w) (hv : VR z w (okB x.X z s'.hp w) v u) :
 ∃ A c, u = .slice A m c ∧ m ≤ c ∧ (A = none → c = 0) ∧ ∃ news, Cells w (okB x.X z s'.hp w) k A m f news := by
 cases h with
 | d =>
   cases hv with
   | d hr =>
     cases hr with
     | @sl A _ c _ _ us b r hn hc hA hb hl hu hr =>
       refine ⟨A, c, rfl, hn, hA, (List.range (m * k)).map (fun j => us (j / k) (j % k)), by simp, fun hm => ⟨b, r, (hb hm).1, fun j u' hj => ?_⟩, hl, fun i j dd u' hi hd hu' => ?_⟩
       ·have hjm : j < m * k := by have := (List.getElem?_eq_some_iff.1 hj).1; simpa using this
        rw [List.getElem?_map, List.getElem?_range hjm] at hj
        simp only [Option.map_some, Option.some.injEq] at hj
        subst hj
        have h1 : j / k < m := (Nat.div_lt_iff_lt_mul hk).2 hjm
        have h2 := Nat.mod_lt j hk
        have h3 := hu (j / k) (j % k) h1 h2
        have h4 : r + j / k * k + j % k = r + j := by have := Nat.div_add_mod j k; rw [Nat.mul_comm] at this; omega
        rwa [h4] at h3
       ·have hj : j < k := by rw [← hl i hi]; exact (List.getElem?_eq_some_iff.1 hd).1
        have hlt : i * k + j < m * k := by have : (i + 1) * k ≤ m * k := Nat.mul_le_mul_right _ (by omega)
                                           rw [Nat.add_mul] at this
                                           omega
        rw [List.getElem?_map, List.getElem?_range hlt] at hu'
        simp only [Option.map_some, Option.some.injEq] at hu'
        subst hu'
        have e1 : (i * k + j) / k = i := by rw [Nat.mul_comm, Nat.mul_add_div hk, Nat.div_eq_of_lt hj, Nat.add_zero]
        have e2 : (i * k + j) % k = j := by rw [Nat.mul_comm, Nat.mul_add_mod, Nat.mod_eq_of_lt hj]
        rw [e1, e2]
        exact hr i j dd hi hd
 | @own j _ n t _ h hm =>
   cases hv with
   | @own _ _ A hn hc hA =>
     obtain ⟨us, h1, h2, h3, h4, h5, h6⟩ := hz.arr (hs.hp _ _ h)
     have hle : m * k ≤ z.c j * k := Nat.mul_le_mul_right _ hn
     by_cases hcz : 0 < z.c j
     ·refine ⟨A, z.c j, rfl, hn, (fun e => by rw [hA hcz] at e; cases e), us.take (m * k), by simp; omega, fun hm' => ⟨z.b j, 0, hA hcz, fun i u' hi => ?_⟩, fun i hi => h5 i (by omega), fun i i' dd u' hi hd hu' => ?_⟩
      ·rw [Nat.zero_add, cell_of_heap (h1 hcz), ← hi, List.getElem?_take]
       have : i < m * k := by have := (List.getElem?_eq_some_iff.1 hi).1; simp at this; omega
       rw [if_pos this]
      ·rw [List.getElem?_take] at hu'
       split at hu'
       ·exact h6 i i' dd u' (by omega) hd hu'
       ·cases hu'
     ·obtain rfl : m = 0 := by omega
      exact ⟨A, z.c j, rfl, hn, (fun _ => by omega), [], by simp, fun h => absurd h (by omega), fun i h => absurd h (by omega), fun i j d u h => absurd h (by omega)⟩
 | emp =>
   cases hv with
   | emp => exact ⟨_, 0, rfl, Nat.le_refl _, fun _ => rfl, [], by simp, fun h => absurd h (by omega), fun i h => absurd h (by omega), fun i j d u h => absurd h (by omega)⟩
theorem run_append_0 (w : World) (T ty e : TypeId) (i : TypeInfo) (ht : P.underlying T = some (.slice e)) (hi : P.info? e = some i) (A : Option Addr) (n c : Nat) (hn : n ≤ c) (hA : A = none → c = 0) (x : Option Addr) (c2 : Nat) (hx : x = none → c2 = 0) :
 (Builtin.append_ #[T, T] ty #[.slice A n c, .slice x 0 c2]).run P w = .ok (.slice A n c) w := by
 cases x with
 | none =>
   obtain rfl := hx rfl
   cases A with
   | none =>
     obtain rfl := hA rfl
     obtain rfl : n = 0 := by omega
     simp [Builtin.append_, run_underlying ht, sizeOf, typeInfo, hi, Builtin.lenOf, Builtin.firstCells]
   | some b => simp [Builtin.append_, run_underlying ht, sizeOf, typeInfo, hi, Builtin.lenOf, Builtin.firstCells, hn, storeCells]
 | some a =>
   have hfc := run_firstCells_some (P := P) w i.size 0 a 0 c2 [] (by simp) (by simp)
   cases A with
   | none =>
     obtain rfl := hA rfl
     obtain rfl : n = 0 := by omega
     simp [Builtin.append_, run_underlying ht, sizeOf, typeInfo, hi, Builtin.lenOf, hfc]
   | some b => simp [Builtin.append_, run_underlying ht, sizeOf, typeInfo, hi, Builtin.lenOf, hfc, hn, storeCells]
theorem run_app {T e k : Nat} [h : SlcT P T e k] (ty : TypeId) (w : World) (A : Option Addr) (n c g0 : Nat) (us : List Value) (hn : n ≤ c) (hc : c ≤ maxLen) (hl : us.length = c * k) (hA : 0 < c → A = some ⟨g0, 0, none⟩ ∧ w.heap[g0]? = some (.cells us.toArray e (0, 0)))
 (hA0 : A = none → c = 0) (B : Option Addr) (m c2 : Nat) (hB : B = none → c2 = 0) (hm2 : m ≤ c2) (ok : Nat → Prop) (f : Nat → List D) (news : List Value) (hnw : Cells w ok k B m f news) (hone : ∀ u ∈ news, u.oneCell' = true) (hbig : n + m ≤ 100000000) :
 ∃ A' c' g, ∃ us' : List Value, ∃ w', (Builtin.append_ #[T, T] ty #[.slice A n c, .slice B m c2]).run P w = .ok (.slice A' (n + m) c') w' ∧ n + m ≤ c' ∧ c' ≤ maxLen ∧ us'.length = c' * k ∧
   (0 < c' → A' = some ⟨g, 0, none⟩ ∧ w'.heap[g]? = some (.cells us'.toArray e (0, 0)) ∧ (w.heap.size ≤ g ∨ (0 < c ∧ g = g0))) ∧ us'.take ((n + m) * k) = us.take (n * k) ++ news ∧ w.grownBy w' (if 0 < c then some g0 else none) := by
 obtain ⟨t1, ⟨t2, t2'⟩, i, zz, t3, t4, t5, t6, t7⟩ := h.out
 have hml : n + m ≤ maxLen := by unfold maxLen; omega
 have hby : (n + m) * i.bytes ≤ 140737488355328 := by
  have h1 : (n + m) * i.bytes ≤ (n + m) * 1024 := Nat.mul_le_mul_left _ t7
  omega
 by_cases hm : m = 0
 ·subst hm
  obtain rfl : news = [] := List.length_eq_zero_iff.1 (by rw [hnw.1]; simp)
  exact ⟨A, c, g0, us, w, run_append_0 w T ty e i t1 t3 A n c hn hA0 B c2 hB, hn, hc, hl, fun hcp => ⟨(hA hcp).1, (hA hcp).2, .inr ⟨hcp, rfl⟩⟩, by simp, World.grownBy.refl _ _⟩
 ·obtain ⟨b, r, rfl, hnc⟩ := hnw.2.1 (by omega)
  have hnc' : ∀ j u, news[j]? = some u → w.cell? ((⟨b, r, none⟩ : Addr).add j) = some u := fun j u hj => by rw [add0]; exact hnc j u hj
  have fin : ∀ (v' : Value) (w' : World) (olds : List Value), w'.ownsRow w.heap.size e k v' (n + m) (olds ++ news) → ∃ A' c' g, ∃ us' : List Value, v' = .slice A' (n + m) c' ∧ n + m ≤ c' ∧ c' ≤ maxLen ∧ us'.length = c' * k ∧
   (0 < c' → A' = some ⟨g, 0, none⟩ ∧ w'.heap[g]? = some (.cells us'.toArray e (0, 0)) ∧ w.heap.size ≤ g) ∧ us'.take ((n + m) * k) = olds ++ news := fun v' w' olds ho => by
   rcases ho.2 with ⟨_, h0⟩ | ⟨g, cap, cur, hv, hb, hh, h1, h2, h3, h4⟩
   ·omega
   ·exact ⟨_, cap, g, cur.toList, hv, h1, h2, (by simpa using h3), fun _ => ⟨rfl, (by simpa using hh), hb⟩, h4⟩
  by_cases hcp : 0 < c
  ·obtain ⟨rfl, hh⟩ := hA hcp
   have hown : w.ownsRow 0 e k (.slice (some ⟨g0, 0, none⟩) n c) n (us.take (n * k)) := by
    have hle : n * k ≤ c * k := Nat.mul_le_mul_right _ hn
    exact ⟨by simp; omega, .inr ⟨g0, c, us.toArray, rfl, Nat.zero_le _, hh, hn, hc, (by simpa using hl), (by simp)⟩⟩
   obtain ⟨g, cap, w', hrun, h2, h3, h4, h5⟩ := run_append_lies (P := P) w T ty 0 e i zz k i.bytes t1 t3 t4 t5 rfl t6 t2 _ n _ hown ⟨b, r, none⟩ m c2 news hnw.1 hnc' hone (by omega) hml hby (Nat.zero_le _) w.heap.size rfl
   rcases h2.2 with ⟨_, h0⟩ | ⟨g', cap', cur, hv, _, hh', k1, k2, k3, k4⟩
   ·omega
   ·injection hv with e1 e2 e3
    injection e1 with e1
    injection e1 with e1
    subst e1
    subst e3
    refine ⟨_, cap, g, cur.toList, w', hrun, k1, k2, (by simpa using k3), fun _ => ⟨rfl, (by simpa using hh'), ?_⟩, k4, by rw [if_pos hcp]; exact h3⟩
    rcases h4 with h4 | h4
    ·right
     refine ⟨hcp, ?_⟩
     have : g0 = g := by simpa [Value.ownBlock] using h4
     exact this.symm
    ·exact .inl (by omega)
  ·obtain rfl : c = 0 := by omega
   obtain rfl : n = 0 := by omega
   rw [if_neg hcp]
   obtain rfl : us = [] := List.length_eq_zero_iff.1 (by rw [hl]; simp)
   have hgr : ∃ v' w', (Builtin.append_ #[T, T] ty #[.slice A 0 0, .slice (some ⟨b, r, none⟩) m c2]).run P w = .ok v' w' ∧ w'.ownsRow w.heap.size e k v' (0 + m) ([] ++ news) ∧ w.grownBy w' none := by
    cases A with
    | some b' => exact run_append_arg_grows (P := P) w T ty e i zz k i.bytes t1 t3 t4 t5 rfl t6 t2 b' 0 0 [] (by simp) (by simp) ⟨b, r, none⟩ m c2 news hnw.1 hnc' (by omega) hml hby
    | none =>
      obtain ⟨v', w', hrun, r1, r2, _⟩ := run_append_own (P := P) w w.heap.size T ty e i zz k i.bytes t1 t3 t4 t5 rfl t6 t2 (.slice none 0 0) 0 [] (World.ownsRow_nil w _ e k) ⟨b, r, none⟩ m c2 news hnw.1 hnc' hone hml hby (Nat.le_refl _)
      exact ⟨v', w', hrun, r1, r2⟩
   obtain ⟨v', w', hrun, r1, r2⟩ := hgr
   obtain ⟨A', c', g, us', rfl, k1, k2, k3, k4, k5⟩ := fin v' w' [] r1
   exact ⟨A', c', g, us', w', hrun, k1, k2, k3, fun hc' => ⟨(k4 hc').1, (k4 hc').2.1, .inl (k4 hc').2.2⟩, by simpa using k5, r2⟩
def catF (n : Nat) (f g : Nat → List D) (i : Nat) : List D := if i < n then f i else g (i - n)
theorem Cells.one {w : World} {ok : Nat → Prop} {k m : Nat} {A : Option Addr} {f : Nat → List D} {news : List Value} (hk : 0 < k) (h : Cells w ok k A m f news) : ∀ u ∈ news, u.oneCell' = true := by
 intro u hu
 obtain ⟨j, hj, rfl⟩ := List.getElem_of_mem hu
 have hj' := hj
 rw [h.1] at hj'
 have h1 : j / k < m := (Nat.div_lt_iff_lt_mul hk).2 hj'
 have h2 := Nat.mod_lt j hk
 have h3 : j / k * k + j % k = j := by have := Nat.div_add_mod j k; rw [Nat.mul_comm] at this; omega
 have h4 := h.2.2.1 _ h1
 refine (h.2.2.2 (j / k) (j % k) ((f (j / k))[j % k]'(by omega)) news[j] h1 (List.getElem?_eq_getElem (by omega)) ?_).one
 rw [h3]
 exact List.getElem?_eq_getElem hj
theorem cat_rep {w w' : World} {ok ok' : Nat → Prop} {k n m : Nat} {f g : Nat → List D} {us us' news : List Value} (hk : Kin w ok w' ok') (hus : n * k ≤ us.length) (_hlen : news.length = m * k) (hcat : us'.take ((n + m) * k) = us.take (n * k) ++ news)
 (hf : ∀ i, i < n → (f i).length = k) (hg : ∀ i, i < m → (g i).length = k)
 (h1 : ∀ i j d u, i < n → (f i)[j]? = some d → us[i * k + j]? = some u → Rep w ok u d) (h2 : ∀ i j d u, i < m → (g i)[j]? = some d → news[i * k + j]? = some u → Rep w ok u d) :
 (∀ i, i < n + m → (catF n f g i).length = k) ∧ ∀ i j d u, i < n + m → (catF n f g i)[j]? = some d → us'[i * k + j]? = some u → Rep w' ok' u d := by
 refine ⟨fun i hi => ?_, fun i j dd u hi hd hu => ?_⟩
 ·unfold catF
  by_cases h : i < n
  ·rw [if_pos h]; exact hf i h
  ·rw [if_neg h]; exact hg _ (by omega)
 ·have key : ∀ j', j' < (n + m) * k → us'[j']? = (us.take (n * k) ++ news)[j']? := fun j' hj' => by rw [← hcat, List.getElem?_take, if_pos hj']
  have hlt : (us.take (n * k)).length = n * k := by rw [List.length_take]; omega
  unfold catF at hd
  by_cases h : i < n
  ·rw [if_pos h] at hd
   have hj : j < k := by rw [← hf i h]; exact (List.getElem?_eq_some_iff.1 hd).1
   have hle : (i + 1) * k ≤ n * k := Nat.mul_le_mul_right _ h
   rw [Nat.add_mul] at hle
   have hle2 : n * k ≤ (n + m) * k := Nat.mul_le_mul_right _ (by omega)
   rw [key _ (by omega), List.getElem?_append_left (by omega), List.getElem?_take, if_pos (by omega)] at hu
   exact (h1 i j dd u h hd hu).mov hk
  ·rw [if_neg h] at hd
   have hj : j < k := by rw [← hg (i - n) (by omega)]; exact (List.getElem?_eq_some_iff.1 hd).1
   have hle : (i + 1) * k ≤ (n + m) * k := Nat.mul_le_mul_right _ (by omega)
   rw [Nat.add_mul] at hle
   have hge : n * k ≤ i * k := Nat.mul_le_mul_right _ (by omega)
   rw [key _ (by omega), List.getElem?_append_right (by omega), hlt] at hu
   have hsub : i * k + j - n * k = (i - n) * k + j := by rw [Nat.sub_mul]; omega
   rw [hsub] at hu
   exact (h2 (i - n) j dd u (by omega) hd hu).mov hk
theorem VR.own_mk {z : Cz} {w : World} {ok : Nat → Prop} {d n g c : Nat} {A : Option Addr} (hn : n ≤ c) (hc : c ≤ maxLen) (hA : 0 < c → A = some ⟨g, 0, none⟩) : VR (z.set d g c) w ok (.own d n) (.slice A n c) := by
 have h1 := VR.own (z := z.set d g c) (w := w) (ok := ok) (i := d) (n := n) (A := A) (by rw [Cz.set_c]; exact hn) (by rw [Cz.set_c]; exact hc) (fun h => by rw [Cz.set_c] at h; rw [Cz.set_b]; exact hA h)
 rw [Cz.set_c] at h1
 exact h1
theorem OT.appE {T e k m : Nat} {p q : Operand} {v : AV} {g : Nat → List D} [h : SlcT P T e k] (hd : o.dst = some d) (ho : o.op = .call { callee := .builtin .append, args := #[p, q], argTypes := #[T, T] }) (hp : s.ev p = some .emp) (hq : s.ev q = some v) (hsrc : Src s k v m g) (hbig : m ≤ 100000000) :
 OT P o s d (.own d m) [(d, .arr e k m g)] [] := by
 refine ⟨hd, fun x s' a w hs hn hf ⟨z, hz⟩ K Q hK => ?_⟩
 have hfd := hf d _ (List.mem_singleton.2 rfl)
 have hk := h.out.2.1.1
 have hvp := hz.ev (hs.ev hp)
 generalize hup : a.eval p = up at hvp
 cases hvp with
 | @emp A =>
   obtain ⟨B, c2, huq, hm2, hB, news, hnw⟩ := hsrc.cells hk hs hz (hz.ev (hs.ev hq))
   by_cases hA : A = none ∨ A ≠ none
   ·obtain ⟨A', c', g', us', w', hrun, k1, k2, k3, k4, k5, k6⟩ := run_app (P := P) (T := T) (e := e) (k := k) o.type w A 0 0 0 [] (Nat.le_refl _) (Nat.zero_le _) (by simp) (fun h => absurd h (by omega)) (fun _ => rfl) B m c2 hB hm2 _ g news hnw (hnw.one hk) (by omega)
    rw [Nat.zero_add] at hrun k1 k5
    have hb : Below w.heap.size w w' := ⟨k6.os, k6.tape, k6.output, k6.size, fun b hb' => k6.block b hb' (by simp)⟩
    unfold Oper.wp execOp
    simp only [ho, resolve, invoke, builtin, Sem.run_bind, Sem.run_pure, Result.andThen_ok, List.map_toArray, List.map_cons, List.map_nil, hup, huq, hrun]
    show K (a.put o.dst _) _
    rw [hd]
    have hz2 := hz.newArr hb (i := d) (t := e) (k := k) (n := m) (c := c') (f := g) (us := us') (g := g') hfd k1 k2 k3 hnw.2.2.1 (fun hc => ⟨by rcases (k4 hc).2.2 with h | ⟨h, _⟩ <;> omega, (k4 hc).2.1⟩) (fun i j dd u hi hdd hu => by
     refine hnw.2.2.2 i j dd u hi hdd ?_
     have hj : j < k := by rw [← hnw.2.2.1 i hi]; exact (List.getElem?_eq_some_iff.1 hdd).1
     have hle : (i + 1) * k ≤ m * k := Nat.mul_le_mul_right _ hi
     rw [Nat.add_mul] at hle
     have h5 : us'.take (m * k) = news := by simpa using k5
     rw [← h5, List.getElem?_take, if_pos (by omega)]
     exact hu)
    exact hK _ _ ⟨_, hz2.put hn (VR.own_mk k1 k2 (fun hc => (k4 hc).1))⟩
   ·exact absurd (Classical.em (A = none)) hA
theorem OT.appO {T e k n m i : Nat} {p q : Operand} {v : AV} {f g : Nat → List D} [h : SlcT P T e k] (hd : o.dst = some d) (ho : o.op = .call { callee := .builtin .append, args := #[p, q], argTypes := #[T, T] }) (hp : s.ev p = some (.own i n)) (hi : look s.hp i = some (.arr e k n f)) (hq : s.ev q = some v) (hsrc : Src s k v m g) (hbig : n + m ≤ 100000000) :
 OT P o s d (.own d (n + m)) [(d, .arr e k (n + m) (catF n f g))] [i] := by
 refine ⟨hd, fun x s' a w hs hn hf ⟨z, hz⟩ K Q hK => ?_⟩
 have hfd := hf d _ (List.mem_singleton.2 rfl)
 have hk := h.out.2.1.1
 have hvp := hz.ev (hs.ev hp)
 generalize hup : a.eval p = up at hvp
 cases hvp with
 | @own _ _ A hn1 hc1 hA =>
   obtain ⟨us, h1, h2, h3, h4, h5, h6⟩ := hz.arr (hs.hp _ _ hi)
   obtain ⟨B, c2, huq, hm2, hB, news, hnw⟩ := hsrc.cells hk hs hz (hz.ev (hs.ev hq))
   have hA0 : A = none → z.c i = 0 := fun e => by
    rcases Nat.eq_zero_or_pos (z.c i) with h0 | h0
    ·exact h0
    ·rw [hA h0] at e; cases e
   obtain ⟨A', c', g', us', w', hrun, k1, k2, k3, k4, k5, k6⟩ := run_app (P := P) (T := T) (e := e) (k := k) o.type w A n (z.c i) (z.b i) us hn1 hc1 h2 (fun hc => ⟨hA hc, h1 hc⟩) hA0 B m c2 hB hm2 _ g news hnw (hnw.one hk) hbig
   unfold Oper.wp execOp
   simp only [ho, resolve, invoke, builtin, Sem.run_bind, Sem.run_pure, Result.andThen_ok, List.map_toArray, List.map_cons, List.map_nil, hup, huq, hrun]
   show K (a.put o.dst _) _
   rw [hd]
   have hle : n * k ≤ us.length := by rw [h2]; exact Nat.mul_le_mul_right _ hn1
   have hz2 := hz.renew (i := i) (d := d) (g := g') (c := c') (ob := .arr e k (n + m) (catF n f g)) (hs.hp _ _ hi) hfd k6 Iff.rfl (fun hp => by
    unfold phys at hp
    rw [Cz.set_c] at hp
    exact ⟨(k4 hp).2.2, (Array.getElem?_eq_some_iff.1 (k4 hp).2.1).1⟩) (fun hkin => by
    obtain ⟨r1, r2⟩ := cat_rep hkin hle hnw.1 k5 h5 hnw.2.2.1 (fun i j d u hi hd hu => h6 i j d u hi hd hu) hnw.2.2.2
    exact .arr (us := us') (fun hp => by rw [Cz.set_c] at hp; rw [Cz.set_b]; exact (k4 hp).2.1) (by rw [Cz.set_c]; exact k3) (by rw [Cz.set_c]; exact k1) (by rw [Cz.set_c]; exact k2) r1 r2)
   exact hK _ _ ⟨_, hz2.put hn (VR.own_mk k1 k2 (fun hc => (k4 hc).1))⟩
end
end Go.Proofs.YtjbhiglaginpeaaGreat
