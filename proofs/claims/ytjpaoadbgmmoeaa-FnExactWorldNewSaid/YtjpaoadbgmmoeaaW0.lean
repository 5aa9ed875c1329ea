/- Words for the laws on runs: the parts of a run as plain data, and what it means that memory reads as such data. No condition. -/
import Derived.Test.YtjpaoadbgmmoeaaRow
namespace Go.Proofs.Ytjpaoadbgmmoeaa
open Go.RowKit

/-! ### plain data -/
abbrev Bs := List UInt8
structure Rg where
  lo : Int
  hi : Int
deriving DecidableEq, Inhabited
structure Pc where
  off : Int
  data : Bs
deriving DecidableEq, Inhabited
structure Pk where
  num : Int
  time : Int
  size : Int
deriving DecidableEq, Inhabited
structure Pt where
  off : Int
  data : Bs
  fin : Bool
deriving DecidableEq, Inhabited
structure Sd where
  data : Bs
  fin : Bool
  limit : Int
  next : Int
  acked : List Rg
  lost : List Rg
deriving DecidableEq, Inhabited
structure Rv where
  read : Int
  pieces : List Pc
  final : Int
  limit : Int
deriving DecidableEq, Inhabited
structure Ls where
  next : Int
  flight : List Pk
  largest : Int
deriving DecidableEq, Inhabited
structure Rt where
  latest : Int
  least : Int
  smooth : Int
  vary : Int
deriving DecidableEq, Inhabited
structure Wn where
  size : Int
  thr : Int
  credit : Int
  rtt : Int
deriving DecidableEq, Inhabited
structure Cd where
  path : Int
  num : Int
  stream : Int
  part : Pt
deriving DecidableEq, Inhabited
structure Fm where
  kind : Int
  a : Int
  b : Int
  c : Int
  data : Bs
  ranges : List Rg
deriving DecidableEq, Inhabited
structure Wi where
  path : Int
  num : Int
  frame : Fm
  genuine : Bool
deriving DecidableEq, Inhabited
structure Wd where
  now : Int
  sends : List Sd
  recvs : List Rv
  got : List Bs
  paths : List Ls
  rtts : List Rt
  windows : List Wn
  seen : List (List Rg)
  carried : List Cd
  net : List Wi
deriving DecidableEq, Inhabited

/-! ### memory -/
def I64 (x : Int) : Prop := -9223372036854775808 ≤ x ∧ x ≤ 9223372036854775807
def RdP (w : World) (ok : Nat → Prop) (size : Nat) (A : Option Addr) (n : Nat) (xs : List Value) : Prop :=
  xs.length = n * size ∧ (0 < n → ∃ b o, A = some ⟨b, o, none⟩ ∧ ok b ∧ ∀ j u, xs[j]? = some u → w.cell? ⟨b, o + j, none⟩ = some u)
/-- What lay in the blocks of 'ok' lies there still, and they are blocks of 'ok''. -/
def Car (w : World) (ok : Nat → Prop) (w' : World) (ok' : Nat → Prop) : Prop := ∀ b, ok b → ok' b ∧ w'.heap[b]? = w.heap[b]?
def Old (w : World) : Nat → Prop := fun b => b < w.heap.size
def Sub (ok ok' : Nat → Prop) : Prop := ∀ b, ok b → ok' b
theorem Car.cell {w w' : World} {ok ok' : Nat → Prop} (h : Car w ok w' ok') {p : Addr} (hp : ok p.block) : w'.cell? p = w.cell? p := World.cell?_of_block (h _ hp).2
theorem Car.refl (w : World) (ok : Nat → Prop) : Car w ok w ok := fun _ h => ⟨h, rfl⟩
theorem Car.trans {w w' w'' : World} {ok ok' ok'' : Nat → Prop} (h : Car w ok w' ok') (h' : Car w' ok' w'' ok'') : Car w ok w'' ok'' :=
  fun b hb => ⟨(h' b (h b hb).1).1, ((h' b (h b hb).1).2).trans (h b hb).2⟩
theorem Car.sub {w : World} {ok ok' : Nat → Prop} (h : Sub ok ok') : Car w ok w ok' := fun b hb => ⟨h b hb, rfl⟩
theorem Car.old {w w' : World} (h : Below w.heap.size w w') : Car w (Old w) w' (Old w') := fun b hb => ⟨Nat.lt_of_lt_of_le hb h.size, h.block b hb⟩
theorem Car.below {w w' : World} {ok : Nat → Prop} (hok : Sub ok (Old w)) (h : Below w.heap.size w w') : Car w ok w' ok := fun b hb => ⟨hb, h.block b (hok b hb)⟩
theorem Sub.old {w w' : World} {ok : Nat → Prop} (hok : Sub ok (Old w)) (h : w.heap.size ≤ w'.heap.size) : Sub ok (Old w') := fun b hb => Nat.lt_of_lt_of_le (hok b hb) h
theorem Sub.refl (ok : Nat → Prop) : Sub ok ok := fun _ h => h

theorem RdP.car {w w' : World} {ok ok' : Nat → Prop} {size n : Nat} {A : Option Addr} {xs : List Value} (h : RdP w ok size A n xs) (hc : Car w ok w' ok') : RdP w' ok' size A n xs :=
  ⟨h.1, fun hn => by
    obtain ⟨b, o, e, hb, hx⟩ := h.2 hn
    exact ⟨b, o, e, (hc b hb).1, fun j u hu => (hc.cell (p := ⟨b, o + j, none⟩) hb).trans (hx j u hu)⟩⟩
theorem RdP.rd {w : World} {ok : Nat → Prop} {size n : Nat} {A : Option Addr} {xs : List Value} (h : RdP w ok size A n xs) {B : Nat} (hB : Sub ok (· < B)) : Rd w B size A n xs :=
  ⟨h.1, fun hn => by
    obtain ⟨b, o, e, hb, hx⟩ := h.2 hn
    exact ⟨b, o, e, hB b hb, hx⟩⟩

section
variable {α : Type} {R : World → (Nat → Prop) → List Value → α → Prop} {size : Nat}
/-- A slice whose elements, of 'size' cells each, read as the elements of a list. -/
def SliceR (R : World → (Nat → Prop) → List Value → α → Prop) (size : Nat) (w : World) (ok : Nat → Prop) (A : Option Addr) (n c : Nat) (l : List α) : Prop :=
  l.length = n ∧ n ≤ c ∧ c ≤ maxLen ∧ (A = none → c = 0) ∧ ∃ css : List (List Value), css.length = n ∧ (∀ x ∈ css, x.length = size) ∧ (∀ (i : Nat) (cs : List Value) (x : α), css[i]? = some cs → l[i]? = some x → R w ok cs x) ∧ RdP w ok size A n css.flatten
theorem flatten_flat (css : List (List Value)) : css.flatten = flat id css := by simp [flat, List.flatMap_id]
theorem flatten_get {css : List (List Value)} (hs : ∀ x ∈ css, x.length = size) {k j : Nat} {cs : List Value} (h : css[k]? = some cs) (hj : j < size) : css.flatten[k * size + j]? = cs[j]? := by
  induction css generalizing k with
  | nil => simp at h
  | cons x xs ih =>
    have hx := hs x List.mem_cons_self
    rw [List.flatten_cons]
    cases k with
    | zero =>
      simp only [List.getElem?_cons_zero, Option.some.injEq] at h
      subst h
      rw [List.getElem?_append_left (by rw [hx]; omega)]
      simp
    | succ k =>
      simp only [List.getElem?_cons_succ] at h
      rw [List.getElem?_append_right (by rw [hx, Nat.add_mul]; omega), hx, show (k + 1) * size + j - size = k * size + j by rw [Nat.add_mul]; omega]
      exact ih (fun y hy => hs y (List.mem_cons_of_mem _ hy)) h
theorem flatten_len {css : List (List Value)} (hs : ∀ x ∈ css, x.length = size) : css.flatten.length = css.length * size := by
  induction css with
  | nil => simp
  | cons x xs ih => rw [List.flatten_cons, List.length_append, ih (fun y hy => hs y (List.mem_cons_of_mem _ hy)), hs x List.mem_cons_self, List.length_cons, Nat.add_mul]; omega
variable {w w' : World} {ok ok' : Nat → Prop} {A : Option Addr} {n c : Nat} {l : List α}
theorem SliceR.len (h : SliceR R size w ok A n c l) : l.length = n := h.1
theorem SliceR.cap (h : SliceR R size w ok A n c l) : n ≤ c ∧ c ≤ 9223372036854775807 := ⟨h.2.1, by have := h.2.2.1; unfold maxLen at this; exact this⟩
theorem SliceR.at_ (h : SliceR R size w ok A n c l) {k : Nat} (hk : k < n) :
    ∃ b o cs x, A = some ⟨b, o, none⟩ ∧ ok b ∧ l[k]? = some x ∧ cs.length = size ∧ R w ok cs x ∧ ∀ j v, cs[j]? = some v → w.cell? ⟨b, o + k * size + j, none⟩ = some v := by
  obtain ⟨hl, _, _, _, css, hcl, hcs, hR, hrd⟩ := h
  obtain ⟨b, o, e, hb, hc⟩ := hrd.2 (by omega)
  have hkc : css[k]? = some (css[k]'(by omega)) := List.getElem?_eq_getElem (by omega)
  have hkl : l[k]? = some (l[k]'(by omega)) := List.getElem?_eq_getElem (by omega)
  refine ⟨b, o, css[k]'(by omega), l[k]'(by omega), e, hb, hkl, hcs _ (List.getElem_mem _), hR k _ _ hkc hkl, fun j v hv => ?_⟩
  have hj : j < size := by rw [← hcs _ (List.getElem_mem (show k < css.length by omega))]; exact (List.getElem?_eq_some_iff.1 hv).1
  have := hc (k * size + j) v ((flatten_get hcs hkc hj).trans hv)
  rwa [← Nat.add_assoc] at this
theorem SliceR.car (hR : ∀ cs x, R w ok cs x → R w' ok' cs x) (h : SliceR R size w ok A n c l) (hc : Car w ok w' ok') : SliceR R size w' ok' A n c l := by
  obtain ⟨hl, h1, h2, h3, css, hcl, hcs, hr, hrd⟩ := h
  exact ⟨hl, h1, h2, h3, css, hcl, hcs, fun i cs x a b => hR _ _ (hr i cs x a b), hrd.car hc⟩
theorem SliceR.carF (hR : ∀ (w : World) (ok : Nat → Prop) (w' : World) (ok' : Nat → Prop) cs x, R w ok cs x → R w' ok' cs x) (h : SliceR R size w ok A n c l) (hc : Car w ok w' ok') : SliceR R size w' ok' A n c l := h.car (hR w ok w' ok') hc
theorem SliceR.nil_ : SliceR R size w ok none 0 0 [] := ⟨rfl, Nat.le_refl _, Nat.zero_le _, fun _ => rfl, [], rfl, by simp, by simp, by simp, fun h => absurd h (by omega)⟩
theorem SliceR.empty (A : Option Addr) (c : Nat) (hc : c ≤ maxLen) (hA : A = none → c = 0) : SliceR R size w ok A 0 c [] := ⟨rfl, Nat.zero_le _, hc, hA, [], rfl, by simp, by simp, by simp, fun h => absurd h (by omega)⟩
end

/-! ### elements -/
def RgE (x : Rg) : List Value := [.int .i64 x.lo, .int .i64 x.hi]
def RgR (_ : World) (_ : Nat → Prop) (cs : List Value) (x : Rg) : Prop := cs = RgE x ∧ I64 x.lo ∧ I64 x.hi
def PcE (x : Pc) : List Value := [.int .i64 x.off, .string (S x.data)]
def PcR (_ : World) (_ : Nat → Prop) (cs : List Value) (x : Pc) : Prop := cs = PcE x ∧ I64 x.off ∧ x.data.length ≤ 1099511627776
def PkE (x : Pk) : List Value := [.int .i64 x.num, .int .i64 x.time, .int .i64 x.size]
def PkR (_ : World) (_ : Nat → Prop) (cs : List Value) (x : Pk) : Prop := cs = PkE x ∧ I64 x.num ∧ I64 x.time ∧ I64 x.size
def RtE (x : Rt) : List Value := [.int .i64 x.latest, .int .i64 x.least, .int .i64 x.smooth, .int .i64 x.vary]
def RtR (_ : World) (_ : Nat → Prop) (cs : List Value) (x : Rt) : Prop := cs = RtE x ∧ I64 x.latest ∧ I64 x.least ∧ I64 x.smooth ∧ I64 x.vary
def WnE (x : Wn) : List Value := [.int .i64 x.size, .int .i64 x.thr, .int .i64 x.credit, .int .i64 x.rtt]
def WnR (_ : World) (_ : Nat → Prop) (cs : List Value) (x : Wn) : Prop := cs = WnE x ∧ I64 x.size ∧ I64 x.thr ∧ I64 x.credit ∧ I64 x.rtt
def BsR (_ : World) (_ : Nat → Prop) (cs : List Value) (x : Bs) : Prop := cs = [.string (S x)] ∧ x.length ≤ 1099511627776
def PtE (x : Pt) : List Value := [.int .i64 x.off, .string (S x.data), .bool x.fin]
def PtOk (x : Pt) : Prop := I64 x.off ∧ x.data.length ≤ 1099511627776
def CdE (x : Cd) : List Value := [.int .i64 x.path, .int .i64 x.num, .int .i64 x.stream, .int .i64 x.part.off, .string (S x.part.data), .bool x.part.fin]
def CdR (_ : World) (_ : Nat → Prop) (cs : List Value) (x : Cd) : Prop := cs = CdE x ∧ I64 x.path ∧ I64 x.num ∧ I64 x.stream ∧ PtOk x.part
abbrev RgS := SliceR RgR 2
def SdR (w : World) (ok : Nat → Prop) (cs : List Value) (x : Sd) : Prop := ∃ A n c A' n' c', cs = [.string (S x.data), .bool x.fin, .int .i64 x.limit, .int .i64 x.next, .slice A n c, .slice A' n' c'] ∧
  x.data.length ≤ 1099511627776 ∧ I64 x.limit ∧ I64 x.next ∧ RgS w ok A n c x.acked ∧ RgS w ok A' n' c' x.lost
def RvR (w : World) (ok : Nat → Prop) (cs : List Value) (x : Rv) : Prop := ∃ A n c, cs = [.int .i64 x.read, .slice A n c, .int .i64 x.final, .int .i64 x.limit] ∧ I64 x.read ∧ I64 x.final ∧ I64 x.limit ∧ SliceR PcR 2 w ok A n c x.pieces
def LsR (w : World) (ok : Nat → Prop) (cs : List Value) (x : Ls) : Prop := ∃ A n c, cs = [.int .i64 x.next, .slice A n c, .int .i64 x.largest] ∧ I64 x.next ∧ I64 x.largest ∧ SliceR PkR 3 w ok A n c x.flight
def SnR (w : World) (ok : Nat → Prop) (cs : List Value) (x : List Rg) : Prop := ∃ A n c, cs = [.slice A n c] ∧ RgS w ok A n c x
def FmR (w : World) (ok : Nat → Prop) (cs : List Value) (x : Fm) : Prop := ∃ A n c, cs = [.int .i64 x.kind, .int .i64 x.a, .int .i64 x.b, .int .i64 x.c, .string (S x.data), .slice A n c] ∧ I64 x.kind ∧ I64 x.a ∧ I64 x.b ∧ I64 x.c ∧ x.data.length ≤ 1099511627776 ∧ RgS w ok A n c x.ranges
def WiR (w : World) (ok : Nat → Prop) (cs : List Value) (x : Wi) : Prop := ∃ A n c, cs = [.int .i64 x.path, .int .i64 x.num, .int .i64 x.frame.kind, .int .i64 x.frame.a, .int .i64 x.frame.b, .int .i64 x.frame.c, .string (S x.frame.data), .slice A n c, .bool x.genuine] ∧
  I64 x.path ∧ I64 x.num ∧ I64 x.frame.kind ∧ I64 x.frame.a ∧ I64 x.frame.b ∧ I64 x.frame.c ∧ x.frame.data.length ≤ 1099511627776 ∧ RgS w ok A n c x.frame.ranges
section
variable {w w' : World} {ok ok' : Nat → Prop} {A : Option Addr} {n c : Nat} (hc : Car w ok w' ok')
include hc
theorem rg_car {l : List Rg} (h : RgS w ok A n c l) : RgS w' ok' A n c l := h.carF (fun _ _ _ _ _ _ y => y) hc
theorem sd_car {cs : List Value} {x : Sd} (h : SdR w ok cs x) : SdR w' ok' cs x := by
  obtain ⟨A, n, c, A', n', c', e, h1, h2, h3, h4, h5⟩ := h
  exact ⟨A, n, c, A', n', c', e, h1, h2, h3, rg_car hc h4, rg_car hc h5⟩
theorem rv_car {cs : List Value} {x : Rv} (h : RvR w ok cs x) : RvR w' ok' cs x := by
  obtain ⟨A, n, c, e, h1, h2, h3, h4⟩ := h
  exact ⟨A, n, c, e, h1, h2, h3, h4.carF (fun _ _ _ _ _ _ y => y) hc⟩
theorem ls_car {cs : List Value} {x : Ls} (h : LsR w ok cs x) : LsR w' ok' cs x := by
  obtain ⟨A, n, c, e, h1, h2, h3⟩ := h
  exact ⟨A, n, c, e, h1, h2, h3.carF (fun _ _ _ _ _ _ y => y) hc⟩
theorem sn_car {cs : List Value} {x : List Rg} (h : SnR w ok cs x) : SnR w' ok' cs x := by
  obtain ⟨A, n, c, e, h1⟩ := h
  exact ⟨A, n, c, e, rg_car hc h1⟩
theorem fm_car {cs : List Value} {x : Fm} (h : FmR w ok cs x) : FmR w' ok' cs x := by
  obtain ⟨A, n, c, e, h1, h2, h3, h4, h5, h6⟩ := h
  exact ⟨A, n, c, e, h1, h2, h3, h4, h5, rg_car hc h6⟩
theorem wi_car {cs : List Value} {x : Wi} (h : WiR w ok cs x) : WiR w' ok' cs x := by
  obtain ⟨A, n, c, e, h1, h2, h3, h4, h5, h6, h7, h8⟩ := h
  exact ⟨A, n, c, e, h1, h2, h3, h4, h5, h6, h7, rg_car hc h8⟩
end
/-- The headers of a run's nine slices. -/
structure Hd where
  (A1 A2 A3 A4 A5 A6 A7 A8 A9 : Option Addr)
  (n1 n2 n3 n4 n5 n6 n7 n8 n9 : Nat)
  (c1 c2 c3 c4 c5 c6 c7 c8 c9 : Nat)
def Hd.cells (h : Hd) (now : Int) : List Value :=
  [.int .i64 now, .slice h.A1 h.n1 h.c1, .slice h.A2 h.n2 h.c2, .slice h.A3 h.n3 h.c3, .slice h.A4 h.n4 h.c4, .slice h.A5 h.n5 h.c5, .slice h.A6 h.n6 h.c6, .slice h.A7 h.n7 h.c7, .slice h.A8 h.n8 h.c8, .slice h.A9 h.n9 h.c9]
/-- A run that reads as plain data. -/
structure WdH (w : World) (ok : Nat → Prop) (h : Hd) (W : Wd) : Prop where
  now : I64 W.now
  sends : SliceR SdR 6 w ok h.A1 h.n1 h.c1 W.sends
  recvs : SliceR RvR 4 w ok h.A2 h.n2 h.c2 W.recvs
  got : SliceR BsR 1 w ok h.A3 h.n3 h.c3 W.got
  paths : SliceR LsR 3 w ok h.A4 h.n4 h.c4 W.paths
  rtts : SliceR RtR 4 w ok h.A5 h.n5 h.c5 W.rtts
  windows : SliceR WnR 4 w ok h.A6 h.n6 h.c6 W.windows
  seen : SliceR SnR 1 w ok h.A7 h.n7 h.c7 W.seen
  carried : SliceR CdR 6 w ok h.A8 h.n8 h.c8 W.carried
  net : SliceR WiR 9 w ok h.A9 h.n9 h.c9 W.net
theorem WdH.car {w w' : World} {ok ok' : Nat → Prop} {h : Hd} {W : Wd} (x : WdH w ok h W) (hc : Car w ok w' ok') : WdH w' ok' h W :=
  ⟨x.now, x.sends.car (fun _ _ => sd_car hc) hc, x.recvs.car (fun _ _ => rv_car hc) hc, x.got.carF (fun _ _ _ _ _ _ y => y) hc, x.paths.car (fun _ _ => ls_car hc) hc, x.rtts.carF (fun _ _ _ _ _ _ y => y) hc,
    x.windows.carF (fun _ _ _ _ _ _ y => y) hc, x.seen.car (fun _ _ => sn_car hc) hc, x.carried.carF (fun _ _ _ _ _ _ y => y) hc, x.net.car (fun _ _ => wi_car hc) hc⟩
end Go.Proofs.Ytjpaoadbgmmoeaa
