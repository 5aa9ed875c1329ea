/- Parts of the proof, joined from several texts. No condition. -/
import Derived.Test.YtjbhiglaginpeaaGreatQ4
import Derived.Test.YtjbhiglaginpeaaGreatQ2
set_option maxRecDepth 100000
set_option maxHeartbeats 16000000
set_option linter.unusedVariables false
set_option linter.unusedSimpArgs false
namespace Go.Proofs.YtjbhiglaginpeaaGreat
open Go.RowKit
abbrev Bs := List UInt8
structure Rg where
 lo : Int
 hi : Int
deriving DecidableEq, Inhabited
structure Pc where
 off : Int
 data : Bs
deriving DecidableEq, Inhabited
structure Pk where
 num : Int
 time : Int
 size : Int
deriving DecidableEq, Inhabited
structure Pt where
 off : Int
 data : Bs
 fin : Bool
deriving DecidableEq, Inhabited
structure Sd where
 data : Bs
 fin : Bool
 limit : Int
 next : Int
 acked : List Rg
 lost : List Rg
deriving DecidableEq, Inhabited
structure Rv where
 read : Int
 pieces : List Pc
 final : Int
 limit : Int
deriving DecidableEq, Inhabited
structure Ls where
 next : Int
 flight : List Pk
 largest : Int
deriving DecidableEq, Inhabited
structure Rt where
 latest : Int
 least : Int
 smooth : Int
 vary : Int
deriving DecidableEq, Inhabited
structure Wn where
 size : Int
 thr : Int
 credit : Int
 rtt : Int
deriving DecidableEq, Inhabited
structure Cd where
 path : Int
 num : Int
 stream : Int
 part : Pt
deriving DecidableEq, Inhabited
structure Fm where
 kind : Int
 a : Int
 b : Int
 c : Int
 data : Bs
 ranges : List Rg
deriving DecidableEq, Inhabited
structure Wi where
 path : Int
 num : Int
 frame : Fm
 genuine : Bool
deriving DecidableEq, Inhabited
structure Wd where
 now : Int
 sends : List Sd
 recvs : List Rv
 got : List Bs
 paths : List Ls
 rtts : List Rt
 windows : List Wn
 seen : List (List Rg)
 carried : List Cd
 net : List Wi
deriving DecidableEq, Inhabited
def I64 (x : Int) : Prop := -9223372036854775808 ≤ x ∧ x ≤ 9223372036854775807
def RdP (w : World) (ok : Nat → Prop) (size : Nat) (A : Option Addr) (n : Nat) (xs : List Value) : Prop :=
 xs.length = n * size ∧ (0 < n → ∃ b o, A = some ⟨b, o, none⟩ ∧ ok b ∧ ∀ j u, xs[j]? = some u → w.cell? ⟨b, o + j, none⟩ = some u)
def Car (w : World) (ok : Nat → Prop) (w' : World) (ok' : Nat → Prop) : Prop := ∀ b, ok b → ok' b ∧ w'.heap[b]? = w.heap[b]?
def Old (w : World) : Nat → Prop := fun b => b < w.heap.size
def Sub (ok ok' : Nat → Prop) : Prop := ∀ b, ok b → ok' b
theorem Car.cell {w w' : World} {ok ok' : Nat → Prop} (h : Car w ok w' ok') {p : Addr} (hp : ok p.block) : w'.cell? p = w.cell? p := World.cell?_of_block (h _ hp).2
theorem Car.refl (w : World) (ok : Nat → Prop) : Car w ok w ok := fun _ h => ⟨h, rfl⟩
theorem Car.sub {w : World} {ok ok' : Nat → Prop} (h : Sub ok ok') : Car w ok w ok' := fun b hb => ⟨h b hb, rfl⟩
theorem Car.old {w w' : World} (h : Below w.heap.size w w') : Car w (Old w) w' (Old w') := fun b hb => ⟨Nat.lt_of_lt_of_le hb h.size, h.block b hb⟩
theorem Car.below {w w' : World} {ok : Nat → Prop} (hok : Sub ok (Old w)) (h : Below w.heap.size w w') : Car w ok w' ok := fun b hb => ⟨hb, h.block b (hok b hb)⟩
theorem Sub.old {w w' : World} {ok : Nat → Prop} (hok : Sub ok (Old w)) (h : w.heap.size ≤ w'.heap.size) : Sub ok (Old w') := fun b hb => Nat.lt_of_lt_of_le (hok b hb) h
theorem RdP.car {w w' : World} {ok ok' : Nat → Prop} {size n : Nat} {A : Option Addr} {xs : List Value} (h : RdP w ok size A n xs) (hc : Car w ok w' ok') : RdP w' ok' size A n xs :=
 ⟨h.1, fun hn => by
   obtain ⟨b, o, e, hb, hx⟩ := h.2 hn
   exact ⟨b, o, e, (hc b hb).1, fun j u hu => (hc.cell (p := ⟨b, o + j, none⟩) hb).trans (hx j u hu)⟩⟩
section
variable {α : Type} {R : World → (Nat → Prop) → List Value → α → Prop} {size : Nat}
def SliceR (R : World → (Nat → Prop) → List Value → α → Prop) (size : Nat) (w : World) (ok : Nat → Prop) (A : Option Addr) (n c : Nat) (l : List α) : Prop :=
 l.length = n ∧ n ≤ c ∧ c ≤ maxLen ∧ (A = none → c = 0) ∧ ∃ css : List (List Value), css.length = n ∧ (∀ x ∈ css, x.length = size) ∧ (∀ (i : Nat) (cs : List Value) (x : α), css[i]? = some cs → l[i]? = some x → R w ok cs x) ∧ RdP w ok size A n css.flatten
theorem flatten_get {css : List (List Value)} (hs : ∀ x ∈ css, x.length = size) {k j : Nat} {cs : List Value} (h : css[k]? = some cs) (hj : j < size) : css.flatten[k * size + j]? = cs[j]? := by
 induction css generalizing k with
 | nil => simp at h
 | cons x xs ih =>
   have hx := hs x List.mem_cons_self
   rw [List.flatten_cons]
   cases k with
   | zero =>
     simp only [List.getElem?_cons_zero, Option.some.injEq] at h
     subst h
     rw [List.getElem?_append_left (by rw [hx]; omega)]
     simp
   | succ k =>
     simp only [List.getElem?_cons_succ] at h
     rw [List.getElem?_append_right (by rw [hx, Nat.add_mul]; omega), hx, show (k + 1) * size + j - size = k * size + j by rw [Nat.add_mul]; omega]
     exact ih (fun y hy => hs y (List.mem_cons_of_mem _ hy)) h
theorem flatten_len {css : List (List Value)} (hs : ∀ x ∈ css, x.length = size) : css.flatten.length = css.length * size := by
 induction css with
 | nil => simp
 | cons x xs ih => rw [List.flatten_cons, List.length_append, ih (fun y hy => hs y (List.mem_cons_of_mem _ hy)), hs x List.mem_cons_self, List.length_cons, Nat.add_mul]; omega
variable {w w' : World} {ok ok' : Nat → Prop} {A : Option Addr} {n c : Nat} {l : List α}
theorem SliceR.len (h : SliceR R size w ok A n c l) : l.length = n := h.1
theorem SliceR.cap (h : SliceR R size w ok A n c l) : n ≤ c ∧ c ≤ 9223372036854775807 := ⟨h.2.1, by have := h.2.2.1; unfold maxLen at this; exact this⟩
theorem SliceR.at_ (h : SliceR R size w ok A n c l) {k : Nat} (hk : k < n) :
 ∃ b o cs x, A = some ⟨b, o, none⟩ ∧ ok b ∧ l[k]? = some x ∧ cs.length = size ∧ R w ok cs x ∧ ∀ j v, cs[j]? = some v → w.cell? ⟨b, o + k * size + j, none⟩ = some v := by
 obtain ⟨hl, _, _, _, css, hcl, hcs, hR, hrd⟩ := h
 obtain ⟨b, o, e, hb, hc⟩ := hrd.2 (by omega)
 have hkc : css[k]? = some (css[k]'(by omega)) := List.getElem?_eq_getElem (by omega)
 have hkl : l[k]? = some (l[k]'(by omega)) := List.getElem?_eq_getElem (by omega)
 refine ⟨b, o, css[k]'(by omega), l[k]'(by omega), e, hb, hkl, hcs _ (List.getElem_mem _), hR k _ _ hkc hkl, fun j v hv => ?_⟩
 have hj : j < size := by rw [← hcs _ (List.getElem_mem (show k < css.length by omega))]; exact (List.getElem?_eq_some_iff.1 hv).1
 have := hc (k * size + j) v ((flatten_get hcs hkc hj).trans hv)
 rwa [← Nat.add_assoc] at this
theorem SliceR.car (hR : ∀ cs x, R w ok cs x → R w' ok' cs x) (h : SliceR R size w ok A n c l) (hc : Car w ok w' ok') : SliceR R size w' ok' A n c l := by
 obtain ⟨hl, h1, h2, h3, css, hcl, hcs, hr, hrd⟩ := h
 exact ⟨hl, h1, h2, h3, css, hcl, hcs, fun i cs x a b => hR _ _ (hr i cs x a b), hrd.car hc⟩
theorem SliceR.carF (hR : ∀ (w : World) (ok : Nat → Prop) (w' : World) (ok' : Nat → Prop) cs x, R w ok cs x → R w' ok' cs x) (h : SliceR R size w ok A n c l) (hc : Car w ok w' ok') : SliceR R size w' ok' A n c l := h.car (hR w ok w' ok') hc
end
def RgE (x : Rg) : List Value := [.int .i64 x.lo, .int .i64 x.hi]
def RgR (_ : World) (_ : Nat → Prop) (cs : List Value) (x : Rg) : Prop := cs = RgE x ∧ I64 x.lo ∧ I64 x.hi
def PcE (x : Pc) : List Value := [.int .i64 x.off, .string (S x.data)]
def PcR (_ : World) (_ : Nat → Prop) (cs : List Value) (x : Pc) : Prop := cs = PcE x ∧ I64 x.off ∧ x.data.length ≤ 1099511627776
def PkE (x : Pk) : List Value := [.int .i64 x.num, .int .i64 x.time, .int .i64 x.size]
def PkR (_ : World) (_ : Nat → Prop) (cs : List Value) (x : Pk) : Prop := cs = PkE x ∧ I64 x.num ∧ I64 x.time ∧ I64 x.size
def RtE (x : Rt) : List Value := [.int .i64 x.latest, .int .i64 x.least, .int .i64 x.smooth, .int .i64 x.vary]
def RtR (_ : World) (_ : Nat → Prop) (cs : List Value) (x : Rt) : Prop := cs = RtE x ∧ I64 x.latest ∧ I64 x.least ∧ I64 x.smooth ∧ I64 x.vary
def WnE (x : Wn) : List Value := [.int .i64 x.size, .int .i64 x.thr, .int .i64 x.credit, .int .i64 x.rtt]
def WnR (_ : World) (_ : Nat → Prop) (cs : List Value) (x : Wn) : Prop := cs = WnE x ∧ I64 x.size ∧ I64 x.thr ∧ I64 x.credit ∧ I64 x.rtt
def BsR (_ : World) (_ : Nat → Prop) (cs : List Value) (x : Bs) : Prop := cs = [.string (S x)] ∧ x.length ≤ 1099511627776
def PtE (x : Pt) : List Value := [.int .i64 x.off, .string (S x.data), .bool x.fin]
def PtOk (x : Pt) : Prop := I64 x.off ∧ x.data.length ≤ 1099511627776
def CdE (x : Cd) : List Value := [.int .i64 x.path, .int .i64 x.num, .int .i64 x.stream, .int .i64 x.part.off, .string (S x.part.data), .bool x.part.fin]
def CdR (_ : World) (_ : Nat → Prop) (cs : List Value) (x : Cd) : Prop := cs = CdE x ∧ I64 x.path ∧ I64 x.num ∧ I64 x.stream ∧ PtOk x.part
abbrev RgS := SliceR RgR 2
def SdR (w : World) (ok : Nat → Prop) (cs : List Value) (x : Sd) : Prop := ∃ A n c A' n' c', cs = [.string (S x.data), .bool x.fin, .int .i64 x.limit, .int .i64 x.next, .slice A n c, .slice A' n' c'] ∧
 x.data.length ≤ 1099511627776 ∧ I64 x.limit ∧ I64 x.next ∧ RgS w ok A n c x.acked ∧ RgS w ok A' n' c' x.lost
def RvR (w : World) (ok : Nat → Prop) (cs : List Value) (x : Rv) : Prop := ∃ A n c, cs = [.int .i64 x.read, .slice A n c, .int .i64 x.final, .int .i64 x.limit] ∧ I64 x.read ∧ I64 x.final ∧ I64 x.limit ∧ SliceR PcR 2 w ok A n c x.pieces
def LsR (w : World) (ok : Nat → Prop) (cs : List Value) (x : Ls) : Prop := ∃ A n c, cs = [.int .i64 x.next, .slice A n c, .int .i64 x.largest] ∧ I64 x.next ∧ I64 x.largest ∧ SliceR PkR 3 w ok A n c x.flight
def SnR (w : World) (ok : Nat → Prop) (cs : List Value) (x : List Rg) : Prop := ∃ A n c, cs = [.slice A n c] ∧ RgS w ok A n c x
def FmR (w : World) (ok : Nat → Prop) (cs : List Value) (x : Fm) : Prop := ∃ A n c, cs = [.int .i64 x.kind, .int .i64 x.a, .int .i64 x.b, .int .i64 x.c, .string (S x.data), .slice A n c] ∧ I64 x.kind ∧ I64 x.a ∧ I64 x.b ∧ I64 x.c ∧ x.data.length ≤ 1099511627776 ∧ RgS w ok A n c x.ranges
def WiR (w : World) (ok : Nat → Prop) (cs : List Value) (x : Wi) : Prop := ∃ A n c, cs = [.int .i64 x.path, .int .i64 x.num, .int .i64 x.frame.kind, .int .i64 x.frame.a, .int .i64 x.frame.b, .int .i64 x.frame.c, .string (S x.frame.data), .slice A n c, .bool x.genuine] ∧
 I64 x.path ∧ I64 x.num ∧ I64 x.frame.kind ∧ I64 x.frame.a ∧ I64 x.frame.b ∧ I64 x.frame.c ∧ x.frame.data.length ≤ 1099511627776 ∧ RgS w ok A n c x.frame.ranges
section
variable {w w' : World} {ok ok' : Nat → Prop} {A : Option Addr} {n c : Nat} (hc : Car w ok w' ok')
include hc
theorem rg_car {l : List Rg} (h : RgS w ok A n c l) : RgS w' ok' A n c l := h.carF (fun _ _ _ _ _ _ y => y) hc
theorem sd_car {cs : List Value} {x : Sd} (h : SdR w ok cs x) : SdR w' ok' cs x := by
 obtain ⟨A, n, c, A', n', c', e, h1, h2, h3, h4, h5⟩ := h
 exact ⟨A, n, c, A', n', c', e, h1, h2, h3, rg_car hc h4, rg_car hc h5⟩
theorem rv_car {cs : List Value} {x : Rv} (h : RvR w ok cs x) : RvR w' ok' cs x := by
 obtain ⟨A, n, c, e, h1, h2, h3, h4⟩ := h
 exact ⟨A, n, c, e, h1, h2, h3, h4.carF (fun _ _ _ _ _ _ y => y) hc⟩
theorem ls_car {cs : List Value} {x : Ls} (h : LsR w ok cs x) : LsR w' ok' cs x := by
 obtain ⟨A, n, c, e, h1, h2, h3⟩ := h
 exact ⟨A, n, c, e, h1, h2, h3.carF (fun _ _ _ _ _ _ y => y) hc⟩
theorem sn_car {cs : List Value} {x : List Rg} (h : SnR w ok cs x) : SnR w' ok' cs x := by
 obtain ⟨A, n, c, e, h1⟩ := h
 exact ⟨A, n, c, e, rg_car hc h1⟩
theorem wi_car {cs : List Value} {x : Wi} (h : WiR w ok cs x) : WiR w' ok' cs x := by
 obtain ⟨A, n, c, e, h1, h2, h3, h4, h5, h6, h7, h8⟩ := h
 exact ⟨A, n, c, e, h1, h2, h3, h4, h5, h6, h7, rg_car hc h8⟩
end
structure Hd where
 (A1 A2 A3 A4 A5 A6 A7 A8 A9 : Option Addr)
 (n1 n2 n3 n4 n5 n6 n7 n8 n9 : Nat)
 (c1 c2 c3 c4 c5 c6 c7 c8 c9 : Nat)
def Hd.cells (h : Hd) (now : Int) : List Value :=
 [.int .i64 now, .slice h.A1 h.n1 h.c1, .slice h.A2 h.n2 h.c2, .slice h.A3 h.n3 h.c3, .slice h.A4 h.n4 h.c4, .slice h.A5 h.n5 h.c5, .slice h.A6 h.n6 h.c6, .slice h.A7 h.n7 h.c7, .slice h.A8 h.n8 h.c8, .slice h.A9 h.n9 h.c9]
structure WdH (w : World) (ok : Nat → Prop) (h : Hd) (W : Wd) : Prop where
 now : I64 W.now
 sends : SliceR SdR 6 w ok h.A1 h.n1 h.c1 W.sends
 recvs : SliceR RvR 4 w ok h.A2 h.n2 h.c2 W.recvs
 got : SliceR BsR 1 w ok h.A3 h.n3 h.c3 W.got
 paths : SliceR LsR 3 w ok h.A4 h.n4 h.c4 W.paths
 rtts : SliceR RtR 4 w ok h.A5 h.n5 h.c5 W.rtts
 windows : SliceR WnR 4 w ok h.A6 h.n6 h.c6 W.windows
 seen : SliceR SnR 1 w ok h.A7 h.n7 h.c7 W.seen
 carried : SliceR CdR 6 w ok h.A8 h.n8 h.c8 W.carried
 net : SliceR WiR 9 w ok h.A9 h.n9 h.c9 W.net
theorem WdH.car {w w' : World} {ok ok' : Nat → Prop} {h : Hd} {W : Wd} (x : WdH w ok h W) (hc : Car w ok w' ok') : WdH w' ok' h W :=
 ⟨x.now, x.sends.car (fun _ _ => sd_car hc) hc, x.recvs.car (fun _ _ => rv_car hc) hc, x.got.carF (fun _ _ _ _ _ _ y => y) hc, x.paths.car (fun _ _ => ls_car hc) hc, x.rtts.carF (fun _ _ _ _ _ _ y => y) hc,
   x.windows.carF (fun _ _ _ _ _ _ y => y) hc, x.seen.car (fun _ _ => sn_car hc) hc, x.carried.carF (fun _ _ _ _ _ _ y => y) hc, x.net.car (fun _ _ => wi_car hc) hc⟩
def dI (x : Int) : D := .sc (.int .i64 x)
def dB (x : Bool) : D := .sc (.bool x)
def dS (x : Bs) : D := .sc (.string (S x))
def dL {α : Type} [Inhabited α] (k : Nat) (e : α → List D) (l : List α) : D := .sl k l.length (fun i => e (l.getD i default))
def eRg (x : Rg) : List D := [dI x.lo, dI x.hi]
def ePc (x : Pc) : List D := [dI x.off, dS x.data]
def ePk (x : Pk) : List D := [dI x.num, dI x.time, dI x.size]
def ePt (x : Pt) : List D := [dI x.off, dS x.data, dB x.fin]
def eSd (x : Sd) : List D := [dS x.data, dB x.fin, dI x.limit, dI x.next, dL 2 eRg x.acked, dL 2 eRg x.lost]
def eRv (x : Rv) : List D := [dI x.read, dL 2 ePc x.pieces, dI x.final, dI x.limit]
def eLs (x : Ls) : List D := [dI x.next, dL 3 ePk x.flight, dI x.largest]
def eRt (x : Rt) : List D := [dI x.latest, dI x.least, dI x.smooth, dI x.vary]
def eWn (x : Wn) : List D := [dI x.size, dI x.thr, dI x.credit, dI x.rtt]
def eCd (x : Cd) : List D := [dI x.path, dI x.num, dI x.stream, dI x.part.off, dS x.part.data, dB x.part.fin]
def eFm (x : Fm) : List D := [dI x.kind, dI x.a, dI x.b, dI x.c, dS x.data, dL 2 eRg x.ranges]
def eWi (x : Wi) : List D := [dI x.path, dI x.num, dI x.frame.kind, dI x.frame.a, dI x.frame.b, dI x.frame.c, dS x.frame.data, dL 2 eRg x.frame.ranges, dB x.genuine]
def eSn (x : List Rg) : List D := [dL 2 eRg x]
def eBs (x : Bs) : List D := [dS x]
def eIn (x : Int) : List D := [dI x]
def eWd (x : Wd) : List D := [dI x.now, dL 6 eSd x.sends, dL 4 eRv x.recvs, dL 1 eBs x.got, dL 3 eLs x.paths, dL 4 eRt x.rtts, dL 4 eWn x.windows, dL 1 eSn x.seen, dL 6 eCd x.carried, dL 9 eWi x.net]
def av (l : List D) : List AV := l.map .d
def aI (x : Int) : AV := .d (dI x)
def aB (x : Bool) : AV := .d (dB x)
def aS (x : Bs) : AV := .d (dS x)
def hL {α : Type} [Inhabited α] (t k : Nat) (e : α → List D) (l : List α) : Ob := .arr t k l.length (fun i => e (l.getD i default))
theorem setB2 {g : Nat → Int} {k m : Nat} {v : Int} {row : List D} (hr : row = [dI v]) : setF (fun m => [dI (g m)]) k row m = [dI (if m = k then v else g m)] := by
 subst hr
 unfold setF
 split <;> rfl
section
variable {α : Type} [Inhabited α] {e : α → List D}
theorem cat_app {l l' : List α} {m : Nat} : catF l.length (fun i => e (l.getD i default)) (fun i => e (l'.getD i default)) m = e ((l ++ l').getD m default) := by
 unfold catF
 split
 ·rename_i h; simp only [List.getD_eq_getElem?_getD]; rw [List.getElem?_append_left h]
 ·rename_i h; simp only [List.getD_eq_getElem?_getD]; rw [List.getElem?_append_right (by omega)]
theorem cat_snoc {l : List α} {p : α} {m : Nat} (hm : m < l.length + 1) : catF l.length (fun i => e (l.getD i default)) (fun _ => e p) m = e ((l ++ [p]).getD m default) := by
 unfold catF
 split
 ·rename_i h; simp only [List.getD_eq_getElem?_getD]; rw [List.getElem?_append_left h]
 ·rename_i h
  obtain rfl : m = l.length := by omega
  simp
theorem cat_snoc2 {l : List α} {p : α} {m : Nat} {row : List D} (hm : m < l.length + 1) (hr : e p = row) : catF l.length (fun i => e (l.getD i default)) (fun _ => row) m = e ((l ++ [p]).getD m default) := by subst hr; exact cat_snoc hm
theorem cat_snoc3 {l : List α} {p : α} {n m : Nat} {f : Nat → List D} {row : List D} (hn : n = l.length) (hf : ∀ m, m < n → f m = e (l.getD m default)) (hm : m < n + 1) (hr : e p = row) : catF n f (fun _ => row) m = e ((l ++ [p]).getD m default) := by
 subst hn hr
 rw [← cat_snoc (e := e) (p := p) hm]
 unfold catF
 split
 ·rename_i h; exact hf m h
 ·rfl
theorem cat_erase {l : List α} {k m a b c : Nat} (ha : a = k) (hb : b = k + 1) (hc : c = 0) : catF a (fun i => e (l.getD (c + i) default)) (fun i => e (l.getD (b + i) default)) m = e ((l.eraseIdx k).getD m default) := by
 subst ha hb hc
 unfold catF
 simp only [List.getD_eq_getElem?_getD, List.getElem?_eraseIdx]
 by_cases h : m < a
 ·rw [if_pos h, if_pos h, Nat.zero_add]
 ·rw [if_neg h, if_neg h, show a + 1 + (m - a) = m + 1 by omega]
theorem set_get {l : List α} {k m : Nat} {p : α} (hk : k < l.length) : setF (fun i => e (l.getD i default)) k (e p) m = e ((l.set k p).getD m default) := by
 unfold setF
 simp only [List.getD_eq_getElem?_getD, List.getElem?_set]
 by_cases h : m = k
 ·subst h; simp [hk]
 ·rw [if_neg h, if_neg (Ne.symm h)]
theorem set_get2 {l : List α} {k m : Nat} {p : α} {row : List D} (hk : k < l.length) (hr : e p = row) : setF (fun i => e (l.getD i default)) k row m = e ((l.set k p).getD m default) := by subst hr; exact set_get hk
end
end Go.Proofs.YtjbhiglaginpeaaGreat
namespace Go.Proofs.YtjbhiglaginpeaaGreat
def lastHi (l : List Rg) (i : Nat) : Int := if i = 0 then -2 else (l.getD (i - 1) default).hi
def rgAt (l : List Rg) (i : Nat) : Bool := decide (lastHi l i + 2 ≤ (l.getD i default).lo) && (decide ((l.getD i default).lo ≤ (l.getD i default).hi) && decide ((l.getD i default).hi ≤ 999))
def rgTo (l : List Rg) (k : Nat) : Bool := (List.range k).all (rgAt l)
def rgValid (l : List Rg) : Bool := decide (l.length ≤ 16) && rgTo l l.length
theorem rgTo_succ (l : List Rg) (k : Nat) : rgTo l (k + 1) = (rgTo l k && rgAt l k) := by simp [rgTo, List.range_succ]
theorem rgTo_of {l : List Rg} {k n : Nat} (h : rgTo l n = true) (hk : k ≤ n) : rgTo l k = true := by
 simp only [rgTo, List.all_eq_true, List.mem_range] at h ⊢
 exact fun i hi => h i (by omega)
theorem rgTo_at {l : List Rg} {k n : Nat} (h : rgTo l n = true) (hk : k < n) : rgAt l k = true := by
 simp only [rgTo, List.all_eq_true, List.mem_range] at h
 exact h k hk
theorem rgTo_no {l : List Rg} {k n : Nat} (h : rgAt l k = false) (hk : k < n) : rgTo l n = false := by
 cases hn : rgTo l n with
 | false => rfl
 | true => rw [rgTo_at hn hk] at h; cases h
theorem rg_bd {l : List Rg} {k : Nat} (h : rgTo l k = true) : ∀ i, i < k → 0 ≤ (l.getD i default).lo ∧ (l.getD i default).lo ≤ (l.getD i default).hi ∧ (l.getD i default).hi ≤ 999 ∧ lastHi l i + 2 ≤ (l.getD i default).lo
 | 0, h0 => by
   have := rgTo_at h h0
   simp only [rgAt, lastHi, if_pos, Bool.and_eq_true, decide_eq_true_eq] at this
   simp only [lastHi, if_pos]
   omega
 | i + 1, hi => by
   have h1 := rg_bd h i (by omega)
   have := rgTo_at h hi
   simp only [rgAt, lastHi, if_neg (show i + 1 ≠ 0 by omega), Nat.add_sub_cancel, Bool.and_eq_true, decide_eq_true_eq] at this
   simp only [lastHi, if_neg (show i + 1 ≠ 0 by omega), Nat.add_sub_cancel]
   omega
def hasR (l : List Rg) (n : Int) : Bool := l.any fun r => decide (r.lo ≤ n) && decide (n ≤ r.hi)
def addM : List Rg → Int → Int → List Rg
 | [], lo, hi => [⟨lo, hi⟩]
 | r :: t, lo, hi => if r.lo ≤ hi + 1 then addM t (min lo r.lo) (max hi r.hi) else ⟨lo, hi⟩ :: r :: t
def addP : List Rg → Int → Int → List Rg
 | [], lo, hi => [⟨lo, hi⟩]
 | r :: t, lo, hi => if r.hi + 1 < lo then r :: addP t lo hi else addM (r :: t) lo hi
def remOne (r : Rg) (lo hi : Int) : List Rg := (if r.lo < lo then [⟨r.lo, min r.hi (lo - 1)⟩] else []) ++ (if hi < r.hi then [⟨max r.lo (hi + 1), r.hi⟩] else [])
def remP (l : List Rg) (lo hi : Int) : List Rg := l.flatMap fun r => remOne r lo hi
def cntP (l : List Rg) : Int := l.foldl (fun s r => s + (r.hi - r.lo + 1)) 0
def inB (x lo hi : Int) : Bool := decide (lo ≤ x) && decide (x ≤ hi)
def bl (s : Bs) : Int := (s.length : Int)
def Pc.fin (p : Pc) : Int := p.off + bl p.data
def Rv.fin (r : Rv) : Int := match r.pieces.getLast? with
 | none => r.read
 | some p => p.fin
def rvLast (r : Rv) (i : Nat) : Int := if i = 0 then r.read - 1 else (r.pieces.getD (i - 1) default).fin
def rvAt (r : Rv) (i : Nat) : Bool := !(r.pieces.getD i default).data.isEmpty && (decide (rvLast r i < (r.pieces.getD i default).off) && decide (bl (r.pieces.getD i default).data ≤ r.limit - (r.pieces.getD i default).off))
def rvTo (r : Rv) (k : Nat) : Bool := (List.range k).all (rvAt r)
def rvValid (r : Rv) : Bool := (inB r.limit 0 30 && inB r.read 0 r.limit) && (rvTo r r.pieces.length && (decide (r.final = -1) || inB r.final r.fin r.limit))
def Pc.holds (p : Pc) (x : Int) : Bool := inB x p.off (p.fin - 1)
def waits (r : Rv) (x : Int) : Option UInt8 := match r.pieces.find? (·.holds x) with
 | none => none
 | some p => some (p.data.getD (x - p.off).toNat 0)
def clash (r : Rv) (off : Int) (data : Bs) : Bool := (List.range data.length).any fun i => match waits r (off + i) with
 | none => false
 | some c => c != data.getD i 0
def joinPc (q p : Pc) : Pc :=
 let p1 : Pc := if q.off < p.off then ⟨q.off, q.data.take (p.off - q.off).toNat ++ p.data⟩ else p
 if p1.fin < q.fin then ⟨p1.off, p1.data ++ q.data.drop (p1.fin - q.off).toNat⟩ else p1
def mrgM : List Pc → Pc → List Pc
 | [], p => [p]
 | q :: t, p => if q.off ≤ p.fin then mrgM t (joinPc q p) else p :: q :: t
def mrg : List Pc → Pc → List Pc
 | [], p => [p]
 | q :: t, p => if q.fin < p.off then q :: mrg t p else mrgM (q :: t) p
def rvPut (r : Rv) (off : Int) (data : Bs) (fin : Bool) : Rv × Int :=
 let fi := off + bl data
 if r.limit < fi then (r, 1)
 else if (fin && ((decide (r.final ≠ -1) && decide (r.final ≠ fi)) || decide (fi < r.fin))) || (!fin && (decide (r.final ≠ -1) && decide (r.final < fi))) then (r, 2)
 else if clash r off data then (r, 3)
 else
  let r1 : Rv := if fin then { r with final := fi } else r
  let skip := max 0 (r.read - off)
  if skip < bl data then ({ r1 with pieces := mrg r.pieces ⟨off + skip, data.drop skip.toNat⟩ }, 0) else (r1, 0)
def rvReady (r : Rv) : Int := match r.pieces with
 | [] => 0
 | p :: _ => if r.read < p.off then 0 else bl p.data
def rvRead (r : Rv) (n : Int) : Rv × Bs :=
 let k := min n (rvReady r)
 match r.pieces with
 | [] => (r, [])
 | p :: t => if k = 0 then (r, []) else
     ({ r with read := r.read + k, pieces := if p.data.drop k.toNat = [] then t else ⟨p.off + k, p.data.drop k.toNat⟩ :: t }, p.data.take k.toNat)
def Sd.many (s : Sd) : Int := if s.fin then bl s.data + 1 else bl s.data
def topB (l : List Rg) (x : Int) : Bool := match l.getLast? with
 | none => true
 | some r => decide (r.hi < x)
def apartTo (a b : List Rg) (k : Nat) : Bool := (List.range k).all fun i => !(hasR a i && hasR b i)
def sdValid (s : Sd) : Bool :=
 (decide (bl s.data ≤ 30) && (inB s.limit 0 30 && (inB s.next 0 s.many && decide (min s.next (bl s.data) ≤ s.limit)))) &&
 ((rgValid s.acked && topB s.acked s.next) && ((rgValid s.lost && topB s.lost s.next) && apartTo s.acked s.lost s.next.toNat))
def Pt.last (p : Pt) : Int := if p.fin then p.off + bl p.data else p.off + bl p.data - 1
def sent (s : Sd) (p : Pt) : Bool :=
 ((inB p.off 0 30 && decide (p.off ≤ p.last)) && (decide (p.last < s.next) && decide (p.off ≤ bl s.data))) &&
 ((!p.fin || (s.fin && decide (p.off + bl p.data = bl s.data))) && (s.data.drop p.off.toNat).take p.data.length == p.data)
def sdWrite (s : Sd) (d : Bs) : Sd := if s.fin || decide (30 < bl s.data + bl d) then s else { s with data := s.data ++ d }
def sdNext (s : Sd) (size : Int) : Option (Sd × Pt) :=
 let first := match s.lost with | [] => s.next | r :: _ => r.lo
 let last := match s.lost with | [] => s.many - 1 | r :: _ => r.hi
 let stop := match s.lost with | [] => min (min (last + 1) (bl s.data)) s.limit | _ :: _ => min (last + 1) (bl s.data)
 let fi := max first (min stop (first + size))
 let f := decide (last = bl s.data) && (decide (fi = bl s.data) && decide (first ≤ last))
 if fi = first && !f then none
 else
  let p : Pt := ⟨first, (s.data.drop first.toNat).take (fi - first).toNat, f⟩
  match s.lost with
  | [] => some ({ s with next := p.last + 1 }, p)
  | _ :: _ => some ({ s with lost := remP s.lost first p.last }, p)
def sdAck (s : Sd) (p : Pt) : Sd := { s with acked := addP s.acked p.off p.last, lost := remP s.lost p.off p.last }
def loseTo (a : List Rg) (l : List Rg) (x : Int) : Nat → List Rg
 | 0 => l
 | k + 1 => let m := loseTo a l x k; if hasR a (x + k) then m else addP m (x + k) (x + k)
def sdLoss (s : Sd) (p : Pt) : Sd := { s with lost := loseTo s.acked s.lost p.off (p.last + 1 - p.off).toNat }
def pkAt (l : Ls) (i : Nat) : Bool :=
 let p := l.flight.getD i default
 (inB p.num 0 (l.next - 1) && (decide (p.num ≠ l.largest) && (inB p.time 0 999 && inB p.size 1 99))) &&
 (decide (i = 0) || (decide ((l.flight.getD (i - 1) default).num < p.num) && decide ((l.flight.getD (i - 1) default).time ≤ p.time)))
def pkTo (l : Ls) (k : Nat) : Bool := (List.range k).all (pkAt l)
def lsValid (l : Ls) : Bool := ((inB l.next 0 1000 && inB l.largest (-1) (l.next - 1)) && decide (l.flight.length ≤ 12)) && pkTo l l.flight.length
def lsSend (l : Ls) (time size : Int) : Option (Ls × Int) :=
 if decide (999 < l.next) || (decide (l.flight.length = 12) || (match l.flight.getLast? with | none => false | some p => decide (time < p.time))) then none
 else some ({ l with flight := l.flight ++ [⟨l.next, time, size⟩], next := l.next + 1 }, l.next)
def topOf (l : List Rg) : Int := match l.getLast? with | none => -1 | some r => r.hi
def isDone (acked : List Rg) (p : Pk) : Bool := hasR acked p.num
def isLost (acked : List Rg) (largest now delay : Int) (p : Pk) : Bool := !hasR acked p.num && (decide (p.num < largest) && (decide (p.num ≤ largest - 3) || decide (p.time ≤ now - delay)))
def lsAck (l : Ls) (acked : List Rg) (now delay : Int) : Ls × List Int × List Int :=
 let top := max l.largest (topOf acked)
 (⟨l.next, l.flight.filter fun p => !isDone acked p && !isLost acked top now delay p, top⟩, (l.flight.filter (isDone acked)).map Pk.num, (l.flight.filter (isLost acked top now delay)).map Pk.num)
def rtZero : Rt := ⟨0, 0, 0, 0⟩
def rtValid (r : Rt) : Bool := decide (r = rtZero) || ((inB r.latest 1 999 && inB r.least 1 r.latest) && (inB r.smooth 8 7999 && inB r.vary 0 3999))
def rtUpd (r : Rt) (x : Int) : Rt :=
 if r = rtZero then ⟨x, x, 8 * x, 2 * x⟩
 else ⟨x, min r.least x, r.smooth + (x - r.smooth / 8), r.vary + (max (r.smooth / 8 - x) (-(r.smooth / 8 - x)) - r.vary / 4)⟩
def rtDelay (r : Rt) : Int := let n := if r = rtZero then 100 else max (r.smooth / 8) r.latest; n + n / 8
def wnOk (x : Wn) : Bool := (inB x.size 1 64 && inB x.thr 1 64) && (inB x.credit 0 999 && inB x.rtt 1 99)
def wnsValid (l : List Wn) : Bool := l.all wnOk && inB (l.length : Int) 1 4
def wnBest (l : List Wn) : Int := l.foldl (fun b x => max b (x.size * 100000000 / (x.rtt * x.rtt))) 0
def wnSum (l : List Wn) : Int := l.foldl (fun b x => b + x.size * 10000 / x.rtt) 0
def wnInc (l : List Wn) (i : Nat) : Int := min (1000 * wnBest l / (wnSum l * wnSum l)) (1000 / (l.getD i default).size)
def wnAck (l : List Wn) (i : Nat) : List Wn :=
 let x := l.getD i default
 if x.size < x.thr then l.set i { x with size := x.size + 1 }
 else
  let c := x.credit + wnInc l i
  if 1000 ≤ c then l.set i { x with credit := c - 1000, size := min (x.size + 1) 64 } else l.set i { x with credit := c }
def wnLoss (l : List Wn) (i : Nat) : List Wn := let x := l.getD i default; let h := max 1 (x.size / 2); l.set i { x with size := h, thr := h, credit := 0 }
def fieldsOk (f : Fm) (a b c : Int) : Bool := inB f.a 0 a && (inB f.b 0 b && inB f.c 0 c)
def fmValid (f : Fm) : Bool :=
 ((decide (f.data.length ≤ 12) && (f.data.isEmpty || (decide (f.kind = 3) || decide (f.kind = 9)))) && (f.ranges.isEmpty || decide (f.kind = 2))) &&
 (if f.kind = 0 ∨ f.kind = 1 ∨ f.kind = 9 then fieldsOk f 0 0 0
  else if f.kind = 2 then fieldsOk f 3 0 0 && (!f.ranges.isEmpty && rgValid f.ranges)
  else if f.kind = 3 then fieldsOk f 2 (30 - bl f.data) 1
  else if f.kind = 4 then fieldsOk f 2 30 0
  else if f.kind = 5 ∨ f.kind = 6 then fieldsOk f 9999 0 0
  else if f.kind = 7 then fieldsOk f 15 9999 0
  else if f.kind = 8 then fieldsOk f 15 0 0
  else if f.kind = 10 then fieldsOk f 99 0 0
  else false)
def fmPart (f : Fm) : Pt := ⟨f.b, f.data, decide (f.c = 1)⟩
def Wd.sd (W : Wd) (i : Int) : Sd := W.sends.getD i.toNat default
def Wd.rv (W : Wd) (i : Int) : Rv := W.recvs.getD i.toNat default
def Wd.ls (W : Wd) (p : Int) : Ls := W.paths.getD p.toNat default
def Wd.rt (W : Wd) (p : Int) : Rt := W.rtts.getD p.toNat default
def Wd.sn (W : Wd) (p : Int) : List Rg := W.seen.getD p.toNat default
def wdZero : Wd := ⟨0, [], [], [], [], [], [], [], [], []⟩
def gotIt (s : Sd) (r : Rv) (x : Int) : Bool := if x = bl s.data then decide (r.final = x) else decide (x < r.read) || (waits r x).isSome
def gotPart (s : Sd) (r : Rv) (p : Pt) : Bool := (List.range (p.last + 1 - p.off).toNat).all fun i => gotIt s r (p.off + i)
def streamOk (s : Sd) (r : Rv) (g : Bs) : Bool :=
 ((sdValid s && rvValid r) && ((decide (bl g = r.read) && (s.data.take g.length == g)) && decide (s.limit ≤ r.limit))) &&
 ((decide (r.fin ≤ min s.next (bl s.data)) && r.pieces.all fun p => (s.data.drop p.off.toNat).take p.data.length == p.data) &&
  (((List.range s.next.toNat).all fun i => !hasR s.acked i || gotIt s r i) && (decide (r.final = -1) || (s.fin && (decide (r.final = bl s.data) && decide (s.next = bl s.data + 1))))))
def flightOk (W : Wd) (p : Int) (k : Pk) (c : Cd) : Bool :=
 (decide (k.time ≤ W.now) && ((decide (c.path = p) && decide (c.num = k.num)) && inB c.stream 0 2)) &&
 (sent (W.sd c.stream) c.part && (!hasR (W.sn p) c.num || gotPart (W.sd c.stream) (W.rv c.stream) c.part))
def flightsOk (W : Wd) (p : Int) : List Pk → List Cd → Option (List Cd)
 | [], cs => some cs
 | _ :: _, [] => none
 | k :: t, c :: cs => if flightOk W p k c then flightsOk W p t cs else none
def pathOk (W : Wd) (p : Int) : Bool := (lsValid (W.ls p) && rtValid (W.rt p)) && (rgValid (W.sn p) && topB (W.sn p) (W.ls p).next)
def pathsOk (W : Wd) : Nat → List Cd → Option (List Cd)
 | 0, cs => some cs
 | p + 1, cs => match pathsOk W p cs with
   | none => none
   | some r => if pathOk W (p : Nat) then flightsOk W (p : Nat) (W.ls (p : Nat)).flight r else none
def carAt (W : Wd) (p n : Int) : Option Nat := W.carried.findIdx? fun c => decide (c.path = p) && decide (c.num = n)
def ackOk (W : Wd) (f : Fm) : Bool := topB f.ranges (W.ls f.a).next && W.carried.all fun c => !(decide (c.path = f.a) && hasR f.ranges c.num) || gotPart (W.sd c.stream) (W.rv c.stream) c.part
def wireOk (W : Wd) (x : Wi) : Bool :=
 (inB x.path 0 3 && (fmValid x.frame && inB x.num (-1) 999)) &&
 (!x.genuine ||
  (if x.frame.kind = 3 then (inB x.num 0 ((W.ls x.path).next - 1) && sent (W.sd x.frame.a) (fmPart x.frame)) && (match carAt W x.path x.num with
    | none => true
    | some k => decide ((W.carried.getD k default).stream = x.frame.a) && decide ((W.carried.getD k default).part = fmPart x.frame))
   else if x.frame.kind = 4 then decide (x.num = -1) && decide (x.frame.b ≤ (W.rv x.frame.a).limit)
   else if x.frame.kind = 2 then decide (x.num = -1) && ackOk W x.frame
   else false))
def sizesOk (W : Wd) : Bool := (inB W.now 0 999 && (decide (W.sends.length = 3) && (decide (W.recvs.length = 3) && decide (W.got.length = 3)))) &&
 ((decide (W.paths.length = 4) && (decide (W.rtts.length = 4) && (decide (W.windows.length = 4) && decide (W.seen.length = 4)))) && (wnsValid W.windows && decide (W.net.length ≤ 10)))
def wdValid (W : Wd) : Bool :=
 (sizesOk W && (List.range 3).all fun i => streamOk (W.sends.getD i default) (W.recvs.getD i default) (W.got.getD i default)) &&
 (decide (pathsOk W 4 W.carried = some []) && W.net.all (wireOk W))
def sd0 (limit : Int) : Sd := ⟨[], false, limit, 0, [], []⟩
def rv0 (limit : Int) : Rv := ⟨0, [], -1, limit⟩
def wdNew (limit : Int) : Wd := ⟨0, List.replicate 3 (sd0 limit), List.replicate 3 (rv0 limit), List.replicate 3 [], List.replicate 4 ⟨0, [], -1⟩, List.replicate 4 rtZero, [⟨4, 8, 0, 10⟩, ⟨4, 8, 0, 20⟩, ⟨4, 8, 0, 30⟩, ⟨4, 8, 0, 40⟩], List.replicate 4 [], [], []⟩
structure Ev where
 kind : Int
 a : Int
 b : Int
 c : Int
 data : Bs
 frame : Fm
deriving DecidableEq, Inhabited
def post (W : Wd) (x : Wi) : Wd := if W.net.length < 10 then { W with net := W.net ++ [x] } else W
def dropCd (W : Wd) (p n : Int) : Option (Cd × Wd) := match carAt W p n with
 | none => none
 | some k => some (W.carried.getD k default, { W with carried := W.carried.eraseIdx k })
def loseOne (W : Wd) (p n : Int) : Wd := match dropCd W p n with
 | none => W
 | some (c, V) => { V with sends := V.sends.set c.stream.toNat (sdLoss (V.sd c.stream) c.part) }
def ackOne (W : Wd) (p n : Int) : Wd := match dropCd W p n with
 | none => W
 | some (c, V) => { V with sends := V.sends.set c.stream.toNat (sdAck (V.sd c.stream) c.part), windows := wnAck V.windows p.toNat }
def loseAll (W : Wd) (p : Int) (l : List Int) : Wd := l.foldl (fun V n => loseOne V p n) W
def ackAll (W : Wd) (p : Int) (l : List Int) : Wd := l.foldl (fun V n => ackOne V p n) W
def doTimeout (W : Wd) (p : Int) : Wd :=
 let fl := (W.ls p).flight
 let V := loseAll { W with paths := W.paths.set p.toNat { W.ls p with flight := [] } } p (fl.map Pk.num)
 if fl.isEmpty then V else { V with windows := wnLoss V.windows p.toNat }
def timeOf (fl : List Pk) (n : Int) : Option Int := (fl.find? fun k => decide (k.num = n)).map Pk.time
def doAck (W : Wd) (p : Int) (acked : List Rg) : Wd :=
 let (l, done, lost) := lsAck (W.ls p) acked W.now (rtDelay (W.rt p))
 let V := loseAll (ackAll { W with paths := W.paths.set p.toNat l } p done) p lost
 let U := if lost.isEmpty then V else { V with windows := wnLoss V.windows p.toNat }
 match done.getLast? with
 | none => U
 | some n => match timeOf (W.ls p).flight n with
   | none => U
   | some t => if t < W.now then { U with rtts := U.rtts.set p.toNat (rtUpd (W.rt p) (W.now - t)) } else U
def seenAdd (l : List Rg) (n : Int) : List Rg := let m := addP l n n; if 16 < m.length then m.drop 1 else m
def deliver (W : Wd) (x : Wi) : Wd :=
 if !x.genuine then W
 else if x.frame.kind = 3 then
  if hasR (W.sn x.path) x.num then W
  else { W with recvs := W.recvs.set x.frame.a.toNat (rvPut (W.rv x.frame.a) x.frame.b x.frame.data (decide (x.frame.c = 1))).1, seen := W.seen.set x.path.toNat (seenAdd (W.sn x.path) x.num) }
 else if x.frame.kind = 4 then { W with sends := W.sends.set x.frame.a.toNat { W.sd x.frame.a with limit := max (W.sd x.frame.a).limit x.frame.b } }
 else if x.frame.kind = 2 then doAck W x.frame.a x.frame.ranges
 else W
def doSend (W : Wd) (i p size : Int) : Wd :=
 if !(inB i 0 2 && inB p 0 3) || decide ((W.windows.getD p.toNat default).size ≤ ((W.ls p).flight.length : Int)) || !inB size 1 12 then W
 else match sdNext (W.sd i) size with
  | none => W
  | some (s, q) => match lsSend (W.ls p) W.now (5 + bl q.data) with
    | none => W
    | some (l, n) =>
      let at_ := (W.carried.takeWhile fun c => decide (c.path ≤ p)).length
      post { W with sends := W.sends.set i.toNat s, paths := W.paths.set p.toNat l, carried := W.carried.take at_ ++ ⟨p, n, i, q⟩ :: W.carried.drop at_ }
       ⟨p, n, ⟨3, i, q.off, if q.fin then 1 else 0, q.data, []⟩, true⟩
def doW (W : Wd) (e : Ev) : Wd :=
 if e.kind = 1 ∨ e.kind = 2 ∨ e.kind = 8 ∨ e.kind = 9 then
  if !inB e.a 0 2 then W
  else if e.kind = 1 then { W with sends := W.sends.set e.a.toNat (sdWrite (W.sd e.a) e.data) }
  else if e.kind = 2 then { W with sends := W.sends.set e.a.toNat { W.sd e.a with fin := true } }
  else if e.kind = 8 then
   if inB e.b 0 30 then { W with recvs := W.recvs.set e.a.toNat (rvRead (W.rv e.a) e.b).1, got := W.got.set e.a.toNat (W.got.getD e.a.toNat [] ++ (rvRead (W.rv e.a) e.b).2) } else W
  else if inB e.b (W.rv e.a).limit 30 then post { W with recvs := W.recvs.set e.a.toNat { W.rv e.a with limit := e.b } } ⟨0, -1, ⟨4, e.a, e.b, 0, [], []⟩, true⟩ else W
 else if e.kind = 3 then doSend W e.a e.b e.c
 else if e.kind = 4 ∨ e.kind = 5 ∨ e.kind = 6 then
  if !inB e.a 0 ((W.net.length : Int) - 1) then W
  else if e.kind = 6 then post W (W.net.getD e.a.toNat default)
  else if e.kind = 4 then deliver { W with net := W.net.eraseIdx e.a.toNat } (W.net.getD e.a.toNat default)
  else { W with net := W.net.eraseIdx e.a.toNat }
 else if e.kind = 7 then
  if inB e.a 0 3 && !(W.sn e.a).isEmpty then post W ⟨e.a, -1, ⟨2, e.a, 0, 0, [], W.sn e.a⟩, true⟩ else W
 else if e.kind = 10 then if inB e.a 0 3 then doTimeout W e.a else W
 else if e.kind = 11 then { W with now := min (W.now + 1) 999 }
 else if e.kind = 12 then if inB e.a 0 3 && (inB e.b 0 999 && fmValid e.frame) then post W ⟨e.a, e.b, e.frame, false⟩ else W
 else W
def playW (W : Wd) (l : List Ev) : Wd := l.foldl doW W
def rgOk : Int → List Rg → Prop
 | _, [] => True
 | last, r :: t => last + 2 ≤ r.lo ∧ r.lo ≤ r.hi ∧ r.hi ≤ 999 ∧ rgOk r.hi t
theorem rgOk_low : ∀ (l : List Rg) (a b : Int), rgOk a l → b ≤ a → rgOk b l
 | [], _, _, _, _ => trivial
 | r :: t, a, b, h, hb => ⟨by have := h.1; omega, h.2⟩
theorem rgTo_iff (l : List Rg) : rgTo l l.length = true ↔ rgOk (-2) l := by
 have key : ∀ (l : List Rg) (last : Int), (∀ i, i < l.length → (if i = 0 then last else (l.getD (i - 1) default).hi) + 2 ≤ (l.getD i default).lo ∧ (l.getD i default).lo ≤ (l.getD i default).hi ∧ (l.getD i default).hi ≤ 999) ↔ rgOk last l := by
  intro l
  induction l with
  | nil => intro last; simp [rgOk]
  | cons r t ih =>
    intro last
    simp only [rgOk]
    rw [← ih r.hi]
    constructor
    ·intro h
     have h0 := h 0 (by simp)
     simp only [if_pos, List.getD_cons_zero] at h0
     refine ⟨h0.1, h0.2.1, h0.2.2, fun i hi => ?_⟩
     have h1 := h (i + 1) (by simp; omega)
     simp only [if_neg (show i + 1 ≠ 0 by omega), Nat.add_sub_cancel, List.getD_cons_succ] at h1
     by_cases hi0 : i = 0
     ·subst hi0; simpa using h1
     ·rw [if_neg hi0]
      have e : (r :: t).getD i default = t.getD (i - 1) default := by
       obtain ⟨j, rfl⟩ : ∃ j, i = j + 1 := ⟨i - 1, by omega⟩
       rw [List.getD_cons_succ, Nat.add_sub_cancel]
      rw [e] at h1
      exact h1
    ·rintro ⟨h1, h2, h3, h4⟩ i hi
     by_cases hi0 : i = 0
     ·subst hi0; simp only [if_pos, List.getD_cons_zero]; exact ⟨h1, h2, h3⟩
     ·obtain ⟨j, rfl⟩ : ∃ j, i = j + 1 := ⟨i - 1, by omega⟩
      have h5 := h4 j (by simp at hi; omega)
      rw [if_neg hi0, Nat.add_sub_cancel, List.getD_cons_succ]
      by_cases hj0 : j = 0
      ·subst hj0; simpa using h5
      ·rw [if_neg hj0] at h5
       obtain ⟨m, rfl⟩ : ∃ m, j = m + 1 := ⟨j - 1, by omega⟩
       rw [List.getD_cons_succ]
       simpa using h5
 rw [← key l (-2)]
 simp only [rgTo, List.all_eq_true, List.mem_range, rgAt, lastHi]
 constructor <;> intro h i hi <;> have := h i hi <;> simpa using this
theorem rgValid_iff (l : List Rg) : rgValid l = true ↔ l.length ≤ 16 ∧ rgOk (-2) l := by
 rw [rgValid, Bool.and_eq_true, rgTo_iff, decide_eq_true_eq]
theorem hasR_nil (n : Int) : hasR [] n = false := rfl
theorem hasR_cons (r : Rg) (t : List Rg) (n : Int) : hasR (r :: t) n = true ↔ (r.lo ≤ n ∧ n ≤ r.hi) ∨ hasR t n = true := by
 simp [hasR]
theorem hasR_low : ∀ {l : List Rg} {last n : Int}, rgOk last l → hasR l n = true → last + 2 ≤ n
 | [], _, _, _, h => by simp [hasR_nil] at h
 | r :: t, last, n, ok, h => by
   rw [hasR_cons] at h
   rcases h with h | h
   ·have := ok.1; omega
   ·have := hasR_low ok.2.2.2 h
    have := ok.1
    have := ok.2.1
    omega
theorem addM_ok : ∀ (l : List Rg) (last lo hi : Int), rgOk last l → last + 2 ≤ lo → lo ≤ hi → hi ≤ 999 → rgOk last (addM l lo hi)
 | [], last, lo, hi, _, h1, h2, h3 => ⟨h1, h2, h3, trivial⟩
 | r :: t, last, lo, hi, ok, h1, h2, h3 => by
   obtain ⟨a, b, c, d⟩ := ok
   unfold addM
   split
   ·exact addM_ok t last _ _ (rgOk_low t _ _ d (by omega)) (by omega) (by omega) (by omega)
   ·rename_i hn
    exact ⟨h1, h2, h3, (show hi + 2 ≤ r.lo by omega), b, c, d⟩
theorem hasR_addM : ∀ (l : List Rg) (last lo hi n : Int), rgOk last l → lo ≤ hi → (∀ r ∈ l.head?, lo ≤ r.hi + 1) → (hasR (addM l lo hi) n = true ↔ hasR l n = true ∨ (lo ≤ n ∧ n ≤ hi))
 | [], last, lo, hi, n, _, _, _ => by simp [addM, hasR]
 | r :: t, last, lo, hi, n, ok, h1, h2 => by
   obtain ⟨a, b, c, d⟩ := ok
   have h2' := h2 r rfl
   unfold addM
   split
   ·rename_i hr
    rw [hasR_addM t r.hi _ _ n d (by omega) (fun x hx => by
     cases t with
     | nil => simp at hx
     | cons y ys => simp at hx; subst hx; have := d.1; have := d.2.1; omega), hasR_cons]
    constructor
    ·rintro (h | h)
     ·exact .inl (.inr h)
     ·by_cases hh : lo ≤ n ∧ n ≤ hi
      ·exact .inr hh
      ·exact .inl (.inl (by omega))
    ·rintro ((h | h) | h)
     ·exact .inr (by omega)
     ·exact .inl h
     ·exact .inr (by omega)
   ·rw [hasR_cons, hasR_cons]
    simp only
    constructor
    ·rintro (h | h | h)
     ·exact .inr h
     ·exact .inl (.inl h)
     ·exact .inl (.inr h)
    ·rintro ((h | h) | h)
     ·exact .inr (.inl h)
     ·exact .inr (.inr h)
     ·exact .inl h
theorem addP_ok : ∀ (l : List Rg) (last lo hi : Int), rgOk last l → last + 2 ≤ lo → lo ≤ hi → hi ≤ 999 → rgOk last (addP l lo hi)
 | [], last, lo, hi, _, h1, h2, h3 => ⟨h1, h2, h3, trivial⟩
 | r :: t, last, lo, hi, ok, h1, h2, h3 => by
   unfold addP
   split
   ·exact ⟨ok.1, ok.2.1, ok.2.2.1, addP_ok t _ _ _ ok.2.2.2 (by omega) h2 h3⟩
   ·exact addM_ok (r :: t) last lo hi ok h1 h2 h3
theorem hasR_addP : ∀ (l : List Rg) (last lo hi n : Int), rgOk last l → lo ≤ hi → (hasR (addP l lo hi) n = true ↔ hasR l n = true ∨ (lo ≤ n ∧ n ≤ hi))
 | [], last, lo, hi, n, _, _ => by simp [addP, hasR]
 | r :: t, last, lo, hi, n, ok, h1 => by
   unfold addP
   split
   ·rw [hasR_cons, hasR_addP t r.hi lo hi n ok.2.2.2 h1, hasR_cons]
    constructor
    ·rintro (h | h | h)
     ·exact .inl (.inl h)
     ·exact .inl (.inr h)
     ·exact .inr h
    ·rintro ((h | h) | h)
     ·exact .inl h
     ·exact .inr (.inl h)
     ·exact .inr (.inr h)
   ·exact hasR_addM (r :: t) last lo hi n ok h1 (fun x hx => by simp at hx; subst hx; omega)
theorem remP_cons (r : Rg) (t : List Rg) (lo hi : Int) : remP (r :: t) lo hi = remOne r lo hi ++ remP t lo hi := by simp [remP]
theorem remP_ok : ∀ (l : List Rg) (last lo hi : Int), rgOk last l → lo ≤ hi → rgOk last (remP l lo hi)
 | [], _, _, _, _, _ => trivial
 | r :: t, last, lo, hi, ok, h1 => by
   obtain ⟨a, b, c, d⟩ := ok
   rw [remP_cons]
   have ht := remP_ok t r.hi lo hi d h1
   unfold remOne
   by_cases h2 : r.lo < lo
   ·by_cases h3 : hi < r.hi
    ·rw [if_pos h2, if_pos h3]
     simp only [List.cons_append, List.nil_append, rgOk]
     refine ⟨a, by omega, by omega, by omega, by omega, c, ht⟩
    ·rw [if_pos h2, if_neg h3]
     simp only [List.cons_append, List.nil_append, rgOk]
     exact ⟨a, by omega, by omega, rgOk_low _ _ _ ht (by omega)⟩
   ·by_cases h3 : hi < r.hi
    ·rw [if_neg h2, if_pos h3]
     simp only [List.cons_append, List.nil_append, rgOk]
     exact ⟨by omega, by omega, c, ht⟩
    ·rw [if_neg h2, if_neg h3]
     exact rgOk_low _ _ _ ht (by omega)
theorem hasR_append (a b : List Rg) (n : Int) : hasR (a ++ b) n = true ↔ hasR a n = true ∨ hasR b n = true := by simp [hasR]
theorem hasR_remP : ∀ (l : List Rg) (last lo hi n : Int), rgOk last l → lo ≤ hi → (hasR (remP l lo hi) n = true ↔ hasR l n = true ∧ ¬ (lo ≤ n ∧ n ≤ hi))
 | [], _, _, _, _, _, _ => by simp [remP, hasR]
 | r :: t, last, lo, hi, n, ok, h1 => by
   obtain ⟨a, b, c, d⟩ := ok
   rw [remP_cons, hasR_append, hasR_remP t r.hi lo hi n d h1, hasR_cons]
   have h4 : hasR (remOne r lo hi) n = true ↔ (r.lo ≤ n ∧ n ≤ r.hi) ∧ ¬ (lo ≤ n ∧ n ≤ hi) := by
    unfold remOne
    by_cases h2 : r.lo < lo
    ·by_cases h3 : hi < r.hi
     ·rw [if_pos h2, if_pos h3]
      simp [hasR]; omega
     ·rw [if_pos h2, if_neg h3]
      simp [hasR]; omega
    ·by_cases h3 : hi < r.hi
     ·rw [if_neg h2, if_pos h3]
      simp [hasR]; omega
     ·rw [if_neg h2, if_neg h3]
      simp [hasR]; omega
   rw [h4]
   constructor
   ·rintro (h | h)
    ·exact ⟨.inl h.1, h.2⟩
    ·exact ⟨.inr h.1, h.2⟩
   ·rintro ⟨h | h, h'⟩
    ·exact .inl ⟨h, h'⟩
    ·exact .inr ⟨h, h'⟩
def rgBelow (l : List Rg) (x : Int) : Prop := ∀ r ∈ l, r.hi < x
theorem topB_iff : ∀ (l : List Rg) (last x : Int), rgOk last l → (topB l x = true ↔ rgBelow l x)
 | [], _, _, _ => by simp [topB, rgBelow]
 | [r], _, _, _ => by simp [topB, rgBelow]
 | r :: s :: t, last, x, ok => by
   have ih := topB_iff (s :: t) r.hi x ok.2.2.2
   have e : topB (r :: s :: t) x = topB (s :: t) x := by simp [topB]
   rw [e, ih]
   constructor
   ·intro h y hy
    rcases List.mem_cons.1 hy with rfl | hy
    ·have h1 := h s List.mem_cons_self
     have := ok.2.2.2.1
     have := ok.2.2.2.2.1
     omega
    ·exact h y hy
   ·intro h y hy
    exact h y (List.mem_cons_of_mem _ hy)
theorem below_has {l : List Rg} {x n : Int} (h : rgBelow l x) (hn : hasR l n = true) : n < x := by
 simp only [hasR, List.any_eq_true, Bool.and_eq_true, decide_eq_true_eq] at hn
 obtain ⟨r, hr, h1, h2⟩ := hn
 have := h r hr
 omega
theorem below_addM : ∀ (l : List Rg) (x lo hi : Int), rgBelow l x → hi < x → rgBelow (addM l lo hi) x
 | [], x, lo, hi, _, h => fun r hr => by simp [addM] at hr; subst hr; exact h
 | r :: t, x, lo, hi, hb, h => by
   unfold addM
   have hr := hb r List.mem_cons_self
   have ht : rgBelow t x := fun y hy => hb y (List.mem_cons_of_mem _ hy)
   split
   ·exact below_addM t x _ _ ht (by omega)
   ·intro y hy
    rcases List.mem_cons.1 hy with rfl | hy
    ·exact h
    ·exact hb y hy
theorem below_addP : ∀ (l : List Rg) (x lo hi : Int), rgBelow l x → hi < x → rgBelow (addP l lo hi) x
 | [], x, lo, hi, _, h => fun r hr => by simp [addP] at hr; subst hr; exact h
 | r :: t, x, lo, hi, hb, h => by
   unfold addP
   split
   ·intro y hy
    rcases List.mem_cons.1 hy with rfl | hy
    ·exact hb _ List.mem_cons_self
    ·exact below_addP t x lo hi (fun z hz => hb z (List.mem_cons_of_mem _ hz)) h y hy
   ·exact below_addM (r :: t) x lo hi hb h
theorem below_remP (l : List Rg) (x lo hi : Int) (hb : rgBelow l x) : rgBelow (remP l lo hi) x := by
 intro y hy
 simp only [remP, List.mem_flatMap, remOne, List.mem_append] at hy
 obtain ⟨r, hr, hy⟩ := hy
 have := hb r hr
 rcases hy with hy | hy
 ·split at hy
  ·simp at hy; subst hy; simp only; omega
  ·simp at hy
 ·split at hy
  ·simp at hy; subst hy; simp only; omega
  ·simp at hy
theorem rgBelow_mono {l : List Rg} {x y : Int} (h : rgBelow l x) (hxy : x ≤ y) : rgBelow l y := fun r hr => by have := h r hr; omega
theorem rg_few : ∀ (l : List Rg) (last x : Int), rgOk last l → rgBelow l x → last < x → 2 * (l.length : Int) ≤ x - last
 | [], _, _, _, _, h => by simp; omega
 | r :: t, last, x, ok, hb, h => by
   have hr := hb r List.mem_cons_self
   have ih := rg_few t r.hi x ok.2.2.2 (fun y hy => hb y (List.mem_cons_of_mem _ hy)) hr
   have := ok.1
   have := ok.2.1
   simp only [List.length_cons]
   omega
theorem addM_len : ∀ (l : List Rg) (lo hi : Int), (addM l lo hi).length ≤ l.length + 1
 | [], _, _ => by simp [addM]
 | r :: t, lo, hi => by
   unfold addM
   split
   ·have := addM_len t (min lo r.lo) (max hi r.hi); simp only [List.length_cons]; omega
   ·simp
theorem addP_len : ∀ (l : List Rg) (lo hi : Int), (addP l lo hi).length ≤ l.length + 1
 | [], _, _ => by simp [addP]
 | r :: t, lo, hi => by
   unfold addP
   split
   ·have := addP_len t lo hi; simp only [List.length_cons]; omega
   ·exact addM_len (r :: t) lo hi
theorem inB_iff {x a b : Int} : inB x a b = true ↔ a ≤ x ∧ x ≤ b := by simp [inB]
theorem bl_nonneg (l : Bs) : 0 ≤ bl l := by simp [bl]
theorem bl_append (a b : Bs) : bl (a ++ b) = bl a + bl b := by simp [bl]
structure SdOK (s : Sd) : Prop where
 len : bl s.data ≤ 30
 lim : 0 ≤ s.limit ∧ s.limit ≤ 30
 nxt : 0 ≤ s.next ∧ s.next ≤ s.many
 flow : min s.next (bl s.data) ≤ s.limit
 acked : rgOk (-2) s.acked ∧ rgBelow s.acked s.next
 lost : rgOk (-2) s.lost ∧ rgBelow s.lost s.next
 apart : ∀ x, hasR s.acked x = true → hasR s.lost x = true → False
theorem many_le {s : Sd} (h : bl s.data ≤ 30) : s.many ≤ 31 := by unfold Sd.many; split <;> omega
theorem few16 {l : List Rg} {x : Int} (h : rgOk (-2) l) (hb : rgBelow l x) (h0 : 0 ≤ x) (hx : x ≤ 31) : l.length ≤ 16 := by
 have := rg_few l (-2) x h hb (by omega)
 omega
theorem sd_iff (s : Sd) : sdValid s = true ↔ SdOK s := by
 simp only [sdValid, Bool.and_eq_true, decide_eq_true_eq, inB_iff, rgValid_iff]
 constructor
 ·rintro ⟨⟨h1, h2, h3, h4⟩, ⟨⟨_, h5⟩, h6⟩, ⟨⟨_, h7⟩, h8⟩, h9⟩
  have h6' := (topB_iff _ _ _ h5).1 h6
  have h8' := (topB_iff _ _ _ h7).1 h8
  refine ⟨h1, h2, h3, h4, ⟨h5, h6'⟩, ⟨h7, h8'⟩, fun x ha hb => ?_⟩
  have hx0 := hasR_low h5 ha
  have hx1 := below_has h6' ha
  simp only [apartTo, List.all_eq_true, List.mem_range] at h9
  have := h9 x.toNat (by omega)
  rw [show ((x.toNat : Nat) : Int) = x by omega, ha, hb] at this
  simp at this
 ·rintro ⟨h1, h2, h3, h4, ⟨h5, h6⟩, ⟨h7, h8⟩, h9⟩
  have hm := many_le h1
  refine ⟨⟨h1, h2, h3, h4⟩, ⟨⟨few16 h5 h6 h3.1 (by omega), h5⟩, (topB_iff _ _ _ h5).2 h6⟩, ⟨⟨few16 h7 h8 h3.1 (by omega), h7⟩, (topB_iff _ _ _ h7).2 h8⟩, ?_⟩
  simp only [apartTo, List.all_eq_true, List.mem_range]
  intro i _
  cases ha : hasR s.acked i with
  | false => rfl
  | true =>
    cases hb : hasR s.lost i with
    | false => rfl
    | true => exact (h9 _ ha hb).elim
def pcOk : Int → Int → List Pc → Prop
 | _, _, [] => True
 | last, lim, p :: t => p.data ≠ [] ∧ last < p.off ∧ p.fin ≤ lim ∧ pcOk p.fin lim t
theorem pcOk_low : ∀ {l : List Pc} {a b lim : Int}, pcOk a lim l → b ≤ a → pcOk b lim l
 | [], _, _, _, _, _ => trivial
 | p :: t, a, b, lim, h, hb => ⟨h.1, by have := h.2.1; omega, h.2.2⟩
theorem pcOk_lim : ∀ {l : List Pc} {a x y : Int}, pcOk a x l → x ≤ y → pcOk a y l
 | [], _, _, _, _, _ => trivial
 | p :: t, a, x, y, h, hxy => ⟨h.1, h.2.1, by have := h.2.2.1; omega, pcOk_lim h.2.2.2 hxy⟩
theorem bl_pos {d : Bs} (h : d ≠ []) : 0 < bl d := by
 unfold bl
 have := List.length_pos_iff.2 h
 omega
def Pc.get (p : Pc) (x : Int) : Option UInt8 := if x < p.off then none else p.data[(x - p.off).toNat]?
def atL (l : List Pc) (x : Int) : Option UInt8 := l.findSome? (·.get x)
theorem get_some {p : Pc} {x : Int} {b : UInt8} : p.get x = some b ↔ p.off ≤ x ∧ p.data[(x - p.off).toNat]? = some b := by
 unfold Pc.get
 by_cases h : x < p.off
 ·rw [if_pos h]; constructor
  ·intro h'; cases h'
  ·intro h'; omega
 ·rw [if_neg h]; constructor
  ·intro h'; exact ⟨by omega, h'⟩
  ·intro h'; exact h'.2
theorem get_holds (p : Pc) (x : Int) : p.get x = if p.holds x = true then some (p.data.getD (x - p.off).toNat 0) else none := by
 unfold Pc.get Pc.holds Pc.fin bl
 by_cases h : x < p.off
 ·rw [if_pos h, if_neg (by simp [inB]; omega)]
 ·rw [if_neg h]
  by_cases h2 : (x - p.off).toNat < p.data.length
  ·rw [if_pos (by simp [inB]; omega), List.getD_eq_getElem?_getD, List.getElem?_eq_getElem h2]; rfl
  ·rw [if_neg (by simp [inB]; omega), List.getElem?_eq_none (by omega)]
theorem get_isSome {p : Pc} {x : Int} : (p.get x).isSome = true ↔ p.off ≤ x ∧ x < p.fin := by
 rw [get_holds]
 have : p.holds x = true ↔ p.off ≤ x ∧ x < p.fin := by simp [Pc.holds, inB]; omega
 by_cases h : p.holds x = true
 ·rw [if_pos h]; simp [this.1 h]
 ·rw [if_neg h]
  constructor
  ·intro h'; cases h'
  ·intro h'; exact absurd (this.2 h') h
theorem get_none {p : Pc} {x : Int} : p.get x = none ↔ x < p.off ∨ p.fin ≤ x := by
 cases h : p.get x with
 | none =>
   have : ¬ (p.get x).isSome = true := by rw [h]; simp
   rw [get_isSome] at this
   simp only [true_iff]
   omega
 | some b =>
   have := get_isSome.1 (show (p.get x).isSome = true by rw [h]; rfl)
   simp only [reduceCtorEq, false_iff]
   omega
theorem atL_nil (x : Int) : atL [] x = none := rfl
theorem atL_cons (p : Pc) (t : List Pc) (x : Int) : atL (p :: t) x = (p.get x).or (atL t x) := by
 unfold atL
 rw [List.findSome?_cons]
 cases p.get x <;> rfl
theorem waits_eq (r : Rv) (x : Int) : waits r x = atL r.pieces x := by
 unfold waits
 generalize r.pieces = l
 induction l with
 | nil => rfl
 | cons p t ih =>
   rw [atL_cons, List.find?_cons, get_holds]
   cases h : p.holds x with
   | true => rfl
   | false => simpa using ih
theorem atL_bd : ∀ {l : List Pc} {last lim x : Int}, pcOk last lim l → atL l x ≠ none → last < x ∧ x < lim
 | [], _, _, _, _, h => absurd rfl h
 | p :: t, last, lim, x, ok, h => by
   rw [atL_cons] at h
   cases hp : p.get x with
   | some b =>
     have := get_isSome.1 (show (p.get x).isSome = true by rw [hp]; rfl)
     have := ok.2.1
     have := ok.2.2.1
     omega
   | none =>
     rw [hp] at h
     have := atL_bd ok.2.2.2 (by simpa using h)
     have h1 := ok.2.1
     have h2 := bl_pos ok.1
     unfold Pc.fin at this
     omega
theorem atL_low {l : List Pc} {last lim x : Int} (ok : pcOk last lim l) (h : x ≤ last) : atL l x = none := by
 cases e : atL l x with
 | none => rfl
 | some b => have := (atL_bd ok (x := x) (by rw [e]; simp)).1; omega
theorem pc_ext : ∀ {l l' : List Pc} {a b x y : Int}, pcOk a x l → pcOk b y l' → (∀ z, atL l z = atL l' z) → l = l'
 | [], [], _, _, _, _, _, _, _ => rfl
 | [], p :: t, a, b, x, y, _, ok, h => by
   have h1 := h p.off
   rw [atL_nil, atL_cons] at h1
   have := get_isSome.2 (show p.off ≤ p.off ∧ p.off < p.fin from ⟨by omega, by have := bl_pos ok.1; unfold Pc.fin; omega⟩)
   cases hp : p.get p.off with
   | none => rw [hp] at this; cases this
   | some c => rw [hp] at h1; cases h1
 | p :: t, [], a, b, x, y, ok, _, h => by
   have h1 := h p.off
   rw [atL_nil, atL_cons] at h1
   have := get_isSome.2 (show p.off ≤ p.off ∧ p.off < p.fin from ⟨by omega, by have := bl_pos ok.1; unfold Pc.fin; omega⟩)
   cases hp : p.get p.off with
   | none => rw [hp] at this; cases this
   | some c => rw [hp] at h1; cases h1
 | p :: t, q :: u, a, b, x, y, ok, ok', h => by
   have hp0 := bl_pos ok.1
   have hq0 := bl_pos ok'.1
   have key : ∀ z, atL (p :: t) z = atL (q :: u) z := h
   have someP : (atL (p :: t) p.off).isSome = true := by
    rw [atL_cons]
    have := get_isSome.2 (show p.off ≤ p.off ∧ p.off < p.fin from ⟨by omega, by unfold Pc.fin; omega⟩)
    cases hp : p.get p.off with
    | none => rw [hp] at this; cases this
    | some c => rfl
   have someQ : (atL (q :: u) q.off).isSome = true := by
    rw [atL_cons]
    have := get_isSome.2 (show q.off ≤ q.off ∧ q.off < q.fin from ⟨by omega, by unfold Pc.fin; omega⟩)
    cases hp : q.get q.off with
    | none => rw [hp] at this; cases this
    | some c => rfl
   have okp : pcOk (p.off - 1) x (p :: t) := ⟨ok.1, by omega, ok.2.2⟩
   have okq : pcOk (q.off - 1) y (q :: u) := ⟨ok'.1, by omega, ok'.2.2⟩
   have hoff : p.off = q.off := by
    have h1 := (atL_bd okq (x := p.off) (by intro e; rw [key, e] at someP; cases someP)).1
    have h2 := (atL_bd okp (x := q.off) (by intro e; rw [← key, e] at someQ; cases someQ)).1
    omega
   have okt := ok.2.2.2
   have oku := ok'.2.2.2
   have atEnd : ∀ {p : Pc} {t : List Pc} {x : Int}, pcOk p.fin x t → atL (p :: t) p.fin = none := by
    intro p t x okt
    rw [atL_cons, get_none.2 (.inr (Int.le_refl _))]
    exact atL_low okt (Int.le_refl _)
   have hfin : p.fin = q.fin := by
    rcases Int.lt_trichotomy p.fin q.fin with hlt | he | hlt
    ·have e1 := atEnd okt
     rw [key, atL_cons] at e1
     have := get_isSome.2 (show q.off ≤ p.fin ∧ p.fin < q.fin from ⟨by unfold Pc.fin; omega, hlt⟩)
     cases hp : q.get p.fin with
     | none => rw [hp] at this; cases this
     | some c => rw [hp] at e1; cases e1
    ·exact he
    ·have e1 := atEnd oku
     rw [← key, atL_cons] at e1
     have := get_isSome.2 (show p.off ≤ q.fin ∧ q.fin < p.fin from ⟨by unfold Pc.fin; omega, hlt⟩)
     cases hp : p.get q.fin with
     | none => rw [hp] at this; cases this
     | some c => rw [hp] at e1; cases e1
   have hlen : p.data.length = q.data.length := by unfold Pc.fin bl at hfin; omega
   have hdata : p.data = q.data := by
    apply List.ext_getElem hlen
    intro i h1 h2
    have e := key (p.off + i)
    rw [atL_cons, atL_cons] at e
    have g1 : p.get (p.off + i) = some p.data[i] := get_some.2 ⟨by omega, by rw [show (p.off + i - p.off).toNat = i by omega]; exact List.getElem?_eq_getElem h1⟩
    have g2 : q.get (p.off + i) = some q.data[i] := get_some.2 ⟨by omega, by rw [show (p.off + i - q.off).toNat = i by omega]; exact List.getElem?_eq_getElem h2⟩
    rw [g1, g2] at e
    simpa using e
   have hpq : p = q := by
    cases p; cases q; simp only at hoff hdata; subst hoff; subst hdata; rfl
   subst hpq
   have ht : ∀ z, atL t z = atL u z := by
    intro z
    by_cases hz : z ≤ p.fin
    ·rw [atL_low okt hz, atL_low oku hz]
    ·have e := key z
     rw [atL_cons, atL_cons, get_none.2 (.inr (by omega))] at e
     simpa using e
   rw [pc_ext okt oku ht]
theorem fin_eq (p : Pc) : p.fin = p.off + (p.data.length : Int) := rfl
theorem join_off (q p : Pc) : (joinPc q p).off = min q.off p.off := by
 unfold joinPc
 by_cases h : q.off < p.off
 ·simp only [if_pos h]; split <;> (try simp only) <;> omega
 ·simp only [if_neg h]; split <;> (try simp only) <;> omega
theorem join_fin (q p : Pc) (h1 : p.off ≤ q.fin) (h2 : q.off ≤ p.fin) : (joinPc q p).fin = max q.fin p.fin := by
 have a := fin_eq p
 have b := fin_eq q
 unfold joinPc
 by_cases h : q.off < p.off
 ·simp only [if_pos h]
  have e : (⟨q.off, q.data.take (p.off - q.off).toNat ++ p.data⟩ : Pc).fin = p.fin := by
   simp only [fin_eq, List.length_append, List.length_take]; omega
  rw [e]
  split
  ·simp only [fin_eq, List.length_append, List.length_take, List.length_drop]; omega
  ·rw [e]; omega
 ·simp only [if_neg h]
  split
  ·simp only [fin_eq, List.length_append, List.length_drop]; omega
  ·omega
theorem join_get (q p : Pc) (x : Int) (h1 : p.off ≤ q.fin) (h2 : q.off ≤ p.fin) : (joinPc q p).get x = (p.get x).or (q.get x) := by
 have a := fin_eq p
 have b := fin_eq q
 have ho := join_off q p
 have hf := join_fin q p h1 h2
 by_cases hx : x < min q.off p.off ∨ max q.fin p.fin ≤ x
 ·rw [get_none.2 (by omega), get_none.2 (show x < p.off ∨ p.fin ≤ x by omega), get_none.2 (show x < q.off ∨ q.fin ≤ x by omega)]; rfl
 ·have hin : q.off ≤ x ∧ x < q.fin ∨ p.off ≤ x ∧ x < p.fin := by omega
  unfold joinPc
  by_cases h : q.off < p.off
  ·simp only [if_pos h]
   have e : (⟨q.off, q.data.take (p.off - q.off).toNat ++ p.data⟩ : Pc).fin = p.fin := by
    simp only [fin_eq, List.length_append, List.length_take]; omega
   rw [e]
   have hl : (q.data.take (p.off - q.off).toNat).length = (p.off - q.off).toNat := by rw [List.length_take]; omega
   have hx0 : ¬ x < q.off := by omega
   have g1 : ∀ R : Bs, x < p.fin → (⟨q.off, q.data.take (p.off - q.off).toNat ++ p.data ++ R⟩ : Pc).get x = (p.get x).or (q.get x) := by
    intro R hxp
    unfold Pc.get
    simp only [if_neg hx0]
    by_cases hxo : x < p.off
    ·rw [if_pos hxo, List.append_assoc, List.getElem?_append_left (by omega), List.getElem?_take_of_lt (by omega)]; rfl
    ·rw [if_neg hxo, List.getElem?_append_left (by simp only [List.length_append]; omega), List.getElem?_append_right (by omega), hl]
     rw [show (x - q.off).toNat - (p.off - q.off).toNat = (x - p.off).toNat by omega, List.getElem?_eq_getElem (show (x - p.off).toNat < p.data.length by omega)]; rfl
   split
   ·rename_i hlt
    by_cases hxp : x < p.fin
    ·exact g1 _ hxp
    ·rw [get_none.2 (show x < p.off ∨ p.fin ≤ x by omega), Option.none_or]
     unfold Pc.get
     simp only [if_neg hx0]
     rw [List.getElem?_append_right (by simp only [List.length_append]; omega), List.getElem?_drop]
     congr 1
     simp only [List.length_append]; omega
   ·rename_i hlt
    have := g1 [] (by omega)
    rwa [List.append_nil] at this
  ·simp only [if_neg h]
   have hx0 : ¬ x < p.off := by omega
   split
   ·rename_i hlt
    by_cases hxp : x < p.fin
    ·have : (⟨p.off, p.data ++ q.data.drop (p.fin - q.off).toNat⟩ : Pc).get x = p.get x := by
      unfold Pc.get
      simp only [if_neg hx0]
      rw [List.getElem?_append_left (by omega)]
     rw [this]
     cases hg : p.get x with
     | some c => rfl
     | none => rcases get_none.1 hg with h' | h' <;> omega
    ·rw [get_none.2 (show x < p.off ∨ p.fin ≤ x by omega), Option.none_or]
     unfold Pc.get
     simp only [if_neg hx0, if_neg (show ¬ x < q.off by omega)]
     rw [List.getElem?_append_right (by omega), List.getElem?_drop]
     congr 1
     omega
   ·cases hg : p.get x with
    | some c => rfl
    | none => rcases get_none.1 hg with h' | h' <;> omega
theorem join_ne (q p : Pc) (h : p.data ≠ []) : (joinPc q p).data ≠ [] := by
 unfold joinPc
 by_cases h1 : q.off < p.off
 ·simp only [if_pos h1]; split <;> simp [h]
 ·simp only [if_neg h1]; split <;> simp [h]
theorem mrgM_all : ∀ (l : List Pc) (p : Pc) (last lim : Int), pcOk last lim l → last < p.off → p.data ≠ [] → p.fin ≤ lim → (∀ q ∈ l.head?, p.off ≤ q.fin) → pcOk last lim (mrgM l p) ∧ ∀ x, atL (mrgM l p) x = (p.get x).or (atL l x)
 | [], p, last, lim, _, h1, h2, h3, _ => ⟨⟨h2, h1, h3, trivial⟩, fun x => by rw [mrgM, atL_cons]⟩
 | q :: t, p, last, lim, ok, h1, h2, h3, h4 => by
   have h4' := h4 q rfl
   have hq := fin_eq q
   have hq0 := bl_pos ok.1
   unfold bl at hq0
   unfold mrgM
   split
   ·rename_i hle
    have ih := mrgM_all t (joinPc q p) last lim (pcOk_low ok.2.2.2 (by have := ok.2.1; omega)) (by rw [join_off]; have := ok.2.1; omega) (join_ne q p h2) (by rw [join_fin q p h4' hle]; have := ok.2.2.1; omega) (fun y hy => by
     cases t with
     | nil => simp at hy
     | cons z zs =>
       simp at hy; subst hy
       have := ok.2.2.2.2.1
       have := bl_pos ok.2.2.2.1
       unfold bl at this
       rw [join_off, fin_eq z]; omega)
    refine ⟨ih.1, fun x => ?_⟩
    rw [ih.2, join_get q p x h4' hle, atL_cons, Option.or_assoc]
   ·rename_i hle
    exact ⟨⟨h2, h1, h3, ok.1, by omega, ok.2.2⟩, fun x => by rw [atL_cons]⟩
theorem mrg_all : ∀ (l : List Pc) (p : Pc) (last lim : Int), pcOk last lim l → last < p.off → p.data ≠ [] → p.fin ≤ lim → pcOk last lim (mrg l p) ∧ ∀ x, atL (mrg l p) x = (p.get x).or (atL l x)
 | [], p, last, lim, _, h1, h2, h3 => ⟨⟨h2, h1, h3, trivial⟩, fun x => by rw [mrg, atL_cons]⟩
 | q :: t, p, last, lim, ok, h1, h2, h3 => by
   unfold mrg
   split
   ·rename_i hlt
    have ih := mrg_all t p q.fin lim ok.2.2.2 hlt h2 h3
    refine ⟨⟨ok.1, ok.2.1, ok.2.2.1, ih.1⟩, fun x => ?_⟩
    rw [atL_cons, ih.2, atL_cons]
    cases hq : q.get x with
    | none => simp
    | some c =>
      have := get_isSome.1 (show (q.get x).isSome = true by rw [hq]; rfl)
      rw [get_none.2 (show x < p.off ∨ p.fin ≤ x by omega)]; rfl
   ·rename_i hlt
    exact mrgM_all (q :: t) p last lim ok h1 h2 h3 (fun y hy => by simp at hy; subst hy; omega)
structure RvOK (r : Rv) : Prop where
 lim : 0 ≤ r.limit ∧ r.limit ≤ 30
 read : 0 ≤ r.read ∧ r.read ≤ r.limit
 pcs : pcOk (r.read - 1) r.limit r.pieces
 fin : r.final = -1 ∨ (r.fin ≤ r.final ∧ r.final ≤ r.limit)
theorem rvTo_iff (r : Rv) : rvTo r r.pieces.length = true ↔ pcOk (r.read - 1) r.limit r.pieces := by
 have key : ∀ (l : List Pc) (last : Int), (∀ i, i < l.length → (l.getD i default).data ≠ [] ∧ (if i = 0 then last else (l.getD (i - 1) default).fin) < (l.getD i default).off ∧ bl (l.getD i default).data ≤ r.limit - (l.getD i default).off) ↔ pcOk last r.limit l := by
  intro l
  induction l with
  | nil => intro last; simp [pcOk]
  | cons p t ih =>
    intro last
    simp only [pcOk]
    rw [← ih p.fin]
    constructor
    ·intro h
     have h0 := h 0 (by simp)
     simp only [if_pos, List.getD_cons_zero] at h0
     refine ⟨h0.1, h0.2.1, by have := h0.2.2; unfold Pc.fin; omega, fun i hi => ?_⟩
     have h1 := h (i + 1) (by simp; omega)
     simp only [if_neg (show i + 1 ≠ 0 by omega), Nat.add_sub_cancel, List.getD_cons_succ] at h1
     by_cases hi0 : i = 0
     ·subst hi0; simpa using h1
     ·rw [if_neg hi0]
      have e : (p :: t).getD i default = t.getD (i - 1) default := by
       obtain ⟨j, rfl⟩ : ∃ j, i = j + 1 := ⟨i - 1, by omega⟩
       rw [List.getD_cons_succ, Nat.add_sub_cancel]
      rw [e] at h1
      exact h1
    ·rintro ⟨h1, h2, h3, h4⟩ i hi
     by_cases hi0 : i = 0
     ·subst hi0; simp only [if_pos, List.getD_cons_zero]; exact ⟨h1, h2, by unfold Pc.fin at h3; omega⟩
     ·obtain ⟨j, rfl⟩ : ∃ j, i = j + 1 := ⟨i - 1, by omega⟩
      have h5 := h4 j (by simp at hi; omega)
      rw [if_neg hi0, Nat.add_sub_cancel, List.getD_cons_succ]
      by_cases hj0 : j = 0
      ·subst hj0; simpa using h5
      ·rw [if_neg hj0] at h5
       obtain ⟨m, rfl⟩ : ∃ m, j = m + 1 := ⟨j - 1, by omega⟩
       rw [List.getD_cons_succ]
       simpa using h5
 rw [← key r.pieces (r.read - 1)]
 simp only [rvTo, List.all_eq_true, List.mem_range, rvAt, Bool.and_eq_true, Bool.not_eq_true', List.isEmpty_eq_false_iff, decide_eq_true_eq, ne_eq]
 simp only [rvLast]
theorem rv_iff (r : Rv) : rvValid r = true ↔ RvOK r := by
 simp only [rvValid, Bool.and_eq_true, Bool.or_eq_true, decide_eq_true_eq, inB_iff, rvTo_iff]
 constructor
 ·rintro ⟨⟨h1, h2⟩, h3, h4⟩; exact ⟨h1, h2, h3, h4⟩
 ·rintro ⟨h1, h2, h3, h4⟩; exact ⟨⟨h1, h2⟩, h3, h4⟩
theorem fin_le : ∀ {l : List Pc} {last lim : Int}, pcOk last lim l → last ≤ lim → (match l.getLast? with | none => last | some p => p.fin) ≤ lim
 | [], _, _, _, h => h
 | [p], _, _, ok, _ => ok.2.2.1
 | p :: q :: t, _, lim, ok, _ => by
   have := fin_le ok.2.2.2 ok.2.2.1
   rw [List.getLast?_cons_cons]
   cases h : (q :: t).getLast? with
   | none => simp at h
   | some z => rw [h] at this; exact this
theorem fin_last : ∀ {l : List Pc} {last lim : Int}, pcOk last lim l → l ≠ [] → ∃ p, l.getLast? = some p ∧ last < p.fin ∧ atL l (p.fin - 1) ≠ none ∧ ∀ x, atL l x ≠ none → x < p.fin
 | [], _, _, _, h => absurd rfl h
 | [p], last, lim, ok, _ => by
   have := bl_pos ok.1
   refine ⟨p, rfl, by have := ok.2.1; unfold Pc.fin; omega, ?_, fun x hx => ?_⟩
   ·rw [atL_cons, atL_nil]
    have := get_isSome.2 (show p.off ≤ p.fin - 1 ∧ p.fin - 1 < p.fin from ⟨by unfold Pc.fin; omega, by omega⟩)
    intro e
    cases hp : p.get (p.fin - 1) with
    | none => rw [hp] at this; cases this
    | some c => rw [hp] at e; cases e
   ·rw [atL_cons, atL_nil, Option.or_none] at hx
    cases hp : p.get x with
    | none => exact absurd hp hx
    | some c => exact (get_isSome.1 (show (p.get x).isSome = true by rw [hp]; rfl)).2
 | p :: q :: t, last, lim, ok, _ => by
   obtain ⟨z, h1, h2, h3, h4⟩ := fin_last ok.2.2.2 (by simp)
   have hp0 := bl_pos ok.1
   have h21 := ok.2.1
   refine ⟨z, by rw [List.getLast?_cons_cons]; exact h1, by unfold Pc.fin at h2 ⊢; omega, ?_, fun x hx => ?_⟩
   ·rw [atL_cons, get_none.2 (.inr (by omega))]; simpa using h3
   ·rw [atL_cons] at hx
    cases hp : p.get x with
    | none => rw [hp] at hx; exact h4 x (by simpa using hx)
    | some c => have := (get_isSome.1 (show (p.get x).isSome = true by rw [hp]; rfl)).2; omega
theorem fin_bd {r : Rv} (hr : r.read ≤ r.limit) (hp : pcOk (r.read - 1) r.limit r.pieces) : r.read ≤ r.fin ∧ r.fin ≤ r.limit ∧ (∀ x, atL r.pieces x ≠ none → r.read ≤ x ∧ x < r.fin) ∧ (r.read < r.fin → atL r.pieces (r.fin - 1) ≠ none) := by
 unfold Rv.fin
 by_cases hn : r.pieces = []
 ·rw [hn]
  simp only [List.getLast?_nil]
  exact ⟨by omega, hr, fun x hx => absurd rfl hx, fun h' => by omega⟩
 ·obtain ⟨p, h1, h2, h3, h4⟩ := fin_last hp hn
  have h5 := fin_le hp (by omega)
  rw [h1] at h5 ⊢
  simp only at h5 ⊢
  exact ⟨by omega, h5, fun x hx => ⟨by have := (atL_bd hp hx).1; omega, h4 x hx⟩, fun _ => h3⟩
theorem fin_char {r : Rv} (hr : r.read ≤ r.limit) (hp : pcOk (r.read - 1) r.limit r.pieces) (B : Int) : r.fin ≤ B ↔ r.read ≤ B ∧ ∀ x, atL r.pieces x ≠ none → x < B := by
 obtain ⟨h1, h2, h3, h4⟩ := fin_bd hr hp
 constructor
 ·intro h; exact ⟨by omega, fun x hx => by have := (h3 x hx).2; omega⟩
 ·rintro ⟨a, b⟩
  by_cases hlt : r.read < r.fin
  ·have := b _ (h4 hlt); omega
  ·omega
end Go.Proofs.YtjbhiglaginpeaaGreat
namespace Go.Proofs.YtjbhiglaginpeaaGreat
open Go.RowKit
theorem stp {p q : Prop} (h : q) (a : q → p := by
 intro h
 first
 | (apply K.g0; (first
   | (apply K.load; (first | refine lk_load1 rfl rfl rfl rfl h | refine lk_load1D rfl rfl rfl h | refine lk_loadA rfl rfl (Nat.le_of_ble_eq_true rfl) rfl h | refine lk_loadAD rfl (Nat.le_of_ble_eq_true rfl) rfl h | refine lk_load1E rfl rfl (by omega) rfl rfl h | refine lk_loadAE rfl rfl (by omega) (Nat.le_of_ble_eq_true rfl) rfl h))
   | (apply K.nilCheck; (first | refine lk_nilCk rfl rfl h | refine lk_nilCkE rfl rfl h))
   | (apply K.fieldAddr; (first | refine lk_fieldAddr rfl rfl h | refine lk_fieldAddrD rfl rfl h | refine lk_fieldAddrE rfl rfl h))
   | (apply K.binOp; (first | refine lk_cmp rfl rfl rfl rfl h | refine lk_ari rfl rfl rfl (inR_i64 ⟨by omega, by omega⟩) rfl h | refine lk_cmpS rfl rfl rfl rfl h | refine lk_cmpB rfl rfl rfl rfl h | refine lk_cat rfl rfl (by first | omega | (simp only [List.length_append, List.length_cons, List.length_nil]; omega) | (simp only [List.length_append, List.length_cons, List.length_nil, List.length_map]; omega)) rfl h | refine lk_quo rfl rfl (by omega) (by omega) (inR_i64 ⟨by omega, by omega⟩) rfl h))
   | (apply K.indexAddr; (first | refine lk_indexD0 rfl rfl (by omega) rfl h | refine lk_indexO0 rfl rfl rfl (by omega) rfl h | refine lk_indexD rfl rfl _ rfl (by omega) rfl h | refine lk_indexO rfl rfl rfl _ rfl (by omega) rfl h | refine lk_indexDz rfl rfl (by omega) (by omega) rfl h | refine lk_indexOz rfl rfl rfl (by omega) (by omega) rfl h))
   | (apply K.callB; (first | refine lk_lenD rfl rfl h | refine lk_lenS rfl rfl h | refine lk_lenO rfl rfl h | refine lk_min2 rfl rfl rfl h | refine lk_min3 rfl rfl rfl rfl h | refine lk_max2 rfl rfl rfl h | refine lk_appE rfl rfl (by (first | exact Src.d | exact Src.own rfl (Nat.le_refl _) | exact Src.emp)) (by omega) rfl rfl h | refine lk_appO rfl rfl rfl (by (first | exact Src.d | exact Src.own rfl (Nat.le_refl _) | exact Src.emp)) (by omega) rfl rfl h))
   | (apply K.move; refine lk_move rfl rfl h)
   | (apply K.assign; refine lk_assign rfl rfl h)
   | (apply K.extract; refine lk_extract rfl rfl rfl h)
   | (apply K.index; refine lk_atS rfl rfl _ rfl (by omega) rfl h)
   | (apply K.store; (first | refine R.st rfl rfl rfl rfl rfl rfl rfl rfl rfl rfl h | refine R.stEd rfl rfl rfl rfl rfl rfl (by omega) rfl rfl rfl rfl h))
   | (apply K.convert; (first | refine lk_conv rfl (inR_i64 ⟨by omega, by omega⟩) rfl h | refine lk_conv rfl (inR_u8 ⟨by omega, by omega⟩) rfl h | refine lk_conv rfl (inR_i64 (u8_bd _)) rfl h | refine lk_str1 rfl rfl rfl rfl rfl h))
   | (apply K.pick; (first | refine lk_pickT rfl rfl rfl h | refine lk_pickF rfl rfl rfl h | refine lk_pickTh rfl (by assumption) rfl rfl h | refine lk_pickFh rfl (by assumption) rfl rfl h))
   | (apply K.unOp; (first | refine lk_not rfl rfl h | refine lk_neg rfl (inR_i64 ⟨by omega, by omega⟩) rfl h))
   | (apply K.build; refine lk_build rfl rfl rfl h)
   | (apply K.buildSlice; (first | refine lk_slice0 rfl h | refine lk_slice1d rfl rfl rfl rfl rfl h | refine lk_slice1F rfl (by (repeat' (first | exact LeFs.nil | exact LeF.c LeC.dd | exact LeF.c (LeC.sc rfl) | exact LeF.c LeC.empd | exact LeF.f0 rfl | exact LeF.f1 rfl (by first | (simp; done) | (rw [List.length_eraseIdx_of_lt (by omega)]; omega)) (fun _ hm => (by first | exact cat_snoc2 hm rfl | exact cat_app | exact set_get2 (by omega) rfl | exact cat_erase (by omega) (by omega) (by omega))) | apply LeFs.cons | apply LeF.ag | exact LeF.c LeC.same | exact LeF.c (LeC.sc (congrArg (Value.int .i64) (by omega))) | exact LeF.c LeC.un)); first | done | fail) (by rfl) (by rfl) rfl rfl h | refine lk_sliceN rfl rfl rfl rfl rfl rfl rfl h))
   | (apply K.slice; (first | refine lk_partS0 rfl (by first | exact Bd.no | exact Bd.yes rfl) (by omega) (by omega) rfl h | refine lk_partS1 rfl (by first | exact Bd.no | exact Bd.yes rfl) (by omega) (by omega) rfl h | refine lk_partS rfl (by first | exact Bd.no | exact Bd.yes rfl) (by first | exact Bd.no | exact Bd.yes rfl) (by omega) (by omega) (by omega) rfl h | refine lk_partD rfl (by first | exact Bd.no | exact Bd.yes rfl) (by first | exact Bd.no | exact Bd.yes rfl) (by omega) (by omega) (by omega) rfl h | refine lk_partO rfl rfl (by first | exact Bd.no | exact Bd.yes rfl) (by first | exact Bd.no | exact Bd.yes rfl) (by omega) (by omega) rfl h))
   | (apply K.box; refine lk_box rfl (List.cons_ne_nil _ _) rfl rfl rfl h)
   | (apply K.alloc; refine lk_alloc rfl rfl rfl h)
   | (apply K.makeSlice; refine lk_make1 rfl rfl (by omega) (by omega) rfl rfl rfl h)))
 | (apply KA.g0; (first
   | (apply KA.load; (first | refine ak_load1 rfl rfl rfl rfl h | refine ak_load1D rfl rfl rfl h | refine ak_loadA rfl rfl (Nat.le_of_ble_eq_true rfl) rfl h | refine ak_loadAD rfl (Nat.le_of_ble_eq_true rfl) rfl h | refine ak_load1E rfl rfl (by omega) rfl rfl h | refine ak_loadAE rfl rfl (by omega) (Nat.le_of_ble_eq_true rfl) rfl h))
   | (apply KA.nilCheck; (first | refine ak_nilCk rfl rfl h | refine ak_nilCkE rfl rfl h))
   | (apply KA.fieldAddr; (first | refine ak_fieldAddr rfl rfl h | refine ak_fieldAddrD rfl rfl h | refine ak_fieldAddrE rfl rfl h))
   | (apply KA.binOp; (first | refine ak_cmp rfl rfl rfl rfl h | refine ak_ari rfl rfl rfl (inR_i64 ⟨by omega, by omega⟩) rfl h | refine ak_cat rfl rfl (by first | omega | (simp only [List.length_append, List.length_cons, List.length_nil]; omega) | (simp only [List.length_append, List.length_cons, List.length_nil, List.length_map]; omega)) rfl h | refine ak_quo rfl rfl (by omega) (by omega) (inR_i64 ⟨by omega, by omega⟩) rfl h))
   | (apply KA.indexAddr; (first | refine ak_indexD0 rfl rfl (by omega) rfl h | refine ak_indexD rfl rfl _ rfl (by omega) rfl h | refine ak_indexO rfl rfl rfl _ rfl (by omega) rfl h | refine ak_indexDz rfl rfl (by omega) (by omega) rfl h | refine ak_indexOz rfl rfl rfl (by omega) (by omega) rfl h))
   | (apply KA.callB; (first | refine ak_lenD rfl rfl h | refine ak_lenS rfl rfl h | refine ak_lenO rfl rfl h | refine ak_min2 rfl rfl rfl h | refine ak_max2 rfl rfl rfl h | refine ak_appE rfl rfl (by (first | exact Src.d | exact Src.own rfl (Nat.le_refl _) | exact Src.emp)) (by omega) rfl h | refine ak_appO rfl rfl rfl (by (first | exact Src.d | exact Src.own rfl (Nat.le_refl _) | exact Src.emp)) (by omega) rfl h))
   | (apply KA.move; refine ak_move rfl rfl h)
   | (apply KA.assign; refine ak_assign rfl rfl h)
   | (apply KA.extract; refine ak_extract rfl rfl rfl h)
   | (apply KA.index; refine ak_atS rfl rfl _ rfl (by omega) rfl h)
   | (apply KA.store; refine DR.cons (OTg.store rfl rfl rfl rfl rfl rfl rfl rfl rfl rfl) rfl h)
   | (apply KA.convert; (first | refine ak_conv rfl (inR_i64 ⟨by omega, by omega⟩) rfl h | refine ak_conv rfl (inR_u8 ⟨by omega, by omega⟩) rfl h | refine ak_conv rfl (inR_i64 (u8_bd _)) rfl h))
   | (apply KA.pick; (first | refine ak_pickT rfl rfl rfl h | refine ak_pickF rfl rfl rfl h | refine ak_pickTh rfl (by assumption) rfl rfl h | refine ak_pickFh rfl (by assumption) rfl rfl h))
   | (apply KA.unOp; (refine ak_not rfl rfl h))
   | (apply KA.build; refine ak_build rfl rfl rfl h)
   | (apply KA.buildSlice; (first | refine ak_slice0 rfl h | refine ak_slice1d rfl rfl rfl rfl h | refine ak_slice1F rfl (by (repeat' (first | exact LeFs.nil | exact LeF.c LeC.dd | exact LeF.c (LeC.sc rfl) | exact LeF.c LeC.empd | exact LeF.f0 rfl | exact LeF.f1 rfl (by first | (simp; done) | (rw [List.length_eraseIdx_of_lt (by omega)]; omega)) (fun _ hm => (by first | exact cat_snoc2 hm rfl | exact cat_app | exact set_get2 (by omega) rfl | exact cat_erase (by omega) (by omega) (by omega))) | apply LeFs.cons | apply LeF.ag | exact LeF.c LeC.same | exact LeF.c (LeC.sc (congrArg (Value.int .i64) (by omega))) | exact LeF.c LeC.un)); first | done | fail) (by rfl) (by rfl) (by rfl) h | refine ak_sliceN rfl rfl rfl rfl rfl rfl h))
   | (apply KA.slice; (first | refine ak_partS0 rfl (by first | exact Bd.no | exact Bd.yes rfl) (by omega) (by omega) rfl h | refine ak_partS1 rfl (by first | exact Bd.no | exact Bd.yes rfl) (by omega) (by omega) rfl h | refine ak_partS rfl (by first | exact Bd.no | exact Bd.yes rfl) (by first | exact Bd.no | exact Bd.yes rfl) (by omega) (by omega) (by omega) rfl h | refine ak_partD rfl (by first | exact Bd.no | exact Bd.yes rfl) (by first | exact Bd.no | exact Bd.yes rfl) (by omega) (by omega) (by omega) rfl h | refine ak_partO rfl rfl (by first | exact Bd.no | exact Bd.yes rfl) (by first | exact Bd.no | exact Bd.yes rfl) (by omega) (by omega) rfl h))
   | (apply KA.alloc; refine ak_alloc rfl rfl h)
   | (fail)))
 | refine Mv.no rfl h
 | refine Mv.yes rfl h
 | exact Mv.nil h
 | exact Bk.step h
 | exact Bk.nil h
 | exact Ee.some h
 | exact Ee.none h
 | exact Ee.nil h
 | exact Hh.triv h
 | exact Hh.gen h
 | exact Hh.nil h
 | exact WC.seq h
 | exact WC.list h
 | exact WL.nil h
 | exact thenQ.n h
 | exact thenQ.r h
 | exact thenQ.e h
 | exact blockQ.n h
 | exact blockQ.r h
 | exact blockQ.x h
 | refine blockQ.o rfl h
 | exact loopQ.r h
 | exact loopQ.e h
 | exact retQ.r h
 | exact retQ.n h
 | exact retH.r h
 | exact retH.n h
 | exact WC.block h
 | exact WC.skip h
 | exact WC.exit h
 | exact WC.ret h
 | refine WC.condT rfl (by first | assumption | (simp only [decide_eq_true_eq, beq_iff_eq, bne_iff_ne, ne_eq]; omega) | rfl) h
 | refine WC.condF rfl (by first | assumption | (simp only [decide_eq_false_iff_not, beq_eq_false_iff_ne, bne_eq_false_iff_eq, ne_eq]; omega) | rfl) h
 | (apply K.g1; (first
   | refine R.gU rfl rfl rfl rfl rfl rfl h
   | refine R.gF rfl rfl rfl rfl rfl (by first | rfl | assumption) rfl h
   | (apply K.load; (first | refine lt_load1 rfl rfl rfl (by first | rfl | assumption) rfl rfl rfl rfl h | refine lt_load1D rfl rfl rfl (by first | rfl | assumption) rfl rfl rfl h | refine lt_loadA rfl rfl rfl (by first | rfl | assumption) rfl rfl (Nat.le_of_ble_eq_true rfl) rfl h | refine lt_loadAD rfl rfl rfl (by first | rfl | assumption) rfl (Nat.le_of_ble_eq_true rfl) rfl h | refine lt_load1E rfl rfl rfl (by first | rfl | assumption) rfl rfl (by omega) rfl rfl h))
   | (apply K.nilCheck; (refine lt_nilCk rfl rfl rfl (by first | rfl | assumption) rfl rfl h))
   | (apply K.fieldAddr; (first | refine lt_fieldAddr rfl rfl rfl (by first | rfl | assumption) rfl rfl h | refine lt_fieldAddrD rfl rfl rfl (by first | rfl | assumption) rfl rfl h | refine lt_fieldAddrE rfl rfl rfl (by first | rfl | assumption) rfl rfl h))
   | (apply K.binOp; (first | refine lt_cmp rfl rfl rfl (by first | rfl | assumption) rfl rfl rfl rfl h | refine lt_ari rfl rfl rfl (by first | rfl | assumption) rfl rfl rfl (inR_i64 ⟨by omega, by omega⟩) rfl h | refine lt_cmpS rfl rfl rfl (by first | rfl | assumption) rfl rfl rfl rfl h | refine lt_cmpB rfl rfl rfl (by first | rfl | assumption) rfl rfl rfl rfl h))
   | (apply K.indexAddr; (first | refine lt_indexD rfl rfl rfl (by first | rfl | assumption) rfl rfl _ rfl (by omega) rfl h | refine lt_indexO rfl rfl rfl (by first | rfl | assumption) rfl rfl rfl _ rfl (by omega) rfl h | refine lt_indexDz rfl rfl rfl (by first | rfl | assumption) rfl rfl (by omega) (by omega) rfl h))
   | (apply K.callB; (first | refine lt_lenD rfl rfl rfl (by first | rfl | assumption) rfl rfl h | refine lt_lenS rfl rfl rfl (by first | rfl | assumption) rfl rfl h))
   | (apply K.move; refine lt_move rfl rfl rfl (by first | rfl | assumption) rfl rfl h)
   | (apply K.index; refine lt_atS rfl rfl rfl (by first | rfl | assumption) rfl rfl _ rfl (by omega) rfl h)
   | (apply K.convert; (fail))
   | (apply K.pick; (first | refine lt_pickT rfl rfl rfl (by first | rfl | assumption) rfl rfl rfl h | refine lt_pickF rfl rfl rfl (by first | rfl | assumption) rfl rfl rfl h | refine lt_pickTh rfl rfl rfl (by first | rfl | assumption) rfl (by assumption) rfl rfl h | refine lt_pickFh rfl rfl rfl (by first | rfl | assumption) rfl (by assumption) rfl rfl h))
   | (apply K.unOp; (refine lt_not rfl rfl rfl (by first | rfl | assumption) rfl rfl h))
   | (apply K.slice; (refine lt_partS0 rfl rfl rfl (by first | rfl | assumption) rfl (by first | exact Bd.no | exact Bd.yes rfl) (by omega) (by omega) rfl h))))
 | (apply KA.g1; (first
   | refine DR.cons (OTg.un rfl rfl rfl rfl rfl) rfl h
   | refine DR.cons (OTg.no rfl rfl rfl rfl rfl (by first | rfl | assumption)) rfl h
   | (apply KA.load; (first | refine at_load1 rfl rfl rfl (by first | rfl | assumption) rfl rfl rfl rfl h | refine at_load1D rfl rfl rfl (by first | rfl | assumption) rfl rfl rfl h | refine at_loadA rfl rfl rfl (by first | rfl | assumption) rfl rfl (Nat.le_of_ble_eq_true rfl) rfl h | refine at_loadAD rfl rfl rfl (by first | rfl | assumption) rfl (Nat.le_of_ble_eq_true rfl) rfl h | refine at_load1E rfl rfl rfl (by first | rfl | assumption) rfl rfl (by omega) rfl rfl h))
   | (apply KA.nilCheck; (refine at_nilCk rfl rfl rfl (by first | rfl | assumption) rfl rfl h))
   | (apply KA.fieldAddr; (first | refine at_fieldAddr rfl rfl rfl (by first | rfl | assumption) rfl rfl h | refine at_fieldAddrD rfl rfl rfl (by first | rfl | assumption) rfl rfl h | refine at_fieldAddrE rfl rfl rfl (by first | rfl | assumption) rfl rfl h))
   | (apply KA.binOp; (first | refine at_cmp rfl rfl rfl (by first | rfl | assumption) rfl rfl rfl rfl h | refine at_ari rfl rfl rfl (by first | rfl | assumption) rfl rfl rfl (inR_i64 ⟨by omega, by omega⟩) rfl h | refine at_cmpB rfl rfl rfl (by first | rfl | assumption) rfl rfl rfl rfl h))
   | (apply KA.indexAddr; (first | refine at_indexD0 rfl rfl rfl (by first | rfl | assumption) rfl rfl (by omega) rfl h | refine at_indexD rfl rfl rfl (by first | rfl | assumption) rfl rfl _ rfl (by omega) rfl h | refine at_indexO rfl rfl rfl (by first | rfl | assumption) rfl rfl rfl _ rfl (by omega) rfl h | refine at_indexDz rfl rfl rfl (by first | rfl | assumption) rfl rfl (by omega) (by omega) rfl h | refine at_indexOz rfl rfl rfl (by first | rfl | assumption) rfl rfl rfl (by omega) (by omega) rfl h))
   | (apply KA.callB; (first | refine at_lenD rfl rfl rfl (by first | rfl | assumption) rfl rfl h | refine at_lenS rfl rfl rfl (by first | rfl | assumption) rfl rfl h | refine at_min2 rfl rfl rfl (by first | rfl | assumption) rfl rfl rfl h))
   | (apply KA.move; refine at_move rfl rfl rfl (by first | rfl | assumption) rfl rfl h)
   | (apply KA.index; refine at_atS rfl rfl rfl (by first | rfl | assumption) rfl rfl _ rfl (by omega) rfl h)
   | (apply KA.convert; (first | refine at_conv rfl rfl rfl (by first | rfl | assumption) rfl (inR_i64 ⟨by omega, by omega⟩) rfl h | refine at_conv rfl rfl rfl (by first | rfl | assumption) rfl (inR_u8 ⟨by omega, by omega⟩) rfl h | refine at_conv rfl rfl rfl (by first | rfl | assumption) rfl (inR_i64 (u8_bd _)) rfl h))
   | (apply KA.pick; (first | refine at_pickTh rfl rfl rfl (by first | rfl | assumption) rfl (by assumption) rfl rfl h | refine at_pickFh rfl rfl rfl (by first | rfl | assumption) rfl (by assumption) rfl rfl h))
   | (apply KA.unOp; (refine at_not rfl rfl rfl (by first | rfl | assumption) rfl rfl h))
   | (apply KA.slice; (refine at_partS1 rfl rfl rfl (by first | rfl | assumption) rfl (by first | exact Bd.no | exact Bd.yes rfl) (by omega) (by omega) rfl h))))) : p := a h
theorem inB_f {x a b : Int} : inB x a b = false ↔ x < a ∨ b < x := by
 rw [Bool.eq_false_iff, ne_eq, inB_iff]; omega
theorem nrm {p q : Prop} (h : p) (a : p → q := by
 intro h
 simp only [decide_eq_true_eq, decide_eq_false_iff_not, beq_iff_eq, beq_eq_false_iff_ne, bne_iff_ne, ne_eq, bne_eq_false_iff_eq, Bool.not_eq_true', Bool.not_eq_false', Bool.not_eq_eq_eq_not, Bool.not_true, Bool.not_false] at h
 exact h) : q := a h
theorem nrmI {p q : Prop} (h : p) (a : p → q := by
 intro h
 simp only [decide_eq_true_eq, decide_eq_false_iff_not, beq_iff_eq, beq_eq_false_iff_ne, bne_iff_ne, ne_eq, bne_eq_false_iff_eq, Bool.not_eq_true', Bool.not_eq_false', Bool.not_eq_eq_eq_not, Bool.not_true, Bool.not_false, inB_iff, inB_f] at h
 exact h) : q := a h
section
variable {P : Program} {ops : Array Oper} {rest : List Oper} {nt : NI} {e : List (Nat × AV)} {h : List (Nat × Ob)} {Q : Exit → St → Prop} {d ty gg gt : Nat} {gb gw : Bool} {pos : String} {aft : Array Edge} {l : List Oper} {ms : List Nat} {rms : List (Nat × List Nat)} {base : St} {jj : Nat} {done : List (Nat × Ent)}
theorem cq {f : FuncId} {qs : Array Operand} {ts : Array TypeId} {avs args : List AV} {r : AV}  (h0_ : evl (St.mk nt e h) qs.toList = some avs := by exact rfl) (h1_ : LeCs avs args := by (repeat' (first | exact LeCs.nil | exact LeC.un | exact LeC.dd | exact LeC.sc rfl | exact LeC.sc (congrArg (Value.int .i64) (by first | omega | (dsimp only; omega))) | exact LeC.empd | refine LeCs.cons ?_ ?_ | refine LeC.mkag ?_ | exact LeC.same)); first | done | fail) (F : FnP P f args r) (hd : Nat.blt d nt.n = true := by exact rfl) (G : WL P ops rest ⟨nt, (d, r) :: e, h⟩ Q) : WL P ops ((⟨some d, .call { callee := .value (.func f), args := qs, argTypes := ts }, ty, pos, aft, none⟩ : Oper) :: rest) ⟨nt, e, h⟩ Q := lk_callQ h0_ h1_ F hd G
theorem cqt {f : FuncId} {qs : Array Operand} {ts : Array TypeId} {avs args : List AV} {r : AV}  (gd : (ops[gg]?).bind (·.dst) = some gt := by exact rfl) (gl : look e gt = some (.d (.sc (.bool gb))) := by exact rfl) (gn : Nat.blt gt nt.n = true := by exact rfl) (gq : gb = gw := by first | rfl | assumption) (h0_ : evl (St.mk nt e h) qs.toList = some avs := by exact rfl) (h1_ : LeCs avs args := by (repeat' (first | exact LeCs.nil | exact LeC.un | exact LeC.dd | exact LeC.sc rfl | exact LeC.sc (congrArg (Value.int .i64) (by first | omega | (dsimp only; omega))) | exact LeC.empd | refine LeCs.cons ?_ ?_ | refine LeC.mkag ?_ | exact LeC.same)); first | done | fail) (F : FnP P f args r) (hd : Nat.blt d nt.n = true := by exact rfl) (G : WL P ops rest ⟨nt, (d, r) :: e, h⟩ Q) : WL P ops ((⟨some d, .call { callee := .value (.func f), args := qs, argTypes := ts }, ty, pos, aft, some (gg, gw)⟩ : Oper) :: rest) ⟨nt, e, h⟩ Q := lt_callQ gd gl gn gq h0_ h1_ F hd G
theorem cqa {f : FuncId} {qs : Array Operand} {ts : Array TypeId} {avs args : List AV} {r : AV}  (h0_ : evl (stD ms rms base done jj (⟨some d, .call { callee := .value (.func f), args := qs, argTypes := ts }, ty, pos, aft, none⟩ : Oper)) qs.toList = some avs := by exact rfl) (h1_ : LeCs avs args := by (repeat' (first | exact LeCs.nil | exact LeC.un | exact LeC.dd | exact LeC.sc rfl | exact LeC.sc (congrArg (Value.int .i64) (by first | omega | (dsimp only; omega))) | exact LeC.empd | refine LeCs.cons ?_ ?_ | refine LeC.mkag ?_ | exact LeC.same)); first | done | fail) (F : FnP P f args r) (hrm : rmOf rms jj = [] ++ keysO [] := by rfl) (G : DR P l ms rms base Q (jj + 1) rest ((jj, ⟨some d, r, [], [], []⟩) :: done)) : DR P l ms rms base Q jj ((⟨some d, .call { callee := .value (.func f), args := qs, argTypes := ts }, ty, pos, aft, none⟩ : Oper) :: rest) done := ak_callQ h0_ h1_ F hrm G
theorem cqat {f : FuncId} {qs : Array Operand} {ts : Array TypeId} {avs args : List AV} {r : AV}  (gd : (l.toArray[gg]?).bind (·.dst) = some gt := by exact rfl) (gl : look (stD ms rms base done jj (⟨some d, .call { callee := .value (.func f), args := qs, argTypes := ts }, ty, pos, aft, some (gg, gw)⟩ : Oper)).env gt = some (.d (.sc (.bool gb))) := by exact rfl) (gn : Nat.blt gt base.nt.n = true := by exact rfl) (gq : gb = gw := by first | rfl | assumption) (h0_ : evl (stD ms rms base done jj (⟨some d, .call { callee := .value (.func f), args := qs, argTypes := ts }, ty, pos, aft, some (gg, gw)⟩ : Oper)) qs.toList = some avs := by exact rfl) (h1_ : LeCs avs args := by (repeat' (first | exact LeCs.nil | exact LeC.un | exact LeC.dd | exact LeC.sc rfl | exact LeC.sc (congrArg (Value.int .i64) (by first | omega | (dsimp only; omega))) | exact LeC.empd | refine LeCs.cons ?_ ?_ | refine LeC.mkag ?_ | exact LeC.same)); first | done | fail) (F : FnP P f args r) (hrm : rmOf rms jj = [] ++ keysO [] := by rfl) (G : DR P l ms rms base Q (jj + 1) rest ((jj, ⟨some d, r, [], [], []⟩) :: done)) : DR P l ms rms base Q jj ((⟨some d, .call { callee := .value (.func f), args := qs, argTypes := ts }, ty, pos, aft, some (gg, gw)⟩ : Oper) :: rest) done := at_callQ gd gl gn gq h0_ h1_ F hrm G
theorem cf {f : FuncId} {qs : Array Operand} {ts : Array TypeId} {avs args : List AV} {r : AV} {rm : List Nat}  (h0_ : evl (St.mk nt e h) qs.toList = some avs := by exact rfl) (h1_ : LeFs h avs args rm := by (repeat' (first | exact LeFs.nil | exact LeF.c LeC.dd | exact LeF.c (LeC.sc rfl) | exact LeF.c LeC.empd | exact LeF.f0 rfl | exact LeF.f1 rfl (by first | (simp; done) | (rw [List.length_eraseIdx_of_lt (by omega)]; omega)) (fun _ hm => (by first | exact cat_snoc2 hm rfl | exact cat_app | exact set_get2 (by omega) rfl | exact cat_erase (by omega) (by omega) (by omega))) | apply LeFs.cons | apply LeF.ag | exact LeF.c LeC.same | exact LeF.c (LeC.sc (congrArg (Value.int .i64) (by omega))) | exact LeF.c LeC.un)); first | done | fail) (F : FnP P f args r) (hd : Nat.blt d nt.n = true := by exact rfl) (G : Mv rm h [] fun h' => WL P ops rest ⟨nt, (d, r) :: e, h'⟩ Q) : WL P ops ((⟨some d, .call { callee := .value (.func f), args := qs, argTypes := ts }, ty, pos, aft, none⟩ : Oper) :: rest) ⟨nt, e, h⟩ Q := lk_callF h0_ h1_ F hd G
theorem cn {f : FuncId} {qs : Array Operand} {ts : Array TypeId} {avs args : List AV} {c n t k n' : Nat} {g : Nat → List D}  (h0_ : evl (St.mk nt e h) qs.toList = some avs := by exact rfl) (h1_ : LeCs avs args := by (repeat' (first | exact LeCs.nil | exact LeC.un | exact LeC.dd | exact LeC.sc rfl | exact LeC.sc (congrArg (Value.int .i64) (by first | omega | (dsimp only; omega))) | exact LeC.empd | refine LeCs.cons ?_ ?_ | refine LeC.mkag ?_ | exact LeC.same)); first | done | fail) (F : FnH P f [] args [] (.own c n) [(c, .arr t k n' g)]) (hd : Nat.blt d nt.n = true := by exact rfl) (hfr : freeB ⟨nt, e, h⟩ d = true := by exact rfl) (G : WL P ops rest ⟨nt, (d, (.own d n)) :: e, (d, .arr t k n' g) :: h⟩ Q) : WL P ops ((⟨some d, .call { callee := .value (.func f), args := qs, argTypes := ts }, ty, pos, aft, none⟩ : Oper) :: rest) ⟨nt, e, h⟩ Q := lk_callN h0_ h1_ F hd hfr G
theorem cna {f : FuncId} {qs : Array Operand} {ts : Array TypeId} {avs args : List AV} {c n t k n' : Nat} {g : Nat → List D}  (h0_ : evl (stD ms rms base done jj (⟨some d, .call { callee := .value (.func f), args := qs, argTypes := ts }, ty, pos, aft, none⟩ : Oper)) qs.toList = some avs := by exact rfl) (h1_ : LeCs avs args := by (repeat' (first | exact LeCs.nil | exact LeC.un | exact LeC.dd | exact LeC.sc rfl | exact LeC.sc (congrArg (Value.int .i64) (by first | omega | (dsimp only; omega))) | exact LeC.empd | refine LeCs.cons ?_ ?_ | refine LeC.mkag ?_ | exact LeC.same)); first | done | fail) (F : FnH P f [] args [] (.own c n) [(c, .arr t k n' g)]) (hrm : rmOf rms jj = [] ++ keysO [] := by rfl) (G : DR P l ms rms base Q (jj + 1) rest ((jj, ⟨some d, (.own d n), [(d, .arr t k n' g)], [], []⟩) :: done)) : DR P l ms rms base Q jj ((⟨some d, .call { callee := .value (.func f), args := qs, argTypes := ts }, ty, pos, aft, none⟩ : Oper) :: rest) done := ak_callN h0_ h1_ F hrm G
theorem ch {f : FuncId} {qs : Array Operand} {ts : Array TypeId} {avs args : List AV} {r : AV} {kp : List Nat} {hin hout : List (Nat × Ob)} {q : Nat} (h0_ : evl ⟨nt, e, h⟩ qs.toList = some avs := by exact rfl) (h1_ : LeCs avs args := by (repeat' (first | exact LeCs.nil | exact LeC.un | exact LeC.dd | exact LeC.sc rfl | exact LeC.sc (congrArg (Value.int .i64) (by first | omega | (dsimp only; omega))) | exact LeC.empd | refine LeCs.cons ?_ ?_ | refine LeC.mkag ?_ | exact LeC.same)); first | done | fail) (F : FnH P f kp args hin r hout) (hsub : SubH h hin := by (repeat' (first | exact ⟨rfl, trivial⟩ | exact trivial | refine ⟨rfl, ?_⟩)); first | done | fail) (hck : ((((nt.ini.all fun i => !memB i (newK kp (keys hin ++ keys hout))) && (hout.all fun p => p.2.idsIn (keys hin ++ keys hout ++ kp))) && (idsIn (keys hin ++ keys hout ++ kp) r && Nat.blt q nt.n)) = true) := by exact rfl) (G : WL P ops rest ⟨nt, (q, r) :: afterE kp hin hout e, afterH kp hin hout h⟩ Q) : WL P ops ((⟨some q, .call { callee := .value (.func f), args := qs, argTypes := ts }, ty, pos, aft, none⟩ : Oper) :: rest) ⟨nt, e, h⟩ Q := R.hcall rfl rfl rfl h0_ h1_ F hsub hck G
theorem chq {f : FuncId} {qs : Array Operand} {ts : Array TypeId} {avs args : List AV} {r : AV} {kp : List Nat} {hin hout : List (Nat × Ob)} {q : Nat} (h0_ : evl ⟨nt, e, h⟩ qs.toList = some avs := by exact rfl) (h1_ : LeCs avs args := by (repeat' (first | exact LeCs.nil | exact LeC.un | exact LeC.dd | exact LeC.sc rfl | exact LeC.sc (congrArg (Value.int .i64) (by first | omega | (dsimp only; omega))) | exact LeC.empd | refine LeCs.cons ?_ ?_ | refine LeC.mkag ?_ | exact LeC.same)); first | done | fail) (F : FnH P f kp args hin r hout) (hsub : SubH h hin := by (repeat' (first | exact ⟨rfl, trivial⟩ | exact trivial | refine ⟨rfl, ?_⟩)); first | done | fail) (hck : ((((nt.ini.all fun i => !memB i (newK kp (keys hin ++ keys hout))) && (hout.all fun p => p.2.idsIn (keys hin ++ keys hout ++ kp))) && (idsIn (keys hin ++ keys hout ++ kp) r && Nat.blt q nt.n)) = true) := by exact rfl) (hcl : (clnE (newK kp (keys hin ++ keys hout)) e && clnH (newK kp (keys hin ++ keys hout)) h) = true := by exact rfl) (G : Mv (keys hin ++ keys hout) h [] fun h' => Bk hout [] fun a => Bk a h' fun hh => WL P ops rest ⟨nt, (q, r) :: e, hh⟩ Q) : WL P ops ((⟨some q, .call { callee := .value (.func f), args := qs, argTypes := ts }, ty, pos, aft, none⟩ : Oper) :: rest) ⟨nt, e, h⟩ Q := R.hcallQ rfl rfl rfl h0_ h1_ F hsub hck hcl G
theorem cua {q f : Nat} {qs : Array Operand} {ts : Array TypeId} {avs args : List AV} {r : AV} {i : Nat} {ob ob' : Ob} (h0_ : evl (stD ms rms base done jj (⟨some q, .call { callee := .value (.func f), args := qs, argTypes := ts }, ty, pos, aft, none⟩ : Oper)) qs.toList = some avs := by exact rfl) (h1_ : LeCs avs args := by (repeat' (first | exact LeCs.nil | exact LeC.un | exact LeC.dd | exact LeC.sc rfl | exact LeC.sc (congrArg (Value.int .i64) (by first | omega | (dsimp only; omega))) | exact LeC.empd | refine LeCs.cons ?_ ?_ | refine LeC.mkag ?_ | exact LeC.same)); first | done | fail) (h2_ : FnH P f [i] args [(i, ob)] r [(i, ob')])
 (hi : look (stD ms rms base done jj (⟨some q, .call { callee := .value (.func f), args := qs, argTypes := ts }, ty, pos, aft, none⟩ : Oper)).hp i = some ob := by exact rfl) (hids : (idsIn [i] r && ob'.idsIn [i]) = true := by exact rfl) (hrm : rmOf rms jj = [] ++ keysO [(i, ob')] := by rfl) (kk_ : DR P l ms rms base Q (jj + 1) rest ((jj, ⟨some q, r, [], [(i, ob')], []⟩) :: done)) :
 DR P l ms rms base Q jj ((⟨some q, .call { callee := .value (.func f), args := qs, argTypes := ts }, ty, pos, aft, none⟩ : Oper) :: rest) done := DR.cons (OTg.callU rfl rfl rfl h0_ h1_ h2_ hi hids) hrm kk_
theorem ret1 {r : AV} {s : St} {r1 : ResultVar} {v1 : AV} (h1 : ResV P s r1 v1 := by first | exact ResV.tmp rfl | exact ResV.cells rfl rfl rfl | exact ResV.cell rfl rfl rfl) (k : LeV s.hp [] (fun _ => none) v1 r := by (repeat' (first | exact LeVs.nil | exact LeV.dd | exact LeV.sc rfl | exact LeV.sc (congrArg (Value.int .i64) (by first | omega | (dsimp only; omega))) | exact LeV.emp | exact LeV.empd | exact LeV.dp | exact LeV.own rfl rfl | exact LeV.ptr rfl | exact LeV.f0 rfl | exact LeV.f1 rfl (by simp) (fun _ hm => cat_snoc2 hm rfl) | exact LeV.f1 rfl (by simp) (fun _ _ => set_get2 (by omega) rfl) | exact LeV.f1 rfl (by simp) (fun _ _ => cat_app'.symm) | exact LeV.f1 rfl (by rw [List.length_eraseIdx_of_lt (by omega)]; omega) (fun _ _ => cat_erase (by omega) (by omega) (by omega)) | exact LeV.un | refine LeVs.cons ?_ ?_ | refine LeV.ag ?_ | refine LeV.tu ?_)); first | done | fail) : RetG P [r1] r s := RetG.mk1 h1 k
theorem ret2 {r : AV} {s : St} {r1 r2 : ResultVar} {v1 v2 : AV} (h1 : ResV P s r1 v1 := by first | exact ResV.tmp rfl | exact ResV.cells rfl rfl rfl | exact ResV.cell rfl rfl rfl) (h2 : ResV P s r2 v2 := by first | exact ResV.tmp rfl | exact ResV.cells rfl rfl rfl | exact ResV.cell rfl rfl rfl) (k : LeV s.hp [] (fun _ => none) (.tu [v1, v2]) r := by (repeat' (first | exact LeVs.nil | exact LeV.dd | exact LeV.sc rfl | exact LeV.sc (congrArg (Value.int .i64) (by first | omega | (dsimp only; omega))) | exact LeV.emp | exact LeV.empd | exact LeV.dp | exact LeV.own rfl rfl | exact LeV.ptr rfl | exact LeV.f0 rfl | exact LeV.f1 rfl (by simp) (fun _ hm => cat_snoc2 hm rfl) | exact LeV.f1 rfl (by simp) (fun _ _ => set_get2 (by omega) rfl) | exact LeV.f1 rfl (by simp) (fun _ _ => cat_app'.symm) | exact LeV.f1 rfl (by rw [List.length_eraseIdx_of_lt (by omega)]; omega) (fun _ _ => cat_erase (by omega) (by omega) (by omega)) | exact LeV.un | refine LeVs.cons ?_ ?_ | refine LeV.ag ?_ | refine LeV.tu ?_)); first | done | fail) : RetG P [r1, r2] r s := RetG.mk2 h1 h2 k
theorem ret3 {r : AV} {s : St} {r1 r2 r3 : ResultVar} {v1 v2 v3 : AV} (h1 : ResV P s r1 v1 := by first | exact ResV.tmp rfl | exact ResV.cells rfl rfl rfl | exact ResV.cell rfl rfl rfl) (h2 : ResV P s r2 v2 := by first | exact ResV.tmp rfl | exact ResV.cells rfl rfl rfl | exact ResV.cell rfl rfl rfl) (h3 : ResV P s r3 v3 := by first | exact ResV.tmp rfl | exact ResV.cells rfl rfl rfl | exact ResV.cell rfl rfl rfl) (k : LeV s.hp [] (fun _ => none) (.tu [v1, v2, v3]) r := by (repeat' (first | exact LeVs.nil | exact LeV.dd | exact LeV.sc rfl | exact LeV.sc (congrArg (Value.int .i64) (by first | omega | (dsimp only; omega))) | exact LeV.emp | exact LeV.empd | exact LeV.dp | exact LeV.own rfl rfl | exact LeV.ptr rfl | exact LeV.f0 rfl | exact LeV.f1 rfl (by simp) (fun _ hm => cat_snoc2 hm rfl) | exact LeV.f1 rfl (by simp) (fun _ _ => set_get2 (by omega) rfl) | exact LeV.f1 rfl (by simp) (fun _ _ => cat_app'.symm) | exact LeV.f1 rfl (by rw [List.length_eraseIdx_of_lt (by omega)]; omega) (fun _ _ => cat_erase (by omega) (by omega) (by omega)) | exact LeV.un | refine LeVs.cons ?_ ?_ | refine LeV.ag ?_ | refine LeV.tu ?_)); first | done | fail) : RetG P [r1, r2, r3] r s := RetG.mk3 h1 h2 h3 k
theorem ret4 {r : AV} {s : St} {r1 r2 r3 r4 : ResultVar} {v1 v2 v3 v4 : AV} (h1 : ResV P s r1 v1 := by first | exact ResV.tmp rfl | exact ResV.cells rfl rfl rfl | exact ResV.cell rfl rfl rfl) (h2 : ResV P s r2 v2 := by first | exact ResV.tmp rfl | exact ResV.cells rfl rfl rfl | exact ResV.cell rfl rfl rfl) (h3 : ResV P s r3 v3 := by first | exact ResV.tmp rfl | exact ResV.cells rfl rfl rfl | exact ResV.cell rfl rfl rfl) (h4 : ResV P s r4 v4 := by first | exact ResV.tmp rfl | exact ResV.cells rfl rfl rfl | exact ResV.cell rfl rfl rfl) (k : LeV s.hp [] (fun _ => none) (.tu [v1, v2, v3, v4]) r := by (repeat' (first | exact LeVs.nil | exact LeV.dd | exact LeV.sc rfl | exact LeV.sc (congrArg (Value.int .i64) (by first | omega | (dsimp only; omega))) | exact LeV.emp | exact LeV.empd | exact LeV.dp | exact LeV.own rfl rfl | exact LeV.ptr rfl | exact LeV.f0 rfl | exact LeV.f1 rfl (by simp) (fun _ hm => cat_snoc2 hm rfl) | exact LeV.f1 rfl (by simp) (fun _ _ => set_get2 (by omega) rfl) | exact LeV.f1 rfl (by simp) (fun _ _ => cat_app'.symm) | exact LeV.f1 rfl (by rw [List.length_eraseIdx_of_lt (by omega)]; omega) (fun _ _ => cat_erase (by omega) (by omega) (by omega)) | exact LeV.un | refine LeVs.cons ?_ ?_ | refine LeV.ag ?_ | refine LeV.tu ?_)); first | done | fail) : RetG P [r1, r2, r3, r4] r s := RetG.mk4 h1 h2 h3 h4 k
theorem reth0 {r : AV} {s : St} {hout : List (Nat × Ob)} {kp : List Nat} (σ : Nat → Option Nat) (hr : r = .tu [] := by exact rfl) (k : LeH s.hp hout σ hout := by (repeat' (first | exact LeH.nil | refine LeH.arr rfl rfl rfl (fun _ _ => rfl) ?_ | refine LeH.blk rfl rfl ?_ ?_ | refine LeH.virt rfl rfl ?_ | exact LeVs.nil | refine LeVs.cons ?_ ?_ | exact LeV.dd | exact LeV.sc rfl | exact LeV.emp | exact LeV.empd | exact LeV.empo rfl rfl rfl | exact LeV.dp | exact LeV.own rfl rfl | exact LeV.ptr rfl | exact LeV.f0 rfl | exact LeV.f1 rfl (by simp) (fun _ hm => cat_snoc2 hm rfl) | exact LeV.f1 rfl (by simp) (fun _ _ => set_get2 (by omega) rfl) | exact LeV.f1 rfl (by simp) (fun _ _ => cat_app'.symm) | exact LeV.f2 rfl rfl | exact LeV.f3 rfl rfl (by simp) (fun _ _ => cat_app) | refine LeV.ag ?_ | refine LeV.tu ?_ | exact LeV.un)); first | done | fail) (hi : (injB σ hout && idB σ s.nt.ini) = true := by exact rfl) (hk : s.nt.ini = kp := by exact rfl) : RetHG P [] r hout kp s := RetHG.mk0 σ hr k hi hk
theorem reth1 {r : AV} {s : St} {hout : List (Nat × Ob)} {kp : List Nat} {r1 : ResultVar} {v1 : AV} (σ : Nat → Option Nat) (h1 : ResV P s r1 v1 := by first | exact ResV.tmp rfl | exact ResV.cells rfl rfl rfl | exact ResV.cell rfl rfl rfl) (h : LeV s.hp hout σ v1 r := by (repeat' (first | exact LeH.nil | refine LeH.arr rfl rfl rfl (fun _ _ => rfl) ?_ | refine LeH.blk rfl rfl ?_ ?_ | refine LeH.virt rfl rfl ?_ | exact LeVs.nil | refine LeVs.cons ?_ ?_ | exact LeV.dd | exact LeV.sc rfl | exact LeV.emp | exact LeV.empd | exact LeV.empo rfl rfl rfl | exact LeV.dp | exact LeV.own rfl rfl | exact LeV.ptr rfl | exact LeV.f0 rfl | exact LeV.f1 rfl (by simp) (fun _ hm => cat_snoc2 hm rfl) | exact LeV.f1 rfl (by simp) (fun _ _ => set_get2 (by omega) rfl) | exact LeV.f1 rfl (by simp) (fun _ _ => cat_app'.symm) | exact LeV.f2 rfl rfl | exact LeV.f3 rfl rfl (by simp) (fun _ _ => cat_app) | refine LeV.ag ?_ | refine LeV.tu ?_ | exact LeV.un)); first | done | fail) (k : LeH s.hp hout σ hout := by (repeat' (first | exact LeH.nil | refine LeH.arr rfl rfl rfl (fun _ _ => rfl) ?_ | refine LeH.blk rfl rfl ?_ ?_ | refine LeH.virt rfl rfl ?_ | exact LeVs.nil | refine LeVs.cons ?_ ?_ | exact LeV.dd | exact LeV.sc rfl | exact LeV.emp | exact LeV.empd | exact LeV.empo rfl rfl rfl | exact LeV.dp | exact LeV.own rfl rfl | exact LeV.ptr rfl | exact LeV.f0 rfl | exact LeV.f1 rfl (by simp) (fun _ hm => cat_snoc2 hm rfl) | exact LeV.f1 rfl (by simp) (fun _ _ => set_get2 (by omega) rfl) | exact LeV.f1 rfl (by simp) (fun _ _ => cat_app'.symm) | exact LeV.f2 rfl rfl | exact LeV.f3 rfl rfl (by simp) (fun _ _ => cat_app) | refine LeV.ag ?_ | refine LeV.tu ?_ | exact LeV.un)); first | done | fail) (hi : (injB σ hout && idB σ s.nt.ini) = true := by exact rfl) (hk : s.nt.ini = kp := by exact rfl) : RetHG P [r1] r hout kp s := RetHG.mk1 σ h1 h k hi hk
theorem reth2 {r : AV} {s : St} {hout : List (Nat × Ob)} {kp : List Nat} {r1 r2 : ResultVar} {v1 v2 : AV} (σ : Nat → Option Nat) (h1 : ResV P s r1 v1 := by first | exact ResV.tmp rfl | exact ResV.cells rfl rfl rfl | exact ResV.cell rfl rfl rfl) (h2 : ResV P s r2 v2 := by first | exact ResV.tmp rfl | exact ResV.cells rfl rfl rfl | exact ResV.cell rfl rfl rfl) (h : LeV s.hp hout σ (.tu [v1, v2]) r := by (repeat' (first | exact LeH.nil | refine LeH.arr rfl rfl rfl (fun _ _ => rfl) ?_ | refine LeH.blk rfl rfl ?_ ?_ | refine LeH.virt rfl rfl ?_ | exact LeVs.nil | refine LeVs.cons ?_ ?_ | exact LeV.dd | exact LeV.sc rfl | exact LeV.emp | exact LeV.empd | exact LeV.empo rfl rfl rfl | exact LeV.dp | exact LeV.own rfl rfl | exact LeV.ptr rfl | exact LeV.f0 rfl | exact LeV.f1 rfl (by simp) (fun _ hm => cat_snoc2 hm rfl) | exact LeV.f1 rfl (by simp) (fun _ _ => set_get2 (by omega) rfl) | exact LeV.f1 rfl (by simp) (fun _ _ => cat_app'.symm) | exact LeV.f2 rfl rfl | exact LeV.f3 rfl rfl (by simp) (fun _ _ => cat_app) | refine LeV.ag ?_ | refine LeV.tu ?_ | exact LeV.un)); first | done | fail) (k : LeH s.hp hout σ hout := by (repeat' (first | exact LeH.nil | refine LeH.arr rfl rfl rfl (fun _ _ => rfl) ?_ | refine LeH.blk rfl rfl ?_ ?_ | refine LeH.virt rfl rfl ?_ | exact LeVs.nil | refine LeVs.cons ?_ ?_ | exact LeV.dd | exact LeV.sc rfl | exact LeV.emp | exact LeV.empd | exact LeV.empo rfl rfl rfl | exact LeV.dp | exact LeV.own rfl rfl | exact LeV.ptr rfl | exact LeV.f0 rfl | exact LeV.f1 rfl (by simp) (fun _ hm => cat_snoc2 hm rfl) | exact LeV.f1 rfl (by simp) (fun _ _ => set_get2 (by omega) rfl) | exact LeV.f1 rfl (by simp) (fun _ _ => cat_app'.symm) | exact LeV.f2 rfl rfl | exact LeV.f3 rfl rfl (by simp) (fun _ _ => cat_app) | refine LeV.ag ?_ | refine LeV.tu ?_ | exact LeV.un)); first | done | fail) (hi : (injB σ hout && idB σ s.nt.ini) = true := by exact rfl) (hk : s.nt.ini = kp := by exact rfl) : RetHG P [r1, r2] r hout kp s := RetHG.mk2 σ h1 h2 h k hi hk
theorem imp {nt : NI} {e e1 : List (Nat × AV)} {h h1 : List (Nat × Ob)} (σ : Nat → Option Nat) (he : LeE h h1 σ e e1 := by (repeat' (first | (apply KE.ee; refine LeE.cons rfl ?_ ?_) | apply LeE.nil | apply LeH.nil | (apply KE.hh; (first | refine LeH.blk rfl rfl ?_ ?_ | refine LeH.arr rfl rfl rfl (fun _ _ => rfl) ?_ | refine LeH.arr rfl rfl (by first | rfl | (simp; done) | (simp; omega) | omega) (fun _ _ => (by first | exact cat_snoc2 (by assumption) rfl | exact cat_snoc3 rfl (fun _ _ => rfl) (by assumption) rfl | exact cat_snoc3 (by simp) (fun _ _ => cat_snoc2 (by assumption) rfl) (by assumption) rfl | exact set_get2 (by omega) rfl | exact cat_app | exact setB2 rfl | rfl)) ?_ | refine LeH.virt rfl (by first | rfl | simp) ?_)))); (repeat' (first | (apply KE.vs; refine LeVs.cons ?_ ?_) | apply LeVs.nil | (apply KE.vv; (first | apply KE.u | exact LeV.dd | exact LeV.sc rfl | exact LeV.ptr rfl | exact LeV.own rfl rfl | exact LeV.emp | exact LeV.empd | exact LeV.empo rfl rfl rfl | exact LeV.dp | exact LeV.own rfl (by first | (simp; done) | (simp; omega) | omega) | exact LeV.sc (congrArg (Value.int .i64) (by first | omega | (dsimp only; omega))) | exact LeV.f0 rfl | exact LeV.f1 rfl (by simp) (fun _ hm => cat_snoc2 hm rfl) | exact LeV.f1 rfl (by simp) (fun _ _ => set_get2 (by omega) rfl) | exact LeV.f1 rfl (by simp) (fun _ _ => cat_app'.symm) | refine LeV.ag ?_ | refine LeV.tu ?_)))); first | done | fail) (hh : LeH h h1 σ h1 := by (repeat' (first | (apply KE.ee; refine LeE.cons rfl ?_ ?_) | apply LeE.nil | apply LeH.nil | (apply KE.hh; (first | refine LeH.blk rfl rfl ?_ ?_ | refine LeH.arr rfl rfl rfl (fun _ _ => rfl) ?_ | refine LeH.arr rfl rfl (by first | rfl | (simp; done) | (simp; omega) | omega) (fun _ _ => (by first | exact cat_snoc2 (by assumption) rfl | exact cat_snoc3 rfl (fun _ _ => rfl) (by assumption) rfl | exact cat_snoc3 (by simp) (fun _ _ => cat_snoc2 (by assumption) rfl) (by assumption) rfl | exact set_get2 (by omega) rfl | exact cat_app | exact setB2 rfl | rfl)) ?_ | refine LeH.virt rfl (by first | rfl | simp) ?_)))); (repeat' (first | (apply KE.vs; refine LeVs.cons ?_ ?_) | apply LeVs.nil | (apply KE.vv; (first | apply KE.u | exact LeV.dd | exact LeV.sc rfl | exact LeV.ptr rfl | exact LeV.own rfl rfl | exact LeV.emp | exact LeV.empd | exact LeV.empo rfl rfl rfl | exact LeV.dp | exact LeV.own rfl (by first | (simp; done) | (simp; omega) | omega) | exact LeV.sc (congrArg (Value.int .i64) (by first | omega | (dsimp only; omega))) | exact LeV.f0 rfl | exact LeV.f1 rfl (by simp) (fun _ hm => cat_snoc2 hm rfl) | exact LeV.f1 rfl (by simp) (fun _ _ => set_get2 (by omega) rfl) | exact LeV.f1 rfl (by simp) (fun _ _ => cat_app'.symm) | refine LeV.ag ?_ | refine LeV.tu ?_)))); first | done | fail) (hi : (injB σ h1 && idB σ nt.ini) = true := by exact rfl) : Imp ⟨nt, e, h⟩ ⟨nt, e1, h1⟩ := Imp.mk2 σ he hh hi
end
end Go.Proofs.YtjbhiglaginpeaaGreat
