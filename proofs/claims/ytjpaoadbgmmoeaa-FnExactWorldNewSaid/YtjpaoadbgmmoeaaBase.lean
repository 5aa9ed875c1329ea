/- Words for memory that all the proofs of this seat use: strings as lists of bytes, and slices that read as lists. No condition. -/
import Derived.Test.YtjpaoadbgmmoeaaRows
import Derived.WalkKit
import Derived.WalkSpells
import Derived.WalkLawsBesides
import Derived.Deep.AppendLies
import Derived.Deep.Draws
import Derived.Lib.Hide
import Derived.Maps.AppendAt
import Derived.Deep.QuietTactic
import Derived.BigQuiet
import Derived.Laws.BytesArg
namespace Go.Proofs.Ytjpaoadbgmmoeaa
open Go.RowKit

/-! ### strings as lists of bytes -/
def S (l : List UInt8) : ByteArray := ⟨l.toArray⟩
theorem S_size (l : List UInt8) : (S l).size = l.length := by simp [S, ByteArray.size]
theorem S_append (a b : List UInt8) : S a ++ S b = S (a ++ b) := ByteArray.mk_append_mk a b
theorem S_toList (l : List UInt8) : (S l).toList = l := ByteArray.toList_mk l
theorem S_data (l : List UInt8) : (S l).data.toList = l := rfl
theorem S_eta (s : ByteArray) : s = S s.data.toList := by simp [S]
theorem S_extract (l : List UInt8) (a b : Nat) : (S l).extract a b = S ((l.drop a).take (b - a)) := ByteArray.extract_mk l a b
theorem S_nil : (ByteArray.mk #[]) = S [] := rfl
theorem S_inj {a b : List UInt8} (h : S a = S b) : a = b := by have := congrArg ByteArray.toList h; simpa [S_toList] using this
theorem S_get (l : List UInt8) (i : Nat) (h : i < (S l).size) : ((S l)[i]'h).toNat = (l.getD i 0).toNat := by
  have h' : i < l.length := by rwa [S_size] at h
  have e : (S l)[i]'h = l[i] := rfl
  rw [e, List.getD_eq_getElem?_getD, List.getElem?_eq_getElem h']; rfl
theorem S_getU (l : List UInt8) (i : Nat) (h : i < (S l).size) : ((S l)[i]'h) = l.getD i 0 := by
  have h' : i < l.length := by rwa [S_size] at h
  have e : (S l)[i]'h = l[i] := rfl
  rw [e, List.getD_eq_getElem?_getD, List.getElem?_eq_getElem h']; rfl
theorem wrap64_u8 (b : UInt8) : wrap64 (b.toNat : Int) = b.toNat := by
  have := UInt8.toNat_lt b
  exact IntWalk.wrap64_in _ ⟨by omega, by omega⟩
attribute [go_sem] S_size S_append S_toList S_extract S_nil S_getU wrap64_u8

/-! ### addresses -/
theorem block_of_add (a : Addr) (n : Nat) : (a.add n).block = a.block := by unfold Addr.add; split <;> rfl
theorem add_of_add (a : Addr) (i j : Nat) : (a.add i).add j = a.add (i + j) := by
  unfold Addr.add
  by_cases hi : i = 0 <;> by_cases hj : j = 0 <;> simp [hi, hj, Nat.add_assoc]
theorem add_lit (b o j : Nat) : (⟨b, o, none⟩ : Addr).add j = ⟨b, o + j, none⟩ := by unfold Addr.add; split <;> simp_all

/-! ### a slice that reads as a list of cells -/
def Rd (w : World) (B size : Nat) (A : Option Addr) (n : Nat) (xs : List Value) : Prop :=
  xs.length = n * size ∧ (0 < n → ∃ b o, A = some ⟨b, o, none⟩ ∧ b < B ∧ ∀ j u, xs[j]? = some u → w.cell? ⟨b, o + j, none⟩ = some u)

section
variable {w w' : World} {B B' size n : Nat} {A : Option Addr} {xs : List Value}
theorem Rd.none_ : Rd w B size A 0 [] := ⟨by simp, fun h => absurd h (by omega)⟩
theorem Rd.keep (h : Rd w B size A n xs) (hk : ∀ p : Addr, p.block < B → w'.cell? p = w.cell? p) : Rd w' B size A n xs :=
  ⟨h.1, fun hn => by
    obtain ⟨b, o, e, hb, hc⟩ := h.2 hn
    exact ⟨b, o, e, hb, fun j u hu => (hk _ hb).trans (hc j u hu)⟩⟩
theorem Rd.more (h : Rd w B size A n xs) (hB : B ≤ B') : Rd w B' size A n xs :=
  ⟨h.1, fun hn => by
    obtain ⟨b, o, e, hb, hc⟩ := h.2 hn
    exact ⟨b, o, e, by omega, hc⟩⟩
theorem Rd.below (h : Rd w B size A n xs) (hb : Below B w w') : Rd w' B size A n xs := h.keep fun _ hp => hb.cell hp
theorem Rd.belowLe (h : Rd w B size A n xs) (hb : Below B' w w') (hB : B ≤ B') : Rd w' B size A n xs := h.below (hb.mono hB)
theorem Rd.at_ {k : Nat} (h : Rd w B 1 A n xs) (hk : k < n) : ∃ b o u, A = some ⟨b, o, none⟩ ∧ b < B ∧ xs[k]? = some u ∧ w.cell? ⟨b, o + k, none⟩ = some u := by
  obtain ⟨b, o, e, hb, hc⟩ := h.2 (by omega)
  have hl : k < xs.length := by have := h.1; omega
  exact ⟨b, o, xs[k], e, hb, List.getElem?_eq_getElem hl, hc k _ (List.getElem?_eq_getElem hl)⟩
theorem Rd.of_own {base : Nat} {e : TypeId} {c : Nat} (h : w.ownsRow base e size (.slice A n c) n xs) : Rd w w.heap.size size A n xs := by
  refine ⟨h.1, fun hn => ?_⟩
  rcases h.2 with ⟨h0, h1⟩ | ⟨g, cap, cur, hv, _, hh, _⟩
  · omega
  · have hA : A = some ⟨g, 0, none⟩ := by injection hv
    subst hA
    have hlt : g < w.heap.size := by
      rcases Nat.lt_or_ge g w.heap.size with hlt | hge
      · exact hlt
      · rw [Array.getElem?_eq_none hge] at hh; cases hh
    refine ⟨g, 0, rfl, hlt, fun j u hu => ?_⟩
    have := h.cells (g := g) rfl j u hu
    rwa [add_lit] at this
end

/-- A slice of strings that reads as a list of lists of bytes, all of at most M. -/
def Strs (M : Nat) (w : World) (B : Nat) (A : Option Addr) (n : Nat) (ss : List (List UInt8)) : Prop :=
  Rd w B 1 A n (ss.map fun s => .string (S s)) ∧ n ≤ M ∧ ∀ s ∈ ss, s.length ≤ M

section
variable {w w' : World} {M B B' n : Nat} {A : Option Addr} {ss : List (List UInt8)}
theorem Strs.len (h : Strs M w B A n ss) : ss.length = n := by have := h.1.1; simpa using this
theorem Strs.at_ (h : Strs M w B A n ss) {k : Nat} (hk : k < n) :
    ∃ b o u, A = some ⟨b, o, none⟩ ∧ b < B ∧ ss[k]? = some u ∧ u.length ≤ M ∧ w.cell? ⟨b, o + k, none⟩ = some (.string (S u)) := by
  obtain ⟨b, o, u, e, hb, hu, hc⟩ := h.1.at_ hk
  have hl : k < ss.length := by have := h.len; omega
  rw [List.getElem?_map, List.getElem?_eq_getElem hl] at hu
  simp only [Option.map_some, Option.some.injEq] at hu
  subst hu
  exact ⟨b, o, ss[k], e, hb, List.getElem?_eq_getElem hl, h.2.2 _ (List.getElem_mem hl), hc⟩
theorem Strs.below (h : Strs M w B A n ss) (hb : Below B' w w') (hB : B ≤ B') : Strs M w' B A n ss := ⟨h.1.belowLe hb hB, h.2⟩
theorem Strs.more (h : Strs M w B A n ss) (hB : B ≤ B') : Strs M w B' A n ss := ⟨h.1.more hB, h.2⟩
theorem Strs.wide {M' : Nat} (h : Strs M w B A n ss) (hn : n ≤ M') (hs : ∀ s ∈ ss, s.length ≤ M') : Strs M' w B A n ss := ⟨h.1, hn, hs⟩
end

theorem infoStr : (Try.prog.info? 9).map (fun i => (i.zero, i.size, i.bytes)) = some (some (.string (S [])), 1, 16) := by kernel_rfl
def strV (ss : List (List UInt8)) : List Value := ss.map fun s => .string (S s)
theorem strV_len (ss : List (List UInt8)) : (strV ss).length = ss.length := by simp [strV]
/-- A row of constant strings that the call has just laid. -/
theorem lit_strs (w : World) (ss : List (List UInt8)) (T : TypeId) (M : Nat) (hn : ss.length ≤ M) (hs : ∀ s ∈ ss, s.length ≤ M) :
    Strs M (w.alloc (.cells (strV ss).toArray T)) (w.heap.size + 1) (some ⟨w.heap.size, 0, none⟩) ss.length ss := by
  refine ⟨⟨by simp, fun _ => ⟨w.heap.size, 0, rfl, by omega, fun j u hu => ?_⟩⟩, hn, hs⟩
  rw [World.cell?_alloc_new]
  simpa [strV] using hu

/-- A slice of bytes that reads as a list; c is its capacity. -/
def Byts (w : World) (B : Nat) (A : Option Addr) (n c : Nat) (bs : List UInt8) : Prop :=
  Rd w B 1 A n (bs.map fun b => .int .u8 (b.toNat : Int)) ∧ n ≤ c ∧ c ≤ maxLen
theorem Byts.len {w : World} {B n c : Nat} {A : Option Addr} {bs : List UInt8} (h : Byts w B A n c bs) : bs.length = n := by have := h.1.1; simpa using this
theorem Byts.below {w w' : World} {B B' n c : Nat} {A : Option Addr} {bs : List UInt8} (h : Byts w B A n c bs) (hb : Below B' w w') (hB : B ≤ B') : Byts w' B A n c bs := ⟨h.1.belowLe hb hB, h.2⟩
theorem Byts.more {w : World} {B B' n c : Nat} {A : Option Addr} {bs : List UInt8} (h : Byts w B A n c bs) (hB : B ≤ B') : Byts w B' A n c bs := ⟨h.1.more hB, h.2⟩
theorem Byts.at_ {w : World} {B n c k : Nat} {A : Option Addr} {bs : List UInt8} (h : Byts w B A n c bs) (hk : k < n) :
    ∃ b o u, A = some ⟨b, o, none⟩ ∧ b < B ∧ bs[k]? = some u ∧ w.cell? ⟨b, o + k, none⟩ = some (.int .u8 (u.toNat : Int)) := by
  obtain ⟨b, o, u, e, hb, hu, hc⟩ := h.1.at_ hk
  have hl : k < bs.length := by have := h.len; omega
  rw [List.getElem?_map, List.getElem?_eq_getElem hl] at hu
  simp only [Option.map_some, Option.some.injEq] at hu
  subst hu
  exact ⟨b, o, bs[k], e, hb, List.getElem?_eq_getElem hl, hc⟩

theorem strV_one (ss : List (List UInt8)) : ∀ u ∈ strV ss, u.oneCell' = true := by
  intro u hu
  obtain ⟨_, _, rfl⟩ := List.mem_map.1 hu
  rfl
theorem Strs.rd {w : World} {M B n : Nat} {A : Option Addr} {ss : List (List UInt8)} (h : Strs M w B A n ss) : Rd w B 1 A n (strV ss) := h.1
theorem own_form {w : World} {base e size n : Nat} {v : Value} {xs : List Value} (h : w.ownsRow base e size v n xs) : ∃ A c, v = .slice A n c ∧ (0 < n → n ≤ c ∧ c ≤ maxLen) := by
  rcases h.2 with ⟨hv, hn⟩ | ⟨g, cap, cur, hv, _, _, hnc, hm, _⟩
  · subst hn; exact ⟨none, 0, hv, fun hh => absurd hh (by omega)⟩
  · exact ⟨_, cap, hv, fun _ => ⟨hnc, hm⟩⟩

theorem ret_int {k : IntKind} {a b : Int} (h : a = b) : Ending.returned (.int k a) = .returned (.int k b) := by rw [h]
theorem ret_bool {a b : Bool} (h : a = b) : Ending.returned (.bool a) = .returned (.bool b) := by rw [h]
theorem ret_str {a b : List UInt8} (h : a = b) : Ending.returned (.string (S a)) = .returned (.string (S b)) := by rw [h]

/-- Once a world only grew: the cells that were there read as before. -/
theorem bcell {W w1 : World} (hb : Below W.heap.size W w1) : (∀ b o, b < W.heap.size → w1.cell? ⟨b, o, none⟩ = W.cell? ⟨b, o, none⟩) ∧ (∀ b o, b < W.heap.size → w1.frozen? ⟨b, o, none⟩ = W.frozen? ⟨b, o, none⟩) :=
  ⟨fun b o h => hb.cell (p := ⟨b, o, none⟩) h, fun b o h => hb.frozen (p := ⟨b, o, none⟩) h⟩
theorem below_drewN {B : Nat} {a w : World} (h : Below B a w) (n : Nat) : Below B a (w.drewN n) := ⟨h.os, h.tape, h.output, h.size, h.block⟩

theorem still_of {P : Program} {f : FuncId} {args : Array Value} {w : World} {v : Value} (h : Calls P f args w fun e w' => e = .returned v ∧ w = w') :
    Calls P f args w fun e w'' => e = .returned v ∧ w'' = w := h.mono fun _ _ ⟨he, hw⟩ => ⟨he, hw.symm⟩
/-- A callee that leaves the world alone, met inside a quiet region. -/
theorem quiet_left {P : Program} {f : FuncId} {args : Array Value} {w : World} {n : Nat} {v : Value}
    (h : Calls P f args (w.drewN n) fun e w' => e = .returned v ∧ w.drewN n = w') : Calls P f args (w.drewN n) fun e w'' => e = .returned v ∧ ∃ m, w'' = w.drewN m :=
  h.mono fun _ _ ⟨he, hm⟩ => ⟨he, n, hm.symm⟩

/-- 'string([]byte{x})': a new row of one byte, read as a string. -/
theorem run_byteStr {P : Program} (W : World) (t e d : TypeId) (n : Int) (ht : P.underlying t = some (.slice e)) (he : P.underlying e = some (.int .u8)) (hd : P.underlying d = some .string) :
    (convert t d (.slice (some ⟨W.heap.size, 0, none⟩) 1 1)).run P (W.alloc (.cells #[.int .u8 n] e)) = .ok (.string (S [UInt8.ofNat n.toNat])) (W.alloc (.cells #[.int .u8 n] e)) := by
  have := run_convert_bytes_arg (P := P) (W.alloc (.cells #[.int .u8 n] e)) t e ht he W.heap.size 0 1 1 [n] rfl (fun i hi => by
    have h0 : i = 0 := by omega
    subst h0
    simp [World.cell?_alloc_new]) d hd
  rw [this]
  rfl

/-- 's[i:]' and 's[:i]' of a string, as equations for every world. -/
theorem run_from {P : Program} (w : World) (t : TypeId) (ht : P.underlying t = some .string) (l : List UInt8) (I : Int) (i : Nat) (hI : I = (i : Int)) (h : i ≤ l.length) :
    (Instr.slice t (.string (S l)) (some (.int .i64 I)) none none).run P w = .ok (.string (S (l.drop i))) w := by
  subst hI
  rw [run_slice_string_l w t (S l) ht .i64 i (by omega) (by rw [S_size]; omega), S_extract, S_size, Int.toNat_natCast, List.take_of_length_le (by simp)]
theorem run_to {P : Program} (w : World) (t : TypeId) (ht : P.underlying t = some .string) (l : List UInt8) (I : Int) (i : Nat) (hI : I = (i : Int)) (h : i ≤ l.length) :
    (Instr.slice t (.string (S l)) none (some (.int .i64 I)) none).run P w = .ok (.string (S (l.take i))) w := by
  subst hI
  rw [run_slice_string_h w t (S l) ht .i64 i (by omega) (by rw [S_size]; omega), S_extract, Int.toNat_natCast]
  simp

/-- 'make([]T, n)' of one-cell elements: a new row of zeros; where it lies is told by a name. -/
theorem wpList_mk1 {P : Program} (w : World) {ops : Array Oper} {rest : List Oper} {o : Oper} {a : Act} {Q : Exit → Act → World → Prop}
    (hg : o.guard = none) (l c : Operand) (t : TypeId) (hop : o.op = Op.makeSlice t l c)
    (e : TypeId) (i : TypeInfo) (z : Value) (h1 : P.underlying t = some (.slice e)) (h2 : P.info? e = some i) (h3 : i.zero = some z) (h4 : i.size = 1) (hz : z.cells = #[z])
    (kl kc : IntKind) (L C : Int) (n : Nat) (hl : a.eval l = .int kl L) (hc : a.eval c = .int kc C) (hL : L = (n : Int)) (hC : C = (n : Int)) (b2 : i.bytes * n ≤ 281474976710656) (b3 : n ≤ maxLen)
    (hK : ∀ g w', Below w.heap.size w w' → w.heap.size ≤ g → w'.ownsRow w.heap.size e 1 (.slice (some ⟨g, 0, none⟩) n n) n (List.replicate n z) → wpList P ops Q rest (a.put o.dst (.slice (some ⟨g, 0, none⟩) n n)) w') :
    wpList P ops Q (o :: rest) a w := by
  refine wpList_make_full w hg l c t hop w.heap.size e i z 1 h1 h2 h3 h4 kl kc L C n hl hc hL hC b2 b3 (Nat.le_refl _) fun w' hown hgrow => ?_
  refine hK w.heap.size w' ((Below.refl _ _).grown hgrow (Nat.le_refl _) (by intro k hk; cases hk)) (Nat.le_refl _) ?_
  rw [Nat.mul_one, hz, toList_madeCells_one] at hown
  exact hown

/-- 'append(out, x)' of one-cell elements: x has just been laid in a block of its own. -/
theorem wpList_app1 {P : Program} (w : World) {ops : Array Oper} {rest : List Oper} {o : Oper} {a : Act} {Q : Exit → Act → World → Prop} (hgd : o.guard = none) (s x : Operand) (t : TypeId)
    (ho : o.op = .call { callee := .builtin .append, args := #[s, x], argTypes := #[t, t] })
    (base : Nat) (e : TypeId) (i : TypeInfo) (z : Value) (bytes : Nat) (ht : P.underlying t = some (.slice e)) (hi : P.info? e = some i) (hz : i.zero = some z)
    (hsize : i.size = 1) (hby : i.bytes = bytes) (hzs : z.cells.size = 1) (u : Value) (hu : u.oneCell' = true)
    (v : Value) (n : Nat) (xs : List Value) (hown : w.ownsRow base e 1 v n xs) (hs : a.eval s = v) (hx : a.eval x = .slice (some ⟨w.heap.size, 0, none⟩) 1 1)
    (h63 : n + 1 ≤ maxLen) (hbytes : (n + 1) * bytes ≤ 140737488355328) (hbase : base ≤ w.heap.size)
    (h : ∀ v' w', w'.ownsRow base e 1 v' (n + 1) (xs ++ [u]) → Below base w w' → wpList P ops Q rest (a.put o.dst v') w') : wpList P ops Q (o :: rest) a (w.alloc (.cells #[u] e)) := by
  refine wpList_append_own _ hgd s x t ho base e i z 1 bytes ht hi hz hsize hby hzs (by omega) v n xs hs (hown.alloc _) ⟨w.heap.size, 0, none⟩ 1 1 [u] hx rfl (fun j y hy => ?_) (by simpa using hu) h63 hbytes (by simp; omega) fun v' w' h2 h3 _ => h v' w' h2 ?_
  · have hj : j = 0 := by
      rcases Nat.eq_zero_or_pos j with h0 | h0
      · exact h0
      · rw [List.getElem?_eq_none (by simp; omega)] at hy; cases hy
    subst hj
    rw [add_lit, World.cell?_alloc_new]
    simpa using hy
  · exact ((Below.refl base w).alloc hbase _).grown h3 (by simp; omega) (fun k hk => (hown.lt k hk).1)

/-- 'append([]T{}, xs...)' of one-cell elements: a copy in a new row. -/
theorem wpList_clone1 {P : Program} (w : World) {ops : Array Oper} {rest : List Oper} {o : Oper} {a : Act} {Q : Exit → Act → World → Prop} (hgd : o.guard = none) (s x : Operand) (t : TypeId)
    (ho : o.op = .call { callee := .builtin .append, args := #[s, x], argTypes := #[t, t] })
    (e : TypeId) (i : TypeInfo) (z : Value) (bytes : Nat) (ht : P.underlying t = some (.slice e)) (hi : P.info? e = some i) (hz : i.zero = some z)
    (hsize : i.size = 1) (hby : i.bytes = bytes) (hzs : z.cells.size = 1)
    (b of n c B : Nat) (xs : List Value) (hrd : Rd w B 1 (some ⟨b, of, none⟩) n xs) (hB : B ≤ w.heap.size) (h1 : ∀ u ∈ xs, u.oneCell' = true) (hs : a.eval s = .slice (some ⟨w.heap.size, 0, none⟩) 0 0) (hx : a.eval x = .slice (some ⟨b, of, none⟩) n c)
    (h63 : n ≤ maxLen) (hbytes : n * bytes ≤ 140737488355328)
    (h : ∀ A' c' w', w'.ownsRow w.heap.size e 1 (.slice A' n c') n xs → (0 < n → n ≤ c') → Below w.heap.size w w' → wpList P ops Q rest (a.put o.dst (.slice A' n c')) w') : wpList P ops Q (o :: rest) a (w.alloc (.cells #[] e)) := by
  have hown := World.ownsRow_lit (base := w.heap.size) (e := e) (size := 1) w #[] 0 (Nat.le_refl _) (by omega) rfl
  refine wpList_append_own _ hgd s x t ho w.heap.size e i z 1 bytes ht hi hz hsize hby hzs (by omega) _ 0 [] hs hown ⟨b, of, none⟩ n c xs hx (by have := hrd.1; omega) (fun j y hy => ?_) h1 (by omega) (by rw [Nat.zero_add]; exact hbytes) (by simp) fun v' w' h2 h3 _ => ?_
  · have hn : 0 < n := by
      have := hrd.1
      have := (List.getElem?_eq_some_iff.1 hy).1
      omega
    obtain ⟨b', o', e', hb', hc'⟩ := hrd.2 hn
    injection e' with e'
    injection e' with e1 e2
    subst e1; subst e2
    rw [add_lit]
    exact (Below.cell (p := ⟨b, of + j, none⟩) ((Below.refl w.heap.size w).alloc (Nat.le_refl _) (.cells #[] e)) (by show b < _; omega)).trans (hc' j y hy)
  · simp only [Nat.zero_add, List.nil_append] at h2
    have hbl : Below w.heap.size w w' := ((Below.refl w.heap.size w).alloc (Nat.le_refl _) _).grown h3 (by simp) (fun k hk => (hown.lt k hk).1)
    rcases h2.2 with ⟨hv, hn0⟩ | ⟨g, cap, cur, hv, _, _, hnc, _⟩
    · subst hv
      subst hn0
      exact h none 0 w' h2 (fun hh => absurd hh (by omega)) hbl
    · subst hv
      exact h (some ⟨g, 0, none⟩) cap w' h2 (fun _ => hnc) hbl

/-- One call behind another: what was there is as it was. -/
theorem chain {w w1 w2 : World} (h1 : Below w.heap.size w w1) (h2 : Below w1.heap.size w1 w2) : Below w.heap.size w w2 := h1.trans (h2.mono h1.size)

def withinB (n lo hi : Int) : Bool := decide (lo ≤ n) && decide (n ≤ hi)

end Go.Proofs.Ytjpaoadbgmmoeaa
