/- Parts of the proof, joined from several texts. No condition. -/
import Derived.Deep.RegionLaw
import Derived.Deep.LoopGhost
import Derived.Shelf.RegionOpenPlain
import Derived.WalkKit
import Derived.Lib.Walk
import Derived.Lib.SliceRun
import Derived.Lib.AppendZerosOnto
import Derived.Lib.Overlaps
import Derived.Laws.Externs
import Derived.Laws.IdiomCopy
import Derived.Test.YtjbhiglaginpeaaGreatQ1
set_option maxRecDepth 100000
set_option maxHeartbeats 16000000
set_option linter.unusedVariables false
set_option linter.unusedSimpArgs false
namespace Go.Proofs.YtjbhiglaginpeaaGreat
open Go.RowKit
def dOf : AV → D
 | .d x => x
 | _ => .sl 0 0 (fun _ => [])
def allD : List AV → Bool
 | [] => true
 | .d _ :: r => allD r
 | _ => false
theorem LeDs.all : ∀ {xs : List AV}, allD xs = true → LeDs xs (xs.map dOf)
 | [], _ => .nil
 | .d x :: r, h => .cons .d (LeDs.all (by simpa [allD] using h))
 | .un :: _, h => by simp [allD] at h
 | .ptr _ _ :: _, h => by simp [allD] at h
 | .ep _ _ _ _ :: _, h => by simp [allD] at h
 | .dp _ _ :: _, h => by simp [allD] at h
 | .own _ _ :: _, h => by simp [allD] at h
 | .emp :: _, h => by simp [allD] at h
 | .ag _ :: _, h => by simp [allD] at h
 | .tu _ :: _, h => by simp [allD] at h
theorem OT.slice1d {P : Program} {o : Oper} {s : St} {d : Nat} {T e k : Nat} {q : Operand} {v : AV} [h : SlcT P T e k] (hd : o.dst = some d) (ho : o.op = .buildSlice T 1 #[(0, q)]) (hq : s.ev q = some v) (hall : allD (cellsA v) = true) (hk : (cellsA v).length = k) : OT P o s d (.own d 1) [(d, .arr e k 1 (fun _ => (cellsA v).map dOf))] [] :=
 .slice1 hd ho hq (LeDs.all hall) (by simpa using hk)
section
variable {P : Program} {ops : Array Oper} {o : Oper} {rest : List Oper} {nt : NI} {e : List (Nat × AV)} {h : List (Nat × Ob)} {Q : Exit → St → Prop} {d : Nat}
theorem R.op {v : AV} (hg : o.guard = none) (ho : OT P o ⟨nt, e, h⟩ d v [] []) (hd : Nat.blt d nt.n = true) (k : WL P ops rest ⟨nt, (d, v) :: e, h⟩ Q) : WL P ops (o :: rest) ⟨nt, e, h⟩ Q := WL.op hg ho hd k
theorem R.new {v : AV} {i : Nat} {ob : Ob} (hg : o.guard = none) (ho : OT P o ⟨nt, e, h⟩ d v [(i, ob)] []) (hd : Nat.blt d nt.n = true) (hf : freeB ⟨nt, e, h⟩ i = true) (k : WL P ops rest ⟨nt, (d, v) :: e, (i, ob) :: h⟩ Q) : WL P ops (o :: rest) ⟨nt, e, h⟩ Q := WL.new hg ho hd hf k
theorem R.app {v : AV} {i j : Nat} {ob : Ob} (hg : o.guard = none) (ho : OT P o ⟨nt, e, h⟩ d v [(i, ob)] [j]) (hd : Nat.blt d nt.n = true) (hf : freeB ⟨nt, e, h⟩ i = true) (k : WL P ops rest ⟨nt, (d, v) :: e, (i, ob) :: rmL [j] h⟩ Q) : WL P ops (o :: rest) ⟨nt, e, h⟩ Q := WL.new hg ho hd hf k
theorem R.st {T n i p : Nat} {q r : Operand} {xs : List AV} {v : AV} [SzT P T n] (hg : o.guard = none) (hd : o.dst = none) (ho : o.op = .store T q r) (hq : (St.mk nt e h).ev q = some (.ptr i p)) (hr : (St.mk nt e h).ev r = some v) (hi : look h i = some (.blk xs)) (hl : (cellsA v).length = n) (hn : Nat.blt 0 n = true) (hp : Nat.ble (p + n) xs.length = true) (hc : (cellsA v).all cellB = true)
 (k : WL P ops rest ⟨nt, e, (i, .blk (aput xs p (cellsA v))) :: h⟩ Q) : WL P ops (o :: rest) ⟨nt, e, h⟩ Q := WL.st hg (SQ.store (s := ⟨nt, e, h⟩) hd ho hq hr hi hl (blt_lt hn) (Nat.le_of_ble_eq_true hp) hc) k
theorem R.stE {T n i k m nn t p : Nat} {q r : Operand} {f : Nat → List D} {v : AV} {row : List D} [SzT P T n] (hg : o.guard = none) (hd : o.dst = none) (ho : o.op = .store T q r) (hq : (St.mk nt e h).ev q = some (.ep i k m p)) (hr : (St.mk nt e h).ev r = some v) (hi : look h i = some (.arr t k nn f)) (hm : m < nn)
 (hle : LeDs (cellsA v) row) (hl : row.length = n) (hn : Nat.blt 0 n = true) (hp : Nat.ble (p + n) k = true) (kk : WL P ops rest ⟨nt, e, (i, .arr t k nn (setF f m (aput (f m) p row))) :: h⟩ Q) : WL P ops (o :: rest) ⟨nt, e, h⟩ Q :=
 WL.st hg (SQ.storeE (s := ⟨nt, e, h⟩) hd ho hq hr hi hm hle hl (blt_lt hn) (Nat.le_of_ble_eq_true hp)) kk
theorem R.stEd {T n i k m nn t p : Nat} {q r : Operand} {f : Nat → List D} {v : AV} [SzT P T n] (hg : o.guard = none) (hd : o.dst = none) (ho : o.op = .store T q r) (hq : (St.mk nt e h).ev q = some (.ep i k m p)) (hr : (St.mk nt e h).ev r = some v) (hi : look h i = some (.arr t k nn f)) (hm : m < nn)
 (hall : allD (cellsA v) = true) (hl : (cellsA v).length = n) (hn : Nat.blt 0 n = true) (hp : Nat.ble (p + n) k = true) (kk : WL P ops rest ⟨nt, e, (i, .arr t k nn (setF f m (aput (f m) p ((cellsA v).map dOf)))) :: h⟩ Q) : WL P ops (o :: rest) ⟨nt, e, h⟩ Q :=
 R.stE hg hd ho hq hr hi hm (LeDs.all hall) (by simpa using hl) hn hp kk
theorem R.gT {v : AV} {g t : Nat} {b want : Bool} (hg : o.guard = some (g, want)) (hgd : (ops[g]?).bind (·.dst) = some t) (hb : look e t = some (.d (.sc (.bool b)))) (ht : Nat.blt t nt.n = true) (hw : b = want) (ho : OT P o ⟨nt, e, h⟩ d v [] []) (hd : Nat.blt d nt.n = true) (k : WL P ops rest ⟨nt, (d, v) :: e, h⟩ Q) : WL P ops (o :: rest) ⟨nt, e, h⟩ Q := WL.gT hg hgd hb ht hw ho hd k
theorem R.gF {g t : Nat} {b want : Bool} (hdst : o.dst = some d) (hg : o.guard = some (g, want)) (hgd : (ops[g]?).bind (·.dst) = some t) (hb : look e t = some (.d (.sc (.bool b)))) (ht : Nat.blt t nt.n = true) (hw : b = !want) (hd : Nat.blt d nt.n = true) (k : WL P ops rest ⟨nt, (d, .tu []) :: e, h⟩ Q) : WL P ops (o :: rest) ⟨nt, e, h⟩ Q := WL.gF hdst hg hgd hb ht hw hd k
theorem R.gU {g t : Nat} {want : Bool} (hdst : o.dst = some d) (hg : o.guard = some (g, want)) (hgd : (ops[g]?).bind (·.dst) = some t) (hb : look e t = some (.tu [])) (ht : Nat.blt t nt.n = true) (hd : Nat.blt d nt.n = true) (k : WL P ops rest ⟨nt, (d, .tu []) :: e, h⟩ Q) : WL P ops (o :: rest) ⟨nt, e, h⟩ Q := WL.gU hdst hg hgd hb ht hd k
theorem R.gS {s : St} {g t : Nat} {b want : Bool} (_hg : o.guard = some (g, want)) (_hgd : (ops[g]?).bind (·.dst) = some t) (_hb : look s.env t = some (.d (.sc (.bool b)))) (ht : b = true → WL P ops (o :: rest) s Q) (hf : b = false → WL P ops (o :: rest) s Q) : WL P ops (o :: rest) s Q := by
 cases b
 ·exact hf rfl
 ·exact ht rfl
variable {dst : Option Tmp} {q c p r : Operand} {T T' n k f ty : Nat} {ps : Array (Nat × Operand)} {bo : BinOp} {uo : UnOp} {lo hi mx : Option Operand} {ars : Array Operand} {ts : Array TypeId} {b : Builtin} {pos : String} {aft : Array Edge} {g : Option (Nat × Bool)} {s : St} {ms : List Nat} {rms : List (Nat × List Nat)} {base : St} {j : Nat} {done fin : List (Nat × Ent)} {l : List Oper}
theorem K.move (h : WL P ops (⟨dst, .move q, ty, pos, aft, g⟩ :: rest) s Q) : WL P ops (⟨dst, .move q, ty, pos, aft, g⟩ :: rest) s Q := h
theorem KA.move (h : DR P l ms rms base Q j (⟨dst, .move q, ty, pos, aft, g⟩ :: rest) done) : DR P l ms rms base Q j (⟨dst, .move q, ty, pos, aft, g⟩ :: rest) done := h
theorem K.assign (h : WL P ops (⟨dst, .assign q, ty, pos, aft, g⟩ :: rest) s Q) : WL P ops (⟨dst, .assign q, ty, pos, aft, g⟩ :: rest) s Q := h
theorem KA.assign (h : DR P l ms rms base Q j (⟨dst, .assign q, ty, pos, aft, g⟩ :: rest) done) : DR P l ms rms base Q j (⟨dst, .assign q, ty, pos, aft, g⟩ :: rest) done := h
theorem K.pick (h : WL P ops (⟨dst, .pick c p q, ty, pos, aft, g⟩ :: rest) s Q) : WL P ops (⟨dst, .pick c p q, ty, pos, aft, g⟩ :: rest) s Q := h
theorem KA.pick (h : DR P l ms rms base Q j (⟨dst, .pick c p q, ty, pos, aft, g⟩ :: rest) done) : DR P l ms rms base Q j (⟨dst, .pick c p q, ty, pos, aft, g⟩ :: rest) done := h
theorem K.alloc (h : WL P ops (⟨dst, .alloc T, ty, pos, aft, g⟩ :: rest) s Q) : WL P ops (⟨dst, .alloc T, ty, pos, aft, g⟩ :: rest) s Q := h
theorem KA.alloc (h : DR P l ms rms base Q j (⟨dst, .alloc T, ty, pos, aft, g⟩ :: rest) done) : DR P l ms rms base Q j (⟨dst, .alloc T, ty, pos, aft, g⟩ :: rest) done := h
theorem K.box (h : WL P ops (⟨dst, .box T q, ty, pos, aft, g⟩ :: rest) s Q) : WL P ops (⟨dst, .box T q, ty, pos, aft, g⟩ :: rest) s Q := h
theorem KA.box (h : DR P l ms rms base Q j (⟨dst, .box T q, ty, pos, aft, g⟩ :: rest) done) : DR P l ms rms base Q j (⟨dst, .box T q, ty, pos, aft, g⟩ :: rest) done := h
theorem K.build (h : WL P ops (⟨dst, .build T ps, ty, pos, aft, g⟩ :: rest) s Q) : WL P ops (⟨dst, .build T ps, ty, pos, aft, g⟩ :: rest) s Q := h
theorem KA.build (h : DR P l ms rms base Q j (⟨dst, .build T ps, ty, pos, aft, g⟩ :: rest) done) : DR P l ms rms base Q j (⟨dst, .build T ps, ty, pos, aft, g⟩ :: rest) done := h
theorem K.buildSlice (h : WL P ops (⟨dst, .buildSlice T n ps, ty, pos, aft, g⟩ :: rest) s Q) : WL P ops (⟨dst, .buildSlice T n ps, ty, pos, aft, g⟩ :: rest) s Q := h
theorem KA.buildSlice (h : DR P l ms rms base Q j (⟨dst, .buildSlice T n ps, ty, pos, aft, g⟩ :: rest) done) : DR P l ms rms base Q j (⟨dst, .buildSlice T n ps, ty, pos, aft, g⟩ :: rest) done := h
theorem K.load (h : WL P ops (⟨dst, .load T q, ty, pos, aft, g⟩ :: rest) s Q) : WL P ops (⟨dst, .load T q, ty, pos, aft, g⟩ :: rest) s Q := h
theorem KA.load (h : DR P l ms rms base Q j (⟨dst, .load T q, ty, pos, aft, g⟩ :: rest) done) : DR P l ms rms base Q j (⟨dst, .load T q, ty, pos, aft, g⟩ :: rest) done := h
theorem K.store (h : WL P ops (⟨dst, .store T q r, ty, pos, aft, g⟩ :: rest) s Q) : WL P ops (⟨dst, .store T q r, ty, pos, aft, g⟩ :: rest) s Q := h
theorem KA.store (h : DR P l ms rms base Q j (⟨dst, .store T q r, ty, pos, aft, g⟩ :: rest) done) : DR P l ms rms base Q j (⟨dst, .store T q r, ty, pos, aft, g⟩ :: rest) done := h
theorem K.binOp (h : WL P ops (⟨dst, .binOp bo T q r T', ty, pos, aft, g⟩ :: rest) s Q) : WL P ops (⟨dst, .binOp bo T q r T', ty, pos, aft, g⟩ :: rest) s Q := h
theorem KA.binOp (h : DR P l ms rms base Q j (⟨dst, .binOp bo T q r T', ty, pos, aft, g⟩ :: rest) done) : DR P l ms rms base Q j (⟨dst, .binOp bo T q r T', ty, pos, aft, g⟩ :: rest) done := h
theorem K.unOp (h : WL P ops (⟨dst, .unOp uo T q, ty, pos, aft, g⟩ :: rest) s Q) : WL P ops (⟨dst, .unOp uo T q, ty, pos, aft, g⟩ :: rest) s Q := h
theorem KA.unOp (h : DR P l ms rms base Q j (⟨dst, .unOp uo T q, ty, pos, aft, g⟩ :: rest) done) : DR P l ms rms base Q j (⟨dst, .unOp uo T q, ty, pos, aft, g⟩ :: rest) done := h
theorem K.convert (h : WL P ops (⟨dst, .convert T T' q, ty, pos, aft, g⟩ :: rest) s Q) : WL P ops (⟨dst, .convert T T' q, ty, pos, aft, g⟩ :: rest) s Q := h
theorem KA.convert (h : DR P l ms rms base Q j (⟨dst, .convert T T' q, ty, pos, aft, g⟩ :: rest) done) : DR P l ms rms base Q j (⟨dst, .convert T T' q, ty, pos, aft, g⟩ :: rest) done := h
theorem K.makeSlice (h : WL P ops (⟨dst, .makeSlice T q r, ty, pos, aft, g⟩ :: rest) s Q) : WL P ops (⟨dst, .makeSlice T q r, ty, pos, aft, g⟩ :: rest) s Q := h
theorem KA.makeSlice (h : DR P l ms rms base Q j (⟨dst, .makeSlice T q r, ty, pos, aft, g⟩ :: rest) done) : DR P l ms rms base Q j (⟨dst, .makeSlice T q r, ty, pos, aft, g⟩ :: rest) done := h
theorem K.slice (h : WL P ops (⟨dst, .slice T q lo hi mx, ty, pos, aft, g⟩ :: rest) s Q) : WL P ops (⟨dst, .slice T q lo hi mx, ty, pos, aft, g⟩ :: rest) s Q := h
theorem KA.slice (h : DR P l ms rms base Q j (⟨dst, .slice T q lo hi mx, ty, pos, aft, g⟩ :: rest) done) : DR P l ms rms base Q j (⟨dst, .slice T q lo hi mx, ty, pos, aft, g⟩ :: rest) done := h
theorem K.fieldAddr (h : WL P ops (⟨dst, .fieldAddr T q k, ty, pos, aft, g⟩ :: rest) s Q) : WL P ops (⟨dst, .fieldAddr T q k, ty, pos, aft, g⟩ :: rest) s Q := h
theorem KA.fieldAddr (h : DR P l ms rms base Q j (⟨dst, .fieldAddr T q k, ty, pos, aft, g⟩ :: rest) done) : DR P l ms rms base Q j (⟨dst, .fieldAddr T q k, ty, pos, aft, g⟩ :: rest) done := h
theorem K.indexAddr (h : WL P ops (⟨dst, .indexAddr T q r, ty, pos, aft, g⟩ :: rest) s Q) : WL P ops (⟨dst, .indexAddr T q r, ty, pos, aft, g⟩ :: rest) s Q := h
theorem KA.indexAddr (h : DR P l ms rms base Q j (⟨dst, .indexAddr T q r, ty, pos, aft, g⟩ :: rest) done) : DR P l ms rms base Q j (⟨dst, .indexAddr T q r, ty, pos, aft, g⟩ :: rest) done := h
theorem K.index (h : WL P ops (⟨dst, .index T q r, ty, pos, aft, g⟩ :: rest) s Q) : WL P ops (⟨dst, .index T q r, ty, pos, aft, g⟩ :: rest) s Q := h
theorem KA.index (h : DR P l ms rms base Q j (⟨dst, .index T q r, ty, pos, aft, g⟩ :: rest) done) : DR P l ms rms base Q j (⟨dst, .index T q r, ty, pos, aft, g⟩ :: rest) done := h
theorem K.extract (h : WL P ops (⟨dst, .extract q k, ty, pos, aft, g⟩ :: rest) s Q) : WL P ops (⟨dst, .extract q k, ty, pos, aft, g⟩ :: rest) s Q := h
theorem KA.extract (h : DR P l ms rms base Q j (⟨dst, .extract q k, ty, pos, aft, g⟩ :: rest) done) : DR P l ms rms base Q j (⟨dst, .extract q k, ty, pos, aft, g⟩ :: rest) done := h
theorem K.callB (h : WL P ops (⟨dst, .call { callee := .builtin b, args := ars, argTypes := ts }, ty, pos, aft, g⟩ :: rest) s Q) : WL P ops (⟨dst, .call { callee := .builtin b, args := ars, argTypes := ts }, ty, pos, aft, g⟩ :: rest) s Q := h
theorem KA.callB (h : DR P l ms rms base Q j (⟨dst, .call { callee := .builtin b, args := ars, argTypes := ts }, ty, pos, aft, g⟩ :: rest) done) : DR P l ms rms base Q j (⟨dst, .call { callee := .builtin b, args := ars, argTypes := ts }, ty, pos, aft, g⟩ :: rest) done := h
theorem K.callF (h : WL P ops (⟨dst, .call { callee := .value (.func f), args := ars, argTypes := ts }, ty, pos, aft, g⟩ :: rest) s Q) : WL P ops (⟨dst, .call { callee := .value (.func f), args := ars, argTypes := ts }, ty, pos, aft, g⟩ :: rest) s Q := h
theorem KA.callF (h : DR P l ms rms base Q j (⟨dst, .call { callee := .value (.func f), args := ars, argTypes := ts }, ty, pos, aft, g⟩ :: rest) done) : DR P l ms rms base Q j (⟨dst, .call { callee := .value (.func f), args := ars, argTypes := ts }, ty, pos, aft, g⟩ :: rest) done := h
theorem K.nilCheck (h : WL P ops (⟨dst, .nilCheck q, ty, pos, aft, g⟩ :: rest) s Q) : WL P ops (⟨dst, .nilCheck q, ty, pos, aft, g⟩ :: rest) s Q := h
theorem KA.nilCheck (h : DR P l ms rms base Q j (⟨dst, .nilCheck q, ty, pos, aft, g⟩ :: rest) done) : DR P l ms rms base Q j (⟨dst, .nilCheck q, ty, pos, aft, g⟩ :: rest) done := h
theorem K.g0 {op : Op} (h : WL P ops (⟨dst, op, ty, pos, aft, none⟩ :: rest) s Q) : WL P ops (⟨dst, op, ty, pos, aft, none⟩ :: rest) s Q := h
theorem KA.g0 {op : Op} (h : DR P l ms rms base Q j (⟨dst, op, ty, pos, aft, none⟩ :: rest) done) : DR P l ms rms base Q j (⟨dst, op, ty, pos, aft, none⟩ :: rest) done := h
theorem K.g1 {gg : Nat × Bool} {op : Op} (h : WL P ops (⟨dst, op, ty, pos, aft, some gg⟩ :: rest) s Q) : WL P ops (⟨dst, op, ty, pos, aft, some gg⟩ :: rest) s Q := h
theorem KA.g1 {gg : Nat × Bool} {op : Op} (h : DR P l ms rms base Q j (⟨dst, op, ty, pos, aft, some gg⟩ :: rest) done) : DR P l ms rms base Q j (⟨dst, op, ty, pos, aft, some gg⟩ :: rest) done := h
theorem K.rg (id : Nat) {ops' : Array Oper} (h : WC P (.region id ops' true) s Q) : WC P (.region id ops' true) s Q := h
end
end Go.Proofs.YtjbhiglaginpeaaGreat
namespace Go.Proofs.YtjbhiglaginpeaaGreat
open Go.RowKit
def HpOk (X : Nat → Prop) (z : Cz) (hp : List (Nat × Ob)) (w : World) : Prop :=
 (∀ i ob, look hp i = some ob → OR z w (okB X z hp w) i ob) ∧ (∀ i ob, look hp i = some ob → phys z i ob → z.b i < w.heap.size ∧ ¬ X (z.b i)) ∧
   ∀ i j ob ob', look hp i = some ob → look hp j = some ob' → phys z i ob → phys z j ob' → z.b i = z.b j → i = j
def foot (z : Cz) (hp : List (Nat × Ob)) (b : Nat) : Prop := ∃ i ob, look hp i = some ob ∧ phys z i ob ∧ z.b i = b
def FnH (P : Program) (f : FuncId) (kp : List Nat) (args : List AV) (hin : List (Nat × Ob)) (r : AV) (hout : List (Nat × Ob)) : Prop :=
 FnB P f ∧ ∀ (z : Cz) (w : World) (X : Nat → Prop) (us : List Value), (∀ b, X b → b < w.heap.size) → HpOk X z hin w → VRs z w (okB X z hin w) args us →
  Calls P f us.toArray w fun e w' => ∃ u z', e = .returned u ∧ VR z' w' (okB X z' hout w') r u ∧ HpOk X z' hout w' ∧ Frm ⟨w, z, X, foot z hin⟩ w' ∧
   (∀ i ob, look hout i = some ob → phys z' i ob → foot z hin (z'.b i) ∨ w.heap.size ≤ z'.b i) ∧ ∀ i, i ∈ kp → z'.b i = z.b i ∧ z'.c i = z.c i
theorem Sim.via {x : Ctx} {z : Cz} {s s1 : St} {a : Act} {w : World} (hz : Sim x z s a w) (σ : Nat → Option Nat) (hnt : s.nt = s1.nt) (he : LeE s.hp s1.hp σ s.env s1.env) (hh : LeH s.hp s1.hp σ s1.hp) (hi : (injB σ s1.hp && idB σ s.nt.ini) = true) : Sim x (z.via σ) s1 a w := by
 rw [Bool.and_eq_true] at hi
 obtain ⟨hi, hid⟩ := hi
 refine ⟨hz.fr, hz.nt.trans (by rw [hnt]), fun i hii => ?_, hz.df, fun t y e => ?_, fun i ob e => ?_, fun i ob e hp => ?_, fun i i' ob ob' e e' p p' hb => ?_, hz.xo⟩
 ·rw [← hnt] at hii
  have := hz.zi i hii
  simpa [Cz.via, idB_spec hid hii] using this
 ·obtain ⟨y', h1, h2⟩ := he.get t y e
  exact h2.vr hz hh (hz.env t y' h1)
 ·rcases hh.get i ob e with ⟨hs, t, k, f, rfl⟩ | ⟨j, hs, ⟨t, k, n, f, f', rfl, h1, h2⟩ | ⟨xs, ys, rfl, h1, h2⟩⟩
  ·exact .arr (us := []) (fun hc => by simp [Cz.via, hs] at hc) (by simp [Cz.via, hs]) (Nat.zero_le _) (by simp [Cz.via, hs]) (fun m hm => by omega) (fun m j d u hm => by omega)
  ·obtain ⟨us, g1, g2, g3, g4, g5, g6⟩ := hz.arr h1
   exact .arr (us := us) (by simpa [Cz.via, hs] using g1) (by simpa [Cz.via, hs] using g2) (by simpa [Cz.via, hs] using g3) (by simpa [Cz.via, hs] using g4) (fun m hm => by rw [← h2 m hm]; exact g5 m hm) (fun m j' d u hm hd hu => (g6 m j' d u hm (by rw [h2 m hm]; exact hd) hu).mov hh.kin)
  ·obtain ⟨us, t, g1, g2, g3, g4⟩ := hz.blkT h1
   obtain ⟨e1, e2⟩ := LeVs.vrle hz hh h2 g2 g3
   exact .blk (us := us) (t := t) (by simpa [Cz.via, hs] using g1) e1 e2 (fun hi' => by
    obtain rfl := typB_spec hi e hs hi'
    exact ⟨(g4 hi').1, (g4 hi').2.trans h2.get.1⟩)
 ·obtain ⟨j, ob', h1, h2, h3, h4, _⟩ := hh.phys e hp
  rw [h4]
  exact hz.ph j ob' h2 h3
 ·obtain ⟨j, o1, h1, h2, h3, h4, _⟩ := hh.phys e p
  obtain ⟨j', o2, h1', h2', h3', h4', _⟩ := hh.phys e' p'
  rw [h4, h4'] at hb
  have := hz.inj j j' o1 o2 h2 h2' h3 h3' hb
  subst this
  exact injB_spec hi e e' h1 h1'
structure RetHG (P : Program) (rs : List ResultVar) (r : AV) (hout : List (Nat × Ob)) (kp : List Nat) (s : St) : Prop where
 out : ∃ vs σ, ResVs P s rs vs ∧ LeV s.hp hout σ (tupA vs) r ∧ LeH s.hp hout σ hout ∧ (injB σ hout && idB σ s.nt.ini) = true ∧ s.nt.ini = kp
inductive retH (P : Program) (rs : List ResultVar) (r : AV) (hout : List (Nat × Ob)) (kp : List Nat) : Exit → St → Prop
 | n {s : St} (h : RetHG P rs r hout kp s) : retH P rs r hout kp .normal s
 | r {s : St} (h : RetHG P rs r hout kp s) : retH P rs r hout kp .ret s
section
variable {P : Program} {r : AV} {s : St} {hout : List (Nat × Ob)} {r1 r2 r3 r4 : ResultVar} {v1 v2 v3 v4 : AV} {kp : List Nat}
theorem RetHG.mk0 (σ : Nat → Option Nat) (hr : r = .tu []) (k : LeH s.hp hout σ hout) (hi : (injB σ hout && idB σ s.nt.ini) = true) (hk : s.nt.ini = kp) : RetHG P [] r hout kp s := by subst hr; exact ⟨_, σ, .nil, .tu .nil, k, hi, hk⟩
theorem RetHG.mk1 (σ : Nat → Option Nat) (h1 : ResV P s r1 v1) (h : LeV s.hp hout σ v1 r) (k : LeH s.hp hout σ hout) (hi : (injB σ hout && idB σ s.nt.ini) = true) (hk : s.nt.ini = kp) : RetHG P [r1] r hout kp s := ⟨_, σ, .cons h1 .nil, h, k, hi, hk⟩
theorem RetHG.mk2 (σ : Nat → Option Nat) (h1 : ResV P s r1 v1) (h2 : ResV P s r2 v2) (h : LeV s.hp hout σ (.tu [v1, v2]) r) (k : LeH s.hp hout σ hout) (hi : (injB σ hout && idB σ s.nt.ini) = true) (hk : s.nt.ini = kp) : RetHG P [r1, r2] r hout kp s := ⟨_, σ, .cons h1 (.cons h2 .nil), h, k, hi, hk⟩
theorem RetHG.mk3 (σ : Nat → Option Nat) (h1 : ResV P s r1 v1) (h2 : ResV P s r2 v2) (h3 : ResV P s r3 v3) (h : LeV s.hp hout σ (.tu [v1, v2, v3]) r) (k : LeH s.hp hout σ hout) (hi : (injB σ hout && idB σ s.nt.ini) = true) (hk : s.nt.ini = kp) : RetHG P [r1, r2, r3] r hout kp s := ⟨_, σ, .cons h1 (.cons h2 (.cons h3 .nil)), h, k, hi, hk⟩
end
theorem res_fin {x : Ctx} {z : Cz} {s : St} {a : Act} {w : World} {P : Program} {fn : Func} {rs : List ResultVar} (hrs : fn.results.toList = rs) {vs : List AV} (hvs : ResVs P s rs vs) (hz' : Sim x z s a w) : ∃ u, (results fn a.tmps).run P w = .ok u w ∧ VR z w (okB x.X z s.hp w) (tupA vs) u := by
 obtain ⟨us', h1, h2, h3⟩ := hvs.run hz'
 subst hrs
 have hrun : (fn.results.mapM fun (r : ResultVar) => (match r with | .tmp t => (pure (a.tmps.getD t undef) : Sem Value) | .cell t T => do loadVar T (← asAddr (a.tmps.getD t undef)))).run P w = .ok us'.toArray w := by
  rw [← Array.toArray_toList (xs := fn.results), List.mapM_toArray, map_eq_pure_bind, Sem.run_bind]
  exact (congrArg (fun r => Result.andThen r _) h1).trans rfl
 have hres : (results fn a.tmps).run P w = .ok (if h : us'.toArray.size = 1 then us'.toArray[0] else .tuple us'.toArray) w := by
  unfold results
  rw [Sem.run_bind]
  refine Eq.trans (congrArg (fun r => Result.andThen r _) hrun) ?_
  rfl
 refine ⟨_, hres, ?_⟩
 by_cases h1' : us'.toArray.size = 1
 ·rw [dif_pos h1']
  have h1'' : us'.length = 1 := by simpa using h1'
  obtain ⟨u, rfl⟩ := List.length_eq_one_iff.1 h1''
  obtain ⟨v, rfl⟩ := List.length_eq_one_iff.1 (h2.symm.trans h1'')
  exact h3 0 v u rfl rfl
 ·rw [dif_neg h1']
  have h1'' : us'.length ≠ 1 := by simpa using h1'
  have : tupA vs = .tu vs := by
   unfold tupA
   split
   ·simp at h2; exact absurd h2 h1''
   ·rfl
  rw [this]
  exact .tu h2 h3
theorem FnH.intro {P : Program} {f : FuncId} {fn : Func} {c : Code} {kp : List Nat} {args : List AV} {hin hout : List (Nat × Ob)} {r : AV} {nt : Nat} {rs : List ResultVar} (hf : P.funcs[f]? = some fn) (hb : fn.body = some c) (hnm : (fn.name == "runtime.NumGoroutine") = false) (hnt : fn.ntmps = nt) (hrs0 : fn.results = Array.mk rs)
 (hle : args.length ≤ nt) (h : WC P c ⟨⟨nt, kp⟩, nums 0 args, hin⟩ (retH P rs r hout kp)) : FnH P f kp args hin r hout := by
 have hrs : fn.results.toList = rs := by rw [hrs0]
 refine ⟨⟨fn, hf, hnm, by rw [hb]; rfl⟩, fun z w X us hX hin' hus => ?_⟩
 refine calls_of_wp hf hb ?_
 have hul := hus.1
 have hs : SimE ⟨w, z, X, foot z hin⟩ ⟨⟨nt, kp⟩, nums 0 args, hin⟩ { tmps := us.toArray ++ Array.replicate (fn.ntmps - us.toArray.size) undef, defers := [] } w := by
  refine ⟨z, ⟨rfl, rfl, rfl, Nat.le_refl _, fun _ _ _ => rfl⟩, by simp; omega, fun i _ => ⟨rfl, rfl⟩, rfl, fun t y e => ?_, hin'.1, fun i ob e hp => ⟨(hin'.2.1 i ob e hp).1, .inl ⟨i, ob, e, hp, rfl⟩, (hin'.2.1 i ob e hp).2⟩, hin'.2.2, fun b hb => ⟨hX b hb, fun ⟨i, ob, e, hp, he⟩ => (hin'.2.1 i ob e hp).2 (by rw [he]; exact hb)⟩⟩
  obtain ⟨_, h2⟩ := look_nums args 0 t y e
  rw [Nat.sub_zero] at h2
  have ht : t < us.length := by rw [hul]; exact (List.getElem?_eq_some_iff.1 h2).1
  have hu : us[t]? = some us[t] := List.getElem?_eq_getElem ht
  have hgd : (us.toArray ++ Array.replicate (fn.ntmps - us.toArray.size) undef).getD t undef = us[t] := by
   rw [Array.getD_eq_getD_getElem?, Array.getElem?_append_left (by simpa using ht)]
   simp [ht]
  show VR z w _ y ((us.toArray ++ Array.replicate (fn.ntmps - us.toArray.size) undef).getD t undef)
  rw [hgd]
  exact hus.2 t y _ h2 hu
 refine Code.wp_mono (fun e a' w' ⟨s', hq, hs'⟩ => ?_) (h.out _ _ _ hs)
 have fin : RetHG P rs r hout kp s' → a'.defers = [] ∧ ∃ v, (results fn a'.tmps).run P w' = .ok v w' ∧ ∃ u z', Ending.returned v = .returned u ∧ VR z' w' (okB X z' hout w') r u ∧ HpOk X z' hout w' ∧ Frm ⟨w, z, X, foot z hin⟩ w' ∧
  (∀ i ob, look hout i = some ob → phys z' i ob → foot z hin (z'.b i) ∨ w.heap.size ≤ z'.b i) ∧ ∀ i, i ∈ kp → z'.b i = z.b i ∧ z'.c i = z.c i := by
  rintro ⟨vs, σ, hvs, hlv, hlh, hi, hk⟩
  obtain ⟨z', hz'⟩ := hs'
  obtain ⟨u, hres, hu⟩ := res_fin hrs hvs hz'
  have hz2 := hz'.via (s1 := ⟨s'.nt, [], hout⟩) σ rfl .nil hlh hi
  refine ⟨hz'.df, u, hres, u, z'.via σ, rfl, hlv.vr hz' hlh hu, ⟨hz2.hp, fun i ob e hp => ⟨(hz2.ph i ob e hp).1, (hz2.ph i ob e hp).2.2⟩, hz2.inj⟩, hz'.fr, fun i ob e hp => (hz2.ph i ob e hp).2.1, fun i hi' => hz2.zi i (by rw [hk]; exact hi')⟩
 cases hq with
 | n hq => exact fin hq
 | r hq => exact fin hq
def menAny (ks : List Nat) (x : AV) : Bool := ks.any fun k => men k x
def forgV (ks : List Nat) (x : AV) : AV := match menAny ks x with
 | true => .un
 | false => x
def forgE (ks : List Nat) : List (Nat × AV) → List (Nat × AV)
 | [] => []
 | (t, x) :: r => (t, forgV ks x) :: forgE ks r
def forgO (ks : List Nat) : Ob → Ob
 | .blk xs => .blk (xs.map (forgV ks))
 | .arr t k n f => .arr t k n f
def forgH (ks : List Nat) : List (Nat × Ob) → List (Nat × Ob)
 | [] => []
 | (i, ob) :: r => (i, forgO ks ob) :: forgH ks r
theorem look_forgE {ks : List Nat} {t : Nat} {y : AV} : ∀ {e : List (Nat × AV)}, look (forgE ks e) t = some y → ∃ y0, look e t = some y0 ∧ y = forgV ks y0
 | [], h => by cases h
 | (k, x) :: r, h => by
   rw [forgE, look_cons] at h
   rw [look_cons]
   split at h
   ·rename_i hk; injection h with h; exact ⟨x, if_pos hk, h.symm⟩
   ·rename_i hk; rw [if_neg hk]; exact look_forgE h
theorem look_forgH {ks : List Nat} {i : Nat} {ob : Ob} : ∀ {e : List (Nat × Ob)}, look (forgH ks e) i = some ob → ∃ o0, look e i = some o0 ∧ ob = forgO ks o0
 | [], h => by cases h
 | (k, x) :: r, h => by
   rw [forgH, look_cons] at h
   rw [look_cons]
   split at h
   ·rename_i hk; injection h with h; exact ⟨x, if_pos hk, h.symm⟩
   ·rename_i hk; rw [if_neg hk]; exact look_forgH h
theorem forgV_men {ks : List Nat} {k : Nat} (hk : k ∈ ks) (x : AV) : men k (forgV ks x) = false := by
 unfold forgV
 cases h : menAny ks x with
 | true => rfl
 | false =>
   simp only []
   unfold menAny at h
   rw [List.any_eq_false] at h
   simpa using h k hk
theorem forgV_vr {z : Cz} {w : World} {ok : Nat → Prop} {ks : List Nat} {x : AV} {u : Value} (h : VR z w ok x u) : VR z w ok (forgV ks x) u := by
 unfold forgV
 cases menAny ks x <;> first | exact .un | exact h
theorem menL_of_false {k : Nat} : ∀ {xs : List AV}, (∀ x ∈ xs, men k x = false) → menL k xs = false
 | [], _ => rfl
 | x :: r, h => by rw [menL, h x List.mem_cons_self, menL_of_false (fun y hy => h y (List.mem_cons_of_mem _ hy))]; rfl
theorem forgO_men {ks : List Nat} {k : Nat} (hk : k ∈ ks) (ob : Ob) : (forgO ks ob).men k = false := by
 cases ob with
 | blk xs =>
   show menL k _ = false
   refine menL_of_false (fun x hx => ?_)
   obtain ⟨y, _, rfl⟩ := List.mem_map.1 hx
   exact forgV_men hk y
 | arr => rfl
theorem forgO_phys {z : Cz} {i : Nat} {ks : List Nat} {ob : Ob} : phys z i (forgO ks ob) ↔ phys z i ob := by cases ob <;> exact Iff.rfl
theorem forgO_or {z : Cz} {w : World} {ok : Nat → Prop} {i : Nat} {ks : List Nat} {ob : Ob} (h : OR z w ok i ob) : OR z w ok i (forgO ks ob) := by
 cases h with
 | blk hh hl h ht =>
   refine .blk hh (by simpa using hl) (fun j y u hy hu => ?_) (fun h => ⟨(ht h).1, by simpa using (ht h).2⟩)
   rw [List.getElem?_map] at hy
   obtain ⟨y0, h0, rfl⟩ := Option.map_eq_some_iff.1 hy
   exact forgV_vr (h j y0 u h0 hu)
 | arr hh hl hn hc hf h => exact .arr hh hl hn hc hf h
mutual
def idsIn (ks : List Nat) : AV → Bool
 | .ptr i _ => memB i ks
 | .ep i _ _ _ => memB i ks
 | .own i _ => memB i ks
 | .ag xs => idsInL ks xs
 | .tu xs => idsInL ks xs
 | .un => true
 | .d _ => true
 | .dp _ _ => true
 | .emp => true
def idsInL (ks : List Nat) : List AV → Bool
 | [] => true
 | x :: r => idsIn ks x && idsInL ks r
end
mutual
theorem idsIn_men {ks : List Nat} {k : Nat} : ∀ {x : AV}, idsIn ks x = true → men k x = true → k ∈ ks
 | .ptr i _, h, hm => by rw [men] at hm; rw [idsIn] at h; rw [← Nat.eq_of_beq_eq_true hm]; exact memB_iff.1 h
 | .ep i _ _ _, h, hm => by rw [men] at hm; rw [idsIn] at h; rw [← Nat.eq_of_beq_eq_true hm]; exact memB_iff.1 h
 | .own i _, h, hm => by rw [men] at hm; rw [idsIn] at h; rw [← Nat.eq_of_beq_eq_true hm]; exact memB_iff.1 h
 | .ag xs, h, hm => idsInL_men (by simpa [idsIn] using h) (by simpa [men] using hm)
 | .tu xs, h, hm => idsInL_men (by simpa [idsIn] using h) (by simpa [men] using hm)
 | .un, _, hm => by simp [men] at hm
 | .d _, _, hm => by simp [men] at hm
 | .dp _ _, _, hm => by simp [men] at hm
 | .emp, _, hm => by simp [men] at hm
theorem idsInL_men {ks : List Nat} {k : Nat} : ∀ {xs : List AV}, idsInL ks xs = true → menL k xs = true → k ∈ ks
 | [], _, hm => by simp [menL] at hm
 | x :: r, h, hm => by
   rw [idsInL, Bool.and_eq_true] at h
   rw [menL, Bool.or_eq_true] at hm
   rcases hm with hm | hm
   ·exact idsIn_men h.1 hm
   ·exact idsInL_men h.2 hm
end
def Ob.idsIn (ks : List Nat) : Ob → Bool
 | .blk xs => idsInL ks xs
 | .arr _ _ _ _ => true
def keys {α : Type} (l : List (Nat × α)) : List Nat := l.map (·.1)
theorem look_keys {α : Type} {l : List (Nat × α)} {i : Nat} {x : α} (h : look l i = some x) : i ∈ keys l := List.mem_map.2 ⟨(i, x), look_mem h, rfl⟩
def SubH (H : List (Nat × Ob)) : List (Nat × Ob) → Prop
 | [] => True
 | (i, ob) :: r => look H i = some ob ∧ SubH H r
theorem SubH.get {H : List (Nat × Ob)} {i : Nat} {ob : Ob} : ∀ {l : List (Nat × Ob)}, SubH H l → look l i = some ob → look H i = some ob
 | [], _, h => by cases h
 | (j, o) :: r, hs, h => by
   rw [look_cons] at h
   split at h
   ·rename_i hj; injection h with h; subst hj; subst h; exact hs.1
   ·exact SubH.get hs.2 h
def newK (kp ks : List Nat) : List Nat := ks.filter fun k => !memB k kp
theorem mem_newK {kp ks : List Nat} {k : Nat} : k ∈ newK kp ks ↔ k ∈ ks ∧ k ∉ kp := by
 unfold newK
 rw [List.mem_filter]
 constructor
 ·rintro ⟨h1, h2⟩
  exact ⟨h1, fun h => by rw [memB_iff.2 h] at h2; cases h2⟩
 ·rintro ⟨h1, h2⟩
  refine ⟨h1, ?_⟩
  cases h : memB k kp with
  | false => rfl
  | true => exact absurd (memB_iff.1 h) h2
section
variable {P : Program} {ops : Array Oper} {o : Oper} {rest : List Oper} {nt : NI} {e : List (Nat × AV)} {h : List (Nat × Ob)} {Q : Exit → St → Prop}
def afterE (kp : List Nat) (hin hout : List (Nat × Ob)) (e : List (Nat × AV)) : List (Nat × AV) := forgE (newK kp (keys hin ++ keys hout)) e
def afterH (kp : List Nat) (hin hout : List (Nat × Ob)) (h : List (Nat × Ob)) : List (Nat × Ob) := hout ++ forgH (newK kp (keys hin ++ keys hout)) (rmL (keys hin ++ keys hout) h)
theorem Sim.call {x : Ctx} {z z' : Cz} {a : Act} {w w' : World} {kp : List Nat} {hin hout : List (Nat × Ob)} (hz : Sim x z ⟨nt, e, h⟩ a w) (hsub : SubH h hin)
 (hck : (((nt.ini.all fun i => !memB i (newK kp (keys hin ++ keys hout))) && (hout.all fun p => p.2.idsIn (keys hin ++ keys hout ++ kp))) = true))
 (hp : HpOk (fun b => x.X b ∨ ∃ i ob, look h i = some ob ∧ phys z i ob ∧ i ∉ keys hin ∧ z.b i = b) z' hout w') (hf : Frm ⟨w, z, (fun b => x.X b ∨ ∃ i ob, look h i = some ob ∧ phys z i ob ∧ i ∉ keys hin ∧ z.b i = b), foot z hin⟩ w')
 (hnew : ∀ i ob, look hout i = some ob → phys z' i ob → foot z hin (z'.b i) ∨ w.heap.size ≤ z'.b i) (hkp : ∀ i, i ∈ kp → z'.b i = z.b i ∧ z'.c i = z.c i) :
 ∃ z2 : Cz, Sim x z2 ⟨nt, afterE kp hin hout e, afterH kp hin hout h⟩ a w' ∧ ∀ y u, idsIn (keys hin ++ keys hout ++ kp) y = true → VR z' w' (okB (fun b => x.X b ∨ ∃ i ob, look h i = some ob ∧ phys z i ob ∧ i ∉ keys hin ∧ z.b i = b) z' hout w') y u → VR z2 w' (okB x.X z2 (afterH kp hin hout h) w') y u := by
 simp only [Bool.and_eq_true, List.all_eq_true] at hck
 obtain ⟨hini, hids⟩ := hck
 obtain ⟨p1, p2, p3⟩ := hp
 let ks := keys hin ++ keys hout
 let z2 : Cz := ⟨fun i => if memB i ks = true then z'.b i else z.b i, fun i => if memB i ks = true then z'.c i else z.c i⟩
 have zin : ∀ i, i ∈ ks → z2.b i = z'.b i ∧ z2.c i = z'.c i := fun i hi => ⟨if_pos (memB_iff.2 hi), if_pos (memB_iff.2 hi)⟩
 have zout : ∀ i, i ∉ ks → z2.b i = z.b i ∧ z2.c i = z.c i := fun i hi => ⟨if_neg (fun h => hi (memB_iff.1 h)), if_neg (fun h => hi (memB_iff.1 h))⟩
 have zfree : ∀ i, i ∉ newK kp ks → z2.b i = z.b i ∧ z2.c i = z.c i := fun i hi => by
  by_cases hk : i ∈ ks
  ·have hkk : i ∈ kp := Classical.byContradiction fun h => hi (mem_newK.2 ⟨hk, h⟩)
   obtain ⟨e1, e2⟩ := zin i hk
   obtain ⟨e3, e4⟩ := hkp i hkk
   exact ⟨e1.trans e3, e2.trans e4⟩
  ·exact zout i hk
 have zinp : ∀ i, i ∈ ks ++ kp → z2.b i = z'.b i ∧ z2.c i = z'.c i := fun i hi => by
  by_cases hk : i ∈ ks
  ·exact zin i hk
  ·have hkk : i ∈ kp := (List.mem_append.1 hi).resolve_left hk
   exact ⟨(zout i hk).1.trans (hkp i hkk).1.symm, (zout i hk).2.trans (hkp i hkk).2.symm⟩
 have physin : ∀ i ob, i ∈ ks → (phys z2 i ob ↔ phys z' i ob) := fun i ob hi => by cases ob with | blk => exact Iff.rfl | arr => unfold phys; rw [(zin i hi).2]
 have physout : ∀ i ob, i ∉ ks → (phys z2 i ob ↔ phys z i ob) := fun i ob hi => by cases ob with | blk => exact Iff.rfl | arr => unfold phys; rw [(zout i hi).2]
 have hlk : ∀ i ob, look (afterH kp hin hout h) i = some ob → (look hout i = some ob ∧ i ∈ ks) ∨ (i ∉ ks ∧ ∃ o0, look h i = some o0 ∧ ob = forgO (newK kp ks) o0) := fun i ob hi => by
  unfold afterH at hi
  rw [look_app] at hi
  cases hl : look hout i with
  | some o1 =>
    rw [hl] at hi
    injection hi with hi
    subst hi
    exact .inl ⟨rfl, List.mem_append_right _ (look_keys hl)⟩
  | none =>
    rw [hl] at hi
    obtain ⟨o0, h1, h2⟩ := look_forgH hi
    rw [look_rmL] at h1
    split at h1
    ·cases h1
    ·rename_i hn; exact .inr ⟨hn, o0, h1, h2⟩
 have hfoot : ∀ b, foot z hin b → ∃ i ob, look h i = some ob ∧ phys z i ob ∧ z.b i = b := fun b ⟨i, ob, h1, h2, h3⟩ => ⟨i, ob, hsub.get h1, h2, h3⟩
 have hkold : Kin w (okB x.X z h w) w' (okB x.X z2 (afterH kp hin hout h) w') := fun b hb => by
  have hnf : ¬ foot z hin b := fun hfb => by
   obtain ⟨i, ob, h1, h2, h3⟩ := hfoot b hfb
   exact hb.2.2 i ob h1 h2 h3
  refine ⟨⟨Nat.lt_of_lt_of_le hb.1 hf.size, hb.2.1, fun i ob hi hp => ?_⟩, hf.block b hb.1 hnf⟩
  rcases hlk i ob hi with ⟨h1, h2⟩ | ⟨h1, o0, h2, rfl⟩
  ·rw [(zin i h2).1]
   rcases hnew i ob h1 ((physin i ob h2).1 hp) with h3 | h3
   ·exact fun e => hnf (e ▸ h3)
   ·have := hb.1; omega
  ·rw [(zout i h1).1]
   exact hb.2.2 i o0 h2 (forgO_phys.1 ((physout i _ h1).1 hp))
 have hknew : Kin w' (okB (fun b => x.X b ∨ ∃ i ob, look h i = some ob ∧ phys z i ob ∧ i ∉ keys hin ∧ z.b i = b) z' hout w') w' (okB x.X z2 (afterH kp hin hout h) w') := fun b hb => by
  refine ⟨⟨hb.1, fun hx => hb.2.1 (.inl hx), fun i ob hi hp => ?_⟩, rfl⟩
  rcases hlk i ob hi with ⟨h1, h2⟩ | ⟨h1, o0, h2, rfl⟩
  ·rw [(zin i h2).1]; exact hb.2.2 i ob h1 ((physin i ob h2).1 hp)
  ·rw [(zout i h1).1]
   intro e'
   exact hb.2.1 (.inr ⟨i, o0, h2, forgO_phys.1 ((physout i _ h1).1 hp), fun hk => h1 (List.mem_append_left _ hk), e'⟩)
 refine ⟨z2, ⟨⟨hf.os.trans hz.fr.os, hf.tape.trans hz.fr.tape, hf.output.trans hz.fr.output, Nat.le_trans hz.fr.size hf.size, fun b h1 h2 => ?_⟩, hz.nt, fun i hi => ?_, hz.df, fun t y hy => ?_, fun i ob hi => ?_, fun i ob hi hp => ?_, fun i j ob ob' hi hj pi pj he => ?_, hz.xo⟩, fun y u hy hv => ?_⟩
 ·refine (hf.block b (Nat.lt_of_lt_of_le h1 hz.fr.size) (fun hfb => ?_)).trans (hz.fr.block b h1 h2)
  obtain ⟨i, ob, g1, g2, g3⟩ := hfoot b hfb
  have := (hz.ph i ob g1 g2).2.1
  rw [g3] at this
  rcases this with h' | h'
  ·exact h2 h'
  ·omega
 ·have hn : i ∉ newK kp ks := fun hm => by
   have := hini i hi
   rw [Bool.not_eq_true'] at this
   rw [memB_iff.2 hm] at this
   cases this
  obtain ⟨e1, e2⟩ := zfree i hn
  rw [e1, e2]
  exact hz.zi i hi
 ·obtain ⟨y0, h1, rfl⟩ := look_forgE hy
  refine (forgV_vr (hz.env t y0 h1)).mov hkold (fun k hk => ?_)
  refine zfree k (fun hm => ?_)
  rw [forgV_men hm] at hk
  cases hk
 ·rcases hlk i ob hi with ⟨h1, h2⟩ | ⟨h1, o0, h2, rfl⟩
  ·refine (p1 i ob h1).mov hknew (fun k hk => ?_) (zin i h2) (fun _ => rfl)
   have hid := hids (i, ob) (look_mem h1)
   cases ob with
   | blk xs => exact zinp k (idsInL_men hid hk)
   | arr => cases hk
  ·refine (forgO_or (hz.hp i o0 h2)).mov hkold (fun k hk => zfree k (fun hm => by rw [forgO_men hm] at hk; cases hk)) (zout i h1) (fun hp => ?_)
   have hp0 := forgO_phys.1 hp
   refine hf.block _ (hz.ph i o0 h2 hp0).1 (fun hfb => ?_)
   obtain ⟨j, oj, g1, g2, g3⟩ := hfb
   have := hz.inj j i oj o0 (hsub.get g1) h2 g2 hp0 g3
   subst this
   exact h1 (List.mem_append_left _ (look_keys g1))
 ·rcases hlk i ob hi with ⟨h1, h2⟩ | ⟨h1, o0, h2, rfl⟩
  ·have hp' := (physin i ob h2).1 hp
   rw [(zin i h2).1]
   refine ⟨(p2 i ob h1 hp').1, ?_, fun hx => (p2 i ob h1 hp').2 (.inl hx)⟩
   rcases hnew i ob h1 hp' with h3 | h3
   ·obtain ⟨j, oj, g1, g2, g3⟩ := hfoot _ h3
    rw [← g3]
    exact (hz.ph j oj g1 g2).2.1
   ·exact .inr (Nat.le_trans hz.fr.size h3)
  ·have hp0 := forgO_phys.1 ((physout i _ h1).1 hp)
   rw [(zout i h1).1]
   exact ⟨Nat.lt_of_lt_of_le (hz.ph i o0 h2 hp0).1 hf.size, (hz.ph i o0 h2 hp0).2⟩
 ·rcases hlk i ob hi with ⟨h1, h2⟩ | ⟨h1, o0, h2, rfl⟩
  ·rcases hlk j ob' hj with ⟨h3, h4⟩ | ⟨h3, o1, h4, rfl⟩
   ·rw [(zin i h2).1, (zin j h4).1] at he
    exact p3 i j ob ob' h1 h3 ((physin i ob h2).1 pi) ((physin j ob' h4).1 pj) he
   ·rw [(zin i h2).1, (zout j h3).1] at he
    exact absurd (.inr ⟨j, o1, h4, forgO_phys.1 ((physout j _ h3).1 pj), fun hk => h3 (List.mem_append_left _ hk), he.symm⟩) (p2 i ob h1 ((physin i ob h2).1 pi)).2
  ·rcases hlk j ob' hj with ⟨h3, h4⟩ | ⟨h3, o1, h4, rfl⟩
   ·rw [(zin j h4).1, (zout i h1).1] at he
    exact absurd (.inr ⟨i, o0, h2, forgO_phys.1 ((physout i _ h1).1 pi), fun hk => h1 (List.mem_append_left _ hk), he⟩) (p2 j ob' h3 ((physin j ob' h4).1 pj)).2
   ·rw [(zout i h1).1, (zout j h3).1] at he
    exact hz.inj i j o0 o1 h2 h4 (forgO_phys.1 ((physout i _ h1).1 pi)) (forgO_phys.1 ((physout j _ h3).1 pj)) he
 ·exact hv.mov hknew (fun k hk => zinp k (idsIn_men hy hk))
theorem wp_callH {f : FuncId} {qs : Array Operand} {ts : Array TypeId} {avs args : List AV} {r : AV} {kp : List Nat} {hin hout : List (Nat × Ob)} (ho : o.op = .call { callee := .value (.func f), args := qs, argTypes := ts }) (hq : evl ⟨nt, e, h⟩ qs.toList = some avs) (hF : FnH P f kp args hin r hout) (hle : LeCs avs args) (hsub : SubH h hin)
 (hck : (((nt.ini.all fun i => !memB i (newK kp (keys hin ++ keys hout))) && (hout.all fun p => p.2.idsIn (keys hin ++ keys hout ++ kp))) = true)) (hr : idsIn (keys hin ++ keys hout ++ kp) r = true) {x : Ctx} {a : Act} {w : World} (hs : SimE x ⟨nt, e, h⟩ a w) {K : Act → World → Prop} {Q : Exit → Act → World → Prop}
 (hK : ∀ z u w', Sim x z ⟨nt, afterE kp hin hout e, afterH kp hin hout h⟩ a w' → VR z w' (okB x.X z (afterH kp hin hout h) w') r u → K (a.put o.dst u) w') : o.wp P a w K Q := by
 obtain ⟨z, hz⟩ := hs
 have hv := hle.vrs (evl_ok (St.le.refl _) hz _ _ hq)
 have hX : ∀ b, (x.X b ∨ ∃ i ob, look h i = some ob ∧ phys z i ob ∧ i ∉ keys hin ∧ z.b i = b) → b < w.heap.size := fun b hb => by
  rcases hb with hb | ⟨i, ob, h1, h2, _, h3⟩
  ·exact Nat.lt_of_lt_of_le (hz.xo b hb).1 hz.fr.size
  ·rw [← h3]; exact (hz.ph i ob h1 h2).1
 have hkin : Kin w (okB x.X z h w) w (okB (fun b => x.X b ∨ ∃ i ob, look h i = some ob ∧ phys z i ob ∧ i ∉ keys hin ∧ z.b i = b) z hin w) := fun b hb =>
  ⟨⟨hb.1, fun hx => by
    rcases hx with hx | ⟨i, ob, h1, h2, _, h3⟩
    ·exact hb.2.1 hx
    ·exact hb.2.2 i ob h1 h2 h3, fun i ob hi hp => hb.2.2 i ob (hsub.get hi) hp⟩, rfl⟩
 have hin' : HpOk (fun b => x.X b ∨ ∃ i ob, look h i = some ob ∧ phys z i ob ∧ i ∉ keys hin ∧ z.b i = b) z hin w := by
  refine ⟨fun i ob hi => (hz.hp i ob (hsub.get hi)).mov hkin (fun _ _ => ⟨rfl, rfl⟩) ⟨rfl, rfl⟩ (fun _ => rfl), fun i ob hi hp => ⟨(hz.ph i ob (hsub.get hi) hp).1, fun hx => ?_⟩, fun i j ob ob' hi hj => hz.inj i j ob ob' (hsub.get hi) (hsub.get hj)⟩
  rcases hx with hx | ⟨j, oj, h1, h2, h3, h4⟩
  ·exact (hz.ph i ob (hsub.get hi) hp).2.2 hx
  ·have := hz.inj j i oj ob h1 (hsub.get hi) h2 hp h4
   subst this
   exact h3 (look_keys hi)
 have hcall := hF.2 z w _ _ hX hin' ⟨hv.1, fun j y u hy hu => (hv.2 j y u hy hu).mov hkin (fun _ _ => ⟨rfl, rfl⟩)⟩
 have hev : a.eval (.func f) = .func (.func f) #[] #[] := rfl
 unfold Oper.wp execOp
 simp only [ho, resolve, invoke, hev, Deferred.ofValue, Sem.run_bind, Sem.run_pure, Result.andThen_ok, Array.empty_append, Array.append_empty, callFunc_run hF.1]
 have he : (qs.map a.eval) = (qs.toList.map a.eval).toArray := by rw [← Array.toList_map, Array.toArray_toList]
 rw [he]
 refine hcall.mono fun e' w' ⟨u, z', e1, h1, h2, h3, h4, h5⟩ => ?_
 subst e1
 show K (a.put o.dst u) w'
 obtain ⟨z2, g1, g2⟩ := hz.call hsub hck h2 h3 h4 h5
 exact hK z2 u w' g1 (g2 r u hr h1)
theorem R.callH {f : FuncId} {qs : Array Operand} {ts : Array TypeId} {avs args : List AV} {r : AV} {kp : List Nat} {hin hout : List (Nat × Ob)} {d : Nat} (hg : o.guard = none) (hd : o.dst = some d) (ho : o.op = .call { callee := .value (.func f), args := qs, argTypes := ts }) (hq : evl ⟨nt, e, h⟩ qs.toList = some avs) (hF : FnH P f kp args hin r hout) (hle : LeCs avs args) (hsub : SubH h hin)
 (hck : ((((nt.ini.all fun i => !memB i (newK kp (keys hin ++ keys hout))) && (hout.all fun p => p.2.idsIn (keys hin ++ keys hout ++ kp))) && (idsIn (keys hin ++ keys hout ++ kp) r && Nat.blt d nt.n)) = true))
 (k : WL P ops rest ⟨nt, (d, r) :: afterE kp hin hout e, afterH kp hin hout h⟩ Q) : WL P ops (o :: rest) ⟨nt, e, h⟩ Q := ⟨fun x a w hs => by
 obtain ⟨c1, c2⟩ := Bool.and_eq_true_iff.1 hck
 obtain ⟨c2, c3⟩ := Bool.and_eq_true_iff.1 c2
 refine wpList_plain hg fun _ hK => wp_callH ho hq hF hle hsub c1 c2 hs fun z u w' g1 g2 => hK _ _ (k.out x _ w' ⟨z, ?_⟩)
 rw [hd]
 exact g1.put (blt_lt c3) g2⟩
theorem FnH.toP {f : FuncId} {kp : List Nat} {args : List AV} {r r' : AV} {hout : List (Nat × Ob)} (hF : FnH P f kp args [] r hout) (hle : LeV hout [] (fun _ => none) r r') (hr : noId r' = true) : FnP P f args r' := by
 refine ⟨hF.1, fun z w ok us hok hus => ?_⟩
 refine (hF.2 z w (fun b => b < w.heap.size ∧ ¬ ok b) us (fun b hb => hb.1) ⟨fun i ob hi => (by cases hi), fun i ob hi => (by cases hi), fun i j ob ob' hi => (by cases hi)⟩ ⟨hus.1, fun j y u hy hu => (hus.2 j y u hy hu).mov (fun b hb => ⟨⟨hok b hb, fun hx => hx.2 hb, fun i ob hi => (by cases hi)⟩, rfl⟩) (fun _ _ => ⟨rfl, rfl⟩)⟩).mono ?_
 rintro e' w' ⟨u, z', rfl, h1, h2, h3, h4, h5⟩
 refine ⟨u, rfl, ?_, ⟨h3.os, h3.tape, h3.output, h3.size, fun b hb => h3.block b hb (fun ⟨i, ob, hi, _⟩ => by cases hi)⟩⟩
 have hsim : Sim ⟨w, z', fun b => b < w.heap.size ∧ ¬ ok b, fun _ => False⟩ z' ⟨⟨0, []⟩, [], hout⟩ ⟨#[], []⟩ w' := by
  refine ⟨⟨h3.os, h3.tape, h3.output, h3.size, fun b hb _ => h3.block b hb (fun ⟨i, ob, hi, _⟩ => by cases hi)⟩, rfl, fun i hi => (by cases hi), rfl, fun t y hy => (by cases hy), h2.1, fun i ob hi hp => ⟨(h2.2.1 i ob hi hp).1, ?_, (h2.2.1 i ob hi hp).2⟩, h2.2.2, fun b hb => ⟨hb.1, fun h => h⟩⟩
  rcases h4 i ob hi hp with ⟨j, oj, hj, _⟩ | h'
  ·cases hj
  ·exact .inr h'
 have h6 := hle.vr hsim (H1 := []) .nil h1
 refine h6.mov (fun b hb => ⟨?_, rfl⟩) (fun i hi => by rw [noId_men i hr] at hi; cases hi)
 by_cases hbw : b < w.heap.size
 ·exact .inl (Classical.byContradiction fun hn => hb.2.1 ⟨hbw, hn⟩)
 ·exact .inr ⟨by omega, hb.1⟩
end
theorem FnH.frz {P : Program} {f : FuncId} {kp : List Nat} {args : List AV} {r r' : AV} {hin hout hout' : List (Nat × Ob)} (σ : Nat → Option Nat) (hF : FnH P f kp args hin r hout) (hr : LeV hout hout' σ r r') (hh : LeH hout hout' σ hout') (hi : (injB σ hout' && idB σ kp) = true) : FnH P f kp args hin r' hout' := by
 refine ⟨hF.1, fun z w X us hX hin' hus => ?_⟩
 refine (hF.2 z w X us hX hin' hus).mono ?_
 rintro e w' ⟨u, z', rfl, h1, h2, h3, h4, h5⟩
 have hsim : Sim ⟨w, z', X, foot z hin⟩ z' ⟨⟨0, kp⟩, [], hout⟩ ⟨#[], []⟩ w' :=
  ⟨⟨h3.os, h3.tape, h3.output, h3.size, h3.block⟩, rfl, fun i _ => ⟨rfl, rfl⟩, rfl, fun t y hy => (by cases hy), h2.1, fun i ob e hp => ⟨(h2.2.1 i ob e hp).1, h4 i ob e hp, (h2.2.1 i ob e hp).2⟩, h2.2.2, fun b hb => ⟨hX b hb, fun ⟨i, ob, e, hp, he⟩ => (hin'.2.1 i ob e hp).2 (by rw [he]; exact hb)⟩⟩
 have hz2 := hsim.via (s1 := ⟨⟨0, kp⟩, [], hout'⟩) σ rfl .nil hh hi
 rw [Bool.and_eq_true] at hi
 refine ⟨u, z'.via σ, rfl, hr.vr hsim hh h1, ⟨hz2.hp, fun i ob e hp => ⟨(hz2.ph i ob e hp).1, (hz2.ph i ob e hp).2.2⟩, hz2.inj⟩, h3, fun i ob e hp => (hz2.ph i ob e hp).2.1, fun i hi' => ?_⟩
 have h6 := hz2.zi i hi'
 exact ⟨h6.1.trans (h5 i hi').1, h6.2.trans (h5 i hi').2⟩
end Go.Proofs.YtjbhiglaginpeaaGreat
namespace Go.Proofs.YtjbhiglaginpeaaGreat
theorem fH {P : Program} {f : FuncId} {fn : Func} {c : Code} {kp : List Nat} {args : List AV} {hin hout : List (Nat × Ob)} {r : AV} {nt : Nat} {rs : List ResultVar} (hf : P.funcs[f]? = some fn) (hnt : fn.ntmps = nt) (hrs0 : fn.results = Array.mk rs) (h : WC P c ⟨⟨nt, kp⟩, nums 0 args, hin⟩ (retH P rs r hout kp)) (hb : fn.body = some c := by exact rfl) (hnm : (fn.name == "runtime.NumGoroutine") = false := by kernel_rfl) (hle : args.length ≤ nt := by exact Nat.le_of_ble_eq_true rfl) : FnH P f kp args hin r hout := FnH.intro hf hb hnm hnt hrs0 hle h
end Go.Proofs.YtjbhiglaginpeaaGreat
namespace Go.Proofs.YtjbhiglaginpeaaGreat
open Go.RowKit
instance : TyAgg Tryz.prog 116 2 := ⟨⟨_, Tryz.underlying116⟩, Tryz.t116, by kernel_rfl, rfl⟩
instance : SzT Tryz.prog 116 2 := ⟨Tryz.t116, by kernel_rfl, rfl⟩
instance : ZT Tryz.prog 116 (.agg #[.int .i64 0, .int .i64 0]) := ⟨Tryz.t116, by kernel_rfl, rfl⟩
instance : PlT Tryz.prog 116 [(0, 1), (1, 1)] := ⟨_, Tryz.underlying116, by kernel_rfl⟩
instance : FldO Tryz.prog 116 0 0 := ⟨_, _, Tryz.underlying116, rfl, rfl, by kernel_rfl⟩
instance : FldO Tryz.prog 116 1 1 := ⟨_, _, Tryz.underlying116, rfl, rfl, by kernel_rfl⟩
instance : TyAgg Tryz.prog 50 2 := ⟨⟨_, Tryz.underlying50⟩, Tryz.t50, by kernel_rfl, rfl⟩
instance : SzT Tryz.prog 50 2 := ⟨Tryz.t50, by kernel_rfl, rfl⟩
instance : ZT Tryz.prog 50 (.agg #[.int .i64 0, .string ⟨#[]⟩]) := ⟨Tryz.t50, by kernel_rfl, rfl⟩
instance : PlT Tryz.prog 50 [(0, 1), (1, 1)] := ⟨_, Tryz.underlying50, by kernel_rfl⟩
instance : FldO Tryz.prog 50 0 0 := ⟨_, _, Tryz.underlying50, rfl, rfl, by kernel_rfl⟩
instance : FldO Tryz.prog 50 1 1 := ⟨_, _, Tryz.underlying50, rfl, rfl, by kernel_rfl⟩
instance : TyAgg Tryz.prog 114 3 := ⟨⟨_, Tryz.underlying114⟩, Tryz.t114, by kernel_rfl, rfl⟩
instance : SzT Tryz.prog 114 3 := ⟨Tryz.t114, by kernel_rfl, rfl⟩
instance : ZT Tryz.prog 114 (.agg #[.int .i64 0, .int .i64 0, .int .i64 0]) := ⟨Tryz.t114, by kernel_rfl, rfl⟩
instance : PlT Tryz.prog 114 [(0, 1), (1, 1), (2, 1)] := ⟨_, Tryz.underlying114, by kernel_rfl⟩
instance : FldO Tryz.prog 114 0 0 := ⟨_, _, Tryz.underlying114, rfl, rfl, by kernel_rfl⟩
instance : FldO Tryz.prog 114 1 1 := ⟨_, _, Tryz.underlying114, rfl, rfl, by kernel_rfl⟩
instance : FldO Tryz.prog 114 2 2 := ⟨_, _, Tryz.underlying114, rfl, rfl, by kernel_rfl⟩
instance : TyAgg Tryz.prog 80 3 := ⟨⟨_, Tryz.underlying80⟩, Tryz.t80, by kernel_rfl, rfl⟩
instance : SzT Tryz.prog 80 3 := ⟨Tryz.t80, by kernel_rfl, rfl⟩
instance : ZT Tryz.prog 80 (.agg #[.int .i64 0, .string ⟨#[]⟩, .bool false]) := ⟨Tryz.t80, by kernel_rfl, rfl⟩
instance : PlT Tryz.prog 80 [(0, 1), (1, 1), (2, 1)] := ⟨_, Tryz.underlying80, by kernel_rfl⟩
instance : FldO Tryz.prog 80 0 0 := ⟨_, _, Tryz.underlying80, rfl, rfl, by kernel_rfl⟩
instance : FldO Tryz.prog 80 1 1 := ⟨_, _, Tryz.underlying80, rfl, rfl, by kernel_rfl⟩
instance : FldO Tryz.prog 80 2 2 := ⟨_, _, Tryz.underlying80, rfl, rfl, by kernel_rfl⟩
instance : TyAgg Tryz.prog 42 6 := ⟨⟨_, Tryz.underlying42⟩, Tryz.t42, by kernel_rfl, rfl⟩
instance : SzT Tryz.prog 42 6 := ⟨Tryz.t42, by kernel_rfl, rfl⟩
instance : ZT Tryz.prog 42 (.agg #[.string ⟨#[]⟩, .bool false, .int .i64 0, .int .i64 0, .slice none 0 0, .slice none 0 0]) := ⟨Tryz.t42, by kernel_rfl, rfl⟩
instance : PlT Tryz.prog 42 [(0, 1), (1, 1), (2, 1), (3, 1), (4, 1), (5, 1)] := ⟨_, Tryz.underlying42, by kernel_rfl⟩
instance : FldO Tryz.prog 42 0 0 := ⟨_, _, Tryz.underlying42, rfl, rfl, by kernel_rfl⟩
instance : FldO Tryz.prog 42 1 1 := ⟨_, _, Tryz.underlying42, rfl, rfl, by kernel_rfl⟩
instance : FldO Tryz.prog 42 2 2 := ⟨_, _, Tryz.underlying42, rfl, rfl, by kernel_rfl⟩
instance : FldO Tryz.prog 42 3 3 := ⟨_, _, Tryz.underlying42, rfl, rfl, by kernel_rfl⟩
instance : FldO Tryz.prog 42 4 4 := ⟨_, _, Tryz.underlying42, rfl, rfl, by kernel_rfl⟩
instance : FldO Tryz.prog 42 5 5 := ⟨_, _, Tryz.underlying42, rfl, rfl, by kernel_rfl⟩
instance : TyAgg Tryz.prog 45 4 := ⟨⟨_, Tryz.underlying45⟩, Tryz.t45, by kernel_rfl, rfl⟩
instance : SzT Tryz.prog 45 4 := ⟨Tryz.t45, by kernel_rfl, rfl⟩
instance : ZT Tryz.prog 45 (.agg #[.int .i64 0, .slice none 0 0, .int .i64 0, .int .i64 0]) := ⟨Tryz.t45, by kernel_rfl, rfl⟩
instance : PlT Tryz.prog 45 [(0, 1), (1, 1), (2, 1), (3, 1)] := ⟨_, Tryz.underlying45, by kernel_rfl⟩
instance : FldO Tryz.prog 45 0 0 := ⟨_, _, Tryz.underlying45, rfl, rfl, by kernel_rfl⟩
instance : FldO Tryz.prog 45 1 1 := ⟨_, _, Tryz.underlying45, rfl, rfl, by kernel_rfl⟩
instance : FldO Tryz.prog 45 2 2 := ⟨_, _, Tryz.underlying45, rfl, rfl, by kernel_rfl⟩
instance : FldO Tryz.prog 45 3 3 := ⟨_, _, Tryz.underlying45, rfl, rfl, by kernel_rfl⟩
instance : TyAgg Tryz.prog 75 3 := ⟨⟨_, Tryz.underlying75⟩, Tryz.t75, by kernel_rfl, rfl⟩
instance : SzT Tryz.prog 75 3 := ⟨Tryz.t75, by kernel_rfl, rfl⟩
instance : ZT Tryz.prog 75 (.agg #[.int .i64 0, .slice none 0 0, .int .i64 0]) := ⟨Tryz.t75, by kernel_rfl, rfl⟩
instance : PlT Tryz.prog 75 [(0, 1), (1, 1), (2, 1)] := ⟨_, Tryz.underlying75, by kernel_rfl⟩
instance : FldO Tryz.prog 75 0 0 := ⟨_, _, Tryz.underlying75, rfl, rfl, by kernel_rfl⟩
instance : FldO Tryz.prog 75 1 1 := ⟨_, _, Tryz.underlying75, rfl, rfl, by kernel_rfl⟩
instance : FldO Tryz.prog 75 2 2 := ⟨_, _, Tryz.underlying75, rfl, rfl, by kernel_rfl⟩
instance : TyAgg Tryz.prog 77 4 := ⟨⟨_, Tryz.underlying77⟩, Tryz.t77, by kernel_rfl, rfl⟩
instance : SzT Tryz.prog 77 4 := ⟨Tryz.t77, by kernel_rfl, rfl⟩
instance : ZT Tryz.prog 77 (.agg #[.int .i64 0, .int .i64 0, .int .i64 0, .int .i64 0]) := ⟨Tryz.t77, by kernel_rfl, rfl⟩
instance : PlT Tryz.prog 77 [(0, 1), (1, 1), (2, 1), (3, 1)] := ⟨_, Tryz.underlying77, by kernel_rfl⟩
instance : FldO Tryz.prog 77 0 0 := ⟨_, _, Tryz.underlying77, rfl, rfl, by kernel_rfl⟩
instance : FldO Tryz.prog 77 1 1 := ⟨_, _, Tryz.underlying77, rfl, rfl, by kernel_rfl⟩
instance : FldO Tryz.prog 77 2 2 := ⟨_, _, Tryz.underlying77, rfl, rfl, by kernel_rfl⟩
instance : FldO Tryz.prog 77 3 3 := ⟨_, _, Tryz.underlying77, rfl, rfl, by kernel_rfl⟩
instance : TyAgg Tryz.prog 97 4 := ⟨⟨_, Tryz.underlying97⟩, Tryz.t97, by kernel_rfl, rfl⟩
instance : SzT Tryz.prog 97 4 := ⟨Tryz.t97, by kernel_rfl, rfl⟩
instance : ZT Tryz.prog 97 (.agg #[.int .i64 0, .int .i64 0, .int .i64 0, .int .i64 0]) := ⟨Tryz.t97, by kernel_rfl, rfl⟩
instance : PlT Tryz.prog 97 [(0, 1), (1, 1), (2, 1), (3, 1)] := ⟨_, Tryz.underlying97, by kernel_rfl⟩
instance : FldO Tryz.prog 97 0 0 := ⟨_, _, Tryz.underlying97, rfl, rfl, by kernel_rfl⟩
instance : FldO Tryz.prog 97 1 1 := ⟨_, _, Tryz.underlying97, rfl, rfl, by kernel_rfl⟩
instance : FldO Tryz.prog 97 2 2 := ⟨_, _, Tryz.underlying97, rfl, rfl, by kernel_rfl⟩
instance : FldO Tryz.prog 97 3 3 := ⟨_, _, Tryz.underlying97, rfl, rfl, by kernel_rfl⟩
instance : TyAgg Tryz.prog 82 6 := ⟨⟨_, Tryz.underlying82⟩, Tryz.t82, by kernel_rfl, rfl⟩
instance : SzT Tryz.prog 82 6 := ⟨Tryz.t82, by kernel_rfl, rfl⟩
instance : ZT Tryz.prog 82 (.agg #[.int .i64 0, .int .i64 0, .int .i64 0, .int .i64 0, .string ⟨#[]⟩, .bool false]) := ⟨Tryz.t82, by kernel_rfl, rfl⟩
instance : PlT Tryz.prog 82 [(0, 1), (1, 1), (2, 1), (3, 3)] := ⟨_, Tryz.underlying82, by kernel_rfl⟩
instance : FldO Tryz.prog 82 0 0 := ⟨_, _, Tryz.underlying82, rfl, rfl, by kernel_rfl⟩
instance : FldO Tryz.prog 82 1 1 := ⟨_, _, Tryz.underlying82, rfl, rfl, by kernel_rfl⟩
instance : FldO Tryz.prog 82 2 2 := ⟨_, _, Tryz.underlying82, rfl, rfl, by kernel_rfl⟩
instance : FldO Tryz.prog 82 3 3 := ⟨_, _, Tryz.underlying82, rfl, rfl, by kernel_rfl⟩
instance : TyAgg Tryz.prog 54 6 := ⟨⟨_, Tryz.underlying54⟩, Tryz.t54, by kernel_rfl, rfl⟩
instance : SzT Tryz.prog 54 6 := ⟨Tryz.t54, by kernel_rfl, rfl⟩
instance : ZT Tryz.prog 54 (.agg #[.int .i64 0, .int .i64 0, .int .i64 0, .int .i64 0, .string ⟨#[]⟩, .slice none 0 0]) := ⟨Tryz.t54, by kernel_rfl, rfl⟩
instance : PlT Tryz.prog 54 [(0, 1), (1, 1), (2, 1), (3, 1), (4, 1), (5, 1)] := ⟨_, Tryz.underlying54, by kernel_rfl⟩
instance : FldO Tryz.prog 54 0 0 := ⟨_, _, Tryz.underlying54, rfl, rfl, by kernel_rfl⟩
instance : FldO Tryz.prog 54 1 1 := ⟨_, _, Tryz.underlying54, rfl, rfl, by kernel_rfl⟩
instance : FldO Tryz.prog 54 2 2 := ⟨_, _, Tryz.underlying54, rfl, rfl, by kernel_rfl⟩
instance : FldO Tryz.prog 54 3 3 := ⟨_, _, Tryz.underlying54, rfl, rfl, by kernel_rfl⟩
instance : FldO Tryz.prog 54 4 4 := ⟨_, _, Tryz.underlying54, rfl, rfl, by kernel_rfl⟩
instance : FldO Tryz.prog 54 5 5 := ⟨_, _, Tryz.underlying54, rfl, rfl, by kernel_rfl⟩
instance : TyAgg Tryz.prog 106 9 := ⟨⟨_, Tryz.underlying106⟩, Tryz.t106, by kernel_rfl, rfl⟩
instance : SzT Tryz.prog 106 9 := ⟨Tryz.t106, by kernel_rfl, rfl⟩
instance : ZT Tryz.prog 106 (.agg #[.int .i64 0, .int .i64 0, .int .i64 0, .int .i64 0, .int .i64 0, .int .i64 0, .string ⟨#[]⟩, .slice none 0 0, .bool false]) := ⟨Tryz.t106, by kernel_rfl, rfl⟩
instance : PlT Tryz.prog 106 [(0, 1), (1, 1), (2, 6), (8, 1)] := ⟨_, Tryz.underlying106, by kernel_rfl⟩
instance : FldO Tryz.prog 106 0 0 := ⟨_, _, Tryz.underlying106, rfl, rfl, by kernel_rfl⟩
instance : FldO Tryz.prog 106 1 1 := ⟨_, _, Tryz.underlying106, rfl, rfl, by kernel_rfl⟩
instance : FldO Tryz.prog 106 2 2 := ⟨_, _, Tryz.underlying106, rfl, rfl, by kernel_rfl⟩
instance : FldO Tryz.prog 106 3 8 := ⟨_, _, Tryz.underlying106, rfl, rfl, by kernel_rfl⟩
instance : TyAgg Tryz.prog 36 10 := ⟨⟨_, Tryz.underlying36⟩, Tryz.t36, by kernel_rfl, rfl⟩
instance : SzT Tryz.prog 36 10 := ⟨Tryz.t36, by kernel_rfl, rfl⟩
instance : ZT Tryz.prog 36 (.agg #[.int .i64 0, .slice none 0 0, .slice none 0 0, .slice none 0 0, .slice none 0 0, .slice none 0 0, .slice none 0 0, .slice none 0 0, .slice none 0 0, .slice none 0 0]) := ⟨Tryz.t36, by kernel_rfl, rfl⟩
instance : PlT Tryz.prog 36 [(0, 1), (1, 1), (2, 1), (3, 1), (4, 1), (5, 1), (6, 1), (7, 1), (8, 1), (9, 1)] := ⟨_, Tryz.underlying36, by kernel_rfl⟩
instance : FldO Tryz.prog 36 0 0 := ⟨_, _, Tryz.underlying36, rfl, rfl, by kernel_rfl⟩
instance : FldO Tryz.prog 36 1 1 := ⟨_, _, Tryz.underlying36, rfl, rfl, by kernel_rfl⟩
instance : FldO Tryz.prog 36 2 2 := ⟨_, _, Tryz.underlying36, rfl, rfl, by kernel_rfl⟩
instance : FldO Tryz.prog 36 3 3 := ⟨_, _, Tryz.underlying36, rfl, rfl, by kernel_rfl⟩
instance : FldO Tryz.prog 36 4 4 := ⟨_, _, Tryz.underlying36, rfl, rfl, by kernel_rfl⟩
instance : FldO Tryz.prog 36 5 5 := ⟨_, _, Tryz.underlying36, rfl, rfl, by kernel_rfl⟩
instance : FldO Tryz.prog 36 6 6 := ⟨_, _, Tryz.underlying36, rfl, rfl, by kernel_rfl⟩
instance : FldO Tryz.prog 36 7 7 := ⟨_, _, Tryz.underlying36, rfl, rfl, by kernel_rfl⟩
instance : FldO Tryz.prog 36 8 8 := ⟨_, _, Tryz.underlying36, rfl, rfl, by kernel_rfl⟩
instance : FldO Tryz.prog 36 9 9 := ⟨_, _, Tryz.underlying36, rfl, rfl, by kernel_rfl⟩
instance : TyAgg Tryz.prog 56 11 := ⟨⟨_, Tryz.underlying56⟩, Tryz.t56, by kernel_rfl, rfl⟩
instance : SzT Tryz.prog 56 11 := ⟨Tryz.t56, by kernel_rfl, rfl⟩
instance : ZT Tryz.prog 56 (.agg #[.int .i64 0, .int .i64 0, .int .i64 0, .int .i64 0, .string ⟨#[]⟩, .int .i64 0, .int .i64 0, .int .i64 0, .int .i64 0, .string ⟨#[]⟩, .slice none 0 0]) := ⟨Tryz.t56, by kernel_rfl, rfl⟩
instance : PlT Tryz.prog 56 [(0, 1), (1, 1), (2, 1), (3, 1), (4, 1), (5, 6)] := ⟨_, Tryz.underlying56, by kernel_rfl⟩
instance : FldO Tryz.prog 56 0 0 := ⟨_, _, Tryz.underlying56, rfl, rfl, by kernel_rfl⟩
instance : FldO Tryz.prog 56 1 1 := ⟨_, _, Tryz.underlying56, rfl, rfl, by kernel_rfl⟩
instance : FldO Tryz.prog 56 2 2 := ⟨_, _, Tryz.underlying56, rfl, rfl, by kernel_rfl⟩
instance : FldO Tryz.prog 56 3 3 := ⟨_, _, Tryz.underlying56, rfl, rfl, by kernel_rfl⟩
instance : FldO Tryz.prog 56 4 4 := ⟨_, _, Tryz.underlying56, rfl, rfl, by kernel_rfl⟩
instance : FldO Tryz.prog 56 5 5 := ⟨_, _, Tryz.underlying56, rfl, rfl, by kernel_rfl⟩
instance : SlcT Tryz.prog 40 116 2 := ⟨Tryz.underlying40, ⟨by omega, by omega⟩, Tryz.t116, _, by kernel_rfl, rfl, rfl, rfl, by decide⟩
instance : TyOne Tryz.prog 40 := ⟨_, Tryz.underlying40, rfl⟩
instance : SzT Tryz.prog 40 1 := ⟨Tryz.t40, by kernel_rfl, rfl⟩
instance : ZT Tryz.prog 40 (.slice none 0 0) := ⟨Tryz.t40, by kernel_rfl, rfl⟩
instance : SlcT Tryz.prog 43 50 2 := ⟨Tryz.underlying43, ⟨by omega, by omega⟩, Tryz.t50, _, by kernel_rfl, rfl, rfl, rfl, by decide⟩
instance : TyOne Tryz.prog 43 := ⟨_, Tryz.underlying43, rfl⟩
instance : SzT Tryz.prog 43 1 := ⟨Tryz.t43, by kernel_rfl, rfl⟩
instance : ZT Tryz.prog 43 (.slice none 0 0) := ⟨Tryz.t43, by kernel_rfl, rfl⟩
instance : SlcT Tryz.prog 73 114 3 := ⟨Tryz.underlying73, ⟨by omega, by omega⟩, Tryz.t114, _, by kernel_rfl, rfl, rfl, rfl, by decide⟩
instance : TyOne Tryz.prog 73 := ⟨_, Tryz.underlying73, rfl⟩
instance : SzT Tryz.prog 73 1 := ⟨Tryz.t73, by kernel_rfl, rfl⟩
instance : ZT Tryz.prog 73 (.slice none 0 0) := ⟨Tryz.t73, by kernel_rfl, rfl⟩
instance : SlcT Tryz.prog 26 42 6 := ⟨Tryz.underlying26, ⟨by omega, by omega⟩, Tryz.t42, _, by kernel_rfl, rfl, rfl, rfl, by decide⟩
instance : TyOne Tryz.prog 26 := ⟨_, Tryz.underlying26, rfl⟩
instance : SzT Tryz.prog 26 1 := ⟨Tryz.t26, by kernel_rfl, rfl⟩
instance : ZT Tryz.prog 26 (.slice none 0 0) := ⟨Tryz.t26, by kernel_rfl, rfl⟩
instance : SlcT Tryz.prog 27 45 4 := ⟨Tryz.underlying27, ⟨by omega, by omega⟩, Tryz.t45, _, by kernel_rfl, rfl, rfl, rfl, by decide⟩
instance : TyOne Tryz.prog 27 := ⟨_, Tryz.underlying27, rfl⟩
instance : SzT Tryz.prog 27 1 := ⟨Tryz.t27, by kernel_rfl, rfl⟩
instance : ZT Tryz.prog 27 (.slice none 0 0) := ⟨Tryz.t27, by kernel_rfl, rfl⟩
instance : SlcT Tryz.prog 28 9 1 := ⟨Tryz.underlying28, ⟨by omega, by omega⟩, Tryz.t9, _, by kernel_rfl, rfl, rfl, rfl, by decide⟩
instance : TyOne Tryz.prog 28 := ⟨_, Tryz.underlying28, rfl⟩
instance : SzT Tryz.prog 28 1 := ⟨Tryz.t28, by kernel_rfl, rfl⟩
instance : ZT Tryz.prog 28 (.slice none 0 0) := ⟨Tryz.t28, by kernel_rfl, rfl⟩
instance : SlcT Tryz.prog 29 75 3 := ⟨Tryz.underlying29, ⟨by omega, by omega⟩, Tryz.t75, _, by kernel_rfl, rfl, rfl, rfl, by decide⟩
instance : TyOne Tryz.prog 29 := ⟨_, Tryz.underlying29, rfl⟩
instance : SzT Tryz.prog 29 1 := ⟨Tryz.t29, by kernel_rfl, rfl⟩
instance : ZT Tryz.prog 29 (.slice none 0 0) := ⟨Tryz.t29, by kernel_rfl, rfl⟩
instance : SlcT Tryz.prog 30 77 4 := ⟨Tryz.underlying30, ⟨by omega, by omega⟩, Tryz.t77, _, by kernel_rfl, rfl, rfl, rfl, by decide⟩
instance : TyOne Tryz.prog 30 := ⟨_, Tryz.underlying30, rfl⟩
instance : SzT Tryz.prog 30 1 := ⟨Tryz.t30, by kernel_rfl, rfl⟩
instance : ZT Tryz.prog 30 (.slice none 0 0) := ⟨Tryz.t30, by kernel_rfl, rfl⟩
instance : SlcT Tryz.prog 31 97 4 := ⟨Tryz.underlying31, ⟨by omega, by omega⟩, Tryz.t97, _, by kernel_rfl, rfl, rfl, rfl, by decide⟩
instance : TyOne Tryz.prog 31 := ⟨_, Tryz.underlying31, rfl⟩
instance : SzT Tryz.prog 31 1 := ⟨Tryz.t31, by kernel_rfl, rfl⟩
instance : ZT Tryz.prog 31 (.slice none 0 0) := ⟨Tryz.t31, by kernel_rfl, rfl⟩
instance : SlcT Tryz.prog 32 40 1 := ⟨Tryz.underlying32, ⟨by omega, by omega⟩, Tryz.t40, _, by kernel_rfl, rfl, rfl, rfl, by decide⟩
instance : TyOne Tryz.prog 32 := ⟨_, Tryz.underlying32, rfl⟩
instance : SzT Tryz.prog 32 1 := ⟨Tryz.t32, by kernel_rfl, rfl⟩
instance : ZT Tryz.prog 32 (.slice none 0 0) := ⟨Tryz.t32, by kernel_rfl, rfl⟩
instance : SlcT Tryz.prog 33 82 6 := ⟨Tryz.underlying33, ⟨by omega, by omega⟩, Tryz.t82, _, by kernel_rfl, rfl, rfl, rfl, by decide⟩
instance : TyOne Tryz.prog 33 := ⟨_, Tryz.underlying33, rfl⟩
instance : SzT Tryz.prog 33 1 := ⟨Tryz.t33, by kernel_rfl, rfl⟩
instance : ZT Tryz.prog 33 (.slice none 0 0) := ⟨Tryz.t33, by kernel_rfl, rfl⟩
instance : SlcT Tryz.prog 34 106 9 := ⟨Tryz.underlying34, ⟨by omega, by omega⟩, Tryz.t106, _, by kernel_rfl, rfl, rfl, rfl, by decide⟩
instance : TyOne Tryz.prog 34 := ⟨_, Tryz.underlying34, rfl⟩
instance : SzT Tryz.prog 34 1 := ⟨Tryz.t34, by kernel_rfl, rfl⟩
instance : ZT Tryz.prog 34 (.slice none 0 0) := ⟨Tryz.t34, by kernel_rfl, rfl⟩
instance : SlcT Tryz.prog 90 3 1 := ⟨Tryz.underlying90, ⟨by omega, by omega⟩, Tryz.t3, _, by kernel_rfl, rfl, rfl, rfl, by decide⟩
instance : TyOne Tryz.prog 90 := ⟨_, Tryz.underlying90, rfl⟩
instance : SzT Tryz.prog 90 1 := ⟨Tryz.t90, by kernel_rfl, rfl⟩
instance : ZT Tryz.prog 90 (.slice none 0 0) := ⟨Tryz.t90, by kernel_rfl, rfl⟩
instance : SlcT Tryz.prog 22 5 1 := ⟨Tryz.underlying22, ⟨by omega, by omega⟩, Tryz.t5, _, by kernel_rfl, rfl, rfl, rfl, by decide⟩
instance : TyOne Tryz.prog 22 := ⟨_, Tryz.underlying22, rfl⟩
instance : SzT Tryz.prog 22 1 := ⟨Tryz.t22, by kernel_rfl, rfl⟩
instance : ZT Tryz.prog 22 (.slice none 0 0) := ⟨Tryz.t22, by kernel_rfl, rfl⟩
instance : SlcT Tryz.prog 23 56 11 := ⟨Tryz.underlying23, ⟨by omega, by omega⟩, Tryz.t56, _, by kernel_rfl, rfl, rfl, rfl, by decide⟩
instance : TyOne Tryz.prog 23 := ⟨_, Tryz.underlying23, rfl⟩
instance : SzT Tryz.prog 23 1 := ⟨Tryz.t23, by kernel_rfl, rfl⟩
instance : ZT Tryz.prog 23 (.slice none 0 0) := ⟨Tryz.t23, by kernel_rfl, rfl⟩
instance : TyOne Tryz.prog 3 := ⟨_, Tryz.underlying3, rfl⟩
instance : SzT Tryz.prog 3 1 := ⟨Tryz.t3, by kernel_rfl, rfl⟩
instance : TyIs Tryz.prog 3 (.int .i64) := ⟨Tryz.underlying3⟩
instance : ZT Tryz.prog 3 (.int .i64 0) := ⟨Tryz.t3, by kernel_rfl, rfl⟩
instance : TyOne Tryz.prog 4 := ⟨_, Tryz.underlying4, rfl⟩
instance : SzT Tryz.prog 4 1 := ⟨Tryz.t4, by kernel_rfl, rfl⟩
instance : TyIs Tryz.prog 4 (.bool) := ⟨Tryz.underlying4⟩
instance : ZT Tryz.prog 4 (.bool false) := ⟨Tryz.t4, by kernel_rfl, rfl⟩
instance : TyOne Tryz.prog 9 := ⟨_, Tryz.underlying9, rfl⟩
instance : SzT Tryz.prog 9 1 := ⟨Tryz.t9, by kernel_rfl, rfl⟩
instance : TyIs Tryz.prog 9 (.string) := ⟨Tryz.underlying9⟩
instance : ZT Tryz.prog 9 (.string ⟨#[]⟩) := ⟨Tryz.t9, by kernel_rfl, rfl⟩
instance : TyOne Tryz.prog 5 := ⟨_, Tryz.underlying5, rfl⟩
instance : SzT Tryz.prog 5 1 := ⟨Tryz.t5, by kernel_rfl, rfl⟩
instance : TyIs Tryz.prog 5 (.int .u8) := ⟨Tryz.underlying5⟩
instance : ZT Tryz.prog 5 (.int .u8 0) := ⟨Tryz.t5, by kernel_rfl, rfl⟩
instance : TyOne Tryz.prog 98 := ⟨_, Tryz.underlying98, rfl⟩
theorem grown_thn {a b c : World} {row : Option Nat} (h : a.grownBy b row) (k : b.grownBy c row) : a.grownBy c row := ⟨k.os.trans h.os, k.tape.trans h.tape, k.output.trans h.output, Nat.le_trans h.size k.size, fun i hi hne => (k.block i (Nat.lt_of_lt_of_le hi h.size) hne).trans (h.block i hi hne)⟩
section
variable {P : Program}
theorem run_copyR {T e k : Nat} [h : SlcT P T e k] (w : World) (ty : TypeId) (g o dLen dCap : Nat) (us : List Value) (hg : w.heap[g]? = some (.cells us.toArray e (0, 0))) (a : Addr) (sLen sCap : Nat) (cs : List Value) (n : Nat) (hn : n = Nat.min sLen dLen) (hcl : cs.length = n * k)
 (hsrc : ∀ j v, cs[j]? = some v → w.cell? (a.add j) = some v) (ho : o + n * k ≤ us.length) (h1 : ∀ v ∈ cs, v.oneCell' = true) :
 (Builtin.copy_ #[T, T] ty #[.slice (some ⟨g, o, none⟩) dLen dCap, .slice (some a) sLen sCap]).run P w = .ok (goInt n) (w.setRow g (aput us o cs).toArray) := by
 obtain ⟨t1, _, i, zz, t3, t4, t5, t6, t7⟩ := h.out
 have hl := run_loadCells_list (P := P) w a cs hsrc
 have hst := run_storeCells_at P g o e cs 0 us.toArray w hg (by simp; omega) h1
 subst hn
 rw [hcl] at hl
 simp [Builtin.copy_, run_underlying t1, Builtin.lenOf, Builtin.firstCells, sizeOf, typeInfo, t3, t5, hl, hst, aput]
theorem run_clearR {T e k : Nat} [h : SlcT P T e k] {z : Value} [hz : ZT P e z] (w : World) (ty : TypeId) (g o n c : Nat) (us : List Value) (hg : w.heap[g]? = some (.cells us.toArray e (0, 0))) (hn : 0 < n) (ho : o + n * k ≤ us.length) (h1 : ∀ v ∈ z.cells, v.oneCell' = true) :
 ∃ zs : List Value, zs.length = n * k ∧ (Builtin.clear_ #[T] ty #[.slice (some ⟨g, o, none⟩) n c]).run P w = .ok (.tuple #[]) (w.setRow g (aput us o zs).toArray) := by
 obtain ⟨t1, _, i, zz, t3, t4, t5, t6, t7⟩ := h.out
 obtain ⟨i2, u1, u2⟩ := hz.out
 rw [t3] at u1
 injection u1 with u1
 subst u1
 rw [t4] at u2
 injection u2 with u2
 subst u2
 refine ⟨(Builtin.zeroCells zz.cells n).toList, by simp [size_zeroCells, t6], ?_⟩
 have hone : ∀ v ∈ (Builtin.zeroCells zz.cells n).toList, v.oneCell' = true := by
  intro v hv
  simp only [Builtin.zeroCells, Array.toList_map, Array.toList_range, List.mem_map, List.mem_range] at hv
  obtain ⟨j, hj, rfl⟩ := hv
  have hk : 0 < zz.cells.size := by
   rcases Nat.eq_zero_or_pos zz.cells.size with h0 | h0
   ·rw [h0] at hj; simp at hj
   ·exact h0
  have hm := Nat.mod_lt j hk
  rw [getElem!_pos zz.cells _ hm]
  exact h1 _ (Array.getElem_mem hm)
 have hst := run_storeCells_at P g o e (Builtin.zeroCells zz.cells n).toList 0 us.toArray w hg (by simp [size_zeroCells, t6]; omega) hone
 obtain ⟨m, rfl⟩ : ∃ m, n = m + 1 := ⟨n - 1, by omega⟩
 simp [Builtin.clear_, run_underlying t1, zeroValue, typeInfo, t3, t4, hst, aput]
theorem run_appR {T e k : Nat} [h : SlcT P T e k] (w : World) (ty : TypeId) (g sLen sCap : Nat) (us : List Value) (hg : w.heap[g]? = some (.cells us.toArray e (0, 0))) (a : Addr) (m c : Nat) (news : List Value) (hl : news.length = m * k) (hnews : ∀ j u, news[j]? = some u → w.cell? (a.add j) = some u) (h1 : ∀ u ∈ news, u.oneCell' = true)
 (hroom : sLen + m ≤ sCap) (hfit : sLen * k + m * k ≤ us.length) :
 (Builtin.append_ #[T, T] ty #[.slice (some ⟨g, 0, none⟩) sLen sCap, .slice (some a) m c]).run P w = .ok (.slice (some ⟨g, 0, none⟩) (sLen + m) sCap) (w.setRow g (aput us (sLen * k) news).toArray) := by
 obtain ⟨t1, _, i, zz, t3, t4, t5, t6, t7⟩ := h.out
 have := run_append_room (P := P) w T ty e i t1 t3 g sLen sCap us.toArray hg a m c news (by rw [hl, t5]) hnews h1 hroom (by rw [t5, hl]; simpa using hfit)
 rw [t5] at this
 exact this
theorem wp_copyR {o : Oper} {a : Act} {w : World} {K : Act → World → Prop} {Q : Exit → Act → World → Prop} (d x : Operand) (ts : Array TypeId) (ho : o.op = .call { callee := .builtin .copy, args := #[d, x], argTypes := ts }) (v u : Value) (hd : a.eval d = v) (hx : a.eval x = u) {v' : Value} {w' : World}
 (hr : (Builtin.copy_ ts o.type #[v, u]).run P w = .ok v' w') (h : K (a.put o.dst v') w') : o.wp P a w K Q := by
 unfold Oper.wp execOp
 simp only [ho, resolve, invoke, builtin, Sem.run_bind, Sem.run_pure, Result.andThen_ok, List.map_toArray, List.map_cons, List.map_nil, hd, hx, hr]
 exact h
theorem step_copyR {ops : Array Oper} {o : Oper} {a : Act} {w : World} {K : Act → World → Prop} {Q : Exit → Act → World → Prop} {E : Prop} (hg : o.guard = none) (d x : Operand) (ts : Array TypeId) (ho : o.op = .call { callee := .builtin .copy, args := #[d, x], argTypes := ts }) (v u : Value) (hd : a.eval d = v) (hx : a.eval x = u) {v' : Value} {w' : World}
 (hr : (Builtin.copy_ ts o.type #[v, u]).run P w = .ok v' w') (h : K (a.put o.dst v') w') : if Region.wanted o (yielded ops a.tmps) = true then Oper.wp P o a w K Q else E := by
 rw [if_pos (by simp [Region.wanted, hg])]
 exact wp_copyR d x ts ho v u hd hx hr h
theorem wp_appR {o : Oper} {a : Act} {w : World} {K : Act → World → Prop} {Q : Exit → Act → World → Prop} (d x : Operand) (ts : Array TypeId) (ho : o.op = .call { callee := .builtin .append, args := #[d, x], argTypes := ts }) (v u : Value) (hd : a.eval d = v) (hx : a.eval x = u) {v' : Value} {w' : World}
 (hr : (Builtin.append_ ts o.type #[v, u]).run P w = .ok v' w') (h : K (a.put o.dst v') w') : o.wp P a w K Q := by
 unfold Oper.wp execOp
 simp only [ho, resolve, invoke, builtin, Sem.run_bind, Sem.run_pure, Result.andThen_ok, List.map_toArray, List.map_cons, List.map_nil, hd, hx, hr]
 exact h
theorem wpl_appR {ops : Array Oper} {rest : List Oper} {o : Oper} {a : Act} {w : World} {Q : Exit → Act → World → Prop} (hgd : o.guard = none) (d x : Operand) (ts : Array TypeId) (ho : o.op = .call { callee := .builtin .append, args := #[d, x], argTypes := ts }) (v u : Value) (hd : a.eval d = v) (hx : a.eval x = u) {v' : Value} {w' : World}
 (hr : (Builtin.append_ ts o.type #[v, u]).run P w = .ok v' w') (h : wpList P ops Q rest (a.put o.dst v') w') : wpList P ops Q (o :: rest) a w :=
 wpList_plain hgd fun _ hK => wp_appR d x ts ho v u hd hx hr (hK _ _ h)
theorem step_appR {ops : Array Oper} {o : Oper} {a : Act} {w : World} {K : Act → World → Prop} {Q : Exit → Act → World → Prop} {E : Prop} (hg : o.guard = none) (d x : Operand) (ts : Array TypeId) (ho : o.op = .call { callee := .builtin .append, args := #[d, x], argTypes := ts }) (v u : Value) (hd : a.eval d = v) (hx : a.eval x = u) {v' : Value} {w' : World}
 (hr : (Builtin.append_ ts o.type #[v, u]).run P w = .ok v' w') (h : K (a.put o.dst v') w') : if Region.wanted o (yielded ops a.tmps) = true then Oper.wp P o a w K Q else E := by
 rw [if_pos (by simp [Region.wanted, hg])]
 exact wp_appR d x ts ho v u hd hx hr h
end
theorem rawDelRange (b i j n c : Nat) (us : List Value) (w : World) (hg : w.heap[b]? = some (.cells us.toArray 116 (0, 0))) (hl : us.length = c * 2) (hn : n ≤ c) (hc63 : c ≤ 9223372036854775807) (hlt : i < j) (hj : j ≤ n) (h1 : ∀ u ∈ us.take (n * 2), u.oneCell' = true) :
 Calls Tryz.prog 139 #[.slice (some ⟨b, 0, none⟩) n c, .int .i64 i, .int .i64 j] w fun e w' => e = .returned (.slice (some ⟨b, 0, none⟩) (i + (n - j)) c) ∧ ∃ zs : List Value, zs.length = (n - (i + (n - j))) * 2 ∧ w' = (w.drew.setRow b (aput us (i * 2) ((us.take (n * 2)).drop (j * 2))).toArray).setRow b (aput (aput us (i * 2) ((us.take (n * 2)).drop (j * 2))) ((i + (n - j)) * 2) zs).toArray := by
 have hnk : n * 2 ≤ c * 2 := Nat.mul_le_mul_right _ hn
 obtain ⟨news, hnews⟩ : ∃ news, news = (us.take (n * 2)).drop (j * 2) := ⟨_, rfl⟩
 have hlen : news.length = (n - j) * 2 := by rw [hnews, List.length_drop, List.length_take, Nat.sub_mul]; omega
 obtain ⟨A, hA, hsrc⟩ : ∃ A : Addr, (if c = j then (some ⟨b, 0, none⟩ : Option Addr) else some ⟨b, j * 2, none⟩) = some A ∧ Hid (∀ t u, news[t]? = some u → w.drew.cell? (A.add t) = some u) := by
  by_cases h : c = j
  ·refine ⟨⟨b, 0, none⟩, by simp [h], fun t u hu => ?_⟩
   have h0 : news.length = 0 := by rw [hlen, show n - j = 0 by omega, Nat.zero_mul]
   rw [List.length_eq_zero_iff.1 h0] at hu
   simp at hu
  ·refine ⟨⟨b, j * 2, none⟩, by simp [h], fun t u hu => ?_⟩
   rw [Addr.add_lit]
   show w.cell? _ = _
   rw [cell_of_heap hg]
   rw [hnews, List.getElem?_drop, List.getElem?_take] at hu
   split at hu
   ·exact hu
   ·cases hu
 have h2 : ∀ u ∈ news, u.oneCell' = true := fun u hu => by rw [hnews] at hu; exact h1 u (List.mem_of_mem_drop hu)
 have hap : Hid (∀ ty sc, (Builtin.append_ #[40, 40] ty #[.slice (some ⟨b, 0, none⟩) i c, .slice (some A) (n - j) sc]).run Tryz.prog w.drew = .ok (.slice (some ⟨b, 0, none⟩) (i + (n - j)) c) (w.drew.setRow b (aput us (i * 2) news).toArray)) :=
  fun ty sc => run_appR (P := Tryz.prog) (T := 40) (e := 116) (k := 2) w.drew ty b i c us hg A (n - j) sc news hlen hsrc.out h2 (by omega) (by omega)
 obtain ⟨W1, hW1⟩ : ∃ W1, W1 = w.drew.setRow b (aput us (i * 2) news).toArray := ⟨_, rfl⟩
 have hg1 : W1.heap[b]? = some (.cells (aput us (i * 2) news).toArray 116 (0, 0)) := by rw [hW1]; exact setRow_heap w.drew b _ _ _ _ hg
 have hl1 : (aput us (i * 2) news).length = c * 2 := by rw [aput_len _ _ _ (by omega), hl]
 obtain ⟨zs, hz, hcl⟩ := run_clearR (P := Tryz.prog) (T := 40) (e := 116) (k := 2) W1 3 b ((i + (n - j)) * 2) (n - (i + (n - j))) (c - (i + (n - j))) _ hg1 (by omega) (by omega) (by decide)
 have hcl' : ∀ ty, (Builtin.clear_ #[40] ty #[.slice (some ⟨b, (i + (n - j)) * 2, none⟩) (n - (i + (n - j))) (c - (i + (n - j)))]).run Tryz.prog W1 = .ok (.tuple #[]) (W1.setRow b (aput (aput us (i * 2) news) ((i + (n - j)) * 2) zs).toArray) := fun _ => hcl
 have hap' : Hid (∀ ty sc, (Builtin.append_ #[40, 40] ty #[.slice (some ⟨b, 0, none⟩) i c, .slice (some A) (n - j) sc]).run Tryz.prog w.drew = .ok (.slice (some ⟨b, 0, none⟩) (i + (n - j)) c) W1) := fun ty sc => by rw [hW1]; exact hap.out ty sc
 rw [← hnews]
 have hW : Hid (W1 = w.drew.setRow b (aput us (i * 2) news).toArray) := hW1
 have hic : i ≤ c := by omega
 have hjc : j ≤ c := by omega
 clear hap hW1 hg1 hl1 hg hl hnews hlen hsrc h2 h1 hnk hcl
 have mixed : Tryz.prog.follows Departure.mixedOrders = true := by kernel_rfl
 have hne : ¬ (i : Int) = (j : Int) := by omega
 go_enter Tryz.func139, Tryz.ntmps139
 go_wp2_with fail
 go_region_law_o (refine step_appR rfl _ _ _ rfl (.slice (some ⟨b, 0, none⟩) i c) (.slice (some A) (n - j) (c - j)) (by simp [Act.eval, Act.put]) (by simp [Act.eval, Act.put]) (hap'.out _ _) ?_)
 go_wp2
 go_ret
 exact ⟨rfl, zs, hz, by rw [← hW.out]⟩
theorem rawDelPiece (b i j n c : Nat) (us : List Value) (w : World) (hg : w.heap[b]? = some (.cells us.toArray 50 (0, 0))) (hl : us.length = c * 2) (hn : n ≤ c) (hc63 : c ≤ 9223372036854775807) (hlt : i < j) (hj : j ≤ n) (h1 : ∀ u ∈ us.take (n * 2), u.oneCell' = true) :
 Calls Tryz.prog 154 #[.slice (some ⟨b, 0, none⟩) n c, .int .i64 i, .int .i64 j] w fun e w' => e = .returned (.slice (some ⟨b, 0, none⟩) (i + (n - j)) c) ∧ ∃ zs : List Value, zs.length = (n - (i + (n - j))) * 2 ∧ w' = (w.drew.setRow b (aput us (i * 2) ((us.take (n * 2)).drop (j * 2))).toArray).setRow b (aput (aput us (i * 2) ((us.take (n * 2)).drop (j * 2))) ((i + (n - j)) * 2) zs).toArray := by
 have hnk : n * 2 ≤ c * 2 := Nat.mul_le_mul_right _ hn
 obtain ⟨news, hnews⟩ : ∃ news, news = (us.take (n * 2)).drop (j * 2) := ⟨_, rfl⟩
 have hlen : news.length = (n - j) * 2 := by rw [hnews, List.length_drop, List.length_take, Nat.sub_mul]; omega
 obtain ⟨A, hA, hsrc⟩ : ∃ A : Addr, (if c = j then (some ⟨b, 0, none⟩ : Option Addr) else some ⟨b, j * 2, none⟩) = some A ∧ Hid (∀ t u, news[t]? = some u → w.drew.cell? (A.add t) = some u) := by
  by_cases h : c = j
  ·refine ⟨⟨b, 0, none⟩, by simp [h], fun t u hu => ?_⟩
   have h0 : news.length = 0 := by rw [hlen, show n - j = 0 by omega, Nat.zero_mul]
   rw [List.length_eq_zero_iff.1 h0] at hu
   simp at hu
  ·refine ⟨⟨b, j * 2, none⟩, by simp [h], fun t u hu => ?_⟩
   rw [Addr.add_lit]
   show w.cell? _ = _
   rw [cell_of_heap hg]
   rw [hnews, List.getElem?_drop, List.getElem?_take] at hu
   split at hu
   ·exact hu
   ·cases hu
 have h2 : ∀ u ∈ news, u.oneCell' = true := fun u hu => by rw [hnews] at hu; exact h1 u (List.mem_of_mem_drop hu)
 have hap : Hid (∀ ty sc, (Builtin.append_ #[43, 43] ty #[.slice (some ⟨b, 0, none⟩) i c, .slice (some A) (n - j) sc]).run Tryz.prog w.drew = .ok (.slice (some ⟨b, 0, none⟩) (i + (n - j)) c) (w.drew.setRow b (aput us (i * 2) news).toArray)) :=
  fun ty sc => run_appR (P := Tryz.prog) (T := 43) (e := 50) (k := 2) w.drew ty b i c us hg A (n - j) sc news hlen hsrc.out h2 (by omega) (by omega)
 obtain ⟨W1, hW1⟩ : ∃ W1, W1 = w.drew.setRow b (aput us (i * 2) news).toArray := ⟨_, rfl⟩
 have hg1 : W1.heap[b]? = some (.cells (aput us (i * 2) news).toArray 50 (0, 0)) := by rw [hW1]; exact setRow_heap w.drew b _ _ _ _ hg
 have hl1 : (aput us (i * 2) news).length = c * 2 := by rw [aput_len _ _ _ (by omega), hl]
 obtain ⟨zs, hz, hcl⟩ := run_clearR (P := Tryz.prog) (T := 43) (e := 50) (k := 2) W1 3 b ((i + (n - j)) * 2) (n - (i + (n - j))) (c - (i + (n - j))) _ hg1 (by omega) (by omega) (by decide)
 have hcl' : ∀ ty, (Builtin.clear_ #[43] ty #[.slice (some ⟨b, (i + (n - j)) * 2, none⟩) (n - (i + (n - j))) (c - (i + (n - j)))]).run Tryz.prog W1 = .ok (.tuple #[]) (W1.setRow b (aput (aput us (i * 2) news) ((i + (n - j)) * 2) zs).toArray) := fun _ => hcl
 have hap' : Hid (∀ ty sc, (Builtin.append_ #[43, 43] ty #[.slice (some ⟨b, 0, none⟩) i c, .slice (some A) (n - j) sc]).run Tryz.prog w.drew = .ok (.slice (some ⟨b, 0, none⟩) (i + (n - j)) c) W1) := fun ty sc => by rw [hW1]; exact hap.out ty sc
 rw [← hnews]
 have hW : Hid (W1 = w.drew.setRow b (aput us (i * 2) news).toArray) := hW1
 have hic : i ≤ c := by omega
 have hjc : j ≤ c := by omega
 clear hap hW1 hg1 hl1 hg hl hnews hlen hsrc h2 h1 hnk hcl
 have mixed : Tryz.prog.follows Departure.mixedOrders = true := by kernel_rfl
 have hne : ¬ (i : Int) = (j : Int) := by omega
 go_enter Tryz.func154, Tryz.ntmps154
 go_wp2_with fail
 go_region_law_o (refine step_appR rfl _ _ _ rfl (.slice (some ⟨b, 0, none⟩) i c) (.slice (some A) (n - j) (c - j)) (by simp [Act.eval, Act.put]) (by simp [Act.eval, Act.put]) (hap'.out _ _) ?_)
 go_wp2
 go_ret
 exact ⟨rfl, zs, hz, by rw [← hW.out]⟩
theorem rawDelCarried (b i j n c : Nat) (us : List Value) (w : World) (hg : w.heap[b]? = some (.cells us.toArray 82 (0, 0))) (hl : us.length = c * 6) (hn : n ≤ c) (hc63 : c ≤ 9223372036854775807) (hlt : i < j) (hj : j ≤ n) (h1 : ∀ u ∈ us.take (n * 6), u.oneCell' = true) :
 Calls Tryz.prog 196 #[.slice (some ⟨b, 0, none⟩) n c, .int .i64 i, .int .i64 j] w fun e w' => e = .returned (.slice (some ⟨b, 0, none⟩) (i + (n - j)) c) ∧ ∃ zs : List Value, zs.length = (n - (i + (n - j))) * 6 ∧ w' = (w.drew.setRow b (aput us (i * 6) ((us.take (n * 6)).drop (j * 6))).toArray).setRow b (aput (aput us (i * 6) ((us.take (n * 6)).drop (j * 6))) ((i + (n - j)) * 6) zs).toArray := by
 have hnk : n * 6 ≤ c * 6 := Nat.mul_le_mul_right _ hn
 obtain ⟨news, hnews⟩ : ∃ news, news = (us.take (n * 6)).drop (j * 6) := ⟨_, rfl⟩
 have hlen : news.length = (n - j) * 6 := by rw [hnews, List.length_drop, List.length_take, Nat.sub_mul]; omega
 obtain ⟨A, hA, hsrc⟩ : ∃ A : Addr, (if c = j then (some ⟨b, 0, none⟩ : Option Addr) else some ⟨b, j * 6, none⟩) = some A ∧ Hid (∀ t u, news[t]? = some u → w.drew.cell? (A.add t) = some u) := by
  by_cases h : c = j
  ·refine ⟨⟨b, 0, none⟩, by simp [h], fun t u hu => ?_⟩
   have h0 : news.length = 0 := by rw [hlen, show n - j = 0 by omega, Nat.zero_mul]
   rw [List.length_eq_zero_iff.1 h0] at hu
   simp at hu
  ·refine ⟨⟨b, j * 6, none⟩, by simp [h], fun t u hu => ?_⟩
   rw [Addr.add_lit]
   show w.cell? _ = _
   rw [cell_of_heap hg]
   rw [hnews, List.getElem?_drop, List.getElem?_take] at hu
   split at hu
   ·exact hu
   ·cases hu
 have h2 : ∀ u ∈ news, u.oneCell' = true := fun u hu => by rw [hnews] at hu; exact h1 u (List.mem_of_mem_drop hu)
 have hap : Hid (∀ ty sc, (Builtin.append_ #[33, 33] ty #[.slice (some ⟨b, 0, none⟩) i c, .slice (some A) (n - j) sc]).run Tryz.prog w.drew = .ok (.slice (some ⟨b, 0, none⟩) (i + (n - j)) c) (w.drew.setRow b (aput us (i * 6) news).toArray)) :=
  fun ty sc => run_appR (P := Tryz.prog) (T := 33) (e := 82) (k := 6) w.drew ty b i c us hg A (n - j) sc news hlen hsrc.out h2 (by omega) (by omega)
 obtain ⟨W1, hW1⟩ : ∃ W1, W1 = w.drew.setRow b (aput us (i * 6) news).toArray := ⟨_, rfl⟩
 have hg1 : W1.heap[b]? = some (.cells (aput us (i * 6) news).toArray 82 (0, 0)) := by rw [hW1]; exact setRow_heap w.drew b _ _ _ _ hg
 have hl1 : (aput us (i * 6) news).length = c * 6 := by rw [aput_len _ _ _ (by omega), hl]
 obtain ⟨zs, hz, hcl⟩ := run_clearR (P := Tryz.prog) (T := 33) (e := 82) (k := 6) W1 3 b ((i + (n - j)) * 6) (n - (i + (n - j))) (c - (i + (n - j))) _ hg1 (by omega) (by omega) (by decide)
 have hcl' : ∀ ty, (Builtin.clear_ #[33] ty #[.slice (some ⟨b, (i + (n - j)) * 6, none⟩) (n - (i + (n - j))) (c - (i + (n - j)))]).run Tryz.prog W1 = .ok (.tuple #[]) (W1.setRow b (aput (aput us (i * 6) news) ((i + (n - j)) * 6) zs).toArray) := fun _ => hcl
 have hap' : Hid (∀ ty sc, (Builtin.append_ #[33, 33] ty #[.slice (some ⟨b, 0, none⟩) i c, .slice (some A) (n - j) sc]).run Tryz.prog w.drew = .ok (.slice (some ⟨b, 0, none⟩) (i + (n - j)) c) W1) := fun ty sc => by rw [hW1]; exact hap.out ty sc
 rw [← hnews]
 have hW : Hid (W1 = w.drew.setRow b (aput us (i * 6) news).toArray) := hW1
 have hic : i ≤ c := by omega
 have hjc : j ≤ c := by omega
 clear hap hW1 hg1 hl1 hg hl hnews hlen hsrc h2 h1 hnk hcl
 have mixed : Tryz.prog.follows Departure.mixedOrders = true := by kernel_rfl
 have hne : ¬ (i : Int) = (j : Int) := by omega
 go_enter Tryz.func196, Tryz.ntmps196
 go_wp2_with fail
 go_region_law_o (refine step_appR rfl _ _ _ rfl (.slice (some ⟨b, 0, none⟩) i c) (.slice (some A) (n - j) (c - j)) (by simp [Act.eval, Act.put]) (by simp [Act.eval, Act.put]) (hap'.out _ _) ?_)
 go_wp2
 go_ret
 exact ⟨rfl, zs, hz, by rw [← hW.out]⟩
theorem rawDelWire (b i j n c : Nat) (us : List Value) (w : World) (hg : w.heap[b]? = some (.cells us.toArray 106 (0, 0))) (hl : us.length = c * 9) (hn : n ≤ c) (hc63 : c ≤ 9223372036854775807) (hlt : i < j) (hj : j ≤ n) (h1 : ∀ u ∈ us.take (n * 9), u.oneCell' = true) :
 Calls Tryz.prog 97 #[.slice (some ⟨b, 0, none⟩) n c, .int .i64 i, .int .i64 j] w fun e w' => e = .returned (.slice (some ⟨b, 0, none⟩) (i + (n - j)) c) ∧ ∃ zs : List Value, zs.length = (n - (i + (n - j))) * 9 ∧ w' = (w.drew.setRow b (aput us (i * 9) ((us.take (n * 9)).drop (j * 9))).toArray).setRow b (aput (aput us (i * 9) ((us.take (n * 9)).drop (j * 9))) ((i + (n - j)) * 9) zs).toArray := by
 have hnk : n * 9 ≤ c * 9 := Nat.mul_le_mul_right _ hn
 obtain ⟨news, hnews⟩ : ∃ news, news = (us.take (n * 9)).drop (j * 9) := ⟨_, rfl⟩
 have hlen : news.length = (n - j) * 9 := by rw [hnews, List.length_drop, List.length_take, Nat.sub_mul]; omega
 obtain ⟨A, hA, hsrc⟩ : ∃ A : Addr, (if c = j then (some ⟨b, 0, none⟩ : Option Addr) else some ⟨b, j * 9, none⟩) = some A ∧ Hid (∀ t u, news[t]? = some u → w.drew.cell? (A.add t) = some u) := by
  by_cases h : c = j
  ·refine ⟨⟨b, 0, none⟩, by simp [h], fun t u hu => ?_⟩
   have h0 : news.length = 0 := by rw [hlen, show n - j = 0 by omega, Nat.zero_mul]
   rw [List.length_eq_zero_iff.1 h0] at hu
   simp at hu
  ·refine ⟨⟨b, j * 9, none⟩, by simp [h], fun t u hu => ?_⟩
   rw [Addr.add_lit]
   show w.cell? _ = _
   rw [cell_of_heap hg]
   rw [hnews, List.getElem?_drop, List.getElem?_take] at hu
   split at hu
   ·exact hu
   ·cases hu
 have h2 : ∀ u ∈ news, u.oneCell' = true := fun u hu => by rw [hnews] at hu; exact h1 u (List.mem_of_mem_drop hu)
 have hap : Hid (∀ ty sc, (Builtin.append_ #[34, 34] ty #[.slice (some ⟨b, 0, none⟩) i c, .slice (some A) (n - j) sc]).run Tryz.prog w.drew = .ok (.slice (some ⟨b, 0, none⟩) (i + (n - j)) c) (w.drew.setRow b (aput us (i * 9) news).toArray)) :=
  fun ty sc => run_appR (P := Tryz.prog) (T := 34) (e := 106) (k := 9) w.drew ty b i c us hg A (n - j) sc news hlen hsrc.out h2 (by omega) (by omega)
 obtain ⟨W1, hW1⟩ : ∃ W1, W1 = w.drew.setRow b (aput us (i * 9) news).toArray := ⟨_, rfl⟩
 have hg1 : W1.heap[b]? = some (.cells (aput us (i * 9) news).toArray 106 (0, 0)) := by rw [hW1]; exact setRow_heap w.drew b _ _ _ _ hg
 have hl1 : (aput us (i * 9) news).length = c * 9 := by rw [aput_len _ _ _ (by omega), hl]
 obtain ⟨zs, hz, hcl⟩ := run_clearR (P := Tryz.prog) (T := 34) (e := 106) (k := 9) W1 3 b ((i + (n - j)) * 9) (n - (i + (n - j))) (c - (i + (n - j))) _ hg1 (by omega) (by omega) (by decide)
 have hcl' : ∀ ty, (Builtin.clear_ #[34] ty #[.slice (some ⟨b, (i + (n - j)) * 9, none⟩) (n - (i + (n - j))) (c - (i + (n - j)))]).run Tryz.prog W1 = .ok (.tuple #[]) (W1.setRow b (aput (aput us (i * 9) news) ((i + (n - j)) * 9) zs).toArray) := fun _ => hcl
 have hap' : Hid (∀ ty sc, (Builtin.append_ #[34, 34] ty #[.slice (some ⟨b, 0, none⟩) i c, .slice (some A) (n - j) sc]).run Tryz.prog w.drew = .ok (.slice (some ⟨b, 0, none⟩) (i + (n - j)) c) W1) := fun ty sc => by rw [hW1]; exact hap.out ty sc
 rw [← hnews]
 have hW : Hid (W1 = w.drew.setRow b (aput us (i * 9) news).toArray) := hW1
 have hic : i ≤ c := by omega
 have hjc : j ≤ c := by omega
 clear hap hW1 hg1 hl1 hg hl hnews hlen hsrc h2 h1 hnk hcl
 have mixed : Tryz.prog.follows Departure.mixedOrders = true := by kernel_rfl
 have hne : ¬ (i : Int) = (j : Int) := by omega
 go_enter Tryz.func97, Tryz.ntmps97
 go_wp2_with fail
 go_region_law_o (refine step_appR rfl _ _ _ rfl (.slice (some ⟨b, 0, none⟩) i c) (.slice (some A) (n - j) (c - j)) (by simp [Act.eval, Act.put]) (by simp [Act.eval, Act.put]) (hap'.out _ _) ?_)
 go_wp2
 go_ret
 exact ⟨rfl, zs, hz, by rw [← hW.out]⟩
end Go.Proofs.YtjbhiglaginpeaaGreat
