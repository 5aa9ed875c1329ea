/- Worlds in which, of the blocks that were there, one only was written. No condition. -/
import Derived.Test.YtjpaoadbgmmoeaaWB14
import Derived.Test.YtjpaoadbgmmoeaaWB1
namespace Go.Proofs.Ytjpaoadbgmmoeaa
open Go.RowKit

theorem on_trans {bc : Nat} {a b c : World} (h : a.grownBy b (some bc)) (k : b.grownBy c (some bc)) : a.grownBy c (some bc) :=
  ⟨k.os.trans h.os, k.tape.trans h.tape, k.output.trans h.output, Nat.le_trans h.size k.size, fun i hi hn => (k.block i (Nat.lt_of_lt_of_le hi h.size) hn).trans (h.block i hi hn)⟩
theorem on_below {a b : World} (bc : Nat) (h : Below a.heap.size a b) : a.grownBy b (some bc) := ⟨h.os, h.tape, h.output, h.size, fun i hi _ => h.block i hi⟩
theorem below_on {a b : World} {bc B : Nat} (h : a.grownBy b (some bc)) (hB : B ≤ bc) (hs : B ≤ a.heap.size) : Below B a b :=
  ⟨h.os, h.tape, h.output, h.size, fun i hi => h.block i (by omega) (fun e => by have := Option.some.inj e; omega)⟩
theorem on_set (w : World) (bc : Nat) (v : Value) : w.grownBy (w.setCell ⟨bc, 0, none⟩ v) (some bc) :=
  ⟨rfl, rfl, rfl, by simp [World.setCell], fun k _ hk => Below.heap_setCell _ _ _ k (fun e => hk (by rw [e]))⟩
theorem on_cell {w w' : World} {bc : Nat} (h : w.grownBy w' (some bc)) {p : Addr} (hp : p.block < w.heap.size) (hne : p.block ≠ bc) : w'.cell? p = w.cell? p :=
  World.cell?_of_block (w := w) (h.block p.block hp (fun e => hne (Option.some.inj e)))
theorem Car.on {w w' : World} {bc : Nat} {ok : Nat → Prop} (hok : Sub ok (Old w)) (hne : ∀ b, ok b → b ≠ bc) (h : w.grownBy w' (some bc)) : Car w ok w' ok :=
  fun b hb => ⟨hb, h.block b (hok b hb) (fun e => hne b hb (Option.some.inj e))⟩
theorem AtP.on {w w' : World} {bc bw : Nat} {h : Hd} {now : Int} (x : AtP w bw h now) (hne : bw ≠ bc) (hg : w.grownBy w' (some bc)) : AtP w' bw h now :=
  ⟨Nat.lt_of_lt_of_le x.1 hg.size, fun j v hv => (on_cell hg (p := ⟨bw, j, none⟩) x.1 hne).trans (x.2 j v hv)⟩
theorem StR.car {w w' : World} {ok : Nat → Prop} {h : Hd} {W : Wd} (x : StR w ok h W) (hc : Car w ok w' ok) : StR w' ok h W :=
  ⟨x.sends.car (fun _ _ => sdCar hc) hc, x.recvs.car (fun _ _ => rvCar hc) hc, x.n1, x.n2⟩
end Go.Proofs.Ytjpaoadbgmmoeaa
