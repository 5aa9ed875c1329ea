/- Runs whose arrays are their own: what a change of one array, or of the run's own block, leaves as it was. No condition. -/
import Derived.Test.YtjpaoadbgmmoeaaWM
import Derived.Test.YtjpaoadbgmmoeaaWB16
namespace Go.Proofs.Ytjpaoadbgmmoeaa
open Go.RowKit

section
variable {α : Type} {R : World → (Nat → Prop) → List Value → α → Prop} {size t base i n c : Nat} {ro : Nat → Nat} {w : World} {A : Option Addr} {l : List α}
theorem OutS.owner (h : OutS R size t w base ro i A n c l) : ∀ g, (Value.slice A n c).ownBlock = some g → base ≤ g ∧ g < w.heap.size ∧ ro g = i := by
  intro g hg
  rcases h.form with rfl | ⟨g', rfl, h1, h2, h3⟩
  · cases hg
  · have : g' = g := by simpa [Value.ownBlock] using hg
    subst this
    exact ⟨h1, h2, h3⟩
/-- An element is appended: the row may be new, or the old one. -/
theorem OutS.app (hR : RCar R) (h : OutS R size t w base ro i A n c l) (hi : i ≠ 0) (hb : base ≤ w.heap.size) {us : List Value} {x : α} (hul : us.length = size) (hx : R w (Inn ro w) us x)
    {css : List (List Value)} (h1 : css.length = n) (h2 : ∀ y ∈ css, y.length = size) (h3 : ∀ (k : Nat) (cs : List Value) (y : α), css[k]? = some cs → l[k]? = some y → R w (Inn ro w) cs y)
    {g c' : Nat} {w' : World} (hown : w'.ownsRow base t size (.slice (some ⟨g, 0, none⟩) (n + 1) c') (n + 1) (css.flatten ++ us)) (hat : (Value.slice A n c).ownBlock = some g ∨ w.heap.size ≤ g) (hc : n + 1 ≤ c') (hcm : c' ≤ maxLen) (hg : w.grownBy w' (Value.slice A n c).ownBlock) :
    OutS R size t w' base (reRole ro w.heap.size g i) i (some ⟨g, 0, none⟩) (n + 1) c' (l ++ [x]) := by
  have hro : ∀ b, b < w.heap.size → reRole ro w.heap.size g i b = ro b := fun b hb => reRole_old hb
  have hcar := inn_car (ro' := reRole ro w.heap.size g i) hg (fun g' e hlt => by rw [(h.owner g' e).2.2]; exact hi) hro
  have hfl : css.flatten ++ us = (css ++ [us]).flatten := by simp
  rw [hfl] at hown
  refine OutS.fresh (by rw [List.length_append, h.len]; rfl) ⟨hc, hcm⟩ (by rw [List.length_append, h1]; rfl) (fun y hy => ?_) (fun k cs y a b => ?_) hown ?_
  · rw [List.mem_append, List.mem_singleton] at hy
    rcases hy with hy | hy
    · exact h2 y hy
    · rw [hy]; exact hul
  · have hl := h.len
    by_cases hk : k < n
    · rw [List.getElem?_append_left (by omega)] at a b
      exact hR hcar (h3 k cs y a b)
    · have hkn : k = n := by
        have := (List.getElem?_eq_some_iff.1 a).1
        rw [List.length_append, h1] at this
        simp at this; omega
      subst hkn
      rw [List.getElem?_append_right (by omega), h1] at a
      rw [List.getElem?_append_right (by omega), hl] at b
      simp at a b
      subst a; subst b
      exact hR hcar hx
  · rcases hat with hat | hat
    · rw [hro g (h.owner g hat).2.1]; exact (h.owner g hat).2.2
    · exact reRole_new hat
/-- 'append' of one element to an array of the run's own. -/
theorem wpList_appO {P : Program} {ops : Array Oper} {rest : List Oper} {o : Oper} {a : Act} {Q : Exit → Act → World → Prop} (hgd : o.guard = none) (s x : Operand) (T : TypeId)
    (ho : o.op = .call { callee := .builtin .append, args := #[s, x], argTypes := #[T, T] })
    (f : TypeInfo) (z : Value) (bytes : Nat) (ht : P.underlying T = some (.slice t)) (hf : P.info? t = some f) (hz : f.zero = some z)
    (hsize : f.size = size) (hby : f.bytes = bytes) (hzs : z.cells.size = size) (hsz : 0 < size) (hR : RCar R) (h : OutS R size t w base ro i A n c l) (hi : i ≠ 0) (hb : base ≤ w.heap.size)
    {us : List Value} {y : α} (hul : us.length = size) (hu : ∀ u ∈ us, u.oneCell' = true) (hy : R w (Inn ro w) us y)
    (hs : a.eval s = .slice A n c) (hx : a.eval x = .slice (some ⟨w.heap.size, 0, none⟩) 1 1) (h63 : n + 1 ≤ maxLen) (hbytes : (n + 1) * bytes ≤ 140737488355328)
    (hK : ∀ g c' w', OutS R size t w' base (reRole ro w.heap.size g i) i (some ⟨g, 0, none⟩) (n + 1) c' (l ++ [y]) → w.grownBy w' (Value.slice A n c).ownBlock → wpList P ops Q rest (a.put o.dst (.slice (some ⟨g, 0, none⟩) (n + 1) c')) w') :
    wpList P ops Q (o :: rest) a (w.alloc (.cells us.toArray t)) := by
  obtain ⟨css, h1, h2, h3, hrow⟩ := h.cells
  exact wpList_appS w hgd s x T ho base t f z size bytes ht hf hz hsize hby hzs hsz us hul hu _ n _ hrow hs hx h63 hbytes hb fun g c' w' k1 k2 k3 k4 k5 => hK g c' w' (h.app hR hi hb hul hy h1 h2 h3 k1 k2 k3 k4 k5) k5
end
/-- A run whose arrays are its own, of the roles 1 to 9. -/
structure OwnH (w : World) (base : Nat) (ro : Nat → Nat) (h : Hd) (W : Wd) : Prop where
  sends : OutS SdR 6 47 w base ro 1 h.A1 h.n1 h.c1 W.sends
  recvs : OutS RvR 4 52 w base ro 2 h.A2 h.n2 h.c2 W.recvs
  got : OutS BsR 1 9 w base ro 3 h.A3 h.n3 h.c3 W.got
  paths : OutS LsR 3 57 w base ro 4 h.A4 h.n4 h.c4 W.paths
  rtts : OutS RtR 4 60 w base ro 5 h.A5 h.n5 h.c5 W.rtts
  windows : OutS WnR 4 62 w base ro 6 h.A6 h.n6 h.c6 W.windows
  seen : OutS SnR 1 45 w base ro 7 h.A7 h.n7 h.c7 W.seen
  carried : OutS CdR 6 73 w base ro 8 h.A8 h.n8 h.c8 W.carried
  net : OutS WiR 9 81 w base ro 9 h.A9 h.n9 h.c9 W.net
theorem OwnH.wdh {w : World} {base : Nat} {ro : Nat → Nat} {h : Hd} {W : Wd} (x : OwnH w base ro h W) (hn : I64 W.now) : WdH w (Old w) h W :=
  ⟨hn, x.sends.slice sdCar, x.recvs.slice rvCar, x.got.slice bsCar, x.paths.slice lsCar, x.rtts.slice rtCar, x.windows.slice wnCar, x.seen.slice snCar, x.carried.slice cdCar, x.net.slice wiCar⟩
/-- A change of blocks that are none of the run's. -/
theorem OwnH.keep {w w' : World} {base : Nat} {ro ro' : Nat → Nat} {h : Hd} {W : Wd} (x : OwnH w base ro h W) {o : Option Nat} (hg : w.grownBy w' o) (ho : ∀ g, o = some g → g < w.heap.size → 9 < ro g) (hro : ∀ b, b < w.heap.size → ro' b = ro b) : OwnH w' base ro' h W :=
  ⟨x.sends.kept sdCar hg (fun g e hl => by have := ho g e hl; omega) hro, x.recvs.kept rvCar hg (fun g e hl => by have := ho g e hl; omega) hro, x.got.kept bsCar hg (fun g e hl => by have := ho g e hl; omega) hro, x.paths.kept lsCar hg (fun g e hl => by have := ho g e hl; omega) hro, x.rtts.kept rtCar hg (fun g e hl => by have := ho g e hl; omega) hro, x.windows.kept wnCar hg (fun g e hl => by have := ho g e hl; omega) hro, x.seen.kept snCar hg (fun g e hl => by have := ho g e hl; omega) hro, x.carried.kept cdCar hg (fun g e hl => by have := ho g e hl; omega) hro, x.net.kept wiCar hg (fun g e hl => by have := ho g e hl; omega) hro⟩
theorem AtP.grown {w w' : World} {bw : Nat} {h : Hd} {now : Int} (x : AtP w bw h now) {o : Option Nat} (hg : w.grownBy w' o) (ho : o ≠ some bw) : AtP w' bw h now :=
  ⟨Nat.lt_of_lt_of_le x.1 hg.size, fun j v hv => (World.cell?_of_block (w := w) (a := ⟨bw, j, none⟩) (hg.block bw x.1 (fun e => ho e.symm))).trans (x.2 j v hv)⟩
theorem grownBy_put (w : World) (b j : Nat) (v : Value) : w.grownBy (w.setCell ⟨b, j, none⟩ v) (some b) :=
  ⟨rfl, rfl, rfl, by simp [World.setCell], fun k _ hk => Below.heap_setCell _ _ _ k (fun e => hk (by rw [e]))⟩
theorem AtP.put {w : World} {bw : Nat} {h h' : Hd} {now now' : Int} (x : AtP w bw h now) {j : Nat} {v : Value} (hj : j < 10) (hc : h'.cells now' = (h.cells now).set j v) : AtP (w.setCell ⟨bw, j, none⟩ v) bw h' now' := by
  refine ⟨by simpa [World.setCell] using x.1, fun k u hu => ?_⟩
  rw [hc, List.getElem?_set] at hu
  by_cases hk : j = k
  · subst hk
    rw [if_pos rfl] at hu
    have hl : j < (h.cells now).length := by simpa [Hd.cells] using hj
    rw [if_pos hl] at hu
    injection hu with hu
    subst hu
    exact World.cell?_setCell_same w _ _ (x.2 j _ (List.getElem?_eq_getElem hl))
  · rw [if_neg hk] at hu
    exact (World.cell?_setCell_other w _ _ _ (fun e => hk (by injection e))).trans (x.2 k u hu)
theorem OwnH.set1 {w w' : World} {base : Nat} {ro ro' : Nat → Nat} {h : Hd} {W : Wd} (x : OwnH w base ro h W) {o : Option Nat} (hg : w.grownBy w' o) (ho : ∀ g, o = some g → g < w.heap.size → ro g = 1) (hro : ∀ b, b < w.heap.size → ro' b = ro b) {A : Option Addr} {n c : Nat} {l : List Sd} (hnew : OutS SdR 6 47 w' base ro' 1 A n c l) :
    OwnH w' base ro' { h with A1 := A, n1 := n, c1 := c } { W with sends := l } :=
  ⟨hnew, x.recvs.kept rvCar hg (fun g e hl => by have := ho g e hl; omega) hro, x.got.kept bsCar hg (fun g e hl => by have := ho g e hl; omega) hro, x.paths.kept lsCar hg (fun g e hl => by have := ho g e hl; omega) hro, x.rtts.kept rtCar hg (fun g e hl => by have := ho g e hl; omega) hro, x.windows.kept wnCar hg (fun g e hl => by have := ho g e hl; omega) hro, x.seen.kept snCar hg (fun g e hl => by have := ho g e hl; omega) hro, x.carried.kept cdCar hg (fun g e hl => by have := ho g e hl; omega) hro, x.net.kept wiCar hg (fun g e hl => by have := ho g e hl; omega) hro⟩
theorem OwnH.set2 {w w' : World} {base : Nat} {ro ro' : Nat → Nat} {h : Hd} {W : Wd} (x : OwnH w base ro h W) {o : Option Nat} (hg : w.grownBy w' o) (ho : ∀ g, o = some g → g < w.heap.size → ro g = 2) (hro : ∀ b, b < w.heap.size → ro' b = ro b) {A : Option Addr} {n c : Nat} {l : List Rv} (hnew : OutS RvR 4 52 w' base ro' 2 A n c l) :
    OwnH w' base ro' { h with A2 := A, n2 := n, c2 := c } { W with recvs := l } :=
  ⟨x.sends.kept sdCar hg (fun g e hl => by have := ho g e hl; omega) hro, hnew, x.got.kept bsCar hg (fun g e hl => by have := ho g e hl; omega) hro, x.paths.kept lsCar hg (fun g e hl => by have := ho g e hl; omega) hro, x.rtts.kept rtCar hg (fun g e hl => by have := ho g e hl; omega) hro, x.windows.kept wnCar hg (fun g e hl => by have := ho g e hl; omega) hro, x.seen.kept snCar hg (fun g e hl => by have := ho g e hl; omega) hro, x.carried.kept cdCar hg (fun g e hl => by have := ho g e hl; omega) hro, x.net.kept wiCar hg (fun g e hl => by have := ho g e hl; omega) hro⟩
theorem OwnH.set3 {w w' : World} {base : Nat} {ro ro' : Nat → Nat} {h : Hd} {W : Wd} (x : OwnH w base ro h W) {o : Option Nat} (hg : w.grownBy w' o) (ho : ∀ g, o = some g → g < w.heap.size → ro g = 3) (hro : ∀ b, b < w.heap.size → ro' b = ro b) {A : Option Addr} {n c : Nat} {l : List Bs} (hnew : OutS BsR 1 9 w' base ro' 3 A n c l) :
    OwnH w' base ro' { h with A3 := A, n3 := n, c3 := c } { W with got := l } :=
  ⟨x.sends.kept sdCar hg (fun g e hl => by have := ho g e hl; omega) hro, x.recvs.kept rvCar hg (fun g e hl => by have := ho g e hl; omega) hro, hnew, x.paths.kept lsCar hg (fun g e hl => by have := ho g e hl; omega) hro, x.rtts.kept rtCar hg (fun g e hl => by have := ho g e hl; omega) hro, x.windows.kept wnCar hg (fun g e hl => by have := ho g e hl; omega) hro, x.seen.kept snCar hg (fun g e hl => by have := ho g e hl; omega) hro, x.carried.kept cdCar hg (fun g e hl => by have := ho g e hl; omega) hro, x.net.kept wiCar hg (fun g e hl => by have := ho g e hl; omega) hro⟩
theorem OwnH.set4 {w w' : World} {base : Nat} {ro ro' : Nat → Nat} {h : Hd} {W : Wd} (x : OwnH w base ro h W) {o : Option Nat} (hg : w.grownBy w' o) (ho : ∀ g, o = some g → g < w.heap.size → ro g = 4) (hro : ∀ b, b < w.heap.size → ro' b = ro b) {A : Option Addr} {n c : Nat} {l : List Ls} (hnew : OutS LsR 3 57 w' base ro' 4 A n c l) :
    OwnH w' base ro' { h with A4 := A, n4 := n, c4 := c } { W with paths := l } :=
  ⟨x.sends.kept sdCar hg (fun g e hl => by have := ho g e hl; omega) hro, x.recvs.kept rvCar hg (fun g e hl => by have := ho g e hl; omega) hro, x.got.kept bsCar hg (fun g e hl => by have := ho g e hl; omega) hro, hnew, x.rtts.kept rtCar hg (fun g e hl => by have := ho g e hl; omega) hro, x.windows.kept wnCar hg (fun g e hl => by have := ho g e hl; omega) hro, x.seen.kept snCar hg (fun g e hl => by have := ho g e hl; omega) hro, x.carried.kept cdCar hg (fun g e hl => by have := ho g e hl; omega) hro, x.net.kept wiCar hg (fun g e hl => by have := ho g e hl; omega) hro⟩
theorem OwnH.set5 {w w' : World} {base : Nat} {ro ro' : Nat → Nat} {h : Hd} {W : Wd} (x : OwnH w base ro h W) {o : Option Nat} (hg : w.grownBy w' o) (ho : ∀ g, o = some g → g < w.heap.size → ro g = 5) (hro : ∀ b, b < w.heap.size → ro' b = ro b) {A : Option Addr} {n c : Nat} {l : List Rt} (hnew : OutS RtR 4 60 w' base ro' 5 A n c l) :
    OwnH w' base ro' { h with A5 := A, n5 := n, c5 := c } { W with rtts := l } :=
  ⟨x.sends.kept sdCar hg (fun g e hl => by have := ho g e hl; omega) hro, x.recvs.kept rvCar hg (fun g e hl => by have := ho g e hl; omega) hro, x.got.kept bsCar hg (fun g e hl => by have := ho g e hl; omega) hro, x.paths.kept lsCar hg (fun g e hl => by have := ho g e hl; omega) hro, hnew, x.windows.kept wnCar hg (fun g e hl => by have := ho g e hl; omega) hro, x.seen.kept snCar hg (fun g e hl => by have := ho g e hl; omega) hro, x.carried.kept cdCar hg (fun g e hl => by have := ho g e hl; omega) hro, x.net.kept wiCar hg (fun g e hl => by have := ho g e hl; omega) hro⟩
theorem OwnH.set6 {w w' : World} {base : Nat} {ro ro' : Nat → Nat} {h : Hd} {W : Wd} (x : OwnH w base ro h W) {o : Option Nat} (hg : w.grownBy w' o) (ho : ∀ g, o = some g → g < w.heap.size → ro g = 6) (hro : ∀ b, b < w.heap.size → ro' b = ro b) {A : Option Addr} {n c : Nat} {l : List Wn} (hnew : OutS WnR 4 62 w' base ro' 6 A n c l) :
    OwnH w' base ro' { h with A6 := A, n6 := n, c6 := c } { W with windows := l } :=
  ⟨x.sends.kept sdCar hg (fun g e hl => by have := ho g e hl; omega) hro, x.recvs.kept rvCar hg (fun g e hl => by have := ho g e hl; omega) hro, x.got.kept bsCar hg (fun g e hl => by have := ho g e hl; omega) hro, x.paths.kept lsCar hg (fun g e hl => by have := ho g e hl; omega) hro, x.rtts.kept rtCar hg (fun g e hl => by have := ho g e hl; omega) hro, hnew, x.seen.kept snCar hg (fun g e hl => by have := ho g e hl; omega) hro, x.carried.kept cdCar hg (fun g e hl => by have := ho g e hl; omega) hro, x.net.kept wiCar hg (fun g e hl => by have := ho g e hl; omega) hro⟩
theorem OwnH.set7 {w w' : World} {base : Nat} {ro ro' : Nat → Nat} {h : Hd} {W : Wd} (x : OwnH w base ro h W) {o : Option Nat} (hg : w.grownBy w' o) (ho : ∀ g, o = some g → g < w.heap.size → ro g = 7) (hro : ∀ b, b < w.heap.size → ro' b = ro b) {A : Option Addr} {n c : Nat} {l : List (List Rg)} (hnew : OutS SnR 1 45 w' base ro' 7 A n c l) :
    OwnH w' base ro' { h with A7 := A, n7 := n, c7 := c } { W with seen := l } :=
  ⟨x.sends.kept sdCar hg (fun g e hl => by have := ho g e hl; omega) hro, x.recvs.kept rvCar hg (fun g e hl => by have := ho g e hl; omega) hro, x.got.kept bsCar hg (fun g e hl => by have := ho g e hl; omega) hro, x.paths.kept lsCar hg (fun g e hl => by have := ho g e hl; omega) hro, x.rtts.kept rtCar hg (fun g e hl => by have := ho g e hl; omega) hro, x.windows.kept wnCar hg (fun g e hl => by have := ho g e hl; omega) hro, hnew, x.carried.kept cdCar hg (fun g e hl => by have := ho g e hl; omega) hro, x.net.kept wiCar hg (fun g e hl => by have := ho g e hl; omega) hro⟩
theorem OwnH.set8 {w w' : World} {base : Nat} {ro ro' : Nat → Nat} {h : Hd} {W : Wd} (x : OwnH w base ro h W) {o : Option Nat} (hg : w.grownBy w' o) (ho : ∀ g, o = some g → g < w.heap.size → ro g = 8) (hro : ∀ b, b < w.heap.size → ro' b = ro b) {A : Option Addr} {n c : Nat} {l : List Cd} (hnew : OutS CdR 6 73 w' base ro' 8 A n c l) :
    OwnH w' base ro' { h with A8 := A, n8 := n, c8 := c } { W with carried := l } :=
  ⟨x.sends.kept sdCar hg (fun g e hl => by have := ho g e hl; omega) hro, x.recvs.kept rvCar hg (fun g e hl => by have := ho g e hl; omega) hro, x.got.kept bsCar hg (fun g e hl => by have := ho g e hl; omega) hro, x.paths.kept lsCar hg (fun g e hl => by have := ho g e hl; omega) hro, x.rtts.kept rtCar hg (fun g e hl => by have := ho g e hl; omega) hro, x.windows.kept wnCar hg (fun g e hl => by have := ho g e hl; omega) hro, x.seen.kept snCar hg (fun g e hl => by have := ho g e hl; omega) hro, hnew, x.net.kept wiCar hg (fun g e hl => by have := ho g e hl; omega) hro⟩
theorem OwnH.set9 {w w' : World} {base : Nat} {ro ro' : Nat → Nat} {h : Hd} {W : Wd} (x : OwnH w base ro h W) {o : Option Nat} (hg : w.grownBy w' o) (ho : ∀ g, o = some g → g < w.heap.size → ro g = 9) (hro : ∀ b, b < w.heap.size → ro' b = ro b) {A : Option Addr} {n c : Nat} {l : List Wi} (hnew : OutS WiR 9 81 w' base ro' 9 A n c l) :
    OwnH w' base ro' { h with A9 := A, n9 := n, c9 := c } { W with net := l } :=
  ⟨x.sends.kept sdCar hg (fun g e hl => by have := ho g e hl; omega) hro, x.recvs.kept rvCar hg (fun g e hl => by have := ho g e hl; omega) hro, x.got.kept bsCar hg (fun g e hl => by have := ho g e hl; omega) hro, x.paths.kept lsCar hg (fun g e hl => by have := ho g e hl; omega) hro, x.rtts.kept rtCar hg (fun g e hl => by have := ho g e hl; omega) hro, x.windows.kept wnCar hg (fun g e hl => by have := ho g e hl; omega) hro, x.seen.kept snCar hg (fun g e hl => by have := ho g e hl; omega) hro, x.carried.kept cdCar hg (fun g e hl => by have := ho g e hl; omega) hro, hnew⟩
theorem info1 : (Try.prog.info? 47).map (fun i => (i.zero, i.size, i.bytes)) = some (some (.agg #[.string (S []), .bool false, .int .i64 0, .int .i64 0, .slice none 0 0, .slice none 0 0]), 6, 88) := by kernel_rfl
theorem info2 : (Try.prog.info? 52).map (fun i => (i.zero, i.size, i.bytes)) = some (some (.agg #[.int .i64 0, .slice none 0 0, .int .i64 0, .int .i64 0]), 4, 48) := by kernel_rfl
theorem info4 : (Try.prog.info? 57).map (fun i => (i.zero, i.size, i.bytes)) = some (some (.agg #[.int .i64 0, .slice none 0 0, .int .i64 0]), 3, 40) := by kernel_rfl
theorem info5 : (Try.prog.info? 60).map (fun i => (i.zero, i.size, i.bytes)) = some (some (.agg #[.int .i64 0, .int .i64 0, .int .i64 0, .int .i64 0]), 4, 32) := by kernel_rfl
theorem info6 : (Try.prog.info? 62).map (fun i => (i.zero, i.size, i.bytes)) = some (some (.agg #[.int .i64 0, .int .i64 0, .int .i64 0, .int .i64 0]), 4, 32) := by kernel_rfl
theorem info7 : (Try.prog.info? 45).map (fun i => (i.zero, i.size, i.bytes)) = some (some (.slice none 0 0), 1, 24) := by kernel_rfl
end Go.Proofs.Ytjpaoadbgmmoeaa
