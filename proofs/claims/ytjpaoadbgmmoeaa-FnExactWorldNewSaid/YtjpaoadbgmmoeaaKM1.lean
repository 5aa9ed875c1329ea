/- What the laws' marks are: rows of an own block that are marked in place, element by element. No condition. -/
import Derived.Test.YtjpaoadbgmmoeaaWH
import Derived.Test.YtjpaoadbgmmoeaaCalm3
namespace Go.Proofs.Ytjpaoadbgmmoeaa
open Go.RowKit

def digs : Nat → Nat → List UInt8 → List UInt8
  | 0, _, acc => acc
  | f + 1, k, acc => if k = 0 then acc else digs f (k / 10) ((48 + UInt8.ofNat (k % 10)) :: acc)
/-- The text of a mark. -/
def mtext (k : Int) : List UInt8 := 109 :: digs 20 k.toNat []
theorem digs_zero (f : Nat) (acc : List UInt8) : digs f 0 acc = acc := by cases f <;> rfl

def Cells (w : World) (g o : Nat) (l : List (Nat × Value)) : Prop := ∀ p ∈ l, w.cell? ⟨g, o + p.1, none⟩ = some p.2
def puts (w : World) (g o : Nat) : List (Nat × Value) → World
  | [] => w
  | p :: r => puts (w.setCell ⟨g, o + p.1, none⟩ p.2) g o r
theorem puts_grown (g o : Nat) : ∀ (l : List (Nat × Value)) (w : World), w.grownBy (puts w g o l) (some g)
  | [], _ => World.grownBy.refl _ _
  | p :: r, w => on_trans (grownBy_put w g (o + p.1) p.2) (puts_grown g o r _)
theorem puts_frozen (g o : Nat) : ∀ (l : List (Nat × Value)) (w : World) (a : Addr), (puts w g o l).frozen? a = w.frozen? a
  | [], _, _ => rfl
  | p :: r, w, a => (puts_frozen g o r _ a).trans (World.frozen?_setCell ..)
theorem puts_out (g o x : Nat) : ∀ (l : List (Nat × Value)) (w : World), (∀ p ∈ l, o + p.1 ≠ x) → (puts w g o l).cell? ⟨g, x, none⟩ = w.cell? ⟨g, x, none⟩
  | [], _, _ => rfl
  | p :: r, w, h => (puts_out g o x r _ (fun q hq => h q (List.mem_cons_of_mem _ hq))).trans (World.cell?_setCell_other _ _ _ _ (fun e => h p List.mem_cons_self (by injection e)))
theorem puts_some (g o : Nat) : ∀ (l : List (Nat × Value)) (w : World) (a : Addr), (w.cell? a).isSome = true → ((puts w g o l).cell? a).isSome = true
  | [], _, _, h => h
  | p :: r, w, a, h => puts_some g o r _ a (by
      by_cases e : a = ⟨g, o + p.1, none⟩
      · subst e; obtain ⟨u, hu⟩ := Option.isSome_iff_exists.1 h; rw [World.cell?_setCell_same _ _ _ hu]; rfl
      · rw [World.cell?_setCell_other _ _ _ _ (fun e' => e e'.symm)]; exact h)
theorem puts_in (g o : Nat) : ∀ (l : List (Nat × Value)) (w : World), (l.map Prod.fst).Nodup → (∀ p ∈ l, (w.cell? ⟨g, o + p.1, none⟩).isSome = true) → Cells (puts w g o l) g o l
  | [], _, _, _ => fun p hp => by cases hp
  | p :: r, w, hn, hs => fun q hq => by
      obtain ⟨h1, h2⟩ := List.nodup_cons.1 hn
      have hsp := hs p List.mem_cons_self
      obtain ⟨u, hu⟩ := Option.isSome_iff_exists.1 hsp
      rcases List.mem_cons.1 hq with rfl | hq
      · refine (puts_out g o (o + q.1) r _ (fun z hz e => ?_)).trans (World.cell?_setCell_same _ _ _ hu)
        exact h1 (List.mem_map.2 ⟨z, hz, by omega⟩)
      · refine puts_in g o r _ h2 (fun z hz => ?_) q hq
        exact puts_some g o [p] w _ (hs z (List.mem_cons_of_mem _ hz))
/-- A row of n elements in block g, of which the first k are marked; zs: places of empty inner rows. -/
structure Row (w : World) (g size n k : Nat) (mk : Nat → List (Nat × Value)) (zs : List Nat) : Prop where
  blk : g < w.heap.size
  done : ∀ i, i < k → Cells w g (i * size) (mk i)
  some_ : ∀ i, i < n → ∀ j, j < size → (w.cell? ⟨g, i * size + j, none⟩).isSome = true
  zer : ∀ i, i < n → ∀ j, j ∈ zs → ∃ A c, w.cell? ⟨g, i * size + j, none⟩ = some (.slice A 0 c)
  frz : ∀ j, w.frozen? ⟨g, j, none⟩ = false
theorem Row.below {w w' : World} {g size n k : Nat} {mk : Nat → List (Nat × Value)} {zs : List Nat} (x : Row w g size n k mk zs) (hb : Below w.heap.size w w') : Row w' g size n k mk zs :=
  ⟨Nat.lt_of_lt_of_le x.blk hb.size, fun i hi p hp => (hb.cell (p := ⟨g, _, none⟩) x.blk).trans (x.done i hi p hp), fun i hi j hj => by rw [hb.cell (p := ⟨g, _, none⟩) x.blk]; exact x.some_ i hi j hj,
    fun i hi j hj => by obtain ⟨A, c, h⟩ := x.zer i hi j hj; exact ⟨A, c, (hb.cell (p := ⟨g, _, none⟩) x.blk).trans h⟩, fun j => (hb.frozen (p := ⟨g, j, none⟩) x.blk).trans (x.frz j)⟩
theorem Row.on {w w' : World} {g size n k : Nat} {mk : Nat → List (Nat × Value)} {zs : List Nat} (x : Row w g size n k mk zs) {g' : Nat} (hb : w.grownBy w' (some g')) (hne : g ≠ g') : Row w' g size n k mk zs := by
  have hblk : w'.heap[g]? = w.heap[g]? := hb.block g x.blk (fun e => hne (Option.some.inj e))
  have hc : ∀ j, w'.cell? ⟨g, j, none⟩ = w.cell? ⟨g, j, none⟩ := fun j => World.cell?_of_block hblk
  exact ⟨Nat.lt_of_lt_of_le x.blk hb.size, fun i hi p hp => (hc _).trans (x.done i hi p hp), fun i hi j hj => by rw [hc]; exact x.some_ i hi j hj,
    fun i hi j hj => by obtain ⟨A, c, h⟩ := x.zer i hi j hj; exact ⟨A, c, (hc _).trans h⟩, fun j => (World.frozen?_of_block hblk).trans (x.frz j)⟩
theorem Row.remark {w : World} {g size n : Nat} {mk mk' : Nat → List (Nat × Value)} {zs : List Nat} (x : Row w g size n 0 mk zs) : Row w g size n 0 mk' zs :=
  ⟨x.blk, fun i hi => by omega, x.some_, x.zer, x.frz⟩
theorem Row.step {w : World} {g size n k : Nat} {mk : Nat → List (Nat × Value)} {zs : List Nat} (x : Row w g size n k mk zs) (hk : k < n) {L : List Nat} (hL : ∀ i, (mk i).map Prod.fst = L) (h1 : L.Nodup) (h2 : ∀ j ∈ L, j < size) (h3 : ∀ j ∈ L, j ∉ zs) (h4 : ∀ j ∈ zs, j < size) :
    Row (puts w g (k * size) (mk k)) g size n (k + 1) mk zs := by
  have hlt : ∀ p ∈ mk k, p.1 < size := fun p hp => h2 _ (by rw [← hL k]; exact List.mem_map.2 ⟨p, hp, rfl⟩)
  have hfar : ∀ i, i ≠ k → ∀ j, j < size → ∀ p ∈ mk k, k * size + p.1 ≠ i * size + j := fun i hi j hj p hp e => by
    have := hlt p hp
    rcases Nat.lt_or_gt_of_ne hi with h | h
    · have h9 : (i + 1) * size ≤ k * size := Nat.mul_le_mul_right _ h
      rw [Nat.add_mul] at h9; omega
    · have h9 : (k + 1) * size ≤ i * size := Nat.mul_le_mul_right _ h
      rw [Nat.add_mul] at h9; omega
  refine ⟨Nat.lt_of_lt_of_le x.blk (puts_grown g _ _ w).size, fun i hi p hp => ?_, fun i hi j hj => puts_some _ _ _ _ _ (x.some_ i hi j hj), fun i hi j hj => ?_, fun j => (puts_frozen ..).trans (x.frz j)⟩
  · by_cases e : i = k
    · subst e
      exact puts_in g _ _ w (by rw [hL]; exact h1) (fun p hp => x.some_ i hk _ (hlt p hp)) p hp
    · have hpl : p.1 < size := h2 _ (by rw [← hL i]; exact List.mem_map.2 ⟨p, hp, rfl⟩)
      exact (puts_out _ _ _ _ _ (fun q hq => hfar i e p.1 hpl q hq)).trans (x.done i (by omega) p hp)
  · obtain ⟨A, c, h⟩ := x.zer i hi j hj
    refine ⟨A, c, (puts_out _ _ _ _ _ (fun p hp e => ?_)).trans h⟩
    by_cases hi' : i = k
    · subst hi'
      obtain rfl : p.1 = j := by omega
      exact h3 _ (by rw [← hL i]; exact List.mem_map.2 ⟨p, hp, rfl⟩) hj
    · exact hfar i hi' j (h4 j hj) p hp e

set_option maxRecDepth 10000 in
set_option maxHeartbeats 1000000 in
theorem markText_any (k0 : Int) (h1 : 1 ≤ k0) (h2 : k0 ≤ 10000) (w : World) :
    Calls Try.prog 89 #[.int .i64 k0] w fun e w' => e = .returned (.string (S (mtext k0))) ∧ Below w.heap.size w w' := by
  obtain ⟨n0, rfl⟩ : ∃ n0 : Nat, k0 = n0 := ⟨k0.toNat, by omega⟩
  obtain ⟨T, hT⟩ : ∃ T, T = mtext (n0 : Int) := ⟨_, rfl⟩
  have HT : Hid (∀ out, digs 20 n0 [] = out → T = 109 :: out) := fun out e => by rw [hT]; unfold mtext; rw [← e]; rfl
  rw [← hT]
  clear hT
  go_enter Try.func89, Try.ntmps89
  go_wp2_with fail
  go_loopg [0, 3] n0 (fun m v out wr => ∃ (k f : Nat) (acc : List UInt8), v = .int .i64 (k : Int) ∧ k ≤ m ∧ k ≤ 10000 ∧ k < 10 ^ f ∧ acc.length + f ≤ 20 ∧ out = .string (S acc) ∧ digs 20 n0 [] = digs f k acc ∧ Below w.heap.size w wr)
  case atStart => exact ⟨n0, 20, [], rfl, by omega, by omega, by omega, by simp, rfl, rfl, Below.refl _ _⟩
  case round =>
    obtain ⟨k, f, acc, rfl, hkm, hk, hkf, hf, rfl, hd, hb⟩ := hrel
    by_cases hpos : 0 < k
    · have hc := run_byteStr (P := Try.prog) wr 22 5 9 (48 + (k : Int) % 10) Try.underlying22 Try.underlying5 Try.underlying9
      have hq1 : (0 : Int) ≤ 48 + (k : Int) % 10 := by omega
      have hnext : digs f k acc = digs (f - 1) (k / 10) ((48 + UInt8.ofNat (k % 10)) :: acc) := by
        match f, hkf with
        | 0, h => simp at h; omega
        | f + 1, _ => show (if k = 0 then acc else _) = _; rw [if_neg (by omega)]; rfl
      rw [hnext] at hd
      have hacc : acc.length ≤ 20 := by omega
      have hf1 : 0 < f := by
        rcases Nat.eq_zero_or_pos f with h | h
        · subst h; simp at hkf; omega
        · exact h
      have hk10 : k / 10 < 10 ^ (f - 1) := by
        match f, hkf with
        | 0, h => simp at h; omega
        | f + 1, h => rw [Nat.add_sub_cancel]; rw [Nat.pow_succ] at h; omega
      have Hd := Lib.hid hd
      have Hk10 := Lib.hid hk10
      have Hb := Lib.hid (hb.trans ((Below.refl _ _).alloc (Nat.le_refl _) (.cells #[.int .u8 (48 + (k : Int) % 10)] 5)|>.mono hb.size))
      clear hd hk10 hb hkf hnext
      go_wp2
      go_roundg (k / 10)
      case measure => omega
      case rel => exact ⟨k / 10, f - 1, (48 + UInt8.ofNat (k % 10)) :: acc, by go_num, by omega, by omega, Hk10.out, by simp; omega, rfl, Hd.out, Hb.out⟩
    · obtain rfl : k = 0 := by omega
      have hacc : acc.length ≤ 20 := by omega
      clear hkf
      rw [digs_zero] at hd
      have hT := HT.out _ hd
      clear hd
      go_wp2
      go_ret
      exact ⟨by rw [hT]; rfl, hb⟩
end Go.Proofs.Ytjpaoadbgmmoeaa
