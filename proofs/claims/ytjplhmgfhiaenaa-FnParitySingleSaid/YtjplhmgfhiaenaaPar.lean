/- The plain functions of parity groups: what both texts compute. No condition. -/
import Derived.Test.YtjplhmgfhiaenaaBase
namespace Go.Proofs.Ytjplhmgfhiaenaa
open Go.RowKit

abbrev Bs := List UInt8
def shortB (s : Bs) : Bool := decide (s.length ≤ 12)
def gvB (ss : List Bs) : Bool := ss.all shortB && withinB ss.length 1 4
def byteAt (s : Bs) (k : Nat) : Nat := if k = 0 then s.length else (s.getD (k - 1) 0).toNat
def psum (ss : List Bs) (k : Nat) : Nat := (ss.map fun s => byteAt s k).sum
def longest (ss : List Bs) : Nat := ss.foldl (fun m s => max m s.length) 0
def parB (ss : List Bs) (k : Nat) : UInt8 := UInt8.ofNat (psum ss k)
def parity (ss : List Bs) : Bs := (List.range (longest ss + 1)).map (parB ss)
def pm (ss : List Bs) : Bs := if gvB ss then parity ss else []
def others (ss : List Bs) (m : Nat) : List Bs := ss.set m []
def dat (ss : List Bs) (m : Nat) (p : Bs) (k : Nat) : UInt8 := p.getD k 0 - parB (others ss m) k
def payl (ss : List Bs) (m : Nat) (p : Bs) : Bs := (List.range (dat ss m p 0).toNat).map fun k => dat ss m p (k + 1)
def recOk (ss : List Bs) (m : Int) (p : Bs) : Bool :=
  gvB ss && withinB m 0 ((ss.length : Int) - 1) && !p.isEmpty && decide ((dat ss m.toNat p 0).toNat ≤ 12) && decide ((dat ss m.toNat p 0).toNat + 1 ≤ p.length) && (pm (ss.set m.toNat (payl ss m.toNat p)) == p)
def recD (ss : List Bs) (m : Int) (p : Bs) : Bs := if recOk ss m p then payl ss m.toNat p else []
def pcB (ss : List Bs) (p : Bs) : Bool := gvB ss && (pm ss == p)

/-! ### facts -/
theorem all_take_succ {α} (f : α → Bool) (l : List α) (k : Nat) (u : α) (h : l[k]? = some u) : (l.take (k + 1)).all f = ((l.take k).all f && f u) := by
  rw [List.take_add_one, h]; simp
theorem all_take_le {α} (f : α → Bool) (l : List α) (k : Nat) (h : l.length ≤ k) : (l.take k).all f = l.all f := by rw [List.take_of_length_le h]
theorem all_false {α} (f : α → Bool) (l : List α) (k : Nat) (u : α) (h : l[k]? = some u) (hu : f u = false) : l.all f = false := by
  rw [List.all_eq_false]; exact ⟨u, List.mem_of_getElem? h, by simp [hu]⟩
theorem gvB_len {ss : List Bs} (h : gvB ss = true) : 1 ≤ ss.length ∧ ss.length ≤ 4 := by
  simp [gvB, withinB] at h; omega
theorem gvB_short {ss : List Bs} (h : gvB ss = true) : ∀ s ∈ ss, s.length ≤ 12 := by
  simp [gvB, shortB] at h; exact h.1
theorem foldl_max_le (ss : List Bs) (B : Nat) : ∀ m, m ≤ B → (∀ s ∈ ss, s.length ≤ B) → ss.foldl (fun m s => max m s.length) m ≤ B := by
  induction ss with
  | nil => intro m hm _; simpa using hm
  | cons a l ih => intro m hm h; simp only [List.foldl_cons]; exact ih _ (Nat.max_le.2 ⟨hm, h a (by simp)⟩) fun s hs => h s (by simp [hs])
theorem longest_le {ss : List Bs} {B : Nat} (h : ∀ s ∈ ss, s.length ≤ B) : longest ss ≤ B := foldl_max_le ss B 0 (by omega) h
theorem foldl_max_ge (ss : List Bs) : ∀ m, m ≤ ss.foldl (fun m s => max m s.length) m ∧ ∀ s ∈ ss, s.length ≤ ss.foldl (fun m s => max m s.length) m := by
  induction ss with
  | nil => intro m; simp
  | cons a l ih =>
    intro m
    simp only [List.foldl_cons]
    obtain ⟨h1, h2⟩ := ih (max m a.length)
    refine ⟨by omega, fun s hs => ?_⟩
    rcases List.mem_cons.1 hs with rfl | hs
    · omega
    · exact h2 s hs
theorem le_longest {ss : List Bs} {s : Bs} (h : s ∈ ss) : s.length ≤ longest ss := (foldl_max_ge ss 0).2 s h
theorem longest_take_succ (ss : List Bs) (k : Nat) (u : Bs) (h : ss[k]? = some u) : longest (ss.take (k + 1)) = max (longest (ss.take k)) u.length := by
  unfold longest; rw [List.take_add_one, h]; simp
theorem psum_take_succ (ss : List Bs) (k : Nat) (u : Bs) (h : ss[k]? = some u) (j : Nat) : psum (ss.take (k + 1)) j = psum (ss.take k) j + byteAt u j := by
  unfold psum; rw [List.take_add_one, h]; simp
end Go.Proofs.Ytjplhmgfhiaenaa
