/- Sets of numbers as lists of ranges: plain facts. No program in sight. -/
import Derived.Test.YtjpaoadbgmmoeaaW0
namespace Go.Proofs.Ytjpaoadbgmmoeaa

def lastHi (l : List Rg) (i : Nat) : Int := if i = 0 then -2 else (l.getD (i - 1) default).hi
/-- The i-th range is in order behind the one ahead of it. -/
def rgAt (l : List Rg) (i : Nat) : Bool := decide (lastHi l i + 2 ≤ (l.getD i default).lo) && (decide ((l.getD i default).lo ≤ (l.getD i default).hi) && decide ((l.getD i default).hi ≤ 999))
def rgTo (l : List Rg) (k : Nat) : Bool := (List.range k).all (rgAt l)
def rgValid (l : List Rg) : Bool := decide (l.length ≤ 16) && rgTo l l.length
theorem rgTo_succ (l : List Rg) (k : Nat) : rgTo l (k + 1) = (rgTo l k && rgAt l k) := by simp [rgTo, List.range_succ]
theorem rgTo_of {l : List Rg} {k n : Nat} (h : rgTo l n = true) (hk : k ≤ n) : rgTo l k = true := by
  simp only [rgTo, List.all_eq_true, List.mem_range] at h ⊢
  exact fun i hi => h i (by omega)
theorem rgTo_at {l : List Rg} {k n : Nat} (h : rgTo l n = true) (hk : k < n) : rgAt l k = true := by
  simp only [rgTo, List.all_eq_true, List.mem_range] at h
  exact h k hk
theorem rgTo_no {l : List Rg} {k n : Nat} (h : rgAt l k = false) (hk : k < n) : rgTo l n = false := by
  cases hn : rgTo l n with
  | false => rfl
  | true => rw [rgTo_at hn hk] at h; cases h
/-- The bounds of a range that is in order. -/
theorem rg_bd {l : List Rg} {k : Nat} (h : rgTo l k = true) : ∀ i, i < k → 0 ≤ (l.getD i default).lo ∧ (l.getD i default).lo ≤ (l.getD i default).hi ∧ (l.getD i default).hi ≤ 999 ∧ lastHi l i + 2 ≤ (l.getD i default).lo
  | 0, h0 => by
    have := rgTo_at h h0
    simp only [rgAt, lastHi, if_pos, Bool.and_eq_true, decide_eq_true_eq] at this
    simp only [lastHi, if_pos]
    omega
  | i + 1, hi => by
    have h1 := rg_bd h i (by omega)
    have := rgTo_at h hi
    simp only [rgAt, lastHi, if_neg (show i + 1 ≠ 0 by omega), Nat.add_sub_cancel, Bool.and_eq_true, decide_eq_true_eq] at this
    simp only [lastHi, if_neg (show i + 1 ≠ 0 by omega), Nat.add_sub_cancel]
    omega
def hasR (l : List Rg) (n : Int) : Bool := l.any fun r => decide (r.lo ≤ n) && decide (n ≤ r.hi)
def addM : List Rg → Int → Int → List Rg
  | [], lo, hi => [⟨lo, hi⟩]
  | r :: t, lo, hi => if r.lo ≤ hi + 1 then addM t (min lo r.lo) (max hi r.hi) else ⟨lo, hi⟩ :: r :: t
/-- A set with the numbers from lo to hi added. -/
def addP : List Rg → Int → Int → List Rg
  | [], lo, hi => [⟨lo, hi⟩]
  | r :: t, lo, hi => if r.hi + 1 < lo then r :: addP t lo hi else addM (r :: t) lo hi
def remOne (r : Rg) (lo hi : Int) : List Rg := (if r.lo < lo then [⟨r.lo, min r.hi (lo - 1)⟩] else []) ++ (if hi < r.hi then [⟨max r.lo (hi + 1), r.hi⟩] else [])
/-- A set with the numbers from lo to hi removed. -/
def remP (l : List Rg) (lo hi : Int) : List Rg := l.flatMap fun r => remOne r lo hi
def cntP (l : List Rg) : Int := l.foldl (fun s r => s + (r.hi - r.lo + 1)) 0
end Go.Proofs.Ytjpaoadbgmmoeaa
