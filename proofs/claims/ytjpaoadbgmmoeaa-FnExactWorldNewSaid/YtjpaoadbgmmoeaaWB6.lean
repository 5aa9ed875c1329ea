/- The contract of the program's partSent. Condition: the slices read as lists of ranges. -/
import Derived.Test.YtjpaoadbgmmoeaaWB5
import Derived.Test.YtjpaoadbgmmoeaaCalm
namespace Go.Proofs.Ytjpaoadbgmmoeaa
open Go.RowKit

theorem sent_no1 {x : Sd} {p : Pt} (h : ¬ (0 ≤ p.off ∧ p.off ≤ 30) ∨ p.last < p.off ∨ x.next ≤ p.last ∨ bl x.data < p.off) : sent x p = false := by
  unfold sent
  rcases h with h | h | h | h
  · rw [show inB p.off 0 30 = false by rw [Bool.eq_false_iff]; intro e; exact h (inB_iff.1 e)]; simp
  · rw [show decide (p.off ≤ p.last) = false by simp; omega]; simp
  · rw [show decide (p.last < x.next) = false by simp; omega]; simp
  · rw [show decide (p.off ≤ bl x.data) = false by simp; omega]; simp
theorem sent_rest {x : Sd} {p : Pt} (h0 : 0 ≤ p.off ∧ p.off ≤ 30) (h1 : p.off ≤ p.last) (h2 : p.last < x.next) (h3 : p.off ≤ bl x.data) : sent x p = ((!p.fin || (x.fin && decide (p.off + bl p.data = bl x.data))) && ((x.data.drop p.off.toNat).take p.data.length == p.data)) := by
  unfold sent
  rw [inB_iff.2 h0, decide_eq_true h1, decide_eq_true h2, decide_eq_true h3]; simp
set_option maxHeartbeats 2000000 in
theorem partSent_any (x : Sd) (p : Pt) (A : Option Addr) (n c : Nat) (A' : Option Addr) (n' c' : Nat) (w : World) (hx : x.data.length ≤ 1099511627776) (hp : p.data.length ≤ 1099511627776) (ho : I64 p.off) (_hn : I64 x.next) :
    Calls Try.prog 74 #[x.agg A n c A' n' c', p.agg] w fun e w' => e = .returned (.bool (sent x p)) ∧ Below w.heap.size w w' := by
  unfold I64 at ho
  have hx' : bl x.data = (x.data.length : Int) := rfl
  have hlast : -9223372036854775808 ≤ p.off → True := fun _ => trivial
  have hlb := last_eq p
  have hbl : bl p.data = (p.data.length : Int) := rfl
  have hlr : (0 ≤ p.off ∧ p.off ≤ 30) → -1 ≤ p.last ∧ p.last ≤ 2199023255552 := fun h => by rw [hlb, hbl]; split <;> omega
  have HL := Lib.hid hlr
  clear hlr hlb hbl
  unfold Sd.agg Pt.agg
  go_enter Try.func74, Try.ntmps74
  go_wp2_with fail
  obtain ⟨W0, hW0⟩ : ∃ W0 : World, W0 = (w.alloc (.cells #[.string (S x.data), .bool x.fin, .int .i64 x.limit, .int .i64 x.next, .slice A n c, .slice A' n' c'] 47)).alloc (.cells #[.int .i64 p.off, .string (S p.data), .bool p.fin] 71) := ⟨_, rfl⟩
  have hb0 : Below w.heap.size w W0 := by rw [hW0]; exact (b_alloc _ _).alloc (by simp) _
  have hs0 : w.heap.size + 1 < W0.heap.size := by rw [hW0]; simp
  have d0 : W0.cell? ⟨w.heap.size, 0, none⟩ = some (.string (S x.data)) := by rw [hW0]; simp
  have d1 : W0.cell? ⟨w.heap.size, 1, none⟩ = some (.bool x.fin) := by rw [hW0]; simp
  have d3 : W0.cell? ⟨w.heap.size, 3, none⟩ = some (.int .i64 x.next) := by rw [hW0]; simp
  have f0 : W0.cell? ⟨w.heap.size + 1, 0, none⟩ = some (.int .i64 p.off) := by rw [hW0]; simp
  have f1 : W0.cell? ⟨w.heap.size + 1, 1, none⟩ = some (.string (S p.data)) := by rw [hW0]; simp
  have f2 : W0.cell? ⟨w.heap.size + 1, 2, none⟩ = some (.bool p.fin) := by rw [hW0]; simp
  rw [← hW0]
  have HB0 := Lib.hid hb0
  clear hW0 hb0 hx'
  have hcase : (inB p.off 0 30 = false) ∨ (inB p.off 0 30 = true ∧ p.last < p.off) ∨ (inB p.off 0 30 = true ∧ p.off ≤ p.last ∧ x.next ≤ p.last) ∨ (inB p.off 0 30 = true ∧ p.off ≤ p.last ∧ p.last < x.next ∧ (x.data.length : Int) < p.off) ∨ (inB p.off 0 30 = true ∧ p.off ≤ p.last ∧ p.last < x.next ∧ p.off ≤ (x.data.length : Int)) := by
    cases inB p.off 0 30 with
    | false => exact .inl rfl
    | true => simp; omega
  have arms : True := trivial
  rcases hcase with h1 | ⟨h1, h2⟩ | ⟨h1, h2, h3⟩ | ⟨h1, h2, h3, h4⟩ | ⟨h1, h2, h3, h4⟩
  all_goals
    refine wp_region_calm (by kernel_rfl) (by kernel_rfl) ?_
    repeat (
      refine wpQuiet_step (fun K hK => ?_)
      go_simp
      first
        | (refine hK _ ?_; clear hK K)
        | (apply Exists.intro
           refine ⟨fun _ => ?_, hK _ ?_⟩
           (first
            | (go_at_call 29; exact calm_same (within_any _ _ _ _))
            | (go_at_call 101; exact calm_of (partLast_any p _ hp (by have := inB_iff.1 h1; omega))))
           clear hK K))
    refine wpQuiet_nil ?_
    intro _ hw'
    obtain ⟨nq, hw''⟩ := hw'
    subst hw''
  · have Hno := Lib.hid (sent_no1 (x := x) (p := p) (.inl (fun h => by rw [inB_iff.2 h] at h1; cases h1)))
    have Hb := Lib.hid (HB0.out.trans ((grew_below W0 nq).mono HB0.out.size))
    go_wp2
    go_ret
    exact ⟨ret_bool Hno.out.symm, Hb.out⟩
  · have Hno := Lib.hid (sent_no1 (x := x) (p := p) (.inr (.inl h2)))
    have Hb := Lib.hid (HB0.out.trans ((grew_below W0 nq).mono HB0.out.size))
    go_wp2
    go_ret
    exact ⟨ret_bool Hno.out.symm, Hb.out⟩
  · have Hno := Lib.hid (sent_no1 (x := x) (p := p) (.inr (.inr (.inl h3))))
    have Hb := Lib.hid (HB0.out.trans ((grew_below W0 nq).mono HB0.out.size))
    go_wp2
    go_ret
    exact ⟨ret_bool Hno.out.symm, Hb.out⟩
  · have Hno := Lib.hid (sent_no1 (x := x) (p := p) (.inr (.inr (.inr h4))))
    have Hb := Lib.hid (HB0.out.trans ((grew_below W0 nq).mono HB0.out.size))
    go_wp2
    go_ret
    exact ⟨ret_bool Hno.out.symm, Hb.out⟩
  · have Hs := Lib.hid (sent_rest (x := x) (p := p) (inB_iff.1 h1) h2 h3 h4)
    have Hb := Lib.hid (HB0.out.trans ((grew_below W0 nq).mono HB0.out.size))
    have h0 := inB_iff.1 h1
    have hbx : bl x.data = (x.data.length : Int) := rfl
    have hbp : bl p.data = (p.data.length : Int) := rfl
    rw [hbx, hbp] at Hs
    clear hbx hbp
    have k1 := fun W => run_from (P := Try.prog) W 9 Try.underlying9 x.data p.off p.off.toNat (by omega) (by omega)
    go_wp2_with fail
    all_goals first
      | (go_ret
         exact ⟨ret_bool (by rw [Hs.out]; simp_all), Hb.out⟩)
      | (refine wp_region_calm (by kernel_rfl) (by kernel_rfl) ?_
         repeat (
           refine wpQuiet_step (fun K hK => ?_)
           go_simp
           first
             | (refine hK _ ?_; clear hK K)
             | (apply Exists.intro
                refine ⟨fun _ => ?_, hK _ ?_⟩
                (go_at_call 65; exact calm_same (hasPrefix_any _ _ _ (by simp; omega) hp))
                clear hK K))
         refine wpQuiet_nil ?_
         intro _ hw'
         obtain ⟨nr, hw''⟩ := hw'
         subst hw''
         have Hb2 := Lib.hid (b_then Hb.out (grew_below (grew W0 nq) nr))
         go_wp2
         go_ret
         exact ⟨ret_bool (by rw [Hs.out]; simp_all), Hb2.out⟩)
end Go.Proofs.Ytjpaoadbgmmoeaa
