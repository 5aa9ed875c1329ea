/- Parts of the proof, joined from several texts. No condition. -/
import Derived.Test.YtjbhiglaginpeaaGreatQ10
set_option maxRecDepth 100000
set_option maxHeartbeats 16000000
set_option linter.unusedVariables false
set_option linter.unusedSimpArgs false
namespace Go.Proofs.YtjbhiglaginpeaaGreat
open Go.RowKit
theorem fields_any (f : Fm) (_A : Option Addr) (_n _c : Nat) (a b d : Int) (bx : Nat) (w : World) (h1 : w.cell? ⟨bx, 1, none⟩ = some (.int .i64 f.a)) (h2 : w.cell? ⟨bx, 2, none⟩ = some (.int .i64 f.b)) (h3 : w.cell? ⟨bx, 3, none⟩ = some (.int .i64 f.c)) :
 Calls Tryz.prog 143 #[.int .i64 a, .int .i64 b, .int .i64 d, .pointer (some ⟨bx, 0, none⟩)] w fun e w' => e = .returned (.bool (fieldsOk f a b d)) ∧ w = w' := by
 go_enter Tryz.func143, Tryz.ntmps143
 go_wp2_with (go_at_call 68; refine (within_any _ _ _ _).mono ?_; rintro e w' ⟨rfl, rfl⟩)
 all_goals
  go_ret
  refine ⟨ret_bool ?_, rfl⟩
  simp_all [fieldsOk]
theorem fm_big {f : Fm} (h : 12 < f.data.length) : fmValid f = false := by simp [fmValid]; omega
theorem fm_data {f : Fm} (h : f.data ≠ []) (h3 : f.kind ≠ 3) (h9 : f.kind ≠ 9) : fmValid f = false := by simp [fmValid, h, h3, h9]
theorem fm_rng {f : Fm} (h : f.ranges ≠ []) (h2 : f.kind ≠ 2) : fmValid f = false := by simp [fmValid, h, h2]
theorem fm_k3 (a b c : Int) (d : Bs) (h : d.length ≤ 12) : fmValid ⟨3, a, b, c, d, []⟩ = fieldsOk ⟨3, a, b, c, d, []⟩ 2 (30 - (d.length : Int)) 1 := by simp [fmValid, h, bl]
theorem fm_k9 (a b c : Int) (d : Bs) (h : d.length ≤ 12) : fmValid ⟨9, a, b, c, d, []⟩ = fieldsOk ⟨9, a, b, c, d, []⟩ 0 0 0 := by simp [fmValid, h]
theorem fm_k2 (a b c : Int) (l : List Rg) : fmValid ⟨2, a, b, c, [], l⟩ = (fieldsOk ⟨2, a, b, c, [], l⟩ 3 0 0 && (!l.isEmpty && rgValid l)) := by simp [fmValid]
theorem fm_else {k : Int} (a b c : Int) (h : k ≠ 0 ∧ k ≠ 1 ∧ k ≠ 9 ∧ k ≠ 2 ∧ k ≠ 3 ∧ k ≠ 4 ∧ k ≠ 5 ∧ k ≠ 6 ∧ k ≠ 7 ∧ k ≠ 8 ∧ k ≠ 10) : fmValid ⟨k, a, b, c, [], []⟩ = false := by
 obtain ⟨h0, h1, h9, h2, h3, h4, h5, h6, h7, h8, h10⟩ := h
 simp [fmValid, h0, h1, h9, h2, h3, h4, h5, h6, h7, h8, h10]
theorem fm_k0 (a b c : Int) : fmValid ⟨0, a, b, c, [], []⟩ = fieldsOk ⟨0, a, b, c, [], []⟩ 0 0 0 := by simp [fmValid]
theorem fm_k1 (a b c : Int) : fmValid ⟨1, a, b, c, [], []⟩ = fieldsOk ⟨1, a, b, c, [], []⟩ 0 0 0 := by simp [fmValid]
theorem fm_k4 (a b c : Int) : fmValid ⟨4, a, b, c, [], []⟩ = fieldsOk ⟨4, a, b, c, [], []⟩ 2 30 0 := by simp [fmValid]
theorem fm_k5 (a b c : Int) : fmValid ⟨5, a, b, c, [], []⟩ = fieldsOk ⟨5, a, b, c, [], []⟩ 9999 0 0 := by simp [fmValid]
theorem fm_k6 (a b c : Int) : fmValid ⟨6, a, b, c, [], []⟩ = fieldsOk ⟨6, a, b, c, [], []⟩ 9999 0 0 := by simp [fmValid]
theorem fm_k7 (a b c : Int) : fmValid ⟨7, a, b, c, [], []⟩ = fieldsOk ⟨7, a, b, c, [], []⟩ 15 9999 0 := by simp [fmValid]
theorem fm_k8 (a b c : Int) : fmValid ⟨8, a, b, c, [], []⟩ = fieldsOk ⟨8, a, b, c, [], []⟩ 15 0 0 := by simp [fmValid]
theorem fm_k10 (a b c : Int) : fmValid ⟨10, a, b, c, [], []⟩ = fieldsOk ⟨10, a, b, c, [], []⟩ 99 0 0 := by simp [fmValid]
theorem fields_at {f : Fm} {A : Option Addr} {n c : Nat} {a b d : Int} {w : World} :
 Calls Tryz.prog 143 #[.int .i64 a, .int .i64 b, .int .i64 d, .pointer (some ⟨w.heap.size, 0, none⟩)] (w.alloc (.cells #[.int .i64 f.kind, .int .i64 f.a, .int .i64 f.b, .int .i64 f.c, .string (S f.data), .slice A n c] 54)) fun e w' => e = .returned (.bool (fieldsOk f a b d)) ∧ w.alloc (.cells #[.int .i64 f.kind, .int .i64 f.a, .int .i64 f.b, .int .i64 f.c, .string (S f.data), .slice A n c] 54) = w' :=
 fields_any f A n c a b d w.heap.size _ (by simp) (by simp) (by simp)
theorem fmw_0 (a b c : Int) (A : Option Addr) (c' : Nat) (w : World) :
 Calls Tryz.prog 101 #[.agg #[.int .i64 0, .int .i64 a, .int .i64 b, .int .i64 c, .string (S []), .slice A 0 c']] w fun e w' => e = .returned (.bool (fieldsOk ⟨0, a, b, c, [], []⟩ 0 0 0)) ∧ Below w.heap.size w w' := by
 go_enter Tryz.func101, Tryz.ntmps101
 go_wp2_with (go_at_call 143; refine (fields_at (f := ⟨0, a, b, c, [], []⟩)).mono ?_; rintro e w' ⟨rfl, rfl⟩)
 go_ret
 exact ⟨rfl, b_alloc _ _⟩
theorem fmw_1 (a b c : Int) (A : Option Addr) (c' : Nat) (w : World) :
 Calls Tryz.prog 101 #[.agg #[.int .i64 1, .int .i64 a, .int .i64 b, .int .i64 c, .string (S []), .slice A 0 c']] w fun e w' => e = .returned (.bool (fieldsOk ⟨1, a, b, c, [], []⟩ 0 0 0)) ∧ Below w.heap.size w w' := by
 go_enter Tryz.func101, Tryz.ntmps101
 go_wp2_with (go_at_call 143; refine (fields_at (f := ⟨1, a, b, c, [], []⟩)).mono ?_; rintro e w' ⟨rfl, rfl⟩)
 go_ret
 exact ⟨rfl, b_alloc _ _⟩
theorem fmw_4 (a b c : Int) (A : Option Addr) (c' : Nat) (w : World) :
 Calls Tryz.prog 101 #[.agg #[.int .i64 4, .int .i64 a, .int .i64 b, .int .i64 c, .string (S []), .slice A 0 c']] w fun e w' => e = .returned (.bool (fieldsOk ⟨4, a, b, c, [], []⟩ 2 30 0)) ∧ Below w.heap.size w w' := by
 go_enter Tryz.func101, Tryz.ntmps101
 go_wp2_with (go_at_call 143; refine (fields_at (f := ⟨4, a, b, c, [], []⟩)).mono ?_; rintro e w' ⟨rfl, rfl⟩)
 go_ret
 exact ⟨rfl, b_alloc _ _⟩
theorem fmw_5 (a b c : Int) (A : Option Addr) (c' : Nat) (w : World) :
 Calls Tryz.prog 101 #[.agg #[.int .i64 5, .int .i64 a, .int .i64 b, .int .i64 c, .string (S []), .slice A 0 c']] w fun e w' => e = .returned (.bool (fieldsOk ⟨5, a, b, c, [], []⟩ 9999 0 0)) ∧ Below w.heap.size w w' := by
 go_enter Tryz.func101, Tryz.ntmps101
 go_wp2_with (go_at_call 143; refine (fields_at (f := ⟨5, a, b, c, [], []⟩)).mono ?_; rintro e w' ⟨rfl, rfl⟩)
 go_ret
 exact ⟨rfl, b_alloc _ _⟩
theorem fmw_6 (a b c : Int) (A : Option Addr) (c' : Nat) (w : World) :
 Calls Tryz.prog 101 #[.agg #[.int .i64 6, .int .i64 a, .int .i64 b, .int .i64 c, .string (S []), .slice A 0 c']] w fun e w' => e = .returned (.bool (fieldsOk ⟨6, a, b, c, [], []⟩ 9999 0 0)) ∧ Below w.heap.size w w' := by
 go_enter Tryz.func101, Tryz.ntmps101
 go_wp2_with (go_at_call 143; refine (fields_at (f := ⟨6, a, b, c, [], []⟩)).mono ?_; rintro e w' ⟨rfl, rfl⟩)
 go_ret
 exact ⟨rfl, b_alloc _ _⟩
theorem fmw_7 (a b c : Int) (A : Option Addr) (c' : Nat) (w : World) :
 Calls Tryz.prog 101 #[.agg #[.int .i64 7, .int .i64 a, .int .i64 b, .int .i64 c, .string (S []), .slice A 0 c']] w fun e w' => e = .returned (.bool (fieldsOk ⟨7, a, b, c, [], []⟩ 15 9999 0)) ∧ Below w.heap.size w w' := by
 go_enter Tryz.func101, Tryz.ntmps101
 go_wp2_with (go_at_call 143; refine (fields_at (f := ⟨7, a, b, c, [], []⟩)).mono ?_; rintro e w' ⟨rfl, rfl⟩)
 go_ret
 exact ⟨rfl, b_alloc _ _⟩
theorem fmw_8 (a b c : Int) (A : Option Addr) (c' : Nat) (w : World) :
 Calls Tryz.prog 101 #[.agg #[.int .i64 8, .int .i64 a, .int .i64 b, .int .i64 c, .string (S []), .slice A 0 c']] w fun e w' => e = .returned (.bool (fieldsOk ⟨8, a, b, c, [], []⟩ 15 0 0)) ∧ Below w.heap.size w w' := by
 go_enter Tryz.func101, Tryz.ntmps101
 go_wp2_with (go_at_call 143; refine (fields_at (f := ⟨8, a, b, c, [], []⟩)).mono ?_; rintro e w' ⟨rfl, rfl⟩)
 go_ret
 exact ⟨rfl, b_alloc _ _⟩
theorem fmw_10 (a b c : Int) (A : Option Addr) (c' : Nat) (w : World) :
 Calls Tryz.prog 101 #[.agg #[.int .i64 10, .int .i64 a, .int .i64 b, .int .i64 c, .string (S []), .slice A 0 c']] w fun e w' => e = .returned (.bool (fieldsOk ⟨10, a, b, c, [], []⟩ 99 0 0)) ∧ Below w.heap.size w w' := by
 go_enter Tryz.func101, Tryz.ntmps101
 go_wp2_with (go_at_call 143; refine (fields_at (f := ⟨10, a, b, c, [], []⟩)).mono ?_; rintro e w' ⟨rfl, rfl⟩)
 go_ret
 exact ⟨rfl, b_alloc _ _⟩
theorem fmw_9 (a b c : Int) (A : Option Addr) (c' : Nat) (d : Bs) (h : d.length ≤ 12) (hne : d.isEmpty = false) (w : World) :
 Calls Tryz.prog 101 #[.agg #[.int .i64 9, .int .i64 a, .int .i64 b, .int .i64 c, .string (S d), .slice A 0 c']] w fun e w' => e = .returned (.bool (fieldsOk ⟨9, a, b, c, d, []⟩ 0 0 0)) ∧ Below w.heap.size w w' := by
 go_enter Tryz.func101, Tryz.ntmps101
 go_wp2_with (go_at_call 143; refine (fields_at (f := ⟨9, a, b, c, d, []⟩)).mono ?_; rintro e w' ⟨rfl, rfl⟩)
 go_ret
 exact ⟨rfl, b_alloc _ _⟩
theorem fmw_3 (a b c : Int) (A : Option Addr) (c' : Nat) (d : Bs) (h : d.length ≤ 12) (hne : d.isEmpty = false) (w : World) :
 Calls Tryz.prog 101 #[.agg #[.int .i64 3, .int .i64 a, .int .i64 b, .int .i64 c, .string (S d), .slice A 0 c']] w fun e w' => e = .returned (.bool (fieldsOk ⟨3, a, b, c, d, []⟩ 2 (30 - (d.length : Int)) 1)) ∧ Below w.heap.size w w' := by
 go_enter Tryz.func101, Tryz.ntmps101
 go_wp2_with (go_at_call 143; refine (fields_at (f := ⟨3, a, b, c, d, []⟩)).mono ?_; rintro e w' ⟨rfl, rfl⟩)
 go_ret
 exact ⟨rfl, b_alloc _ _⟩
theorem fmw_else (a b c : Int) (A : Option Addr) (c' : Nat) (k : Int) (h0 : k ≠ 0) (h1 : k ≠ 1) (h9 : k ≠ 9) (h2 : k ≠ 2) (h3 : k ≠ 3) (h4 : k ≠ 4) (h5 : k ≠ 5) (h6 : k ≠ 6) (h7 : k ≠ 7) (h8 : k ≠ 8) (h10 : k ≠ 10) (w : World) :
 Calls Tryz.prog 101 #[.agg #[.int .i64 k, .int .i64 a, .int .i64 b, .int .i64 c, .string (S []), .slice A 0 c']] w fun e w' => e = .returned (.bool false) ∧ Below w.heap.size w w' := by
 go_enter Tryz.func101, Tryz.ntmps101
 go_wp2_with (go_at_call 143; refine (fields_at (f := ⟨k, a, b, c, [], []⟩)).mono ?_; rintro e w' ⟨rfl, rfl⟩)
 go_ret
 exact ⟨rfl, b_alloc _ _⟩
theorem fmw_big (a b c : Int) (A : Option Addr) (n c' : Nat) (k : Int) (d : Bs) (h : 12 < d.length) (hd : d.length ≤ 1099511627776) (w : World) :
 Calls Tryz.prog 101 #[.agg #[.int .i64 k, .int .i64 a, .int .i64 b, .int .i64 c, .string (S d), .slice A n c']] w fun e w' => e = .returned (.bool false) ∧ Below w.heap.size w w' := by
 go_enter Tryz.func101, Tryz.ntmps101
 go_wp2_with (go_at_call 143; refine (fields_at (f := ⟨k, a, b, c, d, []⟩)).mono ?_; rintro e w' ⟨rfl, rfl⟩)
 go_ret
 exact ⟨rfl, b_alloc _ _⟩
theorem fmw_data (a b c : Int) (A : Option Addr) (n c' : Nat) (k : Int) (d : Bs) (h : d.length ≤ 12) (hn : d.isEmpty = false) (h3 : k ≠ 3) (h9 : k ≠ 9) (w : World) :
 Calls Tryz.prog 101 #[.agg #[.int .i64 k, .int .i64 a, .int .i64 b, .int .i64 c, .string (S d), .slice A n c']] w fun e w' => e = .returned (.bool false) ∧ Below w.heap.size w w' := by
 go_enter Tryz.func101, Tryz.ntmps101
 go_wp2_with (go_at_call 143; refine (fields_at (f := ⟨k, a, b, c, d, []⟩)).mono ?_; rintro e w' ⟨rfl, rfl⟩)
 go_ret
 exact ⟨rfl, b_alloc _ _⟩
theorem fmw_rng (a b c : Int) (A : Option Addr) (n c' : Nat) (k : Int) (hn : 0 < n) (_hn1 : (0 : Int) < (n : Int)) (hnm : n ≤ 9223372036854775807) (h2 : k ≠ 2) (w : World) :
 Calls Tryz.prog 101 #[.agg #[.int .i64 k, .int .i64 a, .int .i64 b, .int .i64 c, .string (S []), .slice A n c']] w fun e w' => e = .returned (.bool false) ∧ Below w.heap.size w w' := by
 go_enter Tryz.func101, Tryz.ntmps101
 go_wp2_with (go_at_call 143; refine (fields_at (f := ⟨k, a, b, c, [], []⟩)).mono ?_; rintro e w' ⟨rfl, rfl⟩)
 go_ret
 exact ⟨rfl, b_alloc _ _⟩
theorem fmw_rng3 (a b c : Int) (A : Option Addr) (n c' : Nat) (d : Bs) (h : d.length ≤ 12) (hne : d.isEmpty = false) (hn : 0 < n) (hn1 : (0 : Int) < (n : Int)) (hnm : n ≤ 9223372036854775807) (w : World) :
 Calls Tryz.prog 101 #[.agg #[.int .i64 3, .int .i64 a, .int .i64 b, .int .i64 c, .string (S d), .slice A n c']] w fun e w' => e = .returned (.bool false) ∧ Below w.heap.size w w' := by
 go_enter Tryz.func101, Tryz.ntmps101
 go_wp2_with (go_at_call 143; refine (fields_at (f := ⟨3, a, b, c, d, []⟩)).mono ?_; rintro e w' ⟨rfl, rfl⟩)
 go_ret
 exact ⟨rfl, b_alloc _ _⟩
theorem fmw_rng9 (a b c : Int) (A : Option Addr) (n c' : Nat) (d : Bs) (h : d.length ≤ 12) (hne : d.isEmpty = false) (hn : 0 < n) (hn1 : (0 : Int) < (n : Int)) (hnm : n ≤ 9223372036854775807) (w : World) :
 Calls Tryz.prog 101 #[.agg #[.int .i64 9, .int .i64 a, .int .i64 b, .int .i64 c, .string (S d), .slice A n c']] w fun e w' => e = .returned (.bool false) ∧ Below w.heap.size w w' := by
 go_enter Tryz.func101, Tryz.ntmps101
 go_wp2_with (go_at_call 143; refine (fields_at (f := ⟨9, a, b, c, d, []⟩)).mono ?_; rintro e w' ⟨rfl, rfl⟩)
 go_ret
 exact ⟨rfl, b_alloc _ _⟩
theorem fmw_90 (a b c : Int) (A : Option Addr) (c' : Nat) (w : World) :
 Calls Tryz.prog 101 #[.agg #[.int .i64 9, .int .i64 a, .int .i64 b, .int .i64 c, .string (S []), .slice A 0 c']] w fun e w' => e = .returned (.bool (fieldsOk ⟨9, a, b, c, [], []⟩ 0 0 0)) ∧ Below w.heap.size w w' := by
 go_enter Tryz.func101, Tryz.ntmps101
 go_wp2_with (go_at_call 143; refine (fields_at (f := ⟨9, a, b, c, [], []⟩)).mono ?_; rintro e w' ⟨rfl, rfl⟩)
 go_ret
 exact ⟨rfl, b_alloc _ _⟩
theorem fmw_30 (a b c : Int) (A : Option Addr) (c' : Nat) (w : World) :
 Calls Tryz.prog 101 #[.agg #[.int .i64 3, .int .i64 a, .int .i64 b, .int .i64 c, .string (S []), .slice A 0 c']] w fun e w' => e = .returned (.bool (fieldsOk ⟨3, a, b, c, [], []⟩ 2 30 1)) ∧ Below w.heap.size w w' := by
 go_enter Tryz.func101, Tryz.ntmps101
 go_wp2_with (go_at_call 143; refine (fields_at (f := ⟨3, a, b, c, [], []⟩)).mono ?_; rintro e w' ⟨rfl, rfl⟩)
 go_ret
 exact ⟨rfl, b_alloc _ _⟩
theorem fmw_20 (a b c : Int) (A : Option Addr) (c' : Nat) (w : World) :
 Calls Tryz.prog 101 #[.agg #[.int .i64 2, .int .i64 a, .int .i64 b, .int .i64 c, .string (S []), .slice A 0 c']] w fun e w' => e = .returned (.bool false) ∧ Below w.heap.size w w' := by
 go_enter Tryz.func101, Tryz.ntmps101
 go_wp2_with (go_at_call 143; refine (fields_at (f := ⟨2, a, b, c, [], []⟩)).mono ?_; rintro e w' ⟨rfl, rfl⟩)
 all_goals
  go_ret
  exact ⟨rfl, b_alloc _ _⟩
theorem fmw_2 (a b c : Int) (A : Option Addr) (n c' : Nat) (l : List Rg) (w : World) (ok : Nat → Prop) (h : RgS w ok A n c' l) (hok : Sub ok (Old w)) (hn : 0 < n) (hn1 : (0 : Int) < (n : Int)) (hnm : n ≤ 9223372036854775807) :
 Calls Tryz.prog 101 #[.agg #[.int .i64 2, .int .i64 a, .int .i64 b, .int .i64 c, .string (S []), .slice A n c']] w fun e w' => e = .returned (.bool (fieldsOk ⟨2, a, b, c, [], l⟩ 3 0 0 && rgValid l)) ∧ Below w.heap.size w w' := by
 cases hf : fieldsOk ⟨2, a, b, c, [], l⟩ 3 0 0 with
 | false =>
   go_enter Tryz.func101, Tryz.ntmps101
   go_wp2_with (go_at_call 143; refine (fields_at (f := ⟨2, a, b, c, [], l⟩)).mono ?_; rintro e w' ⟨rfl, rfl⟩; rw [hf])
   go_ret
   exact ⟨rfl, b_alloc _ _⟩
 | true =>
   have hb0 := b_alloc w (.cells #[.int .i64 2, .int .i64 a, .int .i64 b, .int .i64 c, .string (S []), .slice A n c'] 54)
   have h0 := h.below rgCar hok hb0 (Nat.le_refl _)
   have hok0 : Sub ok (Old (w.alloc (.cells #[.int .i64 2, .int .i64 a, .int .i64 b, .int .i64 c, .string (S []), .slice A n c'] 54))) := hok.old (by simp)
   go_enter Tryz.func101, Tryz.ntmps101
   go_wp2_with (first
    | (go_at_call 143; refine (fields_at (f := ⟨2, a, b, c, [], l⟩)).mono ?_; rintro e w' ⟨rfl, rfl⟩; rw [hf])
    | (go_at_call 37; refine (rangesValid_any A n c' l _ ok h0 hok0).mono ?_; rintro e w5 ⟨rfl, hb5⟩))
   go_ret
   exact ⟨ret_bool (by simp), b_then hb0 hb5⟩
theorem frameValid_any (f : Fm) (A : Option Addr) (n c : Nat) (w : World) (ok : Nat → Prop) (h : RgS w ok A n c f.ranges) (hok : Sub ok (Old w)) (hd : f.data.length ≤ 1099511627776) :
 Calls Tryz.prog 101 #[f.agg A n c] w fun e w' => e = .returned (.bool (fmValid f)) ∧ Below w.heap.size w w' := by
 have hlen := h.len
 have hcap := h.cap
 obtain ⟨k, a, b, cc, d, l⟩ := f
 simp only at h hlen hd
 unfold Fm.agg
 simp only
 by_cases h1 : 12 < d.length
 ·rw [fm_big (f := ⟨k, a, b, cc, d, l⟩) h1]; exact fmw_big a b cc A n c k d h1 hd w
 have h1' : d.length ≤ 12 := by omega
 by_cases h2 : d = []
 ·subst h2
  by_cases hn : n = 0
  ·have hl : l = [] := List.length_eq_zero_iff.1 (by omega)
   subst hl; subst hn
   by_cases k0 : k = 0
   ·subst k0; rw [fm_k0]; exact fmw_0 a b cc A c w
   by_cases k1 : k = 1
   ·subst k1; rw [fm_k1]; exact fmw_1 a b cc A c w
   by_cases k2 : k = 2
   ·subst k2; rw [fm_k2]; simp only [List.isEmpty_nil, Bool.not_true, Bool.false_and, Bool.and_false]; exact fmw_20 a b cc A c w
   by_cases k3 : k = 3
   ·subst k3; rw [fm_k3 a b cc [] (by simp)]; exact fmw_30 a b cc A c w
   by_cases k4 : k = 4
   ·subst k4; rw [fm_k4]; exact fmw_4 a b cc A c w
   by_cases k5 : k = 5
   ·subst k5; rw [fm_k5]; exact fmw_5 a b cc A c w
   by_cases k6 : k = 6
   ·subst k6; rw [fm_k6]; exact fmw_6 a b cc A c w
   by_cases k7 : k = 7
   ·subst k7; rw [fm_k7]; exact fmw_7 a b cc A c w
   by_cases k8 : k = 8
   ·subst k8; rw [fm_k8]; exact fmw_8 a b cc A c w
   by_cases k9 : k = 9
   ·subst k9; rw [fm_k9 a b cc [] (by simp)]; exact fmw_90 a b cc A c w
   by_cases k10 : k = 10
   ·subst k10; rw [fm_k10]; exact fmw_10 a b cc A c w
   rw [fm_else a b cc ⟨k0, k1, k9, k2, k3, k4, k5, k6, k7, k8, k10⟩]
   exact fmw_else a b cc A c k k0 k1 k9 k2 k3 k4 k5 k6 k7 k8 k10 w
  ·have hl : l ≠ [] := fun e => by rw [e] at hlen; simp at hlen; omega
   by_cases k2 : k = 2
   ·subst k2
    rw [fm_k2]
    have : (!l.isEmpty && rgValid l) = rgValid l := by cases l <;> simp at hl ⊢
    rw [this]
    exact fmw_2 a b cc A n c l w ok h hok (by omega) (by omega) (by omega)
   ·rw [fm_rng (f := ⟨k, a, b, cc, [], l⟩) hl k2]
    exact fmw_rng a b cc A n c k (by omega) (by omega) (by omega) k2 w
 ·have h2' : d.isEmpty = false := by cases d <;> simp at h2 ⊢
  by_cases k3 : k = 3
  ·subst k3
   by_cases hn : n = 0
   ·have hl : l = [] := List.length_eq_zero_iff.1 (by omega)
    subst hl; subst hn
    rw [fm_k3 a b cc d h1']; exact fmw_3 a b cc A c d h1' h2' w
   ·rw [fm_rng (f := ⟨3, a, b, cc, d, l⟩) (fun e => by simp only at e; rw [e] at hlen; simp at hlen; omega) (by simp)]
    exact fmw_rng3 a b cc A n c d h1' h2' (by omega) (by omega) (by omega) w
  ·by_cases k9 : k = 9
   ·subst k9
    by_cases hn : n = 0
    ·have hl : l = [] := List.length_eq_zero_iff.1 (by omega)
     subst hl; subst hn
     rw [fm_k9 a b cc d h1']; exact fmw_9 a b cc A c d h1' h2' w
    ·rw [fm_rng (f := ⟨9, a, b, cc, d, l⟩) (fun e => by simp only at e; rw [e] at hlen; simp at hlen; omega) (by simp)]
     exact fmw_rng9 a b cc A n c d h1' h2' (by omega) (by omega) (by omega) w
   ·rw [fm_data (f := ⟨k, a, b, cc, d, l⟩) h2 k3 k9]
    exact fmw_data a b cc A n c k d h1' h2' k3 k9 w
end Go.Proofs.YtjbhiglaginpeaaGreat
