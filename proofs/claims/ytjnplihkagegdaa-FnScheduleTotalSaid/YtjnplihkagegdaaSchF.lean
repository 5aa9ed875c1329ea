/- The contracts of the exact laws' helpers on options. Condition: the slices read as lists of options. -/
import Derived.Test.YtjnplihkagegdaaSchE
import Derived.Test.YtjnplihkagegdaaRow
namespace Go.Proofs.Ytjnplihkagegdaa
open Go.RowKit

def Opt.agg (o : Opt) : Value := .agg #[.bool o.act, .int .i64 o.rtt, .int .i64 o.win, .int .i64 o.fl]
theorem szOptionS_any (A : Option Addr) (n c : Nat) (w : World) (hn : n ≤ 9223372036854775807) :
    Calls Try.prog 13 #[.slice A n c, .int .i64 1048576] w fun e w' => e = .returned (.int .i64 (if n ≤ 1048576 then 1048576 - n else -1)) ∧ w = w' := by
  by_cases h : n ≤ 1048576
  · rw [if_pos h]
    go_enter Try.func13, Try.ntmps13
    go_wp2
    go_ret
    exact ⟨rfl, rfl⟩
  · rw [if_neg h]
    go_enter Try.func13, Try.ntmps13
    go_wp2
    go_ret
    exact ⟨rfl, rfl⟩
set_option maxHeartbeats 400000 in
theorem toOption_any (o : Opt) (w : World) :
    Calls Try.prog 31 #[o.agg] w fun e w' => e = .returned o.agg ∧ Below w.heap.size w w' := by
  unfold Opt.agg
  go_enter Try.func31, Try.ntmps31
  go_wp2
  refine bodyPost_ret (v := o.agg) (by simp [results, Try.results31, go_sem, Opt.agg]) rfl ⟨rfl, ?_⟩
  exact (((Below.refl _ _).alloc (Nat.le_refl _) _).alloc (by simp) _).alloc (by simp; omega) _
set_option maxHeartbeats 400000 in
theorem eqOption_same (o : Opt) (w : World) :
    Calls Try.prog 34 #[o.agg, o.agg] w fun e w' => e = .returned (.bool true) ∧ Below w.heap.size w w' := by
  unfold Opt.agg
  go_enter Try.func34, Try.ntmps34
  go_wp2
  go_ret
  exact ⟨rfl, ((Below.refl _ _).alloc (Nat.le_refl _) _).alloc (by simp) _⟩
theorem made_flat (n : Nat) : (madeCells (Value.agg #[.bool false, .int .i64 0, .int .i64 0, .int .i64 0]).cells (n * 4)).toList = flat Opt.cells (List.replicate n default) := by
  apply List.ext_getElem?
  intro j
  by_cases hj : j < n * 4
  · have e1 : j = j / 4 * 4 + j % 4 := by omega
    have hr : (List.replicate n (default : Opt))[j / 4]? = some default := by rw [List.getElem?_replicate, if_pos (by omega)]
    rw [e1, flat_get (enc := Opt.cells) (s := 4) (fun _ => rfl) _ _ _ _ hr (by omega), ← e1]
    have h4 : j % 4 < 4 := Nat.mod_lt _ (by omega)
    simp only [madeCells]
    rcases (show j % 4 = 0 ∨ j % 4 = 1 ∨ j % 4 = 2 ∨ j % 4 = 3 by omega) with h | h | h | h <;> rw [h] <;> simp [hj, h, Value.cells, Opt.cells, default, instInhabitedOpt.default]
    rfl
  · rw [List.getElem?_eq_none (by simp [madeCells]; omega), List.getElem?_eq_none (by rw [flat_len (enc := Opt.cells) (s := 4) (fun _ => rfl)]; simp; omega)]
theorem optV_flat (l : List Opt) : optV l = flat Opt.cells l := rfl
theorem cells4 (a : Opt) : a.cells.length = 4 := rfl
theorem infoOpt : (Try.prog.info? 31).map (fun i => (i.zero, i.size, i.bytes)) = some (some (.agg #[.bool false, .int .i64 0, .int .i64 0, .int .i64 0]), 4, 32) := by kernel_rfl
set_option maxHeartbeats 1000000 in
theorem toOptionS_any (A : Option Addr) (n c : Nat) (l : List Opt) (w : World) (B : Nat) (h : Opts 1048576 w B A n l) (hB : B ≤ w.heap.size) :
    Calls Try.prog 15 #[.slice A n c] w fun e w' => ∃ g, e = .returned (.slice (some ⟨g, 0, none⟩) n n) ∧ Below w.heap.size w w' ∧ w'.ownsRow w.heap.size 31 4 (.slice (some ⟨g, 0, none⟩) n n) n (optV l) := by
  obtain ⟨i0, hi, hz0, hz1, hz2⟩ := info_parts infoOpt
  have hn := h.2.1
  go_enter Try.func15, Try.ntmps15
  go_wp2_with (at_make; go_must (refine wpList_make_full _ rfl _ _ 23 rfl w.heap.size 31 i0 _ 4 Try.underlying23 hi hz0 hz1 .i64 .i64 _ _ n rfl rfl rfl rfl ?hb ?hm (Nat.le_refl _) ?_))
  case hb => rw [hz2]; omega
  case hm => unfold maxLen; omega
  intro w1 hown hgr
  have hmade : (madeCells #[.bool false, .int .i64 0, .int .i64 0, .int .i64 0] (n * 4)).toList = flat Opt.cells (List.replicate n default) := made_flat n
  rw [hmade] at hown
  have hbel0 : Below w.heap.size w w1 := (Below.refl _ _).grown hgr (Nat.le_refl _) (by intro k hk; cases hk)
  clear hmade hgr
  go_wp2_with fail
  go_loopg [4] n (fun m i wr => ∃ k : Nat, k + m = n ∧ i = .int .i64 k ∧ Below w.heap.size w wr ∧ wr.ownsRow w.heap.size 31 4 (.slice (some ⟨w.heap.size, 0, none⟩) n n) n (flat Opt.cells (l.take k ++ List.replicate (n - k) default)))
  case atStart => exact ⟨0, by omega, rfl, hbel0, by simpa using hown⟩
  case round =>
    clear hown hbel0
    obtain ⟨k, hk, rfl, hbr, hown⟩ := hrel
    by_cases hlt : k < n
    · obtain ⟨b, o, u, rfl, hb, hu, hbd, c0, c1, c2, c3⟩ := (h.below hbr hB).at_ hlt
      have hlen := h.len
      have hset : (l.take k ++ List.replicate (n - k) default).set k u = l.take (k + 1) ++ List.replicate (n - (k + 1)) default := by
        have e1 : (l.take k).length = k := by rw [List.length_take]; omega
        have e2 : n - k = (n - (k + 1)) + 1 := by omega
        rw [List.set_append_right _ _ (by omega), e1, Nat.sub_self, e2, List.replicate_succ, List.set_cons_zero, List.take_add_one, hu]
        simp
      have Hset := Lib.hid hset
      have hgl := (hown.lt w.heap.size rfl).2
      have hszr := hbr.size
      have Hlen := Lib.hid hlen
      clear hu hset hlen
      go_wp2_with fail
      refine (toOption_any u _).mono ?_
      rintro e w2 ⟨rfl, hb2⟩
      have hown2 : w2.ownsRow w.heap.size 31 4 (.slice (some ⟨w.heap.size, 0, none⟩) n n) n (flat Opt.cells (l.take k ++ List.replicate (n - k) default)) := hown.kept (only_of_below hb2 none) (.inr (by simp [Value.ownBlock]))
      obtain ⟨y, hy⟩ : ∃ y, (l.take k ++ List.replicate (n - k) default)[k]? = some y := ⟨_, List.getElem?_eq_getElem (by simp [Hlen.out]; omega)⟩
      have d0 := own_cell cells4 hown2 (j := 0) hy rfl
      have d1 := own_cell cells4 hown2 (j := 1) hy rfl
      have d2 := own_cell cells4 hown2 (j := 2) hy rfl
      have d3 := own_cell cells4 hown2 (j := 3) hy rfl
      rw [Nat.add_zero] at d0
      obtain ⟨d0, f0⟩ := d0
      obtain ⟨d1, f1⟩ := d1
      obtain ⟨d2, f2⟩ := d2
      obtain ⟨d3, f3⟩ := d3
      have hput := own_put cells4 hown2 k u hlt (by omega)
      rw [Hset.out] at hput
      have Hown3 := Lib.hid hput.1
      have Hbel3 := Lib.hid ((hbr.trans (hb2.mono (by omega))).grown hput.2 (by have := hb2.size; omega) (by intro k hk; injection hk with hk; omega))
      have q1 : (0 : Int) ≤ (k : Int) := by omega
      have q2 : (k : Int) < (n : Int) := by omega
      clear hput hy hown hown2 hb2 hbr hbd h
      unfold Opt.agg
      go_wp2_with fail
      go_roundg (n - (k + 1))
      case measure => omega
      case rel => exact ⟨k + 1, by omega, by go_num, Hbel3.out, Hown3.out⟩
    · have hk' : k = n := by omega
      subst hk'
      have hfin : l.take k ++ List.replicate (k - k) default = l := by rw [List.take_of_length_le (by rw [h.len]; omega)]; simp
      rw [hfin] at hown
      have Hown := Lib.hid hown
      clear hfin hown
      go_wp2
      go_ret
      exact ⟨w.heap.size, rfl, hbr, Hown.out⟩
end Go.Proofs.Ytjnplihkagegdaa
