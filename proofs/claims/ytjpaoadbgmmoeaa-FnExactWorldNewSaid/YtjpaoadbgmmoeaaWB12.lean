/- The contract of the program's carriedAt. Condition: the pointer leads to a run whose carried parts read as plain data. -/
import Derived.Test.YtjpaoadbgmmoeaaWB10
namespace Go.Proofs.Ytjpaoadbgmmoeaa
open Go.RowKit

def Cd.agg (x : Cd) : Value := .agg #[.int .i64 x.path, .int .i64 x.num, .int .i64 x.stream, .int .i64 x.part.off, .string (S x.part.data), .bool x.part.fin]
theorem cd_at {w : World} {ok : Nat → Prop} {A : Option Addr} {n c : Nat} {l : List Cd} (h : SliceR CdR 6 w ok A n c l) {k : Nat} (hk : k < n) : ∃ b o x, A = some ⟨b, o, none⟩ ∧ ok b ∧ l[k]? = some x ∧ (I64 x.path ∧ I64 x.num ∧ I64 x.stream ∧ PtOk x.part) ∧
    w.cell? ⟨b, o + k * 6, none⟩ = some (.int .i64 x.path) ∧ w.cell? ⟨b, o + k * 6 + 1, none⟩ = some (.int .i64 x.num) ∧ w.cell? ⟨b, o + k * 6 + 2, none⟩ = some (.int .i64 x.stream) ∧ w.cell? ⟨b, o + k * 6 + 3, none⟩ = some (.int .i64 x.part.off) ∧ w.cell? ⟨b, o + k * 6 + 4, none⟩ = some (.string (S x.part.data)) ∧ w.cell? ⟨b, o + k * 6 + 5, none⟩ = some (.bool x.part.fin) := by
  obtain ⟨b, o, cs, x, e, hb, hx, _, ⟨rfl, h1, h2, h3, h4⟩, hc⟩ := h.at_ hk
  exact ⟨b, o, x, e, hb, hx, ⟨h1, h2, h3, h4⟩, by have := hc 0 _ rfl; rwa [Nat.add_zero] at this, hc 1 _ rfl, hc 2 _ rfl, hc 3 _ rfl, hc 4 _ rfl, hc 5 _ rfl⟩
def cdIs (p n : Int) (c : Cd) : Bool := decide (c.path = p) && decide (c.num = n)
set_option maxHeartbeats 400000 in
theorem cdCl_any (x : Cd) (p n : Int) (b1 b2 : Nat) (w : World) (h1 : w.cell? ⟨b1, 0, none⟩ = some (.int .i64 p)) (h2 : w.cell? ⟨b2, 0, none⟩ = some (.int .i64 n)) (hl1 : b1 < w.heap.size) (hl2 : b2 < w.heap.size) :
    Calls Try.prog 104 #[x.agg, .pointer (some ⟨b1, 0, none⟩), .pointer (some ⟨b2, 0, none⟩)] w fun e w' => e = .returned (.bool (cdIs p n x)) ∧ Below w.heap.size w w' := by
  have hb0 : Below w.heap.size w (w.alloc (.cells #[.int .i64 x.path, .int .i64 x.num, .int .i64 x.stream, .int .i64 x.part.off, .string (S x.part.data), .bool x.part.fin] 73)) := b_alloc _ _
  have h1' := (hb0.cell (p := ⟨b1, 0, none⟩) hl1).trans h1
  have h2' := (hb0.cell (p := ⟨b2, 0, none⟩) hl2).trans h2
  unfold Cd.agg
  by_cases e1 : x.path = p
  · have t1 : (x.path == p) = true := beq_iff_eq.2 e1
    by_cases e2 : x.num = n
    · have t2 : (x.num == n) = true := beq_iff_eq.2 e2
      have Hv := Lib.hid (show cdIs p n x = true by unfold cdIs; rw [decide_eq_true e1, decide_eq_true e2]; rfl)
      clear e1 e2
      go_enter Try.func104, Try.ntmps104
      go_wp2
      all_goals
        go_ret
        exact ⟨ret_bool (by rw [Hv.out]), hb0⟩
    · have t2 : (x.num == n) = false := beq_eq_false_iff_ne.2 e2
      have Hv := Lib.hid (show cdIs p n x = false by unfold cdIs; rw [decide_eq_true e1, decide_eq_false e2]; rfl)
      clear e1 e2
      go_enter Try.func104, Try.ntmps104
      go_wp2
      all_goals
        go_ret
        exact ⟨ret_bool (by rw [Hv.out]), hb0⟩
  · have t1 : (x.path == p) = false := beq_eq_false_iff_ne.2 e1
    have Hv := Lib.hid (show cdIs p n x = false by unfold cdIs; rw [decide_eq_false e1]; rfl)
    clear e1
    go_enter Try.func104, Try.ntmps104
    go_wp2
    all_goals
      go_ret
      exact ⟨ret_bool (by rw [Hv.out]), hb0⟩
set_option maxHeartbeats 1000000 in
theorem idxCd_any (A : Option Addr) (n c : Nat) (l : List Cd) (p m : Int) (b1 b2 : Nat) (w : World) (ok : Nat → Prop) (h : SliceR CdR 6 w ok A n c l) (hok : Sub ok (Old w)) (h1 : w.cell? ⟨b1, 0, none⟩ = some (.int .i64 p)) (h2 : w.cell? ⟨b2, 0, none⟩ = some (.int .i64 m)) (hl1 : b1 < w.heap.size) (hl2 : b2 < w.heap.size) :
    Calls Try.prog 103 #[.slice A n c, .func (.func 104) #[] #[.pointer (some ⟨b1, 0, none⟩), .pointer (some ⟨b2, 0, none⟩)]] w
      fun e w' => e = .returned (.int .i64 (idxI (l.findIdx? (cdIs p m)))) ∧ Below w.heap.size w w' := by
  go_enter Try.func103, Try.ntmps103
  go_wp2
  have hcap := h.cap
  have hlen := Lib.hid h.len
  go_loopg [8] n (fun m' i wr => ∃ k : Nat, k + m' = n ∧ i = .int .i64 k ∧ Below w.heap.size w wr ∧ Hid (∀ r ∈ l.take k, cdIs p m r = false))
  case atStart => exact ⟨0, by omega, rfl, Below.refl _ _, by simp [Hid]⟩
  case round =>
    obtain ⟨k, hk, rfl, hbr, HN⟩ := hrel
    by_cases hlt : k < n
    · obtain ⟨b, o, u, rfl, hb, hu, _, c0, c1, c2, c3, c4, c5⟩ := cd_at (h.below cdCar hok hbr (Nat.le_refl _)) hlt
      have g1 := (hbr.cell (p := ⟨b1, 0, none⟩) hl1).trans h1
      have g2 := (hbr.cell (p := ⟨b2, 0, none⟩) hl2).trans h2
      have hsz := hbr.size
      have Hu := Lib.hid hu
      clear hu
      have hq1 : (0 : Int) ≤ (k : Int) := by omega
      have hq2 : (k : Int) < (n : Int) := by omega
      go_wp2_with fail
      refine (cdCl_any u p m b1 b2 wr g1 g2 (by omega) (by omega)).mono ?_
      rintro e w1 ⟨rfl, hb1⟩
      have hbr1 := hbr.trans (hb1.mono hsz)
      cases hin : cdIs p m u with
      | true =>
        have Hres : Hid (idxI (l.findIdx? (cdIs p m)) = k) := by
          have : l.findIdx? (cdIs p m) = some k := by
            rw [List.findIdx?_eq_some_iff_getElem]
            have hkl := (List.getElem?_eq_some_iff.1 Hu.out).1
            refine ⟨hkl, by rw [(List.getElem?_eq_some_iff.1 Hu.out).2]; exact hin, fun j hj => ?_⟩
            have := HN.out (l[j]'(by omega)) (by rw [List.mem_take_iff_getElem]; exact ⟨j, by omega, rfl⟩)
            simp [this]
          unfold Hid
          rw [this]; rfl
        clear hin HN hb1
        go_wp2
        go_ret
        exact ⟨ret_int Hres.out.symm, hbr1⟩
      | false =>
        have HN' : Hid (∀ r ∈ l.take (k + 1), cdIs p m r = false) := by
          intro r hr
          rw [List.take_add_one, Hu.out, List.mem_append] at hr
          rcases hr with hr | hr
          · exact HN.out r hr
          · simp at hr; subst hr; exact hin
        clear hin HN hb1
        go_wp2
        go_roundg (n - (k + 1))
        case measure => omega
        case rel => exact ⟨k + 1, by omega, by go_num, hbr1, HN'⟩
    · have hkn : k = n := by omega
      subst hkn
      have Hres : Hid (idxI (l.findIdx? (cdIs p m)) = -1) := by
        have : l.findIdx? (cdIs p m) = none := by
          rw [List.findIdx?_eq_none_iff]
          intro r hr
          exact HN.out r (by rw [List.take_of_length_le (by rw [hlen.out]; omega)]; exact hr)
        unfold Hid
        rw [this]; rfl
      clear HN
      go_wp2
      go_ret
      exact ⟨ret_int Hres.out.symm, hbr⟩
set_option maxHeartbeats 1000000 in
theorem carriedAt_any (h : Hd) (W : Wd) (bw : Nat) (p m : Int) (w : World) (ok : Nat → Prop) (hp : AtP w bw h W.now) (hc : SliceR CdR 6 w ok h.A8 h.n8 h.c8 W.carried) (hok : Sub ok (Old w)) :
    Calls Try.prog 79 #[.pointer (some ⟨bw, 0, none⟩), .int .i64 p, .int .i64 m] w fun e w' => e = .returned (.int .i64 (idxI (carAt W p m))) ∧ Below w.heap.size w w' := by
  obtain ⟨W0, hW0⟩ : ∃ W0 : World, W0 = (w.alloc (.cells #[.int .i64 p] 3)).alloc (.cells #[.int .i64 m] 3) := ⟨_, rfl⟩
  have hb0 : Below w.heap.size w W0 := by rw [hW0]; exact b_grow (b_alloc _ _) _
  have h1 : W0.cell? ⟨w.heap.size, 0, none⟩ = some (.int .i64 p) := by rw [hW0]; simp
  have h2 : W0.cell? ⟨w.heap.size + 1, 0, none⟩ = some (.int .i64 m) := by rw [hW0]; simp
  have hs0 : w.heap.size + 1 < W0.heap.size := by rw [hW0]; simp
  have p8 := (hp.below hb0).2 8 _ rfl
  have hI := Lib.hid (idxCd_any h.A8 h.n8 h.c8 W.carried p m w.heap.size (w.heap.size + 1) W0 ok (hc.below cdCar hok hb0 (Nat.le_refl _)) (hok.old hb0.size) h1 h2 (by omega) hs0)
  go_enter Try.func79, Try.ntmps79
  rw [hW0] at p8
  go_wp2_with fail
  rw [← hW0]
  refine hI.out.mono ?_
  rintro e w1 ⟨rfl, hb1⟩
  have Hb := Lib.hid (hb0.trans (hb1.mono hb0.size))
  go_wp2
  go_ret
  exact ⟨ret_int rfl, Hb.out⟩
end Go.Proofs.Ytjpaoadbgmmoeaa
