/- The contracts of the program's small functions on the receiving side. Condition: the slices read as lists of pieces. -/
import Derived.Test.YtjpaoadbgmmoeaaWA2
import Derived.Deep.RegionHeld
import Derived.Deep.RegionHeld2
import Derived.Deep.RegionHeld3
namespace Go.Proofs.Ytjpaoadbgmmoeaa
open Go.RowKit

theorem b_self (W : World) : Below W.heap.size W W := Below.refl _ _
theorem b_drew (W : World) : Below W.heap.size W W.drew := (Below.refl _ _).drew
theorem b_grow {W w' : World} (h : Below W.heap.size W w') (o : Obj) : Below W.heap.size W (w'.alloc o) := h.alloc h.size _
theorem b_then {W w' w'' : World} (h : Below W.heap.size W w') (k : Below w'.heap.size w' w'') : Below W.heap.size W w'' := h.trans (k.mono h.size)
theorem b_alloc (w : World) (o : Obj) : Below w.heap.size w (w.alloc o) := (Below.refl _ _).alloc (Nat.le_refl _) o
theorem b_drewN {W w' : World} (h : Below W.heap.size W w') (n : Nat) : Below W.heap.size W (w'.drewN n) := ⟨h.os, h.tape, h.output, h.size, h.block⟩
theorem pieceEnd_any (p : Pc) (w : World) (_hl : p.data.length ≤ 1099511627776) (_h1 : I64 p.off) (h2 : I64 p.fin) :
    Calls Try.prog 67 #[.agg #[.int .i64 p.off, .string (S p.data)]] w fun e w' => e = .returned (.int .i64 p.fin) ∧ Below w.heap.size w w' := by
  unfold I64 at h2
  have hf : p.fin = p.off + (p.data.length : Int) := rfl
  go_enter Try.func67, Try.ntmps67
  go_wp2
  go_ret
  exact ⟨ret_int hf.symm, b_alloc _ _⟩
theorem pc_at {w : World} {ok : Nat → Prop} {A : Option Addr} {n c : Nat} {l : List Pc} (h : SliceR PcR 2 w ok A n c l) {k : Nat} (hk : k < n) : ∃ b o x, A = some ⟨b, o, none⟩ ∧ ok b ∧ l[k]? = some x ∧ I64 x.off ∧ x.data.length ≤ 1099511627776 ∧ w.cell? ⟨b, o + k * 2, none⟩ = some (.int .i64 x.off) ∧ w.cell? ⟨b, o + k * 2 + 1, none⟩ = some (.string (S x.data)) := by
  obtain ⟨b, o, cs, x, e, hb, hx, _, ⟨rfl, h1, h2⟩, hc⟩ := h.at_ hk
  exact ⟨b, o, x, e, hb, hx, h1, h2, by have := hc 0 _ rfl; rwa [Nat.add_zero] at this, hc 1 _ rfl⟩
def Rv.agg (x : Rv) (A : Option Addr) (n c : Nat) : Value := .agg #[.int .i64 x.read, .slice A n c, .int .i64 x.final, .int .i64 x.limit]
theorem recvEnd_any (x : Rv) (A : Option Addr) (n c : Nat) (w : World) (ok : Nat → Prop) (h : SliceR PcR 2 w ok A n c x.pieces) (hok : Sub ok (Old w)) (hb : ∀ p, x.pieces.getLast? = some p → I64 p.fin) :
    Calls Try.prog 66 #[x.agg A n c] w fun e w' => e = .returned (.int .i64 x.fin) ∧ Below w.heap.size w w' := by
  have hlen := h.len
  have hcap := h.cap
  unfold Rv.agg
  by_cases h0 : n = 0
  · have hf : x.fin = x.read := by unfold Rv.fin; rw [show x.pieces = [] from List.length_eq_zero_iff.1 (by omega)]; rfl
    have Hf := Lib.hid hf
    subst h0
    clear hf
    go_enter Try.func66, Try.ntmps66
    go_wp2
    go_ret
    exact ⟨ret_int Hf.out.symm, b_alloc _ _⟩
  · have hb0 := b_alloc w (.cells #[.int .i64 x.read, .slice A n c, .int .i64 x.final, .int .i64 x.limit] 52)
    obtain ⟨b, o, p, rfl, hbl, hp, p1, p2, c0, c1⟩ := pc_at (h.below pcCar hok hb0 (Nat.le_refl _)) (show n - 1 < n by omega)
    have hlast : x.pieces.getLast? = some p := by rw [List.getLast?_eq_getElem?, hlen]; exact hp
    have hf : x.fin = p.fin := by unfold Rv.fin; rw [hlast]
    have Hf := Lib.hid hf
    have hpf := hb p hlast
    have q1 : (0 : Int) ≤ (n : Int) - 1 := by omega
    have q2 : (n : Int) - 1 < (n : Int) := by omega
    have q3 : ((n : Int) - 1).toNat = n - 1 := by omega
    have q4 : ¬ ((n : Int) = 0) := by omega
    have q5 : ((n : Int) == 0) = false := beq_eq_false_iff_ne.2 q4
    clear hf hlast hp hb
    go_enter Try.func66, Try.ntmps66
    go_wp2_with fail
    refine (pieceEnd_any p _ p2 p1 hpf).mono ?_
    rintro e w1 ⟨rfl, hb1⟩
    have hb2 := b_then hb0 hb1
    clear hb1 hb0
    go_wp2
    go_ret
    exact ⟨ret_int Hf.out.symm, hb2⟩
/-- The pieces lie where no sum can overflow. -/
def PcsBd (l : List Pc) : Prop := ∀ p ∈ l, 0 ≤ p.off ∧ p.fin ≤ 30
theorem pcs_bd {r : Rv} (h : RvOK r) : PcsBd r.pieces := by
  intro p hp
  have : ∀ (l : List Pc) (a b : Int), pcOk a b l → ∀ p ∈ l, a < p.off ∧ p.fin ≤ b := by
    intro l
    induction l with
    | nil => intro _ _ _ p hp; simp at hp
    | cons y ys ih =>
      intro a b ok p hp
      rcases List.mem_cons.1 hp with rfl | hp
      · exact ⟨ok.2.1, ok.2.2.1⟩
      · have h1 := ih _ _ ok.2.2.2 p hp
        have h2 := ok.2.1
        have h3 := bl_pos ok.1
        unfold Pc.fin at h1 ⊢
        omega
  have h1 := this _ _ _ h.pcs p hp
  have := h.read
  have := h.lim
  omega
def byteV (o : Option UInt8) : Value := match o with
  | none => .tuple #[.int .u8 0, .bool false]
  | some b => .tuple #[.int .u8 (b.toNat : Int), .bool true]
set_option maxHeartbeats 1000000 in
theorem waiting_any (x : Rv) (y : Int) (A : Option Addr) (n c : Nat) (w : World) (ok : Nat → Prop) (h : SliceR PcR 2 w ok A n c x.pieces) (hok : Sub ok (Old w)) (hb : PcsBd x.pieces) (_hy : 0 ≤ y ∧ y ≤ 1000) :
    Calls Try.prog 100 #[x.agg A n c, .int .i64 y] w fun e w' => e = .returned (byteV (waits x y)) ∧ Below w.heap.size w w' := by
  have hlen := Lib.hid h.len
  have hcap := h.cap
  have hb0 := b_alloc w (.cells #[.int .i64 x.read, .slice A n c, .int .i64 x.final, .int .i64 x.limit] 52)
  unfold Rv.agg
  rw [waits_eq]
  go_enter Try.func100, Try.ntmps100
  go_wp2
  go_loopg [11] n (fun m i wr => ∃ k : Nat, k + m = n ∧ i = .int .i64 k ∧ Below w.heap.size w wr ∧ Hid (atL (x.pieces.take k) y = none))
  case atStart => exact ⟨0, by omega, rfl, hb0, rfl⟩
  case round =>
    clear hb0
    obtain ⟨k, hk, rfl, hbr, HN⟩ := hrel
    by_cases hlt : k < n
    · obtain ⟨b, o, p, rfl, hbl, hp, p1, p2, c0, c1⟩ := pc_at (h.below pcCar hok hbr (Nat.le_refl _)) hlt
      have hpb := hb p (List.mem_of_getElem? hp)
      have hsz := hbr.size
      have hfe : p.fin = p.off + (p.data.length : Int) := rfl
      have hpl : p.data.length ≤ 30 := by omega
      have hI : I64 p.fin := by unfold I64; omega
      have hw1 : IntKind.i64.wrap (p.fin - 1) = p.fin - 1 := IntWalk.i64_in _ (by omega)
      have Hp := Lib.hid hp
      have Hb1 := Lib.hid (hbr.alloc hsz (.cells #[.int .i64 p.off, .string (S p.data)] 104))
      have HS : Hid (∀ w', Below (wr.alloc (.cells #[.int .i64 p.off, .string (S p.data)] 104)).heap.size (wr.alloc (.cells #[.int .i64 p.off, .string (S p.data)] 104)) w' →
          Below (wr.alloc (.cells #[.int .i64 p.off, .string (S p.data)] 104)).heap.size (wr.alloc (.cells #[.int .i64 p.off, .string (S p.data)] 104)) w' ∧ w'.cell? ⟨wr.heap.size, 0, none⟩ = some (.int .i64 p.off) ∧ w'.cell? ⟨wr.heap.size, 1, none⟩ = some (.string (S p.data))) := fun w' hb' =>
        ⟨hb', (hb'.cell (p := ⟨wr.heap.size, 0, none⟩) (by simp)).trans (by simp [World.cell?_alloc_new]), (hb'.cell (p := ⟨wr.heap.size, 1, none⟩) (by simp)).trans (by simp [World.cell?_alloc_new])⟩
      have Hfe := Lib.hid hfe
      clear hp hbr hfe
      go_wp2_with fail
      go_region_held (fun w' => Below (wr.alloc (.cells #[.int .i64 p.off, .string (S p.data)] 104)).heap.size (wr.alloc (.cells #[.int .i64 p.off, .string (S p.data)] 104)) w' ∧ w'.cell? ⟨wr.heap.size, 0, none⟩ = some (.int .i64 p.off) ∧ w'.cell? ⟨wr.heap.size, 1, none⟩ = some (.string (S p.data)))
        (first | assumption | exact HS.out _ (b_self _) | exact HS.out _ (b_drew _) | exact HS.out _ (b_grow (And.left (by assumption)) _) | exact HS.out _ (b_then (And.left (by assumption)) hb5))
        (first
          | (go_at_call 67; refine (pieceEnd_any p _ p2 p1 hI).mono ?_; rintro e w5 ⟨rfl, hb5⟩)
          | (go_at_call 29; refine (within_any _ _ _ _).mono ?_; rintro e w6 ⟨rfl, rfl⟩))
      rename_i hS
      obtain ⟨hs1, hs2, hs3⟩ := hS
      have Hb2 := Lib.hid (Hb1.out.trans (hs1.mono (by simp; omega)))
      clear hs1 HS Hb1 hb5 c0 c1
      try rw [hw1]
      cases hin : inB y p.off (p.fin - 1) with
      | true =>
        have hin' := inB_iff.1 hin
        have hres : atL x.pieces y = some (p.data.getD (y - p.off).toNat 0) := by
          have hg : p.get y = some (p.data.getD (y - p.off).toNat 0) := by rw [get_holds, if_pos (show p.holds y = true from hin)]
          have e : x.pieces = x.pieces.take k ++ p :: x.pieces.drop (k + 1) := by
            have := List.take_append_drop k x.pieces
            rw [List.drop_eq_getElem_cons (List.getElem?_eq_some_iff.1 Hp.out).1, (List.getElem?_eq_some_iff.1 Hp.out).2] at this
            exact this.symm
          rw [e]
          unfold atL
          rw [List.findSome?_append]
          have := HN.out
          unfold atL at this
          rw [this, List.findSome?_cons, hg]; rfl
        have Hres := Lib.hid hres
        have q1 : 0 ≤ y - p.off := by omega
        have q2 : y - p.off < (p.data.length : Int) := by have := Hfe.out; omega
        have q3 : IntKind.i64.wrap (y - p.off) = y - p.off := IntWalk.i64_in _ (by omega)
        clear hres hin HN
        go_wp2
        go_ret2
        refine ⟨?_, Hb2.out⟩
        rw [Hres.out]
        have hlt2 : (y - p.off).toNat < p.data.length := by omega
        simp [byteV, List.getD_eq_getElem?_getD, List.getElem?_eq_getElem hlt2]
      | false =>
        have HN' : Hid (atL (x.pieces.take (k + 1)) y = none) := by
          have hg : p.get y = none := by rw [get_holds, if_neg (by show ¬ inB y p.off (p.fin - 1) = true; rw [hin]; simp)]
          unfold Hid
          rw [List.take_add_one, Hp.out]
          unfold atL
          rw [List.findSome?_append]
          have := HN.out
          unfold atL at this
          rw [this]
          simp [hg]
        clear hin HN
        go_wp2
        go_roundg (n - (k + 1))
        case measure => omega
        case rel => exact ⟨k + 1, by omega, by go_num, Hb2.out, HN'⟩
    · obtain rfl : k = n := by omega
      have hres : atL x.pieces y = none := by
        have := HN.out
        rwa [List.take_of_length_le (by rw [hlen.out]; omega)] at this
      have Hres := Lib.hid hres
      clear hres HN
      go_wp2
      go_ret2
      exact ⟨by rw [Hres.out]; rfl, hbr⟩
end Go.Proofs.Ytjpaoadbgmmoeaa
