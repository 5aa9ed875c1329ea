/- The contract of the reference's WorldNew. No condition. -/
import Derived.Test.YtjpaoadbgmmoeaaWN3
namespace Go.Proofs.Ytjpaoadbgmmoeaa
open Go.RowKit

def hdS (b8 b9 : Nat) : Hd := ⟨none, none, none, none, none, none, none, some ⟨b8, 0, none⟩, some ⟨b9, 0, none⟩, 0, 0, 0, 0, 0, 0, 0, 0, 0, 0, 0, 0, 0, 0, 0, 0, 0, 0⟩
def roS (b8 b9 : Nat) : Nat → Nat := fun b => if b = b8 then 8 else if b = b9 then 9 else 10
theorem sdRowS (limit : Int) (hl : inB limit 0 30 = true) (b b' : Nat) (w : World) (ok : Nat → Prop) : SdR w ok [.string (S []), .bool false, .int .i64 limit, .int .i64 0, .slice (some ⟨b, 0, none⟩) 0 0, .slice (some ⟨b', 0, none⟩) 0 0] (sd0 limit) := by
  have := inB_iff.1 hl
  exact ⟨_, 0, 0, _, 0, 0, rfl, by simp [sd0], by unfold I64 sd0; simp only; omega, by unfold I64 sd0; simp only; omega, SliceR.empty _ 0 (Nat.zero_le _) (fun _ => rfl), SliceR.empty _ 0 (Nat.zero_le _) (fun _ => rfl)⟩
theorem rvRowS (limit : Int) (hl : inB limit 0 30 = true) (b : Nat) (w : World) (ok : Nat → Prop) : RvR w ok [.int .i64 0, .slice (some ⟨b, 0, none⟩) 0 0, .int .i64 (-1), .int .i64 limit] (rv0 limit) := by
  have := inB_iff.1 hl
  exact ⟨_, 0, 0, rfl, by unfold I64 rv0; simp only; omega, by unfold I64 rv0; simp only; omega, by unfold I64 rv0; simp only; omega, SliceR.empty _ 0 (Nat.zero_le _) (fun _ => rfl)⟩
theorem lsRowS (b : Nat) (w : World) (ok : Nat → Prop) : LsR w ok [.int .i64 0, .slice (some ⟨b, 0, none⟩) 0 0, .int .i64 (-1)] ⟨0, [], -1⟩ :=
  ⟨_, 0, 0, rfl, by unfold I64; simp only; omega, by unfold I64; simp only; omega, SliceR.empty _ 0 (Nat.zero_le _) (fun _ => rfl)⟩
theorem snRowS (b : Nat) (w : World) (ok : Nat → Prop) : SnR w ok [.slice (some ⟨b, 0, none⟩) 0 0] [] := ⟨_, 0, 0, rfl, SliceR.empty _ 0 (Nat.zero_le _) (fun _ => rfl)⟩
theorem alloc_new (w : World) (o : Obj) : (w.alloc o).heap[w.heap.size]? = some o := by
  show (w.heap.push o)[w.heap.size]? = some o
  simp
theorem cell_app {wd w' : World} {o : Option Nat} (hg : wd.grownBy w' o) {p q : Addr} {v u : Value} (hp : p.block < wd.heap.size) (ho : o ≠ some p.block) (hq : q.block ≠ p.block) (hv : wd.cell? p = some v) : (w'.setCell q u).cell? p = some v :=
  (World.cell?_of_block (w := w') (Below.heap_setCell w' q u p.block (fun e => hq e.symm))).trans ((World.cell?_of_block (w := wd) (hg.block p.block hp (fun e => ho e.symm))).trans hv)
theorem OutS.lit {α : Type} {R : World → (Nat → Prop) → List Value → α → Prop} {size t base i g : Nat} {ro : Nat → Nat} {w : World} (hg : w.heap[g]? = some (.cells #[] t)) (hb : base ≤ g) (hr : ro g = i) : OutS R size t w base ro i (some ⟨g, 0, none⟩) 0 0 [] :=
  OutS.fresh (css := []) rfl ⟨Nat.le_refl _, Nat.zero_le _⟩ rfl (by simp) (by simp) ⟨by simp, .inr ⟨g, 0, #[], rfl, hb, hg, Nat.le_refl _, Nat.zero_le _, by simp, by simp⟩⟩ hr
theorem sNew_start (w : World) (limit : Int) {W6 : World} (hW6 : W6 = (((w.alloc (.cells #[.int .i64 0, .slice none 0 0, .slice none 0 0, .slice none 0 0, .slice none 0 0, .slice none 0 0, .slice none 0 0, .slice none 0 0, .slice none 0 0, .slice none 0 0] 34)).alloc (.cells #[] 73)).alloc (.cells #[] 81)).alloc (.cells #[.int .i64 0, .slice none 0 0, .slice none 0 0, .slice none 0 0, .slice none 0 0, .slice none 0 0, .slice none 0 0, .slice none 0 0, .slice (some ⟨w.heap.size + 1, 0, none⟩) 0 0, .slice (some ⟨w.heap.size + 1 + 1, 0, none⟩) 0 0] 34)) :
    Below w.heap.size w W6 ∧ W6.heap.size = w.heap.size + 1 + 1 + 1 + 1 ∧ (∀ j v, (hd0.cells 0)[j]? = some v → W6.cell? ⟨w.heap.size, j, none⟩ = some v) ∧ (∀ j, W6.frozen? ⟨w.heap.size, j, none⟩ = false) ∧
    NewInv W6 (roS (w.heap.size + 1) (w.heap.size + 1 + 1)) w.heap.size (w.heap.size + 1 + 1 + 1) (hdS (w.heap.size + 1) (w.heap.size + 1 + 1)) (roS (w.heap.size + 1) (w.heap.size + 1 + 1)) (wn1 limit 0) W6 := by
  obtain ⟨Wa, hWa⟩ : ∃ Wa : World, Wa = w.alloc (.cells #[.int .i64 0, .slice none 0 0, .slice none 0 0, .slice none 0 0, .slice none 0 0, .slice none 0 0, .slice none 0 0, .slice none 0 0, .slice none 0 0, .slice none 0 0] 34) := ⟨_, rfl⟩
  obtain ⟨Wb, hWb⟩ : ∃ Wb : World, Wb = Wa.alloc (.cells #[] 73) := ⟨_, rfl⟩
  obtain ⟨Wc, hWc⟩ : ∃ Wc : World, Wc = Wb.alloc (.cells #[] 81) := ⟨_, rfl⟩
  rw [← hWa, ← hWb, ← hWc] at hW6
  have sa : Wa.heap.size = w.heap.size + 1 := by rw [hWa]; simp
  have sb : Wb.heap.size = w.heap.size + 1 + 1 := by rw [hWb]; simp [sa]
  have sc : Wc.heap.size = w.heap.size + 1 + 1 + 1 := by rw [hWc]; simp [sb]
  have sd : W6.heap.size = w.heap.size + 1 + 1 + 1 + 1 := by rw [hW6]; simp [sc]
  have ba : Below w.heap.size w Wa := by rw [hWa]; exact b_alloc _ _
  have bb : Below Wa.heap.size Wa Wb := by rw [hWb]; exact b_alloc _ _
  have bc : Below Wb.heap.size Wb Wc := by rw [hWc]; exact b_alloc _ _
  have bd : Below Wc.heap.size Wc W6 := by rw [hW6]; exact b_alloc _ _
  have bac : Below Wa.heap.size Wa W6 := bb.trans ((bc.mono bb.size).trans (bd.mono (Nat.le_trans bb.size bc.size)))
  have h8 : W6.heap[w.heap.size + 1]? = some (.cells #[] 73) := (bd.block _ (by omega)).trans ((bc.block _ (by omega)).trans (by rw [hWb, ← sa]; exact alloc_new _ _))
  have h9 : W6.heap[w.heap.size + 1 + 1]? = some (.cells #[] 81) := (bd.block _ (by omega)).trans (by rw [hWc, ← sb]; exact alloc_new _ _)
  have at6 : AtP W6 Wc.heap.size (hdS (w.heap.size + 1) (w.heap.size + 1 + 1)) 0 := by rw [hW6]; exact atP_alloc Wc (hdS (w.heap.size + 1) (w.heap.size + 1 + 1)) 0 34
  rw [sc] at at6
  have fr6 : ∀ j, W6.frozen? ⟨Wc.heap.size, j, none⟩ = false := fun j => by rw [hW6]; simp
  rw [sc] at fr6
  have at0 : AtP Wa w.heap.size hd0 0 := by rw [hWa]; exact atP_alloc w hd0 0 34
  have fr0 : ∀ j, Wa.frozen? ⟨w.heap.size, j, none⟩ = false := fun j => by rw [hWa]; simp
  refine ⟨ba.trans (bac.mono ba.size), sd, fun j v hv => (at0.below bac).2 j v hv, fun j => (bac.frozen (p := ⟨w.heap.size, j, none⟩) (by show w.heap.size < _; omega)).trans (fr0 j), World.grownBy.refl _ _, by omega, by omega, fun b _ => ⟨rfl, by unfold roS; split; omega; split <;> omega⟩, by unfold roS; rw [if_neg (by omega), if_neg (by omega)], at6, fr6,
    ⟨OutS.none_, OutS.none_, OutS.none_, OutS.none_, OutS.none_, OutS.none_, OutS.none_, OutS.lit h8 (by omega) (by unfold roS; rw [if_pos rfl]), OutS.lit h9 (by omega) (by unfold roS; rw [if_neg (by omega), if_pos rfl])⟩⟩
set_option maxRecDepth 10000 in
set_option maxHeartbeats 4000000 in
theorem sWorldNew_yes (limit : Int) (hl : inB limit 0 30 = true) (w : World) :
    Calls Try.prog 7 #[.int .i64 limit] w fun e w' => (∃ h ro, e = .returned (.tuple #[h.agg 0, .bool true]) ∧ OwnH w' w.heap.size ro h (wdNew limit)) ∧ Below w.heap.size w w' := by
  go_enter Try.func7, Try.ntmps7
  go_wp2_with fail
  obtain ⟨W6, hW6⟩ : ∃ W6 : World, W6 = (((w.alloc (.cells #[.int .i64 0, .slice none 0 0, .slice none 0 0, .slice none 0 0, .slice none 0 0, .slice none 0 0, .slice none 0 0, .slice none 0 0, .slice none 0 0, .slice none 0 0] 34)).alloc (.cells #[] 73)).alloc (.cells #[] 81)).alloc (.cells #[.int .i64 0, .slice none 0 0, .slice none 0 0, .slice none 0 0, .slice none 0 0, .slice none 0 0, .slice none 0 0, .slice none 0 0, .slice (some ⟨w.heap.size + 1, 0, none⟩) 0 0, .slice (some ⟨w.heap.size + 1 + 1, 0, none⟩) 0 0] 34) := ⟨_, rfl⟩
  obtain ⟨hb6, hs6, z6, y6, hx0⟩ := sNew_start w limit hW6
  rw [← hW6]
  clear hW6
  have m1 : w.heap.size < W6.heap.size := by omega
  have m4 : w.heap.size ≠ w.heap.size + 1 + 1 + 1 := by omega
  have HB6 := Lib.hid hb6
  have Hz := Lib.hid z6
  have Hy := Lib.hid y6
  have m8 : w.heap.size + 1 + 1 + 1 < W6.heap.size := by omega
  obtain ⟨base, hbase⟩ : ∃ base, base = w.heap.size := ⟨_, rfl⟩
  have Hbase := Lib.hid hbase
  obtain ⟨ro0, hro0⟩ : ∃ ro0, ro0 = roS (w.heap.size + 1) (w.heap.size + 1 + 1) := ⟨_, rfl⟩
  have Hro : Hid (ro0 w.heap.size = 10) := by rw [hro0]; unfold Hid roS; rw [if_neg (by omega), if_neg (by omega)]
  rw [← hro0] at hx0
  have hx0' : NewInv W6 ro0 base (w.heap.size + 1 + 1 + 1) (hdS (w.heap.size + 1) (w.heap.size + 1 + 1)) ro0 (wn1 limit 0) W6 := by rw [hbase]; exact hx0
  obtain ⟨hds, hhds⟩ : ∃ hds, hds = hdS (w.heap.size + 1) (w.heap.size + 1 + 1) := ⟨_, rfl⟩
  rw [← hhds] at hx0'
  clear hb6 hs6 z6 y6 hbase hx0 hro0 hhds
  refine (l6In_dec hl).mono ?_
  rintro e w' ⟨rfl, rfl⟩
  obtain ⟨i1, hi1, f1, g1, e1⟩ := info_parts info1
  obtain ⟨i2, hi2, f2, g2, e2⟩ := info_parts info2
  obtain ⟨i3, hi3, f3, g3, e3⟩ := info_parts infoStr
  obtain ⟨i4, hi4, f4, g4, e4⟩ := info_parts info4
  obtain ⟨i5, hi5, f5, g5, e5⟩ := info_parts info5
  obtain ⟨i6, hi6, f6, g6, e6⟩ := info_parts info6
  obtain ⟨i7, hi7, f7, g7, e7⟩ := info_parts info7
  go_wp2_with fail
  go_loopg [5] 3 (fun m v wr => ∃ k : Nat, k + m = 3 ∧ v = .int .i64 (k : Int) ∧ ∃ h ro, NewInv W6 ro0 base (w.heap.size + 1 + 1 + 1) h ro (wn1 limit k) wr)
  case atStart => exact ⟨0, by omega, rfl, _, _, hx0'⟩
  case round =>
    obtain ⟨k, hk, rfl, h, ro, x⟩ := hrel
    by_cases hlt : k < 3
    · go_wp2_with fail
      refine (sSendNew_yes limit hl wr).mono ?_
      rintro e wa ⟨⟨b1, b2, rfl⟩, hba⟩
      obtain ⟨roa, xa⟩ := x.below hba
      have own1 := x.own.sends.owner
      clear x
      go_wp2_with fail
      obtain ⟨Wb, hWb⟩ : ∃ Wb : World, Wb = wa.alloc (.cells #[.string (S []), .bool false, .int .i64 limit, .int .i64 0, .slice (some ⟨b1, 0, none⟩) 0 0, .slice (some ⟨b2, 0, none⟩) 0 0] 47) := ⟨_, rfl⟩
      have hbb : Below wa.heap.size wa Wb := by rw [hWb]; exact b_alloc _ _
      obtain ⟨rob, xb⟩ := xa.below hbb
      have hlb : wa.heap.size < Wb.heap.size := by rw [hWb]; simp
      have s0 : Wb.cell? ⟨wa.heap.size, 0, none⟩ = some (.string (S [])) := by rw [hWb]; simp
      have s1 : Wb.cell? ⟨wa.heap.size, 1, none⟩ = some (.bool false) := by rw [hWb]; simp
      have s2 : Wb.cell? ⟨wa.heap.size, 2, none⟩ = some (.int .i64 limit) := by rw [hWb]; simp
      have s3 : Wb.cell? ⟨wa.heap.size, 3, none⟩ = some (.int .i64 0) := by rw [hWb]; simp
      have s4 : Wb.cell? ⟨wa.heap.size, 4, none⟩ = some (.slice (some ⟨b1, 0, none⟩) 0 0) := by rw [hWb]; simp
      have s5 : Wb.cell? ⟨wa.heap.size, 5, none⟩ = some (.slice (some ⟨b2, 0, none⟩) 0 0) := by rw [hWb]; simp
      rw [← hWb]
      refine (sRecvNew_yes limit hl Wb).mono ?_
      rintro e wc ⟨⟨b3, rfl⟩, hbc⟩
      obtain ⟨roc, xc⟩ := xb.below hbc
      obtain ⟨Wd, hWd⟩ : ∃ Wd : World, Wd = wc.alloc (.cells #[.int .i64 0, .slice (some ⟨b3, 0, none⟩) 0 0, .int .i64 (-1), .int .i64 limit] 52) := ⟨_, rfl⟩
      have hbd : Below wc.heap.size wc Wd := by rw [hWd]; exact b_alloc _ _
      obtain ⟨rod, xd⟩ := xc.below hbd
      have hbbd : Below Wb.heap.size Wb Wd := hbc.trans (hbd.mono hbc.size)
      have u0 := (hbbd.cell (p := ⟨wa.heap.size, 0, none⟩) hlb).trans s0
      have u1 := (hbbd.cell (p := ⟨wa.heap.size, 1, none⟩) hlb).trans s1
      have u2 := (hbbd.cell (p := ⟨wa.heap.size, 2, none⟩) hlb).trans s2
      have u3 := (hbbd.cell (p := ⟨wa.heap.size, 3, none⟩) hlb).trans s3
      have u4 := (hbbd.cell (p := ⟨wa.heap.size, 4, none⟩) hlb).trans s4
      have u5 := (hbbd.cell (p := ⟨wa.heap.size, 5, none⟩) hlb).trans s5
      have r0 : Wd.cell? ⟨wc.heap.size, 0, none⟩ = some (.int .i64 0) := by rw [hWd]; simp
      have r1 : Wd.cell? ⟨wc.heap.size, 1, none⟩ = some (.slice (some ⟨b3, 0, none⟩) 0 0) := by rw [hWd]; simp
      have r2 : Wd.cell? ⟨wc.heap.size, 2, none⟩ = some (.int .i64 (-1)) := by rw [hWd]; simp
      have r3 : Wd.cell? ⟨wc.heap.size, 3, none⟩ = some (.int .i64 limit) := by rw [hWd]; simp
      have hld : wc.heap.size < Wd.heap.size := by rw [hWd]; simp
      have hbase : base ≤ Wd.heap.size := Nat.le_trans xd.bas xd.keep.size
      have p1 := xd.at_.2 1 _ rfl
      have n1 : h.n1 < 3 := by rw [← xd.own.sends.len]; simp [wn1]; omega
      have hne : (Value.slice h.A1 h.n1 h.c1).ownBlock ≠ some wc.heap.size := fun e => by
        have h1 := (own1 _ e).2.1
        have h2 := hba.size
        have h3 := hbb.size
        have h4 := hbc.size
        omega
      have hnbw : (w.heap.size + 1 + 1 + 1) ≠ wc.heap.size := by
        have h1 := xc.keep.size
        omega
      clear s0 s1 s2 s3 s4 s5 xa xb xc hbb hbc hbd hbbd hba own1 hWb hlb
      rw [hWd] at u0 u1 u2 u3 u4 u5 p1
      go_wp2_with (at_builtin; go_must (refine wpList_appO rfl _ _ 24 rfl i1 _ 88 Try.underlying24 hi1 f1 g1 e1 rfl (by omega) sdCar (hWd ▸ xd.own.sends) (by decide) (hWd ▸ hbase) rfl (fun u hu => by simp only [List.mem_cons, List.not_mem_nil, or_false] at hu; rcases hu with rfl | rfl | rfl | rfl | rfl | rfl <;> rfl) (sdRowS limit hl b1 b2 _ _) rfl (by rw [World.size_alloc]; rfl) (by unfold maxLen; omega) (by omega) ?_))
      intro g c' w' hO hg
      have hg2 : Wd.grownBy w' (Value.slice h.A1 h.n1 h.c1).ownBlock := by first | exact hg | (rw [hWd]; exact hg)
      obtain ⟨⟨k1, k2, k3, -⟩, h2', ro2, x2⟩ := xd.app1 (by first | exact hO | (rw [hWd]; exact hO) | (rw [hWd, World.size_alloc]; exact hO)) hg2
      have t0 := cell_app hg2 (p := ⟨wc.heap.size, 0, none⟩) (q := ⟨w.heap.size + 1 + 1 + 1, 1, none⟩) (u := .slice (some ⟨g, 0, none⟩) (h.n1 + 1) c') hld hne hnbw r0
      have t1 := cell_app hg2 (p := ⟨wc.heap.size, 1, none⟩) (q := ⟨w.heap.size + 1 + 1 + 1, 1, none⟩) (u := .slice (some ⟨g, 0, none⟩) (h.n1 + 1) c') hld hne hnbw r1
      have t2 := cell_app hg2 (p := ⟨wc.heap.size, 2, none⟩) (q := ⟨w.heap.size + 1 + 1 + 1, 1, none⟩) (u := .slice (some ⟨g, 0, none⟩) (h.n1 + 1) c') hld hne hnbw r2
      have t3 := cell_app hg2 (p := ⟨wc.heap.size, 3, none⟩) (q := ⟨w.heap.size + 1 + 1 + 1, 1, none⟩) (u := .slice (some ⟨g, 0, none⟩) (h.n1 + 1) c') hld hne hnbw r3
      have j1 := x2.at_.2 2 _ rfl
      have hba2 : base ≤ (w'.setCell ⟨w.heap.size + 1 + 1 + 1, 1, none⟩ (.slice (some ⟨g, 0, none⟩) (h.n1 + 1) c')).heap.size := Nat.le_trans x2.bas x2.keep.size
      have n2 : h2'.n2 < 3 := by rw [← x2.own.recvs.len]; simp [wn1]; omega
      clear hO hg hg2 xd n1 p1 u0 u1 u2 u3 u4 u5 hbase r0 r1 r2 r3 hWd hld hne hnbw
      go_wp2_with (at_builtin; go_must (refine wpList_appO rfl _ _ 25 rfl i2 _ 48 Try.underlying25 hi2 f2 g2 e2 rfl (by omega) rvCar x2.own.recvs (by decide) hba2 rfl (fun u hu => by simp only [List.mem_cons, List.not_mem_nil, or_false] at hu; rcases hu with rfl | rfl | rfl | rfl <;> rfl) (rvRowS limit hl b3 _ _) rfl (by rw [World.size_setCell]; rfl) (by unfold maxLen; omega) (by omega) ?_))
      intro g3' c3 w3 hO hg
      obtain ⟨⟨k1', k2', k3', -⟩, h3', ro3, x3⟩ := x2.app2 (by rw [World.size_setCell]; exact hO) hg
      have j3 := x3.at_.2 3 _ rfl
      have hba3 : base ≤ (w3.setCell ⟨w.heap.size + 1 + 1 + 1, 2, none⟩ (.slice (some ⟨g3', 0, none⟩) (h2'.n2 + 1) c3)).heap.size := Nat.le_trans x3.bas x3.keep.size
      have n3 : h3'.n3 < 3 := by rw [← x3.own.got.len]; simp [wn1]; omega
      clear hO hg x2 n2 j1 t0 t1 t2 t3 hba2 k1 k2 k3
      go_wp2_with (at_builtin; go_must (refine wpList_appO rfl _ _ 26 rfl i3 _ 16 Try.underlying26 hi3 f3 g3 e3 rfl (by omega) bsCar x3.own.got (by decide) hba3 rfl (fun u hu => by simp only [List.mem_cons, List.not_mem_nil, or_false] at hu; subst hu; rfl) (bsRow _ _) rfl (by rw [World.size_setCell]; rfl) (by unfold maxLen; omega) (by omega) ?_))
      intro g4' c4 w4 hO hg
      obtain ⟨⟨k1, k2, k3, -⟩, h4', ro4, x4⟩ := x3.app3 (by rw [World.size_setCell]; exact hO) hg
      have X4 : Hid (NewInv W6 ro0 base (w.heap.size + 1 + 1 + 1) h4' ro4 (wn1 limit (k + 1)) (w4.setCell ⟨w.heap.size + 1 + 1 + 1, 3, none⟩ (.slice (some ⟨g4', 0, none⟩) (h3'.n3 + 1) c4))) := by
        unfold Hid
        rw [← wn1_succ]
        exact x4
      clear hO hg x3 x4 n3 j3 hba3 k1' k2' k3'
      go_wp2
      go_roundg (3 - (k + 1))
      case measure => omega
      case rel => exact ⟨k + 1, by omega, by go_num, h4', ro4, X4.out⟩
    · have hk3 : k = 3 := by omega
      subst hk3
      rw [wn12] at x
      clear hx0'
      go_wp2_with fail
      rename World => Wf
      go_loopg [10] 4 (fun m v wr => ∃ k : Nat, k + m = 4 ∧ v = .int .i64 (k : Int) ∧ ∃ h ro, NewInv W6 ro0 base (w.heap.size + 1 + 1 + 1) h ro (wn2 limit k) wr)
      case atStart => exact ⟨0, by omega, rfl, _, _, x⟩
      case round =>
        clear x
        obtain ⟨k, hk, rfl, h, ro, x⟩ := hrel
        by_cases hlt : k < 4
        · have n4 : h.n4 < 4 := by rw [← x.own.paths.len]; simp [wn2]; omega
          have hba : base ≤ wr.heap.size := Nat.le_trans x.bas x.keep.size
          have p4 := x.at_.2 4 _ rfl
          go_wp2_with (go_at_call 21; refine (l51Path_any _).mono ?_; rintro e w' ⟨rfl, rfl⟩)
          refine wp_region_mix (C := fun v => ∃ y, v = held (fun b => b = w.heap.size + 1 + 1 + 1) wr y) 5 [0, 1] [2, 3, 4] (by kernel_rfl) (by kernel_rfl) (held_drew (fun b => b = w.heap.size + 1 + 1 + 1) wr) ?_
          change wpQuiet _ _ _ _ [_, _] _
          repeat (go_big_quiet_step (fail))
          refine wpQuiet_nil ?_
          change wpList _ _ _ [_] _ _
          go_wp2_with fail
          refine (sLossNew_any _).mono ?_
          rintro e w5 ⟨⟨b4, rfl⟩, hb5⟩
          go_wp2_with fail
          have hlw : w.heap.size + 1 + 1 + 1 < wr.heap.size := Nat.lt_of_lt_of_le x.bwl x.keep.size
          have hb5' : Below wr.heap.size wr w5 := ((Below.refl _ _).drew).trans (hb5.mono (Nat.le_refl _))
          obtain ⟨ro5, x5⟩ := x.below hb5'
          have hba5 : base ≤ w5.heap.size := Nat.le_trans x5.bas x5.keep.size
          refine ⟨held_of (fun b hb => by subst hb; exact hb5'.block _ hlw), ?_⟩
          change wpList _ _ _ [_] _ _
          go_wp2_with fail
          refine ⟨held_of (fun b hb => by subst hb; exact (Below.heap_alloc w5 _ _ (Nat.lt_of_lt_of_le hlw hb5'.size)).trans (hb5'.block _ hlw)), ?_⟩
          change wpList _ _ _ [_] _ _
          refine wpList_appO rfl _ _ 27 rfl i4 _ 40 Try.underlying27 hi4 f4 g4 e4 rfl (by omega) lsCar x5.own.paths (by decide) hba5 rfl (fun u hu => by simp only [List.mem_cons, List.not_mem_nil, or_false] at hu; rcases hu with rfl | rfl | rfl <;> rfl) (lsRowS b4 _ _) rfl rfl (by unfold maxLen; omega) (by omega) ?_
          intro ga ca wa hO hg
          obtain ⟨⟨k1, k2, k3, k4⟩, h2', ro2, x2⟩ := x5.app4 hO hg
          refine ⟨rfl, held_of (fun b hb => by subst hb; exact k4.trans (hb5'.block _ hlw)), ?_⟩
          have j1 := x2.at_.2 5 _ rfl
          have hba2 : base ≤ (wa.setCell ⟨w.heap.size + 1 + 1 + 1, 4, none⟩ (.slice (some ⟨ga, 0, none⟩) (h.n4 + 1) ca)).heap.size := Nat.le_trans x2.bas x2.keep.size
          have n5 : h2'.n5 < 4 := by rw [← x2.own.rtts.len]; simp [wn2]; omega
          clear hO hg x x5 n4 p4 hba hba5 hb5 hb5' k4
          change wpList _ _ _ [_, _] _ _
          go_wp2_with (at_builtin; go_must (refine wpList_appO rfl _ _ 28 rfl i5 _ 32 Try.underlying28 hi5 f5 g5 e5 rfl (by omega) rtCar x2.own.rtts (by decide) hba2 rfl (fun u hu => by simp only [List.mem_cons, List.not_mem_nil, or_false] at hu; rcases hu with rfl | rfl | rfl | rfl <;> rfl) (rtRow _ _) rfl (by rw [World.size_setCell]; rfl) (by unfold maxLen; omega) (by omega) ?_))
          intro gb cb wb hO hg
          obtain ⟨⟨k1', k2', k3', -⟩, h3', ro3, x3⟩ := x2.app5 (by rw [World.size_setCell]; exact hO) hg
          have j3 := x3.at_.2 6 _ rfl
          have hba3 : base ≤ (wb.setCell ⟨w.heap.size + 1 + 1 + 1, 5, none⟩ (.slice (some ⟨gb, 0, none⟩) (h2'.n5 + 1) cb)).heap.size := Nat.le_trans x3.bas x3.keep.size
          have n6 : h3'.n6 < 4 := by rw [← x3.own.windows.len]; simp [wn2, wins4]; omega
          have ad : IntKind.i64.wrap ((k : Int) + 1) = (k : Int) + 1 := IntWalk.i64_in _ (by omega)
          have mu : IntKind.i64.wrap (10 * ((k : Int) + 1)) = 10 * ((k : Int) + 1) := IntWalk.i64_in _ (by omega)
          clear hO hg x2 n5 j1 hba2 k1 k2 k3
          go_wp2_with (at_builtin; go_must (refine wpList_appO rfl _ _ 29 rfl i6 _ 32 Try.underlying29 hi6 f6 g6 e6 rfl (by omega) wnCar x3.own.windows (by decide) hba3 rfl (fun u hu => by simp only [List.mem_cons, List.not_mem_nil, or_false] at hu; rcases hu with rfl | rfl | rfl | rfl <;> rfl) (wnRow k hlt _ _) rfl (by rw [World.size_setCell]; rfl) (by unfold maxLen; omega) (by omega) ?_))
          intro gc cc wc hO hg
          obtain ⟨⟨k1, k2, k3, -⟩, h4', ro4, x4⟩ := x3.app6 (by rw [World.size_setCell]; exact hO) hg
          obtain ⟨ro4', x4'⟩ := x4.below (b_alloc _ (.cells #[] 108))
          have j4 := x4.at_.2 7 _ rfl
          have hba4 : base ≤ ((wc.setCell ⟨w.heap.size + 1 + 1 + 1, 6, none⟩ (.slice (some ⟨gc, 0, none⟩) (h3'.n6 + 1) cc)).alloc (.cells #[] 108)).heap.size := Nat.le_trans x4'.bas x4'.keep.size
          have n7 : h4'.n7 < 4 := by rw [← x4.own.seen.len]; simp [wn2]; omega
          clear hO hg x3 x4 n6 j3 hba3 k1' k2' k3'
          go_wp2_with (at_builtin; go_must (refine wpList_appO rfl _ _ 30 rfl i7 _ 24 Try.underlying30 hi7 f7 g7 e7 rfl (by omega) snCar x4'.own.seen (by decide) hba4 rfl (fun u hu => by simp only [List.mem_cons, List.not_mem_nil, or_false] at hu; subst hu; rfl) (snRowS _ _ _) rfl (by rw [World.size_alloc, World.size_setCell]; rfl) (by unfold maxLen; omega) (by omega) ?_))
          intro gd cd wd hO hg
          obtain ⟨⟨k1', k2', k3', -⟩, h5', ro5', x5⟩ := x4'.app7 (by rw [World.size_alloc, World.size_setCell]; exact hO) hg
          have X5 : Hid (NewInv W6 ro0 base (w.heap.size + 1 + 1 + 1) h5' ro5' (wn2 limit (k + 1)) (wd.setCell ⟨w.heap.size + 1 + 1 + 1, 7, none⟩ (.slice (some ⟨gd, 0, none⟩) (h4'.n7 + 1) cd))) := by
            unfold Hid
            rw [← wn2_succ limit k hlt]
            exact x5
          clear hO hg x4' x5 n7 j4 hba4 k1 k2 k3
          go_wp2
          go_roundg (4 - (k + 1))
          case measure => omega
          case rel => exact ⟨k + 1, by omega, by go_num, h5', ro5', X5.out⟩
        · have hk4 : k = 4 := by omega
          subst hk4
          rw [wn2_new] at x
          have hfr0 : ∀ j, wr.frozen? ⟨w.heap.size, j, none⟩ = false := fun j => (World.frozen?_of_block (w := W6) (a := ⟨w.heap.size, j, none⟩) (x.keep.block _ m1 (fun e => m4 (Option.some.inj e)))).trans (Hy.out j)
          have v0 := x.at_.2 0 _ rfl
          have r0 := (x.cellOld (a := ⟨w.heap.size, 0, none⟩) m1 m4).trans (Hz.out 0 _ rfl)
          have v1 := x.at_.2 1 _ rfl
          have r1 := (x.cellOld (a := ⟨w.heap.size, 1, none⟩) m1 m4).trans (Hz.out 1 _ rfl)
          have v2 := x.at_.2 2 _ rfl
          have r2 := (x.cellOld (a := ⟨w.heap.size, 2, none⟩) m1 m4).trans (Hz.out 2 _ rfl)
          have v3 := x.at_.2 3 _ rfl
          have r3 := (x.cellOld (a := ⟨w.heap.size, 3, none⟩) m1 m4).trans (Hz.out 3 _ rfl)
          have v4 := x.at_.2 4 _ rfl
          have r4 := (x.cellOld (a := ⟨w.heap.size, 4, none⟩) m1 m4).trans (Hz.out 4 _ rfl)
          have v5 := x.at_.2 5 _ rfl
          have r5 := (x.cellOld (a := ⟨w.heap.size, 5, none⟩) m1 m4).trans (Hz.out 5 _ rfl)
          have v6 := x.at_.2 6 _ rfl
          have r6 := (x.cellOld (a := ⟨w.heap.size, 6, none⟩) m1 m4).trans (Hz.out 6 _ rfl)
          have v7 := x.at_.2 7 _ rfl
          have r7 := (x.cellOld (a := ⟨w.heap.size, 7, none⟩) m1 m4).trans (Hz.out 7 _ rfl)
          have v8 := x.at_.2 8 _ rfl
          have r8 := (x.cellOld (a := ⟨w.heap.size, 8, none⟩) m1 m4).trans (Hz.out 8 _ rfl)
          have v9 := x.at_.2 9 _ rfl
          have r9 := (x.cellOld (a := ⟨w.heap.size, 9, none⟩) m1 m4).trans (Hz.out 9 _ rfl)
          have A0 : AtP wr w.heap.size hd0 0 := ⟨Nat.lt_of_lt_of_le m1 x.keep.size, fun j v hv => (x.cellOld (a := ⟨w.heap.size, j, none⟩) m1 m4).trans (Hz.out j v hv)⟩
          have Az := atP_puts (h' := h) (now' := 0) A0
          have hgz := grownBy_puts w.heap.size (h.cells 0) 0 wr
          have Hown := Lib.hid (x.own.keep hgz (fun b e _ => by
            obtain rfl : w.heap.size = b := Option.some.inj e
            rw [(x.old _ m1).1, Hro.out]; omega) (fun _ _ => rfl))
          have Hb := Lib.hid (HB6.out.trans ((below_on x.keep (show w.heap.size ≤ w.heap.size + 1 + 1 + 1 by omega) (Nat.le_of_lt m1)).trans (below_on hgz (Nat.le_refl _) (Nat.le_trans (Nat.le_of_lt m1) x.keep.size))))
          have c0 := Az.2 0 _ rfl
          have c1 := Az.2 1 _ rfl
          have c2 := Az.2 2 _ rfl
          have c3 := Az.2 3 _ rfl
          have c4 := Az.2 4 _ rfl
          have c5 := Az.2 5 _ rfl
          have c6 := Az.2 6 _ rfl
          have c7 := Az.2 7 _ rfl
          have c8 := Az.2 8 _ rfl
          have c9 := Az.2 9 _ rfl
          clear A0 Az hgz
          obtain ⟨Wz, hWz⟩ : ∃ Wz : World, Wz = ((((((((((wr.setCell ⟨w.heap.size, 0, none⟩ (.int .i64 0)).setCell ⟨w.heap.size, 1, none⟩ (.slice h.A1 h.n1 h.c1)).setCell ⟨w.heap.size, 2, none⟩ (.slice h.A2 h.n2 h.c2)).setCell ⟨w.heap.size, 3, none⟩ (.slice h.A3 h.n3 h.c3)).setCell ⟨w.heap.size, 4, none⟩ (.slice h.A4 h.n4 h.c4)).setCell ⟨w.heap.size, 5, none⟩ (.slice h.A5 h.n5 h.c5)).setCell ⟨w.heap.size, 6, none⟩ (.slice h.A6 h.n6 h.c6)).setCell ⟨w.heap.size, 7, none⟩ (.slice h.A7 h.n7 h.c7)).setCell ⟨w.heap.size, 8, none⟩ (.slice h.A8 h.n8 h.c8)).setCell ⟨w.heap.size, 9, none⟩ (.slice h.A9 h.n9 h.c9)) := ⟨_, rfl⟩
          have hWz' : wr.setCells w.heap.size 0 (h.cells 0) = Wz := by rw [hWz]; rfl
          rw [hWz'] at Hown Hb c0 c1 c2 c3 c4 c5 c6 c7 c8 c9
          go_wp2_with (go_at_call 21; refine (l51Path_any _).mono ?_; rintro e w' ⟨rfl, rfl⟩)
          rw [← hWz]
          clear hWz hWz'
          try simp only [Exit.inBlock, Exit.then]
          refine bodyPost_ret (v := .tuple #[h.agg 0, .bool true]) (by simp [results, Try.results7, c0, c1, c2, c3, c4, c5, c6, c7, c8, c9, Hd.agg, go_sem]) rfl ?_
          exact ⟨⟨h, ro, rfl, by rw [Hbase.out] at Hown; exact Hown.out⟩, Hb.out⟩
end Go.Proofs.Ytjpaoadbgmmoeaa
