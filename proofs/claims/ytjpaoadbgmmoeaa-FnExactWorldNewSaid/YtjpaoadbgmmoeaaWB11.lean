/- The contract of the program's streamValid. Condition: the pointer leads to a run that reads as plain data. -/
import Derived.Test.YtjpaoadbgmmoeaaWB7
import Derived.Test.YtjpaoadbgmmoeaaWP12
import Derived.Test.YtjpaoadbgmmoeaaWB10
import Derived.StillTailTactics
namespace Go.Proofs.Ytjpaoadbgmmoeaa
open Go.RowKit

theorem recvEnd_dec {x : Rv} {A : Option Addr} {n c : Nat} {W y : World} {ok : Nat → Prop} (h : SliceR PcR 2 W ok A n c x.pieces) (hok : Sub ok (Old W)) (hb : ∀ p, x.pieces.getLast? = some p → I64 p.fin) :
    Calls Try.prog 66 #[.agg #[.int .i64 x.read, .slice A n c, .int .i64 x.final, .int .i64 x.limit]] (grew W y) fun e w' => e = .returned (.int .i64 x.fin) ∧ Below (grew W y).heap.size (grew W y) w' :=
  recvEnd_any x A n c (grew W y) ok (h.grew pcCar hok) hok.grew hb
theorem st_no1 {s : Sd} {r : Rv} {g : Bs} (h : sdValid s = false) : streamOk s r g = false := by simp [streamOk, h]
theorem st_no2 {s : Sd} {r : Rv} {g : Bs} (h : rvValid r = false) : streamOk s r g = false := by simp [streamOk, h]
theorem st_no3 {s : Sd} {r : Rv} {g : Bs} (h : ¬ (g.length : Int) = r.read) : streamOk s r g = false := by simp [streamOk, bl, h]
theorem st_no4 {s : Sd} {r : Rv} {g : Bs} (h : (s.data.take g.length == g) = false) : streamOk s r g = false := by simp [streamOk, h]
theorem st_no5 {s : Sd} {r : Rv} {g : Bs} (h : r.limit < s.limit) : streamOk s r g = false := by
  have : decide (s.limit ≤ r.limit) = false := by simp; omega
  simp [streamOk, this]
theorem st_no6 {s : Sd} {r : Rv} {g : Bs} (h : min s.next (s.data.length : Int) < r.fin) : streamOk s r g = false := by
  have : decide (r.fin ≤ min s.next (bl s.data)) = false := decide_eq_false (Int.not_le.2 h)
  simp [streamOk, this]
def stTail (s : Sd) (r : Rv) : Bool := ((List.range s.next.toNat).all fun i => !hasR s.acked i || gotIt s r i) && (decide (r.final = -1) || (s.fin && (decide (r.final = bl s.data) && decide (s.next = bl s.data + 1))))
theorem st_rest {s : Sd} {r : Rv} {g : Bs} (h1 : sdValid s = true) (h2 : rvValid r = true) (h3 : (g.length : Int) = r.read) (h4 : (s.data.take g.length == g) = true) (h5 : s.limit ≤ r.limit) (h6 : r.fin ≤ min s.next (s.data.length : Int)) :
    streamOk s r g = ((r.pieces.all fun p => (s.data.drop p.off.toNat).take p.data.length == p.data) && stTail s r) := by
  have e3 : decide (bl g = r.read) = true := decide_eq_true h3
  have e6 : decide (r.fin ≤ min s.next (bl s.data)) = true := decide_eq_true h6
  rw [streamOk, h1, h2, e3, h4, decide_eq_true h5, e6, stTail]
  simp
theorem b_put {W w' : World} (h : Below W.heap.size W w') {b : Nat} (hb : W.heap.size ≤ b) (o : Nat) (vs : List Value) : Below W.heap.size W (w'.setCells b o vs) := by
  induction vs generalizing w' o with
  | nil => exact h
  | cons v r ih => exact ih (h.setCell (p := ⟨b, o, none⟩) hb v) _
set_option maxHeartbeats 2000000 in
theorem streamValid_any (h : Hd) (W : Wd) (bw i : Nat) (w : World) (ok : Nat → Prop) (hp : AtP w bw h W.now) (hs : StR w ok h W) (hgot : SliceR BsR 1 w ok h.A3 h.n3 h.c3 W.got) (hn3 : h.n3 = 3) (hok : Sub ok (Old w)) (hi : i < 3) :
    Calls Try.prog 31 #[.pointer (some ⟨bw, 0, none⟩), .int .i64 (i : Int)] w fun e w' => e = .returned (.bool (streamOk (W.sd i) (W.rv i) (W.got.getD i default))) ∧ Below w.heap.size w w' := by
  obtain ⟨b, o, r, A', n', c', hA, hbo, hr, ⟨r1, r2, r3⟩, hpc, c0, c1, c2, c3⟩ := rv_at hs.recvs (k := i) (by rw [hs.n2]; exact hi)
  obtain ⟨b1, o1, s, A1, m1, e1, A2, m2, e2, hB, hbo1, hsx, ⟨s1, s2, s3⟩, ha1, hl1, g0, g1, g2, g3, g4, g5⟩ := sd_at hs.sends (k := i) (by rw [hs.n1]; exact hi)
  obtain ⟨b3, o3, g, hC, hbo3, hgx, hgl, f0⟩ := bs_at hgot (k := i) (by rw [hn3]; exact hi)
  have hrv : W.rv i = r := getD_of? hr
  have hsd : W.sd i = s := getD_of? hsx
  have hgg : W.got.getD i default = g := getD_of? hgx
  have p2 := hp.2 2 _ rfl
  have p1 := hp.2 1 _ rfl
  have p3 := hp.2 3 _ rfl
  rw [hA, hs.n2] at p2
  rw [hB, hs.n1] at p1
  rw [hC, hn3] at p3
  have hbw := hp.1
  have q1 : (0 : Int) ≤ (i : Int) := by omega
  have q2 : (i : Int) < 3 := by omega
  rw [hrv, hsd, hgg]
  clear hr hsx hgx hA hB hC
  go_enter Try.func31, Try.ntmps31
  go_wp2_with fail
  have hob : b < w.heap.size := hok b hbo
  have hob1 : b1 < w.heap.size := hok b1 hbo1
  have hob3 : b3 < w.heap.size := hok b3 hbo3
  have HS : Hid (∀ w', Below w.heap.size w w' → Below w.heap.size w w' ∧ w'.cell? ⟨bw, 1, none⟩ = some (.slice (some ⟨b1, o1, none⟩) 3 h.c1) ∧ w'.cell? ⟨bw, 2, none⟩ = some (.slice (some ⟨b, o, none⟩) 3 h.c2) ∧ w'.cell? ⟨bw, 3, none⟩ = some (.slice (some ⟨b3, o3, none⟩) 3 h.c3) ∧
      w'.cell? ⟨b, o + i * 4, none⟩ = some (.int .i64 r.read) ∧ w'.cell? ⟨b, o + i * 4 + 1, none⟩ = some (.slice A' n' c') ∧ w'.cell? ⟨b, o + i * 4 + 2, none⟩ = some (.int .i64 r.final) ∧ w'.cell? ⟨b, o + i * 4 + 3, none⟩ = some (.int .i64 r.limit) ∧
      w'.cell? ⟨b1, o1 + i * 6, none⟩ = some (.string (S s.data)) ∧ w'.cell? ⟨b1, o1 + i * 6 + 1, none⟩ = some (.bool s.fin) ∧ w'.cell? ⟨b1, o1 + i * 6 + 2, none⟩ = some (.int .i64 s.limit) ∧ w'.cell? ⟨b1, o1 + i * 6 + 3, none⟩ = some (.int .i64 s.next) ∧ w'.cell? ⟨b1, o1 + i * 6 + 4, none⟩ = some (.slice A1 m1 e1) ∧ w'.cell? ⟨b1, o1 + i * 6 + 5, none⟩ = some (.slice A2 m2 e2) ∧
      w'.cell? ⟨b3, o3 + i, none⟩ = some (.string (S g))) := fun w' hb' =>
    ⟨hb', (hb'.cell (p := ⟨bw, 1, none⟩) hbw).trans p1, (hb'.cell (p := ⟨bw, 2, none⟩) hbw).trans p2, (hb'.cell (p := ⟨bw, 3, none⟩) hbw).trans p3,
      (hb'.cell (p := ⟨b, o + i * 4, none⟩) hob).trans c0, (hb'.cell (p := ⟨b, o + i * 4 + 1, none⟩) hob).trans c1, (hb'.cell (p := ⟨b, o + i * 4 + 2, none⟩) hob).trans c2, (hb'.cell (p := ⟨b, o + i * 4 + 3, none⟩) hob).trans c3,
      (hb'.cell (p := ⟨b1, o1 + i * 6, none⟩) hob1).trans g0, (hb'.cell (p := ⟨b1, o1 + i * 6 + 1, none⟩) hob1).trans g1, (hb'.cell (p := ⟨b1, o1 + i * 6 + 2, none⟩) hob1).trans g2, (hb'.cell (p := ⟨b1, o1 + i * 6 + 3, none⟩) hob1).trans g3, (hb'.cell (p := ⟨b1, o1 + i * 6 + 4, none⟩) hob1).trans g4, (hb'.cell (p := ⟨b1, o1 + i * 6 + 5, none⟩) hob1).trans g5,
      (hb'.cell (p := ⟨b3, o3 + i, none⟩) hob3).trans f0⟩
  clear p1 p2 p3 c0 c1 c2 c3 g0 g1 g2 g3 g4 g5 f0
  go_region_held (fun w' => Below w.heap.size w w' ∧ w'.cell? ⟨bw, 1, none⟩ = some (.slice (some ⟨b1, o1, none⟩) 3 h.c1) ∧ w'.cell? ⟨bw, 2, none⟩ = some (.slice (some ⟨b, o, none⟩) 3 h.c2) ∧ w'.cell? ⟨bw, 3, none⟩ = some (.slice (some ⟨b3, o3, none⟩) 3 h.c3) ∧
      w'.cell? ⟨b, o + i * 4, none⟩ = some (.int .i64 r.read) ∧ w'.cell? ⟨b, o + i * 4 + 1, none⟩ = some (.slice A' n' c') ∧ w'.cell? ⟨b, o + i * 4 + 2, none⟩ = some (.int .i64 r.final) ∧ w'.cell? ⟨b, o + i * 4 + 3, none⟩ = some (.int .i64 r.limit) ∧
      w'.cell? ⟨b1, o1 + i * 6, none⟩ = some (.string (S s.data)) ∧ w'.cell? ⟨b1, o1 + i * 6 + 1, none⟩ = some (.bool s.fin) ∧ w'.cell? ⟨b1, o1 + i * 6 + 2, none⟩ = some (.int .i64 s.limit) ∧ w'.cell? ⟨b1, o1 + i * 6 + 3, none⟩ = some (.int .i64 s.next) ∧ w'.cell? ⟨b1, o1 + i * 6 + 4, none⟩ = some (.slice A1 m1 e1) ∧ w'.cell? ⟨b1, o1 + i * 6 + 5, none⟩ = some (.slice A2 m2 e2) ∧
      w'.cell? ⟨b3, o3 + i, none⟩ = some (.string (S g)))
    (first | assumption | exact HS.out _ (b_self _) | exact HS.out _ (b_drew _) | exact HS.out _ (b_grow (And.left (by assumption)) _) | exact HS.out _ (b_grow (b_grow (b_self _) _) _) | exact HS.out _ (b_grow (b_grow (b_drew _) _) _))
    (fail)
  all_goals first
    | (obtain ⟨x5, hx5⟩ : ∃ x5, x5 = w.heap.size := ⟨_, rfl⟩
       obtain ⟨x6, hx6⟩ : ∃ x6, x6 = w.heap.size + 1 := ⟨_, rfl⟩
       obtain ⟨W0, hW0⟩ : ∃ W0 : World, W0 = ((w.alloc (.cells #[.string (S s.data), .bool s.fin, .int .i64 s.limit, .int .i64 s.next, .slice A1 m1 e1, .slice A2 m2 e2] 47)).alloc (.cells #[.int .i64 r.read, .slice A' n' c', .int .i64 r.final, .int .i64 r.limit] 52)).drew := ⟨_, rfl⟩
       rw [← hW0]
       have j0 : W0.cell? ⟨x5, 0, none⟩ = some (.string (S s.data)) := by rw [hx5, hW0]; simp
       have hb0 : Below w.heap.size w W0 := by rw [hW0]; exact (b_grow (b_grow (b_self _) _) _).drew
       have j1 : W0.cell? ⟨x5, 1, none⟩ = some (.bool s.fin) := by rw [hx5, hW0]; simp
       have j2 : W0.cell? ⟨x5, 2, none⟩ = some (.int .i64 s.limit) := by rw [hx5, hW0]; simp
       have j3 : W0.cell? ⟨x5, 3, none⟩ = some (.int .i64 s.next) := by rw [hx5, hW0]; simp
       have j4 : W0.cell? ⟨x5, 4, none⟩ = some (.slice A1 m1 e1) := by rw [hx5, hW0]; simp
       have j5 : W0.cell? ⟨x5, 5, none⟩ = some (.slice A2 m2 e2) := by rw [hx5, hW0]; simp
       have k0 : W0.cell? ⟨x6, 0, none⟩ = some (.int .i64 r.read) := by rw [hx6, hW0]; simp
       have k1 : W0.cell? ⟨x6, 1, none⟩ = some (.slice A' n' c') := by rw [hx6, hW0]; simp
       have k2 : W0.cell? ⟨x6, 2, none⟩ = some (.int .i64 r.final) := by rw [hx6, hW0]; simp
       have k3 : W0.cell? ⟨x6, 3, none⟩ = some (.int .i64 r.limit) := by rw [hx6, hW0]; simp
       have hl5 : x5 < W0.heap.size := by rw [hx5, hW0]; simp <;> omega
       have hl6 : x6 < W0.heap.size := by rw [hx6, hW0]; simp <;> omega
       simp only [← hx6]
       simp only [← hx5])
    | (obtain ⟨x5, hx5⟩ : ∃ x5, x5 = w.heap.size + 1 := ⟨_, rfl⟩
       obtain ⟨x6, hx6⟩ : ∃ x6, x6 = w.heap.size := ⟨_, rfl⟩
       obtain ⟨W0, hW0⟩ : ∃ W0 : World, W0 = ((w.alloc (.cells #[.int .i64 r.read, .slice A' n' c', .int .i64 r.final, .int .i64 r.limit] 52)).alloc (.cells #[.string (S s.data), .bool s.fin, .int .i64 s.limit, .int .i64 s.next, .slice A1 m1 e1, .slice A2 m2 e2] 47)).drew := ⟨_, rfl⟩
       rw [← hW0]
       have j0 : W0.cell? ⟨x5, 0, none⟩ = some (.string (S s.data)) := by rw [hx5, hW0]; simp
       have hb0 : Below w.heap.size w W0 := by rw [hW0]; exact (b_grow (b_grow (b_self _) _) _).drew
       have j1 : W0.cell? ⟨x5, 1, none⟩ = some (.bool s.fin) := by rw [hx5, hW0]; simp
       have j2 : W0.cell? ⟨x5, 2, none⟩ = some (.int .i64 s.limit) := by rw [hx5, hW0]; simp
       have j3 : W0.cell? ⟨x5, 3, none⟩ = some (.int .i64 s.next) := by rw [hx5, hW0]; simp
       have j4 : W0.cell? ⟨x5, 4, none⟩ = some (.slice A1 m1 e1) := by rw [hx5, hW0]; simp
       have j5 : W0.cell? ⟨x5, 5, none⟩ = some (.slice A2 m2 e2) := by rw [hx5, hW0]; simp
       have k0 : W0.cell? ⟨x6, 0, none⟩ = some (.int .i64 r.read) := by rw [hx6, hW0]; simp
       have k1 : W0.cell? ⟨x6, 1, none⟩ = some (.slice A' n' c') := by rw [hx6, hW0]; simp
       have k2 : W0.cell? ⟨x6, 2, none⟩ = some (.int .i64 r.final) := by rw [hx6, hW0]; simp
       have k3 : W0.cell? ⟨x6, 3, none⟩ = some (.int .i64 r.limit) := by rw [hx6, hW0]; simp
       have hl5 : x5 < W0.heap.size := by rw [hx5, hW0]; simp <;> omega
       have hl6 : x6 < W0.heap.size := by rw [hx6, hW0]; simp <;> omega
       simp only [← hx5]
       simp only [← hx6])
  all_goals
    have HC : Hid (∀ w', Below W0.heap.size W0 w' → w'.cell? ⟨x5, 0, none⟩ = some (.string (S s.data)) ∧ w'.cell? ⟨x5, 1, none⟩ = some (.bool s.fin) ∧ w'.cell? ⟨x5, 2, none⟩ = some (.int .i64 s.limit) ∧ w'.cell? ⟨x5, 3, none⟩ = some (.int .i64 s.next) ∧ w'.cell? ⟨x5, 4, none⟩ = some (.slice A1 m1 e1) ∧ w'.cell? ⟨x5, 5, none⟩ = some (.slice A2 m2 e2) ∧
        w'.cell? ⟨x6, 0, none⟩ = some (.int .i64 r.read) ∧ w'.cell? ⟨x6, 1, none⟩ = some (.slice A' n' c') ∧ w'.cell? ⟨x6, 2, none⟩ = some (.int .i64 r.final) ∧ w'.cell? ⟨x6, 3, none⟩ = some (.int .i64 r.limit)) := fun w' hb' =>
      ⟨(hb'.cell (p := ⟨x5, 0, none⟩) hl5).trans j0, (hb'.cell (p := ⟨x5, 1, none⟩) hl5).trans j1, (hb'.cell (p := ⟨x5, 2, none⟩) hl5).trans j2, (hb'.cell (p := ⟨x5, 3, none⟩) hl5).trans j3, (hb'.cell (p := ⟨x5, 4, none⟩) hl5).trans j4, (hb'.cell (p := ⟨x5, 5, none⟩) hl5).trans j5,
        (hb'.cell (p := ⟨x6, 0, none⟩) hl6).trans k0, (hb'.cell (p := ⟨x6, 1, none⟩) hl6).trans k1, (hb'.cell (p := ⟨x6, 2, none⟩) hl6).trans k2, (hb'.cell (p := ⟨x6, 3, none⟩) hl6).trans k3⟩
    have hpc0 := hpc.below pcCar hok hb0 (Nat.le_refl _)
    have ha0 := ha1.below rgCar hok hb0 (Nat.le_refl _)
    have hl0 := hl1.below rgCar hok hb0 (Nat.le_refl _)
    have hok0 : Sub ok (Old W0) := hok.old hb0.size
    have hp0 := hp.below hb0
    have hS0 := hs.below hok hb0
    have HB0 := Lib.hid hb0
    have hx5w : w.heap.size ≤ x5 := by omega
    have hx6w : w.heap.size ≤ x6 := by omega
    clear hW0 hx5 hx6 hb0 hpc ha1 hl1 hp hs HS
    try clear hHeld
    go_wp2_with fail
    refine (sendValid_any s A1 m1 e1 A2 m2 e2 W0 ok ha0 hl0 hok0 s1 s3 s2).mono ?_
    rintro e w1 ⟨rfl, hb1⟩
    obtain ⟨j0', j1', j2', j3', j4', j5', k0', k1', k2', k3'⟩ := HC.out w1 hb1
    have hpc1 := hpc0.below pcCar hok0 hb1 (Nat.le_refl _)
    have hok1 : Sub ok (Old w1) := hok0.old hb1.size
    cases hv1 : sdValid s with
    | false =>
      have Hno := Lib.hid (st_no1 (r := r) (g := g) hv1)
      have Hb := Lib.hid (HB0.out.trans (hb1.mono HB0.out.size))
      clear hv1 hb1
      go_wp2
      go_ret
      exact ⟨ret_bool Hno.out.symm, Hb.out⟩
    | true =>
      have Hv1 := Lib.hid hv1
      clear hv1
      go_wp2_with fail
      refine (recvValid_any r A' n' c' w1 ok hpc1 hok1 r1 r2 r3).mono ?_
      rintro e w2 ⟨rfl, hb2⟩
      have hb12 := hb1.trans (hb2.mono hb1.size)
      have Hb12 := Lib.hid (HB0.out.trans (hb12.mono HB0.out.size))
      clear j0' j1' j2' j3' j4' j5' k0' k1' k2' k3'
      obtain ⟨j0', j1', j2', j3', j4', j5', k0', k1', k2', k3'⟩ := HC.out w2 hb12
      cases hv2 : rvValid r with
      | false =>
        have Hno := Lib.hid (st_no2 (s := s) (g := g) hv2)
        clear hv2 hb1 hb2 hb12
        go_wp2
        go_ret
        exact ⟨ret_bool Hno.out.symm, Hb12.out⟩
      | true =>
        have Hv2 := Lib.hid hv2
        clear hv2
        by_cases hv3 : (g.length : Int) = r.read
        · have Hv3 := Lib.hid hv3
          have t3 : ((g.length : Int) == r.read) = true := beq_iff_eq.2 hv3
          rw [← hv3] at k0'
          clear hv3 t3
          go_wp2_with fail
          refine (hasPrefix_any s.data g w2 s1 hgl).mono ?_
          rintro e w3 ⟨rfl, rfl⟩
          cases hv4 : (s.data.take g.length == g) with
          | false =>
            have Hno := Lib.hid (st_no4 (s := s) (r := r) (g := g) hv4)
            clear hv4 hb1 hb2 hb12
            go_wp2
            go_ret
            exact ⟨ret_bool Hno.out.symm, Hb12.out⟩
          | true =>
            have Hv4 := Lib.hid hv4
            clear hv4
            by_cases hv5 : s.limit ≤ r.limit
            · have t5 : ¬ r.limit < s.limit := by omega
              go_wp2_with fail
              have hok2 : Sub ok (Old w2) := hok0.old hb12.size
              have hpc2 := hpc0.below pcCar hok0 hb12 (Nat.le_refl _)
              have hrok := (rv_iff r).1 Hv2.out
              have hpbd := pcs_bd hrok
              have hlastp : ∀ p, r.pieces.getLast? = some p → I64 p.fin := fun p hp => by
                have h1 := hpbd p (List.mem_of_getLast? hp)
                have := bl_nonneg p.data
                unfold I64 Pc.fin at *
                omega
              have hsok := (sd_iff s).1 Hv1.out
              have hlen30 : (s.data.length : Int) ≤ 30 := hsok.len
              have HSok := Lib.hid hsok
              have Hb12b := Lib.hid hb12
              have k0'' := (HC.out w2 hb12).2.2.2.2.2.2.1
              clear hsok hrok hb1 hb2 hb12 hpc1 hok1 k0'
              have hM : (if (s.data.length : Int) < s.next then (s.data.length : Int) else s.next) = min s.next (s.data.length : Int) := by split <;> omega
              by_cases hv6 : r.fin ≤ min s.next (s.data.length : Int)
              · have t6 : decide (min s.next (s.data.length : Int) < r.fin) = false := by simp only [decide_eq_false_iff_not]; exact Int.not_lt.2 hv6
                refine wp_region_calm (by kernel_rfl) (by kernel_rfl) ?_
                repeat (go_big_quiet_step ((go_at_call 66; exact calm_of (recvEnd_dec hpc2 hok2 hlastp))))
                refine wpQuiet_nil ?_
                intro _ hw'
                obtain ⟨nq, hw''⟩ := hw'
                subst hw''
                have hb3 : Below W0.heap.size W0 (grew w2 nq) := Hb12b.out.trans ((grew_below w2 nq).mono Hb12b.out.size)
                generalize grew w2 nq = w3 at hb3 ⊢
                clear j0' j1' j2' j3' j4' j5' k0'' k1' k2' k3' hpc2 hok2 j0 j1 j2 j3 j4 j5 k0 k1 k2 k3
                obtain ⟨j0, j1, j2, j3, j4, j5, k0, k1, k2, k3⟩ := HC.out w3 hb3
                have hs3 := hb3.size
                have hl5' : x5 < w3.heap.size := by omega
                have hl6' : x6 < w3.heap.size := by omega
                have hok3 : Sub ok (Old w3) := hok0.old hs3
                have hpc3 := hpc0.below pcCar hok0 hb3 (Nat.le_refl _)
                have ha3 := ha0.below rgCar hok0 hb3 (Nat.le_refl _)
                have hp3 := hp0.below hb3
                have hS3 := hS0.below hok0 hb3
                have Hb3 := Lib.hid (HB0.out.trans (hb3.mono HB0.out.size))
                have Hrest := Lib.hid (st_rest Hv1.out Hv2.out Hv3.out Hv4.out hv5 hv6)
                have hpcap := hpc3.cap
                have hplen := Lib.hid hpc3.len
                have Hfin := Lib.hid (rv_fin_all ((rv_iff r).1 Hv2.out).read.2 ((rv_iff r).1 Hv2.out).pcs (min s.next (s.data.length : Int)))
                have Hv6 := Lib.hid hv6
                clear hpc0 ha0 hl0 hp0 hS0 hb3 hok0 t6 hv6 hM
                go_wp2_with fail
                go_loopg [73] n' (fun m v wr => ∃ k : Nat, k + m = n' ∧ v = .int .i64 k ∧ Below w3.heap.size w3 wr ∧ Hid (∀ p ∈ r.pieces.take k, ((s.data.drop p.off.toNat).take p.data.length == p.data) = true))
                case atStart => exact ⟨0, by omega, rfl, Below.refl _ _, by simp [Hid]⟩
                case round =>
                  obtain ⟨k, hk, rfl, hbr, HT⟩ := hrel
                  have hsz := hbr.size
                  by_cases hlt : k < n'
                  · obtain ⟨b7, o7, p, rfl, hb7, hpk, y1, y2, c0, c1⟩ := pc_at (hpc3.below pcCar hok3 hbr (Nat.le_refl _)) hlt
                    have hpm := List.mem_of_getElem? hpk
                    have hpb := hpbd p hpm
                    have hpf := (Hfin.out.1 Hv6.out).2 p hpm
                    have hpe : p.fin = p.off + (p.data.length : Int) := rfl
                    have hI : I64 p.fin := by unfold I64; omega
                    have hfl : p.fin ≤ (s.data.length : Int) := by omega
                    have hof : p.off ≤ p.fin := by omega
                    have hb8 := hbr.alloc hsz (.cells #[.int .i64 p.off, .string (S p.data)] 104)
                    have m0 := (hb8.cell (p := ⟨x5, 0, none⟩) hl5').trans j0
                    have hex : (S s.data).extract p.off.toNat p.fin.toNat = S ((s.data.drop p.off.toNat).take p.data.length) := by
                      rw [S_extract]
                      congr 2
                      omega
                    have krs := fun W => run_slice_string (P := Try.prog) W 9 (S s.data) .i64 .i64 p.off p.fin Try.underlying9 hpb.1 hof (by rw [S_size]; exact hfl)
                    rw [hex] at krs
                    have q1' : (0 : Int) ≤ (k : Int) := by omega
                    have q2' : (k : Int) < (n' : Int) := by omega
                    have Hpk := Lib.hid hpk
                    have Hb8 := Lib.hid hb8
                    clear hpk hpe hpf hex hpm hbr hb8
                    cases hq : ((s.data.drop p.off.toNat).take p.data.length == p.data) with
                    | true =>
                      have HT' : Hid (∀ q ∈ r.pieces.take (k + 1), ((s.data.drop q.off.toNat).take q.data.length == q.data) = true) := by
                        intro q hq'
                        rw [List.take_add_one, Hpk.out, List.mem_append] at hq'
                        rcases hq' with hq' | hq'
                        · exact HT.out q hq'
                        · simp at hq'; subst hq'; exact hq
                      go_wp2_with fail
                      refine wp_region_calm (by kernel_rfl) (by kernel_rfl) ?_
                      repeat (go_big_quiet_step ((go_at_call 67; exact calm_of (pieceEnd_any p _ y2 y1 hI))))
                      refine wpQuiet_nil ?_
                      intro _ hw'
                      obtain ⟨nr, hw''⟩ := hw'
                      subst hw''
                      have Hb := Lib.hid (b_then Hb8.out (grew_below _ nr))
                      clear HT
                      go_wp2
                      go_roundg (n' - (k + 1))
                      case measure => omega
                      case rel => exact ⟨k + 1, by omega, by go_num, Hb.out, HT'⟩
                    | false =>
                      have Hno : Hid (streamOk s r g = false) := by
                        unfold Hid
                        rw [Hrest.out, Bool.and_eq_false_iff]
                        left
                        exact List.all_eq_false.2 ⟨p, List.mem_of_getElem? Hpk.out, by rw [hq]; simp⟩
                      go_wp2_with fail
                      refine wp_region_calm (by kernel_rfl) (by kernel_rfl) ?_
                      repeat (go_big_quiet_step ((go_at_call 67; exact calm_of (pieceEnd_any p _ y2 y1 hI))))
                      refine wpQuiet_nil ?_
                      intro _ hw'
                      obtain ⟨nr, hw''⟩ := hw'
                      subst hw''
                      have Hb := Lib.hid (Hb3.out.trans ((b_then Hb8.out (grew_below _ nr)).mono Hb3.out.size))
                      clear HT
                      go_wp2
                      go_ret
                      exact ⟨ret_bool Hno.out.symm, Hb.out⟩
                  · obtain rfl : k = n' := by omega
                    have hall : (r.pieces.all fun p => (s.data.drop p.off.toNat).take p.data.length == p.data) = true := by
                      rw [List.all_eq_true]
                      intro p hp
                      exact HT.out p (by rw [List.take_of_length_le (by rw [hplen.out]; omega)]; exact hp)
                    have Hval := Lib.hid (show streamOk s r g = stTail s r by rw [Hrest.out, hall, Bool.true_and])
                    have m0 := (hbr.cell (p := ⟨x5, 0, none⟩) hl5').trans j0
                    have m1 := (hbr.cell (p := ⟨x5, 1, none⟩) hl5').trans j1
                    have m3 := (hbr.cell (p := ⟨x5, 3, none⟩) hl5').trans j3
                    have m4 := (hbr.cell (p := ⟨x5, 4, none⟩) hl5').trans j4
                    have u2 := (hbr.cell (p := ⟨x6, 2, none⟩) hl6').trans k2
                    have ha4 := ha3.below rgCar hok3 hbr (Nat.le_refl _)
                    have hp4 := hp3.below hbr
                    have hS4 := hS3.below hok3 hbr
                    have hok4 : Sub ok (Old wr) := hok3.old hsz
                    have hl5r : x5 < wr.heap.size := by omega
                    have hl6r : x6 < wr.heap.size := by omega
                    have Hb4 := Lib.hid (Hb3.out.trans (hbr.mono Hb3.out.size))
                    obtain ⟨N, hN⟩ : ∃ N : Nat, s.next = (N : Int) := ⟨s.next.toNat, by have := HSok.out.nxt; omega⟩
                    have hNb : N ≤ 31 := by have := HSok.out.nxt; have := many_le HSok.out.len; omega
                    have HN := Lib.hid hN
                    have m3' := m3
                    rw [hN] at m3'
                    have hX0 := fun (y : Int) (hy : 0 ≤ y ∧ y ≤ 1000) (w' : World) (a : AtP w' bw h W.now) (b : StR w' ok h W) (c : Sub ok (Old w')) => received_any h W bw i y w' ok a b c hi (by rw [hrv]; exact hpbd) hy
                    rw [hsd, hrv] at hX0
                    have HX := Lib.hid hX0
                    clear hX0 hrv hsd hgg
                    clear hN m3 hall HT hbr ha3 hp3 hS3 hok3 j0 j1 j2 j3 j4 j5 k0 k1 k2 k3
                    generalize wr = w4 at m0 m1 m3' m4 u2 ha4 hp4 hS4 hok4 hl5r hl6r Hb4 ⊢
                    go_wp2_with fail
                    go_loopg [90] N (fun m v wr => ∃ k : Nat, k + m = N ∧ v = .int .i64 k ∧ Below w4.heap.size w4 wr ∧ Hid (∀ j : Nat, j < k → (!hasR s.acked j || gotIt s r j) = true))
                    case atStart => exact ⟨0, by omega, rfl, Below.refl _ _, fun j hj => by omega⟩
                    case round =>
                      obtain ⟨k, hk, rfl, hbr, HT⟩ := hrel
                      have hsz := hbr.size
                      have Hbr := Lib.hid hbr
                      by_cases hlt : k < N
                      · have v4 := (hbr.cell (p := ⟨x5, 4, none⟩) hl5r).trans m4
                        have ha5 := ha4.below rgCar hok4 hbr (Nat.le_refl _)
                        have hok5 : Sub ok (Old wr) := hok4.old hsz
                        have hp5 := hp4.below hbr
                        have hS5 := hS4.below hok4 hbr
                        clear hbr
                        go_wp2_with fail
                        refine (has_any A1 _ e1 s.acked k wr ok ha5 hok5).mono ?_
                        rintro e w5 ⟨rfl, hb5⟩
                        have Hb5 := Lib.hid (Hbr.out.trans (hb5.mono hsz))
                        cases hva : hasR s.acked (k : Int) with
                        | false =>
                          have HT' : Hid (∀ j : Nat, j < k + 1 → (!hasR s.acked j || gotIt s r j) = true) := fun j hj => by
                            by_cases hjk : j < k
                            · exact HT.out j hjk
                            · obtain rfl : j = k := by omega
                              rw [hva]; rfl
                          clear hva HT hb5
                          go_wp2
                          go_roundg (N - (k + 1))
                          case measure => omega
                          case rel => exact ⟨k + 1, by omega, by go_num, Hb5.out, HT'⟩
                        | true =>
                          have Hva := Lib.hid hva
                          have HXk := Lib.hid (HX.out (k : Int) (by omega) w5 (hp5.below hb5) (hS5.below hok5 hb5) (hok5.old hb5.size))
                          have hs5 := hb5.size
                          clear hva hb5
                          go_wp2_with fail
                          refine HXk.out.mono ?_
                          rintro e w6 ⟨rfl, hb6⟩
                          have Hb6 := Lib.hid (Hb5.out.trans (hb6.mono (by omega)))
                          cases hvg : gotIt s r (k : Int) with
                          | true =>
                            have HT' : Hid (∀ j : Nat, j < k + 1 → (!hasR s.acked j || gotIt s r j) = true) := fun j hj => by
                              by_cases hjk : j < k
                              · exact HT.out j hjk
                              · obtain rfl : j = k := by omega
                                rw [hvg, Bool.or_true]
                            clear hvg HT hb6
                            go_wp2
                            go_roundg (N - (k + 1))
                            case measure => omega
                            case rel => exact ⟨k + 1, by omega, by go_num, Hb6.out, HT'⟩
                          | false =>
                            have Hno : Hid (streamOk s r g = false) := by
                              unfold Hid
                              rw [Hval.out, stTail, Bool.and_eq_false_iff]
                              left
                              refine List.all_eq_false.2 ⟨k, List.mem_range.2 (by have := HN.out; omega), ?_⟩
                              rw [Hva.out, hvg]; simp
                            have Hb := Lib.hid (Hb4.out.trans (Hb6.out.mono (by have := Hb4.out.size; omega)))
                            clear hvg HT hb6
                            go_wp2
                            go_ret
                            exact ⟨ret_bool Hno.out.symm, Hb.out⟩
                      · obtain rfl : k = N := by omega
                        have Hend : Hid (streamOk s r g = (decide (r.final = -1) || (s.fin && (decide (r.final = (s.data.length : Int)) && decide ((k : Int) = (s.data.length : Int) + 1))))) := by
                          unfold Hid
                          rw [Hval.out, stTail]
                          have : ((List.range s.next.toNat).all fun i => !hasR s.acked i || gotIt s r i) = true := by
                            rw [List.all_eq_true]
                            intro j hj
                            rw [List.mem_range] at hj
                            exact HT.out j (by have := HN.out; omega)
                          rw [this, Bool.true_and, HN.out]
                          rfl
                        have Hb := Lib.hid (Hb4.out.trans (hbr.mono (by have := Hb4.out.size; omega)))
                        have z0 := (hbr.cell (p := ⟨x5, 0, none⟩) hl5r).trans m0
                        have z1 := (hbr.cell (p := ⟨x5, 1, none⟩) hl5r).trans m1
                        have z3 := (hbr.cell (p := ⟨x5, 3, none⟩) hl5r).trans m3'
                        have z2 := (hbr.cell (p := ⟨x6, 2, none⟩) hl6r).trans u2
                        clear HT hbr ha4 hp4 hS4 m0 m1 m3' u2
                        by_cases y1 : r.final = -1
                        · have Hv : Hid (streamOk s r g = true) := by unfold Hid; rw [Hend.out, decide_eq_true y1]; rfl
                          rw [y1] at z2
                          clear y1
                          go_wp2
                          go_ret
                          exact ⟨ret_bool Hv.out.symm, Hb.out⟩
                        · have y1' : (r.final == -1) = false := beq_eq_false_iff_ne.2 y1
                          cases hfi : s.fin with
                          | false =>
                            have Hv : Hid (streamOk s r g = false) := by unfold Hid; rw [Hend.out, decide_eq_false y1, hfi]; rfl
                            rw [hfi] at z1
                            clear hfi
                            go_wp2
                            go_ret
                            exact ⟨ret_bool Hv.out.symm, Hb.out⟩
                          | true =>
                            have Hfi := Lib.hid hfi
                            rw [hfi] at z1
                            clear hfi
                            by_cases y2 : r.final = (s.data.length : Int)
                            · by_cases y3 : (k : Int) = (s.data.length : Int) + 1
                              · have Hv : Hid (streamOk s r g = true) := by unfold Hid; rw [Hend.out, decide_eq_false y1, Hfi.out, decide_eq_true y2, decide_eq_true y3]; rfl
                                have y2' : (r.final == (s.data.length : Int)) = true := beq_iff_eq.2 y2
                                have y3' : ((k : Int) == (s.data.length : Int) + 1) = true := beq_iff_eq.2 y3
                                clear y2 y3
                                go_wp2
                                all_goals
                                  go_ret
                                  exact ⟨ret_bool (by rw [Hv.out]), Hb.out⟩
                              · have Hv : Hid (streamOk s r g = false) := by unfold Hid; rw [Hend.out, decide_eq_false y1, Hfi.out, decide_eq_true y2, decide_eq_false y3]; rfl
                                have y2' : (r.final == (s.data.length : Int)) = true := beq_iff_eq.2 y2
                                have y3' : ((k : Int) == (s.data.length : Int) + 1) = false := beq_eq_false_iff_ne.2 y3
                                clear y2 y3
                                go_wp2
                                all_goals
                                  go_ret
                                  exact ⟨ret_bool (by rw [Hv.out]), Hb.out⟩
                            · have Hv : Hid (streamOk s r g = false) := by unfold Hid; rw [Hend.out, decide_eq_false y1, Hfi.out, decide_eq_false y2]; rfl
                              have y2' : (r.final == (s.data.length : Int)) = false := beq_eq_false_iff_ne.2 y2
                              clear y2
                              go_wp2
                              all_goals
                                go_ret
                                exact ⟨ret_bool (by rw [Hv.out]), Hb.out⟩
              · have t6 : min s.next (s.data.length : Int) < r.fin := Int.not_le.1 hv6
                have Hno := Lib.hid (st_no6 (g := g) t6)
                refine wp_region_calm (by kernel_rfl) (by kernel_rfl) ?_
                repeat (go_big_quiet_step ((go_at_call 66; exact calm_of (recvEnd_dec hpc2 hok2 hlastp))))
                refine wpQuiet_nil ?_
                intro _ hw'
                obtain ⟨nq, hw''⟩ := hw'
                subst hw''
                have Hb := Lib.hid (b_then Hb12.out (grew_below w2 nq))
                go_wp2
                all_goals
                  go_ret
                  exact ⟨ret_bool Hno.out.symm, Hb.out⟩
            · have t5 : r.limit < s.limit := by omega
              have Hno := Lib.hid (st_no5 (s := s) (r := r) (g := g) t5)
              clear hb1 hb2 hb12
              go_wp2
              go_ret
              exact ⟨ret_bool Hno.out.symm, Hb12.out⟩
        · have Hno := Lib.hid (st_no3 (s := s) (r := r) (g := g) hv3)
          have t3 : ((g.length : Int) == r.read) = false := beq_eq_false_iff_ne.2 hv3
          clear hb1 hb2 hb12
          go_wp2
          go_ret
          exact ⟨ret_bool Hno.out.symm, Hb12.out⟩
end Go.Proofs.Ytjpaoadbgmmoeaa
