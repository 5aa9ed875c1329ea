/- The contract of the program's ackValid. Condition: the pointer leads to a run that reads as plain data. -/
import Derived.Test.YtjpaoadbgmmoeaaWB12
import Derived.Test.YtjpaoadbgmmoeaaWB7
import Derived.Test.YtjpaoadbgmmoeaaWB8
namespace Go.Proofs.Ytjpaoadbgmmoeaa
open Go.RowKit

theorem ls_at {w : World} {ok : Nat → Prop} {A : Option Addr} {n c : Nat} {l : List Ls} (h : SliceR LsR 3 w ok A n c l) {k : Nat} (hk : k < n) : ∃ b o x A' n' c', A = some ⟨b, o, none⟩ ∧ ok b ∧ l[k]? = some x ∧ (I64 x.next ∧ I64 x.largest) ∧ SliceR PkR 3 w ok A' n' c' x.flight ∧
    w.cell? ⟨b, o + k * 3, none⟩ = some (.int .i64 x.next) ∧ w.cell? ⟨b, o + k * 3 + 1, none⟩ = some (.slice A' n' c') ∧ w.cell? ⟨b, o + k * 3 + 2, none⟩ = some (.int .i64 x.largest) := by
  obtain ⟨b, o, cs, x, e, hb, hx, _, ⟨A', n', c', rfl, h1, h2, h3⟩, hc⟩ := h.at_ hk
  exact ⟨b, o, x, A', n', c', e, hb, hx, ⟨h1, h2⟩, h3, by have := hc 0 _ rfl; rwa [Nat.add_zero] at this, hc 1 _ rfl, hc 2 _ rfl⟩
/-- What the checks on packets ask of the parts in flight. -/
def CarBd (W : Wd) : Prop := (∀ i : Nat, i < 3 → PcsBd (W.rv i).pieces) ∧ ∀ c ∈ W.carried, (0 ≤ c.stream ∧ c.stream ≤ 2) ∧ (0 ≤ c.part.off ∧ c.part.off ≤ 30) ∧ c.part.last ≤ 100
set_option maxRecDepth 10000 in
set_option maxHeartbeats 2000000 in
theorem ackValid_any (h : Hd) (W : Wd) (bw : Nat) (f : Fm) (A : Option Addr) (n c : Nat) (w : World) (ok : Nat → Prop) (hp : AtP w bw h W.now) (hs : StR w ok h W) (hpa : SliceR LsR 3 w ok h.A4 h.n4 h.c4 W.paths) (hn4 : h.n4 = 4) (hc : SliceR CdR 6 w ok h.A8 h.n8 h.c8 W.carried) (hok : Sub ok (Old w)) (hcb : CarBd W)
    (hf : RgS w ok A n c f.ranges) (hn : 0 < n) (hr : rgOk (-2) f.ranges) (ha : 0 ≤ f.a ∧ f.a ≤ 3) :
    Calls Try.prog 80 #[.pointer (some ⟨bw, 0, none⟩), f.agg A n c] w fun e w' => e = .returned (.bool (ackOk W f)) ∧ Below w.heap.size w w' := by
  obtain ⟨P, hP⟩ : ∃ P : Nat, f.a = (P : Int) := ⟨f.a.toNat, by omega⟩
  obtain ⟨b4, o4, x, A', n', c', hA4, hb4, hx, ⟨x1, x2⟩, _, c0, c1, c2⟩ := ls_at hpa (k := P) (by rw [hn4]; omega)
  have hls : W.ls f.a = x := by rw [hP]; exact getD_of? hx
  obtain ⟨b, o, y, rfl, hbo, hlast, y1, y2, cy⟩ := rg_last hf hn
  have htop : topB f.ranges x.next = decide (y.hi < x.next) := by unfold topB; rw [hlast]
  have hcap := hf.cap
  have p4 := hp.2 4 _ rfl
  rw [hA4, hn4] at p4
  have p8 := hp.2 8 _ rfl
  have hval : Hid (ackOk W f = (decide (y.hi < x.next) && W.carried.all fun c => !(decide (c.path = f.a) && hasR f.ranges c.num) || gotPart (W.sd c.stream) (W.rv c.stream) c.part)) := by
    unfold Hid ackOk
    rw [hls, htop]
  unfold I64 at y2 x1
  obtain ⟨W0, hW0⟩ : ∃ W0 : World, W0 = w.alloc (.cells #[.int .i64 f.kind, .int .i64 f.a, .int .i64 f.b, .int .i64 f.c, .string (S f.data), .slice (some ⟨b, o, none⟩) n c] 79) := ⟨_, rfl⟩
  have hb0 : Below w.heap.size w W0 := by rw [hW0]; exact b_alloc _ _
  have hs0 : w.heap.size < W0.heap.size := by rw [hW0]; simp
  have d1 : W0.cell? ⟨w.heap.size, 1, none⟩ = some (.int .i64 (P : Int)) := by rw [hW0, hP]; simp
  have d5 : W0.cell? ⟨w.heap.size, 5, none⟩ = some (.slice (some ⟨b, o, none⟩) n c) := by rw [hW0]; simp
  have p4' := (hb0.cell (p := ⟨bw, 4, none⟩) hp.1).trans p4
  have p8' := (hb0.cell (p := ⟨bw, 8, none⟩) hp.1).trans p8
  have hob4 : b4 < w.heap.size := hok b4 hb4
  have hob : b < w.heap.size := hok b hbo
  have c0' := (hb0.cell (p := ⟨b4, o4 + P * 3, none⟩) hob4).trans c0
  have cy' := (hb0.cell (p := ⟨b, o + (n - 1) * 2 + 1, none⟩) hob).trans cy
  have q1 : (0 : Int) ≤ (P : Int) := by omega
  have q2 : (P : Int) < 4 := by omega
  have q3 : (0 : Int) ≤ (n : Int) - 1 := by omega
  have q4 : (n : Int) - 1 < (n : Int) := by omega
  have q5 : ((n : Int) - 1).toNat = n - 1 := by omega
  have q7 : IntKind.i64.wrap ((n : Int) - 1) = (n : Int) - 1 := IntWalk.i64_in _ (by omega)
  have hs1 := hs.below hok hb0
  have hc1 := hc.below cdCar hok hb0 (Nat.le_refl _)
  have hf1 := hf.below rgCar hok hb0 (Nat.le_refl _)
  have hok1 : Sub ok (Old W0) := hok.old hb0.size
  have hp1 := hp.below hb0
  have HB0 := Lib.hid hb0
  have HP := Lib.hid hP
  unfold Fm.agg
  by_cases hy : y.hi < x.next
  · have t1 : ¬ x.next ≤ y.hi := by omega
    have t2 : decide (x.next ≤ y.hi) = false := decide_eq_false t1
    clear t1 hls htop hlast hx hA4 hs hc hf hpa hp c0 c1 c2 cy p4 p8 hb0 hP
    go_enter Try.func80, Try.ntmps80
    go_wp2_with fail
    rw [← hW0]
    clear hW0
    refine wp_region_calm (by kernel_rfl) (by kernel_rfl) ?_
    repeat (go_big_quiet_step (fail))
    refine wpQuiet_nil ?_
    intro _ hw'
    obtain ⟨nq, hw''⟩ := hw'
    subst hw''
    have hb1 := grew_below W0 nq
    generalize grew W0 nq = W1 at hb1 ⊢
    have e1 := (hb1.cell (p := ⟨w.heap.size, 1, none⟩) hs0).trans d1
    have e5 := (hb1.cell (p := ⟨w.heap.size, 5, none⟩) hs0).trans d5
    have e8 := (hp1.below hb1).2 8 _ rfl
    have hp2 := hp1.below hb1
    have hs2 := hs1.below hok1 hb1
    have hc2 := hc1.below cdCar hok1 hb1 (Nat.le_refl _)
    have hf2 := hf1.below rgCar hok1 hb1 (Nat.le_refl _)
    have hok2 : Sub ok (Old W1) := hok1.old hb1.size
    have hs02 : w.heap.size < W1.heap.size := by have := hb1.size; omega
    have HB1 := Lib.hid (HB0.out.trans (hb1.mono HB0.out.size))
    have Hval := Lib.hid (show ackOk W f = W.carried.all fun c => !(decide (c.path = (P : Int)) && hasR f.ranges c.num) || gotPart (W.sd c.stream) (W.rv c.stream) c.part by rw [hval.out, decide_eq_true hy, Bool.true_and, HP.out])
    obtain ⟨A8, N8, C8, hE8⟩ : ∃ A N C, Value.slice A N C = Value.slice h.A8 h.n8 h.c8 ∧ SliceR CdR 6 W1 ok A N C W.carried := ⟨_, _, _, rfl, hc2⟩
    rw [← hE8.1] at e8
    have hc3 := hE8.2
    clear hE8 hc2
    have hlen := Lib.hid hc3.len
    have hcap8 := hc3.cap
    clear hb1 d1 d5 hs1 hc1 hf1 hp1 hok1 p4' p8' c0' cy' hval t2
    go_wp2_with fail
    go_loopg [31] N8 (fun m v wr => ∃ k : Nat, k + m = N8 ∧ v = .int .i64 k ∧ Below W1.heap.size W1 wr ∧ Hid (∀ c ∈ W.carried.take k, (!(decide (c.path = (P : Int)) && hasR f.ranges c.num) || gotPart (W.sd c.stream) (W.rv c.stream) c.part) = true))
    case atStart => exact ⟨0, by omega, rfl, Below.refl _ _, by simp [Hid]⟩
    case round =>
      obtain ⟨k, hk, rfl, hbr, HT⟩ := hrel
      have hsz := hbr.size
      by_cases hlt : k < N8
      · obtain ⟨b8, o8, cd, rfl, hb8, hcd, ⟨z1, z2, z3, z4⟩, g0, g1, g2, g3, g4, g5⟩ := cd_at (hc3.below cdCar hok2 hbr (Nat.le_refl _)) hlt
        have hcm := List.mem_of_getElem? hcd
        obtain ⟨⟨st1, st2⟩, so, sl⟩ := hcb.2 cd hcm
        obtain ⟨i, hi⟩ : ∃ i : Nat, cd.stream = (i : Int) := ⟨cd.stream.toNat, by omega⟩
        have hi3 : i < 3 := by omega
        have Hi := Lib.hid hi
        clear hi
        have hbx := hbr.alloc hsz (.cells #[.int .i64 cd.path, .int .i64 cd.num, .int .i64 cd.stream, .int .i64 cd.part.off, .string (S cd.part.data), .bool cd.part.fin] 73)
        have f1 := (hbx.cell (p := ⟨w.heap.size, 1, none⟩) hs02).trans e1
        have f5 := (hbx.cell (p := ⟨w.heap.size, 5, none⟩) hs02).trans e5
        have e8' := (hbr.cell (p := ⟨bw, 8, none⟩) hp2.1).trans e8
        have hnext : ∀ b : Bool, (!(decide (cd.path = (P : Int)) && hasR f.ranges cd.num) || gotPart (W.sd cd.stream) (W.rv cd.stream) cd.part) = b → b = true → Hid (∀ c ∈ W.carried.take (k + 1), (!(decide (c.path = (P : Int)) && hasR f.ranges c.num) || gotPart (W.sd c.stream) (W.rv c.stream) c.part) = true) := fun b hb hbt c hc => by
          rw [List.take_add_one, hcd, List.mem_append] at hc
          rcases hc with hc | hc
          · exact HT.out c hc
          · simp at hc; subst hc; rw [hb, hbt]
        have HNX := Lib.hid hnext
        have Hcm := Lib.hid hcm
        have Hbx := Lib.hid hbx
        have q1' : (0 : Int) ≤ (k : Int) := by omega
        have q2' : (k : Int) < (N8 : Int) := by omega
        clear hnext hcd hcm
        by_cases hpe : cd.path = (P : Int)
        · have t1 : (cd.path == (P : Int)) = true := beq_iff_eq.2 hpe
          have Hpe := Lib.hid hpe
          have hf3 := hf2.below rgCar hok2 (hbx.mono (Nat.le_refl _)) (Nat.le_refl _)
          have HH := Lib.hid (has_any (some ⟨b, o, none⟩) n c f.ranges cd.num (wr.alloc (.cells #[.int .i64 cd.path, .int .i64 cd.num, .int .i64 cd.stream, .int .i64 cd.part.off, .string (S cd.part.data), .bool cd.part.fin] 73)) ok hf3 (hok2.old hbx.size))
          clear hpe hbr
          go_wp2_with fail
          refine HH.out.mono ?_
          rintro e w5 ⟨rfl, hb5⟩
          have Hb5 := Lib.hid (Hbx.out.trans (hb5.mono Hbx.out.size))
          cases hha : hasR f.ranges cd.num with
          | false =>
            have Hn := HNX.out _ (by rw [hha, Bool.and_false]; rfl) rfl
            clear hha hb5 HT HNX
            go_wp2
            go_roundg (N8 - (k + 1))
            case measure => omega
            case rel => exact ⟨k + 1, by omega, by go_num, Hb5.out, Hn⟩
          | true =>
            have Hha := Lib.hid hha
            have hx8 : wr.heap.size < (wr.alloc (.cells #[.int .i64 cd.path, .int .i64 cd.num, .int .i64 cd.stream, .int .i64 cd.part.off, .string (S cd.part.data), .bool cd.part.fin] 73)).heap.size := by simp
            have r2 := (hb5.cell (p := ⟨wr.heap.size, 2, none⟩) hx8).trans (show _ = some (.int .i64 cd.stream) by simp)
            have r3 := (hb5.cell (p := ⟨wr.heap.size, 3, none⟩) hx8).trans (show _ = some (.int .i64 cd.part.off) by simp)
            have r4 := (hb5.cell (p := ⟨wr.heap.size, 4, none⟩) hx8).trans (show _ = some (.string (S cd.part.data)) by simp)
            have r5 := (hb5.cell (p := ⟨wr.heap.size, 5, none⟩) hx8).trans (show _ = some (.bool cd.part.fin) by simp)
            rw [Hi.out] at r2
            have HR := receivedPart_any h W bw i cd.part w5 ok (hp2.below Hb5.out) (hs2.below hok2 Hb5.out) (hok2.old Hb5.out.size) hi3 (hcb.1 i hi3) so sl z4.2
            rw [← Hi.out] at HR
            unfold Pt.agg at HR
            have HR' := Lib.hid HR
            rw [Hi.out] at HR'
            have hs5 := Hb5.out.size
            clear hha hb5 HR g0 g1 g2 g3 g4 g5
            go_wp2_with fail
            refine HR'.out.mono ?_
            rintro e w6 ⟨rfl, hb6⟩
            have Hb6 := Lib.hid (Hb5.out.trans (hb6.mono hs5))
            cases hg : gotPart (W.sd (i : Int)) (W.rv (i : Int)) cd.part with
            | true =>
              have Hn := HNX.out _ (by rw [Hi.out, hg, Bool.or_true]) rfl
              clear hg hb6 HT HNX
              go_wp2
              go_roundg (N8 - (k + 1))
              case measure => omega
              case rel => exact ⟨k + 1, by omega, by go_num, Hb6.out, Hn⟩
            | false =>
              have Hno : Hid (ackOk W f = false) := by
                unfold Hid
                rw [Hval.out]
                refine List.all_eq_false.2 ⟨cd, Hcm.out, ?_⟩
                rw [decide_eq_true Hpe.out, Hha.out, Hi.out, hg]; simp
              have Hb := Lib.hid (HB1.out.trans (Hb6.out.mono HB1.out.size))
              clear hg hb6 HT HNX
              go_wp2
              go_ret
              exact ⟨ret_bool Hno.out.symm, Hb.out⟩
        · have t1 : (cd.path == (P : Int)) = false := beq_eq_false_iff_ne.2 hpe
          have Hn := HNX.out _ (by rw [decide_eq_false hpe]; rfl) rfl
          clear hpe hbr HT HNX hbx
          go_wp2
          go_roundg (N8 - (k + 1))
          case measure => omega
          case rel => exact ⟨k + 1, by omega, by go_num, Hbx.out, Hn⟩
      · obtain rfl : k = N8 := by omega
        have Hyes : Hid (ackOk W f = true) := by
          unfold Hid
          rw [Hval.out, List.all_eq_true]
          intro c hc
          exact HT.out c (by rw [List.take_of_length_le (by rw [hlen.out]; omega)]; exact hc)
        have Hb := Lib.hid (HB1.out.trans (hbr.mono HB1.out.size))
        clear HT hbr
        go_wp2
        go_ret
        exact ⟨ret_bool Hyes.out.symm, Hb.out⟩
  · have t1 : x.next ≤ y.hi := by omega
    have Hno : Hid (ackOk W f = false) := by unfold Hid; rw [hval.out, decide_eq_false hy]; rfl
    clear hls htop hlast hx hA4 hs hc hf hpa hp c0 c1 c2 cy p4 p8 hb0 hP
    go_enter Try.func80, Try.ntmps80
    go_wp2_with fail
    rw [← hW0]
    clear hW0
    refine wp_region_calm (by kernel_rfl) (by kernel_rfl) ?_
    repeat (go_big_quiet_step (fail))
    refine wpQuiet_nil ?_
    intro _ hw'
    obtain ⟨nq, hw''⟩ := hw'
    subst hw''
    have Hb := Lib.hid (HB0.out.trans ((grew_below W0 nq).mono HB0.out.size))
    go_wp2
    go_ret
    exact ⟨ret_bool Hno.out.symm, Hb.out⟩
end Go.Proofs.Ytjpaoadbgmmoeaa
