/- Parts of the proof, joined from several texts. No condition. -/
import Derived.Test.YtjbhiglaginpeaaGreatQ45
import Derived.Test.YtjbhiglaginpeaaGreatQ10
import Derived.Test.YtjbhiglaginpeaaGreatQ25
import Derived.Test.YtjbhiglaginpeaaGreatQ39
set_option maxRecDepth 100000
set_option maxHeartbeats 16000000
set_option linter.unusedVariables false
set_option linter.unusedSimpArgs false
namespace Go.Proofs.YtjbhiglaginpeaaGreat
open Go.RowKit
theorem vmSendYes (W : Wd) (hW0 : WdOK W) (i size : Int) (p : Nat) (hp : p < 4) (g1 : 0 ≤ i ∧ i ≤ 2) (hI : FnP Tryz.prog 50 [aI i] (aB true)) (hJ : FnP Tryz.prog 99 [aI (p : Nat)] (aB true)) (hw : ¬ (W.windows.getD p default).size ≤ ((W.paths.getD p default).flight.length : Int)) {s : Sd} {off c n : Int} {dat : Bs} {fin : Bool} {l : Ls} (hfc : (fin = false ∧ c = 0) ∨ (fin = true ∧ c = 1)) (hN : FnP Tryz.prog 102 [.ag (av (eSd (W.sends.getD i.toNat default))), aI size] (.tu [.ag (av (eSd s)), .ag (av [dI off, dS dat, dB fin]), aB true])) (hE : FnP Tryz.prog 104 [.ag (av [dI 3, dI i, dI off, dI c, dS dat, dL 2 eRg []])] (.d (dS (encP ⟨3, i, off, c, dat, []⟩)))) (hS3 : FnP Tryz.prog 103 [.ag (av (eLs (W.paths.getD p default))), aI W.now, aI ((encP ⟨3, i, off, c, dat, []⟩).length : Nat)] (sndR (W.paths.getD p default) (some (l, n)))) {N : List Wi} (hF : ∀ j, (∀ m, m < j → (W.carried.getD m default).path ≤ (p : Int)) → (W.carried.length ≤ j ∨ ¬ (W.carried.getD j default).path ≤ (p : Int)) → j ≤ W.carried.length → post { W with sends := W.sends.set i.toNat s, paths := W.paths.set p l, carried := W.carried.take j ++ (⟨p, n, i, ⟨off, dat, fin⟩⟩ : Cd) :: W.carried.drop j } ⟨p, n, ⟨3, i, off, c, dat, []⟩, true⟩ = { W with sends := W.sends.set i.toNat s, paths := W.paths.set p l, carried := W.carried.take j ++ (⟨p, n, i, ⟨off, dat, fin⟩⟩ : Cd) :: W.carried.drop j, net := N }) :
 ∃ j, (∀ m, m < j → (W.carried.getD m default).path ≤ (p : Int)) ∧ (W.carried.length ≤ j ∨ ¬ (W.carried.getD j default).path ≤ (p : Int)) ∧ j ≤ W.carried.length ∧ FnH Tryz.prog 49 [910] [.ptr 910 0, aI i, aI p, aI size] [(910, hW W), (901, hL 42 6 eSd W.sends), (902, hL 45 4 eRv W.recvs), (903, hL 9 1 eBs W.got), (904, hL 75 3 eLs W.paths), (905, hL 77 4 eRt W.rtts), (907, hS W.seen), (908, hL 82 6 eCd W.carried), (909, hL 106 9 eWi W.net)] (.tu []) [(910, hW ({ W with sends := W.sends.set i.toNat s, paths := W.paths.set p l, carried := W.carried.take j ++ (⟨p, n, i, ⟨off, dat, fin⟩⟩ : Cd) :: W.carried.drop j, net := N })), (901, hL 42 6 eSd ({ W with sends := W.sends.set i.toNat s, paths := W.paths.set p l, carried := W.carried.take j ++ (⟨p, n, i, ⟨off, dat, fin⟩⟩ : Cd) :: W.carried.drop j, net := N }).sends), (902, hL 45 4 eRv ({ W with sends := W.sends.set i.toNat s, paths := W.paths.set p l, carried := W.carried.take j ++ (⟨p, n, i, ⟨off, dat, fin⟩⟩ : Cd) :: W.carried.drop j, net := N }).recvs), (903, hL 9 1 eBs ({ W with sends := W.sends.set i.toNat s, paths := W.paths.set p l, carried := W.carried.take j ++ (⟨p, n, i, ⟨off, dat, fin⟩⟩ : Cd) :: W.carried.drop j, net := N }).got), (904, hL 75 3 eLs ({ W with sends := W.sends.set i.toNat s, paths := W.paths.set p l, carried := W.carried.take j ++ (⟨p, n, i, ⟨off, dat, fin⟩⟩ : Cd) :: W.carried.drop j, net := N }).paths), (905, hL 77 4 eRt ({ W with sends := W.sends.set i.toNat s, paths := W.paths.set p l, carried := W.carried.take j ++ (⟨p, n, i, ⟨off, dat, fin⟩⟩ : Cd) :: W.carried.drop j, net := N }).rtts), (907, hS ({ W with sends := W.sends.set i.toNat s, paths := W.paths.set p l, carried := W.carried.take j ++ (⟨p, n, i, ⟨off, dat, fin⟩⟩ : Cd) :: W.carried.drop j, net := N }).seen), (908, hL 82 6 eCd ({ W with sends := W.sends.set i.toNat s, paths := W.paths.set p l, carried := W.carried.take j ++ (⟨p, n, i, ⟨off, dat, fin⟩⟩ : Cd) :: W.carried.drop j, net := N }).carried), (909, hL 106 9 eWi ({ W with sends := W.sends.set i.toNat s, paths := W.paths.set p l, carried := W.carried.take j ++ (⟨p, n, i, ⟨off, dat, fin⟩⟩ : Cd) :: W.carried.drop j, net := N }).net)] := by
 have l1 := hW0.sends; have l4 := hW0.paths; have l6 := hW0.windows; have l8 := hW0.few; have l9 := hW0.net
 obtain ⟨j0, hj1, hj2, hj3⟩ : ∃ j, (∀ m, m < j → (W.carried.getD m default).path ≤ (p : Int)) ∧ (W.carried.length ≤ j ∨ ¬ (W.carried.getD j default).path ≤ (p : Int)) ∧ j ≤ W.carried.length := by
  have key : ∀ n, (∃ j, j ≤ n ∧ j ≤ W.carried.length ∧ (∀ m, m < j → (W.carried.getD m default).path ≤ (p : Int)) ∧ (n = j ∨ W.carried.length ≤ j ∨ ¬ (W.carried.getD j default).path ≤ (p : Int))) := by
   intro n
   induction n with
   | zero => exact ⟨0, Nat.le_refl _, Nat.zero_le _, fun m hm => absurd hm (Nat.not_lt_zero m), .inl rfl⟩
   | succ n ih =>
     obtain ⟨j, a1, a2, a3, a4⟩ := ih
     by_cases hjl : W.carried.length ≤ j
     ·exact ⟨j, by omega, a2, a3, .inr (.inl hjl)⟩
     ·by_cases hpj : (W.carried.getD j default).path ≤ (p : Int)
      ·rcases a4 with a4 | a4 | a4
       ·exact ⟨j + 1, by omega, by omega, fun m hm => (Nat.lt_succ_iff_lt_or_eq.1 hm).elim (a3 m) (fun e => by rw [e]; exact hpj), .inl (by omega)⟩
       ·exact absurd a4 hjl
       ·exact absurd hpj a4
      ·exact ⟨j, by omega, a2, a3, .inr (.inr hpj)⟩
  obtain ⟨j, a1, a2, a3, a4⟩ := key W.carried.length
  rcases a4 with a4 | a4
  ·exact ⟨j, a3, .inl (by omega), a2⟩
  ·exact ⟨j, a3, a4, a2⟩
 refine ⟨j0, hj1, hj2, hj3, ?_⟩
 have hF' := hF j0 hj1 hj2 hj3
 clear hF
 have hT := vmTransmit { W with sends := W.sends.set i.toNat s, paths := W.paths.set p l, carried := W.carried.take j0 ++ (⟨p, n, i, ⟨off, dat, fin⟩⟩ : Cd) :: W.carried.drop j0 } ⟨p, n, ⟨3, i, off, c, dat, []⟩, true⟩ (by show W.net.length ≤ 1000; omega)
 rw [hF'] at hT
 clear hF'
 obtain ⟨C, hC⟩ : ∃ C, C = W.carried.take j0 ++ (⟨p, n, i, ⟨off, dat, fin⟩⟩ : Cd) :: W.carried.drop j0 := ⟨_, rfl⟩
 have hIns := vmInsert 908 134 135 (by decide) (by decide) (by decide) W.carried ⟨p, n, i, ⟨off, dat, fin⟩⟩ (fun _ => [dI (p : Nat), dI n, dI i, dI off, dS dat, dB fin]) j0 rfl hj3 (by omega)
 rw [← hC] at hT hIns ⊢
 unfold hW at hT ⊢
 unfold hS
 dsimp only at hT ⊢
 rw [List.length_set, List.length_set] at hT ⊢
 rcases hfc with ⟨rfl, rfl⟩ | ⟨rfl, rfl⟩
 ·skip
  refine fH Tryz.func49 Tryz.ntmps49 Tryz.results49 ?_
  repeat' (first
   | (apply KA.g0; apply KA.store; refine DR.cons (OTg.storeEd rfl rfl rfl rfl rfl rfl (by omega) rfl rfl rfl rfl) rfl ?_)
   | refine stp ?_
   | (apply K.g0; apply K.callF; refine cq (F := hN) (G := ?_))
   | (apply KA.g0; apply KA.callF; first | refine cqa (F := hI) (G := ?_) | refine cqa (F := hE) (G := ?_) | refine cqa (F := hS3) (G := ?_))
   | (apply KA.g1; apply KA.callF; refine cqat (F := hJ) (G := ?_))
   | (apply K.rg 0; refine wdr [0, 1, 3, 7, 15, 31, 63, 127, 255, 511, 1023, 2047, 4095, 511, 16383, 32767, 65535, 131071, 511, 262655, 786943, 1835519, 511, 8126975, 16515583, 33292799, 67108863, 134217727] 26 [15, 16, 17, 18, 19, 20, 21, 22, 23, 24, 25, 26, 27, 28, 29, 30, 31, 32, 33, 34, 35, 36, 37, 38, 39, 40] [] ?_)
   | (apply K.rg 6; refine WC.drawD (ms := [0, 1, 3, 7, 0, 31, 63, 0, 128, 384, 896, 0, 2048, 6144, 16383, 32767, 65535, 65535, 65535, 0, 655359, 1835007, 4194303]) 22 [68, 69, 70, 71, 72, 73, 74, 75, 76, 77, 78, 79, 80, 81, 82, 67, 83, 84, 85, 12, 13] [(20, [12])] (by kernel_rfl) (by kernel_rfl) ?_)
   | (apply K.rg 8; refine WC.drawD (ms := [0, 1, 3, 7, 0, 0, 32, 96, 224, 0, 0, 0, 1535, 5631, 16383, 32767]) 14 [88, 89, 90, 91, 92, 93, 94, 95, 96, 97, 98, 99, 100] [(13,[901])] (by kernel_rfl) (by kernel_rfl) ?_)
   | refine dcl ?_)
  refine WC.loop (fun k s' => ∃ (j : Nat), k + j = j0 ∧ s' = ⟨⟨144, [910]⟩, [(0, .ptr 910 0), (1, aI i), (2, aI (p : Nat)), (9, .ptr 9 0), (11, .ptr 11 0), (13, aI n), (14, aI (j : Nat))], [(9, .blk (av [dI off, dS dat, dB false])), (11, .blk (av [dI 3, dI i, dI off, dI 0, dS dat, dL 2 eRg []])), (910, .blk [aI W.now, .own 901 W.sends.length, .own 902 W.recvs.length, .own 903 W.got.length, .own 904 W.paths.length, .own 905 W.rtts.length, .d (dL 4 eWn W.windows), .own 907 W.seen.length, .own 908 W.carried.length, .own 909 W.net.length]), (901, hL 42 6 eSd (W.sends.set i.toNat s)), (902, hL 45 4 eRv W.recvs), (903, hL 9 1 eBs W.got), (904, hL 75 3 eLs (W.paths.set p l)), (905, hL 77 4 eRt W.rtts), (907, .blk [.d (dL 2 eRg (W.seen.getD 0 default)), .d (dL 2 eRg (W.seen.getD 1 default)), .d (dL 2 eRg (W.seen.getD 2 default)), .d (dL 2 eRg (W.seen.getD 3 default))]), (908, hL 82 6 eCd W.carried), (909, hL 106 9 eWi W.net)]⟩) j0 ⟨0, by omega, rfl⟩ (imp (look [(9, 9), (11, 11), (910, 910), (901, 901), (902, 902), (903, 903), (904, 904), (905, 905), (907, 907), (908, 908), (909, 909)])) ?_
  rintro k s' ⟨j, hk, rfl⟩
  have hb1 := hj1 j
  by_cases hjj : j < j0
  ·have hb2 := hb1 hjj
   repeat' (first
    | refine stp ?_
    | (refine R.gS rfl rfl rfl ?_ ?_ <;> intro hb <;> (try have hb' := nrm hb) <;> try (exfalso; omega))
    | fail)
   exact loopQ.n (k - 1) _ (by omega) ⟨j + 1, by omega, rfl⟩ (imp (look [(9, 9), (11, 11), (910, 910), (901, 901), (902, 902), (903, 903), (904, 904), (905, 905), (907, 907), (908, 908), (909, 909)]))
  ·obtain rfl : j = j0 := by omega
   repeat' (first
    | refine stp ?_
    | (apply KA.g0; apply KA.callF; refine DR.cons (OTg.plain rfl (OT.callR rfl rfl rfl (by (repeat' (first | exact LeCs.nil | exact LeC.un | exact LeC.dd | exact LeC.sc rfl | exact LeC.sc (congrArg (Value.int .i64) (by first | omega | (dsimp only; omega))) | exact LeC.empd | refine LeCs.cons ?_ ?_ | refine LeC.mkag ?_ | exact LeC.same)); first | done | fail) (hIns) rfl rfl rfl)) rfl ?_)
    | (refine R.gS rfl rfl rfl ?_ ?_ <;> intro hb <;> (try have hb' := nrm hb) <;> try (exfalso; omega))
    | (apply K.rg 12; refine WC.drawD (ms := [0, 0, 2, 6, 14, 0, 0, 0, 0, 0, 960, 1984, 4094, 8191, 16383, 32767]) 13 [123, 124, 125, 126, 127, 128, 129, 130, 131, 132, 133, 134, 135] [(12, [908, 134])] (by kernel_rfl) (by kernel_rfl) ?_)
    | refine dcl ?_)
   all_goals
    refine WL.imp (s1 := ⟨⟨144, [910]⟩, [(138, .ptr 910 0), (142, .ag (av (eWi ⟨p, n, ⟨3, i, off, 0, dat, []⟩, true⟩)))], [(910, .blk [aI W.now, .own 901 W.sends.length, .own 902 W.recvs.length, .own 903 W.got.length, .own 904 W.paths.length, .own 905 W.rtts.length, .d (dL 4 eWn W.windows), .own 907 W.seen.length, .own 908 C.length, .own 909 W.net.length]), (901, hL 42 6 eSd (W.sends.set i.toNat s)), (902, hL 45 4 eRv W.recvs), (903, hL 9 1 eBs W.got), (904, hL 75 3 eLs (W.paths.set p l)), (905, hL 77 4 eRt W.rtts), (907, .blk [.d (dL 2 eRg (W.seen.getD 0 default)), .d (dL 2 eRg (W.seen.getD 1 default)), .d (dL 2 eRg (W.seen.getD 2 default)), .d (dL 2 eRg (W.seen.getD 3 default))]), (908, hL 82 6 eCd C), (909, hL 106 9 eWi W.net)]⟩) (imp (look [(910, 910), (901, 901), (902, 902), (903, 903), (904, 904), (905, 905), (907, 907), (908, 135), (909, 909)])) ?_
    repeat' (first
     | refine stp ?_
     | (apply K.g0; apply K.callF; refine ch (F := hT) (G := ?_))
     | fail)
    exact rehw0 lP
 ·skip
  refine fH Tryz.func49 Tryz.ntmps49 Tryz.results49 ?_
  repeat' (first
   | (apply KA.g0; apply KA.store; refine DR.cons (OTg.storeEd rfl rfl rfl rfl rfl rfl (by omega) rfl rfl rfl rfl) rfl ?_)
   | refine stp ?_
   | (apply K.g0; apply K.callF; refine cq (F := hN) (G := ?_))
   | (apply KA.g0; apply KA.callF; first | refine cqa (F := hI) (G := ?_) | refine cqa (F := hE) (G := ?_) | refine cqa (F := hS3) (G := ?_))
   | (apply KA.g1; apply KA.callF; refine cqat (F := hJ) (G := ?_))
   | (apply K.rg 0; refine wdr [0, 1, 3, 7, 15, 31, 63, 127, 255, 511, 1023, 2047, 4095, 511, 16383, 32767, 65535, 131071, 511, 262655, 786943, 1835519, 511, 8126975, 16515583, 33292799, 67108863, 134217727] 26 [15, 16, 17, 18, 19, 20, 21, 22, 23, 24, 25, 26, 27, 28, 29, 30, 31, 32, 33, 34, 35, 36, 37, 38, 39, 40] [] ?_)
   | (apply K.rg 6; refine WC.drawD (ms := [0, 1, 3, 7, 0, 31, 63, 0, 128, 384, 896, 0, 2048, 6144, 16383, 32767, 65535, 65535, 65535, 0, 655359, 1835007, 4194303]) 22 [68, 69, 70, 71, 72, 73, 74, 75, 76, 77, 78, 79, 80, 81, 82, 67, 83, 84, 85, 12, 13] [(20, [12])] (by kernel_rfl) (by kernel_rfl) ?_)
   | (apply K.rg 8; refine WC.drawD (ms := [0, 1, 3, 7, 0, 0, 32, 96, 224, 0, 0, 0, 1535, 5631, 16383, 32767]) 14 [88, 89, 90, 91, 92, 93, 94, 95, 96, 97, 98, 99, 100] [(13,[901])] (by kernel_rfl) (by kernel_rfl) ?_)
   | refine dcl ?_)
  refine WC.loop (fun k s' => ∃ (j : Nat), k + j = j0 ∧ s' = ⟨⟨144, [910]⟩, [(0, .ptr 910 0), (1, aI i), (2, aI (p : Nat)), (9, .ptr 9 0), (11, .ptr 11 0), (13, aI n), (14, aI (j : Nat))], [(9, .blk (av [dI off, dS dat, dB true])), (11, .blk (av [dI 3, dI i, dI off, dI 1, dS dat, dL 2 eRg []])), (910, .blk [aI W.now, .own 901 W.sends.length, .own 902 W.recvs.length, .own 903 W.got.length, .own 904 W.paths.length, .own 905 W.rtts.length, .d (dL 4 eWn W.windows), .own 907 W.seen.length, .own 908 W.carried.length, .own 909 W.net.length]), (901, hL 42 6 eSd (W.sends.set i.toNat s)), (902, hL 45 4 eRv W.recvs), (903, hL 9 1 eBs W.got), (904, hL 75 3 eLs (W.paths.set p l)), (905, hL 77 4 eRt W.rtts), (907, .blk [.d (dL 2 eRg (W.seen.getD 0 default)), .d (dL 2 eRg (W.seen.getD 1 default)), .d (dL 2 eRg (W.seen.getD 2 default)), .d (dL 2 eRg (W.seen.getD 3 default))]), (908, hL 82 6 eCd W.carried), (909, hL 106 9 eWi W.net)]⟩) j0 ⟨0, by omega, rfl⟩ (imp (look [(9, 9), (11, 11), (910, 910), (901, 901), (902, 902), (903, 903), (904, 904), (905, 905), (907, 907), (908, 908), (909, 909)])) ?_
  rintro k s' ⟨j, hk, rfl⟩
  have hb1 := hj1 j
  by_cases hjj : j < j0
  ·have hb2 := hb1 hjj
   repeat' (first
    | refine stp ?_
    | (refine R.gS rfl rfl rfl ?_ ?_ <;> intro hb <;> (try have hb' := nrm hb) <;> try (exfalso; omega))
    | fail)
   exact loopQ.n (k - 1) _ (by omega) ⟨j + 1, by omega, rfl⟩ (imp (look [(9, 9), (11, 11), (910, 910), (901, 901), (902, 902), (903, 903), (904, 904), (905, 905), (907, 907), (908, 908), (909, 909)]))
  ·obtain rfl : j = j0 := by omega
   repeat' (first
    | refine stp ?_
    | (apply KA.g0; apply KA.callF; refine DR.cons (OTg.plain rfl (OT.callR rfl rfl rfl (by (repeat' (first | exact LeCs.nil | exact LeC.un | exact LeC.dd | exact LeC.sc rfl | exact LeC.sc (congrArg (Value.int .i64) (by first | omega | (dsimp only; omega))) | exact LeC.empd | refine LeCs.cons ?_ ?_ | refine LeC.mkag ?_ | exact LeC.same)); first | done | fail) (hIns) rfl rfl rfl)) rfl ?_)
    | (refine R.gS rfl rfl rfl ?_ ?_ <;> intro hb <;> (try have hb' := nrm hb) <;> try (exfalso; omega))
    | (apply K.rg 12; refine WC.drawD (ms := [0, 0, 2, 6, 14, 0, 0, 0, 0, 0, 960, 1984, 4094, 8191, 16383, 32767]) 13 [123, 124, 125, 126, 127, 128, 129, 130, 131, 132, 133, 134, 135] [(12, [908, 134])] (by kernel_rfl) (by kernel_rfl) ?_)
    | refine dcl ?_)
   all_goals
    refine WL.imp (s1 := ⟨⟨144, [910]⟩, [(138, .ptr 910 0), (142, .ag (av (eWi ⟨p, n, ⟨3, i, off, 1, dat, []⟩, true⟩)))], [(910, .blk [aI W.now, .own 901 W.sends.length, .own 902 W.recvs.length, .own 903 W.got.length, .own 904 W.paths.length, .own 905 W.rtts.length, .d (dL 4 eWn W.windows), .own 907 W.seen.length, .own 908 C.length, .own 909 W.net.length]), (901, hL 42 6 eSd (W.sends.set i.toNat s)), (902, hL 45 4 eRv W.recvs), (903, hL 9 1 eBs W.got), (904, hL 75 3 eLs (W.paths.set p l)), (905, hL 77 4 eRt W.rtts), (907, .blk [.d (dL 2 eRg (W.seen.getD 0 default)), .d (dL 2 eRg (W.seen.getD 1 default)), .d (dL 2 eRg (W.seen.getD 2 default)), .d (dL 2 eRg (W.seen.getD 3 default))]), (908, hL 82 6 eCd C), (909, hL 106 9 eWi W.net)]⟩) (imp (look [(910, 910), (901, 901), (902, 902), (903, 903), (904, 904), (905, 905), (907, 907), (908, 135), (909, 909)])) ?_
    repeat' (first
     | refine stp ?_
     | (apply K.g0; apply K.callF; refine ch (F := hT) (G := ?_))
     | fail)
    exact rehw0 lP
end Go.Proofs.YtjbhiglaginpeaaGreat
