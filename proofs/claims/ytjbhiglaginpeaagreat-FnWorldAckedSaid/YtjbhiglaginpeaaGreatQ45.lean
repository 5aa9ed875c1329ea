/- Parts of the proof, joined from several texts. No condition. -/
import Derived.Test.YtjbhiglaginpeaaGreatQ39
import Derived.Test.YtjbhiglaginpeaaGreatQ43
import Derived.Test.YtjbhiglaginpeaaGreatQ27
import Derived.Test.YtjbhiglaginpeaaGreatQ10
import Derived.Test.YtjbhiglaginpeaaGreatQ17
set_option maxRecDepth 100000
set_option maxHeartbeats 16000000
set_option linter.unusedVariables false
set_option linter.unusedSimpArgs false
namespace Go.Proofs.YtjbhiglaginpeaaGreat
open Go.RowKit
theorem vmSendNextNo (s : Sd) (size : Int) (hs : SdOK s) (hz : inB size 1 12 = false) : FnP Tryz.prog 102 [.ag (av (eSd s)), aI size] (.tu [.ag (av (eSd ⟨[], false, 0, 0, [], []⟩)), .ag (av (ePt ⟨0, [], false⟩)), aB false]) := by
 obtain ⟨f1, f2⟩ := hs.few
 obtain ⟨⟨b0, b1⟩, b2⟩ := hs.bds
 have hv := vmSendValid s (by omega) (by omega) (by omega)
 rw [sd_ok hs] at hv
 have hw := vmWithin size 1 12
 rw [hz] at hw
 refine fP Tryz.func102 Tryz.ntmps102 Tryz.results102 ?_
 repeat' (first
  | refine stp ?_
  | (apply K.g0; apply K.callF; refine cq (F := hv) (G := ?_))
  | (apply K.g1; apply K.callF; refine cqt (F := hw) (G := ?_))
  | fail)
 (exact ret3)
theorem next_sum {W : Wd} (hW : WdOK W) {i size : Int} (hi : 0 ≤ i ∧ i ≤ 2) (hz : 1 ≤ size ∧ size ≤ 12) {s : Sd} {q : Pt} (h : sdNext (W.sends.getD i.toNat default) size = some (s, q)) : q.off + bl q.data ≤ 30 := by
 obtain ⟨_, _, hsent, _, hsd⟩ := st_next (hW.st hi) hz.1 h
 have h1 := congrArg List.length hsent.data
 rw [List.length_take, List.length_drop] at h1
 have h2 := hsent.inn
 have h3 := hsd.len
 have h4 := hsent.off
 unfold bl at h2 h3 ⊢
 omega
theorem fm_stream {i off c : Int} {d : Bs} (hi : 0 ≤ i ∧ i ≤ 2) (ho : 0 ≤ off) (hs : off + bl d ≤ 30) (hc : 0 ≤ c ∧ c ≤ 1) (hd : d.length ≤ 12) : fmValid ⟨3, i, off, c, d, []⟩ = true := by
 unfold fmValid fieldsOk
 have h1 : inB i 0 2 = true := inB_iff.2 hi
 have h2 : inB off 0 (30 - bl d) = true := inB_iff.2 (by omega)
 have h3 : inB c 0 1 = true := inB_iff.2 hc
 simp [h1, h2, h3, hd]
theorem vmSendOut (W : Wd) (hW0 : WdOK W) (i p size : Int) (h : (inB i 0 2 = false ∨ inB p 0 3 = false) ∨ (inB i 0 2 = true ∧ inB p 0 3 = true ∧ (W.windows.getD p.toNat default).size ≤ ((W.paths.getD p.toNat default).flight.length : Int))) : FnH Tryz.prog 49 [910] [.ptr 910 0, aI i, aI p, aI size] [(910, hW W), (901, hL 42 6 eSd W.sends), (902, hL 45 4 eRv W.recvs), (903, hL 9 1 eBs W.got), (904, hL 75 3 eLs W.paths), (905, hL 77 4 eRt W.rtts), (907, hS W.seen), (908, hL 82 6 eCd W.carried), (909, hL 106 9 eWi W.net)] (.tu []) [(910, hW W), (901, hL 42 6 eSd W.sends), (902, hL 45 4 eRv W.recvs), (903, hL 9 1 eBs W.got), (904, hL 75 3 eLs W.paths), (905, hL 77 4 eRt W.rtts), (907, hS W.seen), (908, hL 82 6 eCd W.carried), (909, hL 106 9 eWi W.net)] := by
 have l4 := hW0.paths; have l6 := hW0.windows
 have hI := vmIsStream i
 have hJ := vmIsPath p
 unfold hW hS
 cases h1 : inB i 0 2
 ·rw [h1] at hI
  refine fH Tryz.func49 Tryz.ntmps49 Tryz.results49 ?_
  repeat' (first
   | refine stp ?_
   | (apply KA.g0; apply KA.callF; refine cqa (F := hI) (G := ?_))
   | (apply K.rg 0; refine wdr [0, 1, 3, 7, 15, 31, 63, 127, 255, 511, 1023, 2047, 4095, 511, 16383, 32767, 65535, 131071, 511, 262655, 786943, 1835519, 511, 8126975, 16515583, 33292799, 67108863, 134217727] 26 [15, 16, 17, 18, 19, 20, 21, 22, 23, 24, 25, 26, 27, 28, 29, 30, 31, 32, 33, 34, 35, 36, 37, 38, 39, 40] [] ?_)
   | refine dcl ?_)
  exact rehw0 lP
 rw [h1] at h hI
 cases h2 : inB p 0 3
 ·rw [h2] at hJ
  refine fH Tryz.func49 Tryz.ntmps49 Tryz.results49 ?_
  repeat' (first
   | refine stp ?_
   | (apply KA.g0; apply KA.callF; refine cqa (F := hI) (G := ?_))
   | (apply KA.g1; apply KA.callF; refine cqat (F := hJ) (G := ?_))
   | (apply K.rg 0; refine wdr [0, 1, 3, 7, 15, 31, 63, 127, 255, 511, 1023, 2047, 4095, 511, 16383, 32767, 65535, 131071, 511, 262655, 786943, 1835519, 511, 8126975, 16515583, 33292799, 67108863, 134217727] 26 [15, 16, 17, 18, 19, 20, 21, 22, 23, 24, 25, 26, 27, 28, 29, 30, 31, 32, 33, 34, 35, 36, 37, 38, 39, 40] [] ?_)
   | refine dcl ?_)
  exact rehw0 lP
 rw [h2] at h hJ
 have hp := inB_iff.1 h2
 have hw : (W.windows.getD p.toNat default).size ≤ ((W.paths.getD p.toNat default).flight.length : Int) := by simpa using h
 refine fH Tryz.func49 Tryz.ntmps49 Tryz.results49 ?_
 repeat' (first
  | refine stp ?_
  | (apply KA.g0; apply KA.callF; refine cqa (F := hI) (G := ?_))
  | (apply KA.g1; apply KA.callF; refine cqat (F := hJ) (G := ?_))
  | (apply K.rg 0; refine wdr [0, 1, 3, 7, 15, 31, 63, 127, 255, 511, 1023, 2047, 4095, 511, 16383, 32767, 65535, 131071, 511, 262655, 786943, 1835519, 511, 8126975, 16515583, 33292799, 67108863, 134217727] 26 [15, 16, 17, 18, 19, 20, 21, 22, 23, 24, 25, 26, 27, 28, 29, 30, 31, 32, 33, 34, 35, 36, 37, 38, 39, 40] [] ?_)
  | refine dcl ?_)
 exact rehw0 lP
theorem vmSendNone (W : Wd) (hW0 : WdOK W) (i size : Int) (p : Nat) (hp : p < 4) (h1 : inB i 0 2 = true) (hw : ¬ (W.windows.getD p default).size ≤ ((W.paths.getD p default).flight.length : Int)) {x : AV} {y : AV} (hx : x = .ag (av (eSd ⟨[], false, 0, 0, [], []⟩)) ∨ x = .ag (av (eSd (W.sends.getD i.toNat default)))) (hN : FnP Tryz.prog 102 [.ag (av (eSd (W.sends.getD i.toNat default))), aI size] (.tu [x, .ag (av (ePt ⟨0, [], false⟩)), aB false])) : FnH Tryz.prog 49 [910] [.ptr 910 0, aI i, aI p, aI size] [(910, hW W), (901, hL 42 6 eSd W.sends), (902, hL 45 4 eRv W.recvs), (903, hL 9 1 eBs W.got), (904, hL 75 3 eLs W.paths), (905, hL 77 4 eRt W.rtts), (907, hS W.seen), (908, hL 82 6 eCd W.carried), (909, hL 106 9 eWi W.net)] (.tu []) [(910, hW W), (901, hL 42 6 eSd W.sends), (902, hL 45 4 eRv W.recvs), (903, hL 9 1 eBs W.got), (904, hL 75 3 eLs W.paths), (905, hL 77 4 eRt W.rtts), (907, hS W.seen), (908, hL 82 6 eCd W.carried), (909, hL 106 9 eWi W.net)] := by
 have l1 := hW0.sends; have l4 := hW0.paths; have l6 := hW0.windows
 have hI := vmIsStream i
 have hJ := vmIsPath p
 have h2 : inB (p : Int) 0 3 = true := inB_iff.2 (by omega)
 rw [h1] at hI
 rw [h2] at hJ
 have g1 := inB_iff.1 h1
 unfold hW hS
 rcases hx with rfl | rfl
 all_goals
  refine fH Tryz.func49 Tryz.ntmps49 Tryz.results49 ?_
  repeat' (first
   | refine stp ?_
   | (apply K.g0; apply K.callF; refine cq (F := hN) (G := ?_))
   | (apply KA.g0; apply KA.callF; refine cqa (F := hI) (G := ?_))
   | (apply KA.g1; apply KA.callF; refine cqat (F := hJ) (G := ?_))
   | (apply K.rg 0; refine wdr [0, 1, 3, 7, 15, 31, 63, 127, 255, 511, 1023, 2047, 4095, 511, 16383, 32767, 65535, 131071, 511, 262655, 786943, 1835519, 511, 8126975, 16515583, 33292799, 67108863, 134217727] 26 [15, 16, 17, 18, 19, 20, 21, 22, 23, 24, 25, 26, 27, 28, 29, 30, 31, 32, 33, 34, 35, 36, 37, 38, 39, 40] [] ?_)
   | refine dcl ?_)
  exact rehw0 lP
theorem vmSendFull (W : Wd) (hW0 : WdOK W) (i size : Int) (p : Nat) (hp : p < 4) (h1 : inB i 0 2 = true) (hw : ¬ (W.windows.getD p default).size ≤ ((W.paths.getD p default).flight.length : Int)) {s : Sd} {off : Int} {dat : Bs} {fin : Bool} (hN : FnP Tryz.prog 102 [.ag (av (eSd (W.sends.getD i.toNat default))), aI size] (.tu [.ag (av (eSd s)), .ag (av [dI off, dS dat, dB fin]), aB true])) (hE : ∀ c : Int, 0 ≤ c → c < 2 → FnP Tryz.prog 104 [.ag (av [dI 3, dI i, dI off, dI c, dS dat, dL 2 eRg []])] (.d (dS (encP ⟨3, i, off, c, dat, []⟩)))) (hS3 : ∀ c, FnP Tryz.prog 103 [.ag (av (eLs (W.paths.getD p default))), aI W.now, aI ((encP ⟨3, i, off, c, dat, []⟩).length : Nat)] (sndR (W.paths.getD p default) none)) : FnH Tryz.prog 49 [910] [.ptr 910 0, aI i, aI p, aI size] [(910, hW W), (901, hL 42 6 eSd W.sends), (902, hL 45 4 eRv W.recvs), (903, hL 9 1 eBs W.got), (904, hL 75 3 eLs W.paths), (905, hL 77 4 eRt W.rtts), (907, hS W.seen), (908, hL 82 6 eCd W.carried), (909, hL 106 9 eWi W.net)] (.tu []) [(910, hW W), (901, hL 42 6 eSd W.sends), (902, hL 45 4 eRv W.recvs), (903, hL 9 1 eBs W.got), (904, hL 75 3 eLs W.paths), (905, hL 77 4 eRt W.rtts), (907, hS W.seen), (908, hL 82 6 eCd W.carried), (909, hL 106 9 eWi W.net)] := by
 have l1 := hW0.sends; have l4 := hW0.paths; have l6 := hW0.windows
 have hI := vmIsStream i
 have hJ := vmIsPath p
 have h2 : inB (p : Int) 0 3 = true := inB_iff.2 (by omega)
 rw [h1] at hI
 rw [h2] at hJ
 have g1 := inB_iff.1 h1
 unfold hW hS
 cases fin
 ·skip
  refine fH Tryz.func49 Tryz.ntmps49 Tryz.results49 ?_
  repeat' (first
   | refine stp ?_
   | (apply K.g0; apply K.callF; refine cq (F := hN) (G := ?_))
   | (apply KA.g0; apply KA.callF; first | refine cqa (F := hI) (G := ?_) | refine cqa (F := hE 0 (by omega) (by omega)) (G := ?_) | refine cqa (F := hS3 0) (G := ?_))
   | (apply KA.g1; apply KA.callF; refine cqat (F := hJ) (G := ?_))
   | (apply K.rg 0; refine wdr [0, 1, 3, 7, 15, 31, 63, 127, 255, 511, 1023, 2047, 4095, 511, 16383, 32767, 65535, 131071, 511, 262655, 786943, 1835519, 511, 8126975, 16515583, 33292799, 67108863, 134217727] 26 [15, 16, 17, 18, 19, 20, 21, 22, 23, 24, 25, 26, 27, 28, 29, 30, 31, 32, 33, 34, 35, 36, 37, 38, 39, 40] [] ?_)
   | (apply K.rg 6; refine WC.drawD (ms := [0, 1, 3, 7, 0, 31, 63, 0, 128, 384, 896, 0, 2048, 6144, 16383, 32767, 65535, 65535, 65535, 0, 655359, 1835007, 4194303]) 22 [68, 69, 70, 71, 72, 73, 74, 75, 76, 77, 78, 79, 80, 81, 82, 67, 83, 84, 85, 12, 13] [(20, [12])] (by kernel_rfl) (by kernel_rfl) ?_)
   | refine dcl ?_)
  exact rehw0 lP
 ·skip
  refine fH Tryz.func49 Tryz.ntmps49 Tryz.results49 ?_
  repeat' (first
   | refine stp ?_
   | (apply K.g0; apply K.callF; refine cq (F := hN) (G := ?_))
   | (apply KA.g0; apply KA.callF; first | refine cqa (F := hI) (G := ?_) | refine cqa (F := hE 1 (by omega) (by omega)) (G := ?_) | refine cqa (F := hS3 1) (G := ?_))
   | (apply KA.g1; apply KA.callF; refine cqat (F := hJ) (G := ?_))
   | (apply K.rg 0; refine wdr [0, 1, 3, 7, 15, 31, 63, 127, 255, 511, 1023, 2047, 4095, 511, 16383, 32767, 65535, 131071, 511, 262655, 786943, 1835519, 511, 8126975, 16515583, 33292799, 67108863, 134217727] 26 [15, 16, 17, 18, 19, 20, 21, 22, 23, 24, 25, 26, 27, 28, 29, 30, 31, 32, 33, 34, 35, 36, 37, 38, 39, 40] [] ?_)
   | (apply K.rg 6; refine WC.drawD (ms := [0, 1, 3, 7, 0, 31, 63, 0, 128, 384, 896, 0, 2048, 6144, 16383, 32767, 65535, 65535, 65535, 0, 655359, 1835007, 4194303]) 22 [68, 69, 70, 71, 72, 73, 74, 75, 76, 77, 78, 79, 80, 81, 82, 67, 83, 84, 85, 12, 13] [(20, [12])] (by kernel_rfl) (by kernel_rfl) ?_)
   | refine dcl ?_)
  exact rehw0 lP
end Go.Proofs.YtjbhiglaginpeaaGreat
