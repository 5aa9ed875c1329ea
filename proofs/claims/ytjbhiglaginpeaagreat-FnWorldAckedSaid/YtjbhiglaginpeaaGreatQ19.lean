/- Parts of the proof, joined from several texts. No condition. -/
import Derived.Test.YtjbhiglaginpeaaGreatQ14
import Derived.Test.YtjbhiglaginpeaaGreatQ12
import Derived.Test.YtjbhiglaginpeaaGreatQ9
import Derived.Test.YtjbhiglaginpeaaGreatQ7
import Derived.Test.YtjbhiglaginpeaaGreatQ8
set_option maxRecDepth 100000
set_option maxHeartbeats 16000000
set_option linter.unusedVariables false
set_option linter.unusedSimpArgs false
namespace Go.Proofs.YtjbhiglaginpeaaGreat
open Go.RowKit
def eEv (e : Ev) : List D := [dI e.kind, dI e.a, dI e.b, dI e.c, dS e.data, dI e.frame.kind, dI e.frame.a, dI e.frame.b, dI e.frame.c, dS e.frame.data, dL 2 eRg e.frame.ranges]
theorem vl51Local (W : Wd) (hW : WdOK W) (e : Ev) (hk : e.kind = 1 ∨ e.kind = 2 ∨ e.kind = 8 ∨ e.kind = 9) (hd : e.data.length ≤ 10000000) : FnP Tryz.prog 57 [.ag (av (eWd W)), .ag (av (eEv e))] (.ag (av (eWd (doW W e)))) := by
 have l1 := hW.sends; have l2 := hW.recvs; have l3 := hW.got; have l9 := hW.net
 obtain ⟨k, a, b, c, d, f⟩ := e
 dsimp only at hk hd
 change FnP _ _ [.ag (av (eWd W)), .ag (av [dI k, dI a, dI b, dI c, dS d, dI f.kind, dI f.a, dI f.b, dI f.c, dS f.data, dL 2 eRg f.ranges])] _
 cases ha : inB a 0 2
 ·have hE : doW W ⟨k, a, b, c, d, f⟩ = W := by unfold doW; rw [if_pos hk]; simp [ha]
  have hI := vl6In a 0 2
  rw [ha] at hI
  rw [hE]
  refine fP Tryz.func57 Tryz.ntmps57 Tryz.results57 ?_
  repeat' (first
   | refine stp ?_
   | (apply K.g0; apply K.callF; refine cq (F := hI) (G := ?_))
   | fail)
  (exact ret1)
 have hI := vl6In a 0 2
 rw [ha] at hI
 have ha' := inB_iff.1 ha
 have hst := hW.st ha'
 have hsd : SdOK (W.sends.getD a.toNat default) := hst.sd
 have hrv : RvOK (W.recvs.getD a.toNat default) := hst.rv
 have hfew := hrv.few
 rcases hk with rfl | rfl | rfl | rfl
 ·have hE : doW W ⟨1, a, b, c, d, f⟩ = { W with sends := W.sends.set a.toNat (sdWrite (W.sends.getD a.toNat default) d) } := by unfold doW; simp [ha, Wd.sd]
  rw [hE]
  have hS := vlSendWrite (W.sends.getD a.toNat default) d hsd hd
  refine fP Tryz.func57 Tryz.ntmps57 Tryz.results57 ?_
  repeat' (first
   | refine stp ?_
   | (apply K.g0; apply K.callF; first | refine chq (F := vl51CopyH W hW.sz) (G := ?_) | refine cq (F := hI) (G := ?_))
   | (apply KA.g0; apply KA.callF; refine cqa (F := hS) (G := ?_))
   | (apply K.rg 6; refine WC.drawD (ms := [0, 1, 0, 4, 15, 31, 0, 64, 255, 511, 1023, 1023, 0, 6143, 16383]) 14 [23, 24, 25, 26, 27, 28, 29, 30, 31, 22, 32, 33, 5] [(13, [5])] (by kernel_rfl) (by kernel_rfl) ?_)
   | refine dcl ?_)
  (exact ret1)
 ·have hE : doW W ⟨2, a, b, c, d, f⟩ = { W with sends := W.sends.set a.toNat { W.sends.getD a.toNat default with fin := true } } := by unfold doW; simp [ha, Wd.sd]
  rw [hE]
  have hS := vlSendFinish (W.sends.getD a.toNat default) hsd
  refine fP Tryz.func57 Tryz.ntmps57 Tryz.results57 ?_
  repeat' (first
   | refine stp ?_
   | (apply K.g0; apply K.callF; first | refine chq (F := vl51CopyH W hW.sz) (G := ?_) | refine cq (F := hI) (G := ?_) | refine cq (F := hS) (G := ?_))
   | fail)
  (exact ret1)
 ·cases hb : inB b 0 30
  ·have hE : doW W ⟨8, a, b, c, d, f⟩ = W := by unfold doW; simp [ha, hb]
   have hJ := vl6In b 0 30
   rw [hb] at hJ
   rw [hE]
   refine fP Tryz.func57 Tryz.ntmps57 Tryz.results57 ?_
   repeat' (first
    | refine stp ?_
    | (apply K.g0; apply K.callF; first | refine chq (F := vl51CopyH W hW.sz) (G := ?_) | refine cq (F := hI) (G := ?_) | refine cq (F := hJ) (G := ?_))
    | fail)
   (exact ret1)
  ·have hE : doW W ⟨8, a, b, c, d, f⟩ = { W with recvs := W.recvs.set a.toNat (rvRead (W.recvs.getD a.toNat default) b).1, got := W.got.set a.toNat (W.got.getD a.toNat default ++ (rvRead (W.recvs.getD a.toNat default) b).2) } := by unfold doW; simp [ha, hb, Wd.rv]; rfl
   have hJ := vl6In b 0 30
   rw [hb] at hJ
   have hb' := inB_iff.1 hb
   rw [hE]
   have hg1 := hst.glen
   have hg2 := hrv.read
   have hg3 := hrv.lim
   have hst2 := (st_read hst hb'.1).1.glen
   have hst3 := (st_read hst hb'.1).1.rv.read
   have hst4 := (st_read hst hb'.1).1.rv.lim
   unfold bl at hg1 hst2
   have hg4 : (W.got.getD a.toNat default).length + (rvRead (W.recvs.getD a.toNat default) b).2.length ≤ 1000 := by
    rw [List.length_append] at hst2
    have : ((W.got.getD a.toNat default).length + (rvRead (W.rv a) b).2.length : Nat) ≤ 1000 := by omega
    exact this
   have hR := vl31Read (W.recvs.getD a.toNat default) b hrv (by omega) (by omega)
   generalize rvRead (W.recvs.getD a.toNat default) b = X8 at hR hg4 ⊢
   clear hst2 hst3 hst4
   refine fP Tryz.func57 Tryz.ntmps57 Tryz.results57 ?_
   repeat' (first
    | refine stp ?_
    | (apply K.g0; apply K.callF; first | refine chq (F := vl51CopyH W hW.sz) (G := ?_) | refine cq (F := hI) (G := ?_) | refine cq (F := hJ) (G := ?_))
    | (apply KA.g0; apply KA.callF; refine cqa (F := hR) (G := ?_))
    | (apply K.rg 13; refine WC.drawD (ms := [0, 1, 0, 4, 15, 31, 0, 64, 255, 511, 1023, 1023, 0, 6143, 16383]) 14 [64, 65, 66, 67, 68, 69, 70, 71, 72, 63, 73, 74, 9] [(13, [9])] (by kernel_rfl) (by kernel_rfl) ?_)
    | (apply K.rg 15; refine wdr [0, 1, 0, 4, 0, 16, 0, 64, 240, 496, 0, 2032, 4095, 8191] 12 [81, 82, 83, 84, 85, 86, 87, 88, 89, 90, 91, 92] [] ?_)
    | refine dcl ?_)
   (exact ret1)
 ·cases hb : inB b (W.recvs.getD a.toNat default).limit 30
  ·have hE : doW W ⟨9, a, b, c, d, f⟩ = W := by
    have hb2 : inB b (W.rv a).limit 30 = false := hb
    unfold doW; simp [ha, hb2]
   have hJ := vl6In b (W.recvs.getD a.toNat default).limit 30
   rw [hb] at hJ
   rw [hE]
   refine fP Tryz.func57 Tryz.ntmps57 Tryz.results57 ?_
   repeat' (first
    | refine stp ?_
    | (apply K.g0; apply K.callF; first | refine chq (F := vl51CopyH W hW.sz) (G := ?_) | refine cq (F := hI) (G := ?_) | refine cq (F := hJ) (G := ?_))
    | (apply K.rg 17; refine wdr [0, 1, 0, 4, 0, 16, 60, 124, 252, 511] 9 [96, 97, 98, 99, 100, 101, 102, 103, 104] [] ?_)
    | refine dcl ?_)
   (exact ret1)
  ·have hE : doW W ⟨9, a, b, c, d, f⟩ = post { W with recvs := W.recvs.set a.toNat { W.recvs.getD a.toNat default with limit := b } } ⟨0, -1, ⟨4, a, b, 0, [], []⟩, true⟩ := by
    have hb2 : inB b (W.rv a).limit 30 = true := hb
    unfold doW; simp only [ha, hb2]; rfl
   have hJ := vl6In b (W.recvs.getD a.toNat default).limit 30
   rw [hb] at hJ
   rw [hE]
   have hP := vl51Post { W with recvs := W.recvs.set a.toNat { W.recvs.getD a.toNat default with limit := b } } ⟨0, -1, ⟨4, a, b, 0, [], []⟩, true⟩ (by show W.net.length ≤ _; omega)
   refine fP Tryz.func57 Tryz.ntmps57 Tryz.results57 ?_
   repeat' (first
    | refine stp ?_
    | (apply K.g0; apply K.callF; first | refine chq (F := vl51CopyH W hW.sz) (G := ?_) | refine cq (F := hI) (G := ?_) | refine cq (F := hJ) (G := ?_) | refine cf (F := hP) (G := ?_))
    | (apply K.rg 17; refine wdr [0, 1, 0, 4, 0, 16, 60, 124, 252, 511] 9 [96, 97, 98, 99, 100, 101, 102, 103, 104] [] ?_)
    | refine dcl ?_)
   (exact ret1)
theorem vmWithin (n lo hi : Int) : FnP Tryz.prog 68 [aI n, aI lo, aI hi] (aB (inB n lo hi)) := by
 refine fP Tryz.func68 Tryz.ntmps68 Tryz.results68 ?_
 repeat' (first
  | refine stp ?_
  | (refine R.gS rfl rfl rfl ?_ ?_ <;> intro hb <;> (try have hb' := nrm hb) <;> try (exfalso; omega))
  | fail)
 all_goals first
  | (rw [show inB n lo hi = decide (n ≤ hi) from by unfold inB; rw [decide_eq_true (by omega)]; rfl]; (exact ret1))
  | (rw [show inB n lo hi = false from by unfold inB; rw [decide_eq_false (by omega)]; rfl]; (exact ret1))
theorem vmIsPath (p : Int) : FnP Tryz.prog 99 [aI p] (aB (inB p 0 3)) := by
 refine fP Tryz.func99 Tryz.ntmps99 Tryz.results99 ?_
 repeat' (first
  | refine stp ?_
  | (apply K.g0; apply K.callF; refine cq (F := vmWithin _ _ _) (G := ?_))
  | fail)
 (exact ret1)
theorem vmIsStream (p : Int) : FnP Tryz.prog 50 [aI p] (aB (inB p 0 2)) := by
 refine fP Tryz.func50 Tryz.ntmps50 Tryz.results50 ?_
 repeat' (first
  | refine stp ?_
  | (apply K.g0; apply K.callF; refine cq (F := vmWithin _ _ _) (G := ?_))
  | fail)
 (exact ret1)
theorem lastHi_at {l : List Rg} {i : Nat} (ht : rgTo l i = true) : -2 ≤ lastHi l i ∧ lastHi l i ≤ 999 := by
 unfold lastHi
 split
 ·omega
 ·have := rg_bd ht (i - 1) (by omega); omega
theorem vmRangesValid (l : List Rg) (h : l.length ≤ 10000000) : FnP Tryz.prog 37 [.d (dL 2 eRg l)] (aB (rgValid l)) := by
 refine fP Tryz.func37 Tryz.ntmps37 Tryz.results37 ?_
 repeat' (first
  | refine stp ?_
  | (refine WC.cond rfl ?_ ?_ <;> intro hb <;> (try have hb' := nrm hb) <;> try (exfalso; omega)))
 ·rw [show rgValid l = false from by unfold rgValid; rw [decide_eq_false (by omega)]; rfl]; (exact ret1)
 refine WC.loop (fun k s => ∃ i, k + i = l.length ∧ rgTo l i = true ∧ s = ⟨⟨35, []⟩, [(3, aI (lastHi l i)), (9, .d (dL 2 eRg l)), (10, aI l.length), (11, aI (i : Nat))], []⟩) l.length ⟨0, rfl, rfl, rfl⟩ (imp (look [])) ?_
 rintro k s ⟨i, hk, ht, rfl⟩
 have h2 := lastHi_at ht
 repeat' (first
  | refine stp ?_
  | (refine R.gS rfl rfl rfl ?_ ?_ <;> intro hb <;> (try have hb' := nrm hb) <;> try (exfalso; omega))
  | (refine WC.cond rfl ?_ ?_ <;> intro hb <;> (try have hb' := nrm hb) <;> try (exfalso; omega)))
 all_goals first
  | (rw [rg_no (i := i) (by omega) (by omega)]; (exact ret1))
  | (obtain rfl : i = l.length := (by omega)
     rw [rg_all ht, decide_eq_true (by omega)]; (exact ret1))
  | (refine loopQ.n (k - 1) _ (by omega) ⟨i + 1, by omega, by rw [rgTo_succ, ht, rgAt_of.2 (by omega)]; rfl, rfl⟩ (imp (look [])); done)
def prefB (x y : Bs) : Bool := decide (y.length ≤ x.length) && (x.take y.length == y)
theorem vmHasPrefixL (x y : Bs) : FnP Tryz.prog 169 [aS x, aS y] (aB (prefB x y)) := by
 refine fP Tryz.func169 Tryz.ntmps169 Tryz.results169 ?_
 repeat' (first
  | refine stp ?_
  | (refine R.gS rfl rfl rfl ?_ ?_ <;> intro hb <;> (try have hb' := nrm hb) <;> try (exfalso; omega))
  | fail)
 ·rw [show prefB x y = (x.take y.length == y) from by unfold prefB; rw [decide_eq_true (by omega)]; rfl]
  refine RetG.mk1 (ResV.tmp rfl) (LeV.sc (congrArg Value.bool ?_))
  simp
 ·rw [show prefB x y = false from by unfold prefB; rw [decide_eq_false (by omega)]; rfl]
  refine RetG.mk1 (ResV.tmp rfl) (LeV.sc (congrArg Value.bool ?_))
  simp
  try omega
theorem vmHasPrefix (x y : Bs) : FnP Tryz.prog 126 [aS x, aS y] (aB (prefB x y)) := by
 refine fP Tryz.func126 Tryz.ntmps126 Tryz.results126 ?_
 repeat' (first
  | refine stp ?_
  | (apply K.g0; apply K.callF; refine cq (F := vmHasPrefixL x y) (G := ?_))
  | fail)
 (exact ret1)
theorem prefB_eq (x y : Bs) : prefB x y = (x.take y.length == y) := by
 unfold prefB
 by_cases h : y.length ≤ x.length
 ·rw [decide_eq_true h]; rfl
 ·rw [decide_eq_false h, Bool.false_and]
  symm
  rw [beq_eq_false_iff_ne]
  intro e
  have := congrArg List.length e
  rw [List.length_take] at this
  omega
theorem vmLast (p : Pt) (h : -100000 ≤ p.off ∧ p.off ≤ 100000) (h' : p.data.length ≤ 10000000) : FnP Tryz.prog 146 [.ag (av (ePt p))] (aI p.last) := by
 refine fP Tryz.func146 Tryz.ntmps146 Tryz.results146 ?_
 repeat' (first
  | refine stp ?_
  | (refine WC.cond rfl ?_ ?_ <;> intro hb <;> (try have hb' := nrm hb) <;> try (exfalso; omega)))
 all_goals first
  | (rw [show p.last = p.off + p.data.length from if_pos (by assumption)]; (exact ret1))
  | (rw [show p.last = p.off + p.data.length - 1 from if_neg (by simp [*])]; (exact ret1))
theorem vmPositions (s : Sd) (h : s.data.length ≤ 10000000) : FnP Tryz.prog 144 [.ag (av (eSd s))] (aI s.many) := by
 refine fP Tryz.func144 Tryz.ntmps144 Tryz.results144 ?_
 repeat' (first
  | refine stp ?_
  | (refine WC.cond rfl ?_ ?_ <;> intro hb <;> (try have hb' := nrm hb) <;> try (exfalso; omega)))
 all_goals first
  | (rw [show s.many = (s.data.length : Int) + 1 from if_pos (by assumption)]; (exact ret1))
  | (rw [show s.many = (s.data.length : Int) from if_neg (by simp [*])]; (exact ret1))
theorem vmPartSent (s : Sd) (p : Pt) (h : s.data.length ≤ 10000000) (h' : p.data.length ≤ 10000000) : FnP Tryz.prog 130 [.ag (av (eSd s)), .ag (av (ePt p))] (aB (sent s p)) := by
 refine fP Tryz.func130 Tryz.ntmps130 Tryz.results130 ?_
 repeat' (first
  | refine stp ?_
  | (apply K.g0; apply K.callF; refine cq (F := vmHasPrefix _ _) (G := ?_))
  | (apply KA.g0; apply KA.callF; refine cqa (F := vmWithin _ _ _) (G := ?_))
  | (apply KA.g1; apply KA.callF; refine cqat (F := vmLast p (by omega) h') (G := ?_))
  | (refine R.gS rfl rfl rfl ?_ ?_ <;> intro hb <;> (try have hb' := nrmI hb) <;> try (exfalso; omega))
  | (refine DR.gS rfl rfl rfl ?_ ?_ <;> intro hb <;> (try have hb' := nrmI hb) <;> try (exfalso; omega))
  | (refine WC.cond rfl ?_ ?_ <;> intro hb <;> (try have hb' := nrmI hb) <;> try (exfalso; omega))
  | (apply K.rg 1; refine wdr [0, 1, 3, 7, 15, 31, 63, 31, 159, 511, 1023, 2047, 4095, 8191, 4095, 20479, 65535, 131071, 262143, 524287, 1048575, 524287, 2621439, 6815743, 16777215, 33554431] 24 [5, 6, 7, 8, 9, 10, 11, 12, 13, 14, 15, 16, 17, 18, 19, 20, 21, 22, 23, 24, 25, 26, 27, 28] [] ?_)
  | (apply K.rg 5; refine wdr [0, 1, 0, 4, 15, 0, 32, 127, 255] 7 [50, 51, 52, 53, 54, 55, 56] [] ?_)
  | refine dcl ?_)
 all_goals
  refine RetG.mk1 (ResV.tmp rfl) (LeV.sc (congrArg Value.bool ?_))
 all_goals first
  | (symm; rw [Bool.eq_false_iff]; intro hs; have hs := (sent_iff s p).1 hs; have h1 := hs.off; have h2 := hs.ne; have h3 := hs.nxt; have h4 := hs.inn; have h5 := hs.fin; unfold bl at h4 h5; first | omega | (simp_all; done) | (simp_all; omega))
  | (rw [prefB_eq]; unfold sent; rw [inB_iff.2 (by assumption), decide_eq_true (show p.off ≤ p.last by omega), decide_eq_true (show p.last < s.next by omega), decide_eq_true (show p.off ≤ bl s.data by unfold bl; omega)]; first | (simp [*]; done) | (rw [show p.fin = true by assumption, show s.fin = true by simpa using ‹(!s.fin) = false›, decide_eq_true (show p.off + bl p.data = bl s.data by unfold bl; omega)]; simp))
end Go.Proofs.YtjbhiglaginpeaaGreat
