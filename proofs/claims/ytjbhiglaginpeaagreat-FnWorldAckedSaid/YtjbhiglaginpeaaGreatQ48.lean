/- Parts of the proof, joined from several texts. No condition. -/
import Derived.Test.YtjbhiglaginpeaaGreatQ47
set_option maxRecDepth 100000
set_option maxHeartbeats 16000000
set_option linter.unusedVariables false
set_option linter.unusedSimpArgs false
namespace Go.Proofs.YtjbhiglaginpeaaGreat
open Go.RowKit
theorem car_take {W : Wd} (hW : WdOK W) {p j : Nat} (hp : p < 4) (h1 : ∀ m, m < j → (W.carried.getD m default).path ≤ (p : Int)) (h2 : W.carried.length ≤ j ∨ ¬ (W.carried.getD j default).path ≤ (p : Int)) (h3 : j ≤ W.carried.length) : W.carried.take j = W.carried.filter (fun c => decide (c.path ≤ (p : Int))) := by
 rw [(cars_filter hW hp).1]
 generalize W.carried = l at h1 h2 h3 ⊢
 induction l generalizing j with
 | nil => simp
 | cons a l ih =>
   cases j with
   | zero =>
     have h2' : ¬ a.path ≤ (p : Int) := by
      rcases h2 with h | h
      ·simp at h
      ·exact h
     simp [List.takeWhile, h2']
   | succ j =>
     have ha : a.path ≤ (p : Int) := h1 0 (by omega)
     have := ih (j := j) (fun m hm => h1 (m + 1) (by omega)) (by simpa using h2) (by simpa using h3)
     simp [List.takeWhile, ha, this]
theorem post_form (W : Wd) (x : Wi) : post W x = { W with net := (post W x).net } := by
 unfold post
 split <;> rfl
theorem vmSend (W : Wd) (hW0 : WdOK W) (i p size : Int) : FnH Tryz.prog 49 [910] [.ptr 910 0, aI i, aI p, aI size] [(910, hW W), (901, hL 42 6 eSd W.sends), (902, hL 45 4 eRv W.recvs), (903, hL 9 1 eBs W.got), (904, hL 75 3 eLs W.paths), (905, hL 77 4 eRt W.rtts), (907, hS W.seen), (908, hL 82 6 eCd W.carried), (909, hL 106 9 eWi W.net)] (.tu []) [(910, hW ((doSend W i p size))), (901, hL 42 6 eSd ((doSend W i p size)).sends), (902, hL 45 4 eRv ((doSend W i p size)).recvs), (903, hL 9 1 eBs ((doSend W i p size)).got), (904, hL 75 3 eLs ((doSend W i p size)).paths), (905, hL 77 4 eRt ((doSend W i p size)).rtts), (907, hS ((doSend W i p size)).seen), (908, hL 82 6 eCd ((doSend W i p size)).carried), (909, hL 106 9 eWi ((doSend W i p size)).net)] := by
 have out : ((inB i 0 2 = false ∨ inB p 0 3 = false ∨ inB size 1 12 = false) ∨ (W.windows.getD p.toNat default).size ≤ ((W.paths.getD p.toNat default).flight.length : Int)) → doSend W i p size = W := doSend_out
 cases h1 : inB i 0 2
 ·rw [out (.inl (.inl h1))]
  exact vmSendOut W hW0 i p size (.inl (.inl h1))
 cases h2 : inB p 0 3
 ·rw [out (.inl (.inr (.inl h2)))]
  exact vmSendOut W hW0 i p size (.inl (.inr h2))
 have hp := inB_iff.1 h2
 by_cases hw : (W.windows.getD p.toNat default).size ≤ ((W.paths.getD p.toNat default).flight.length : Int)
 ·rw [out (.inr hw)]
  exact vmSendOut W hW0 i p size (.inr ⟨h1, h2, hw⟩)
 have g1 := inB_iff.1 h1
 have hsd : SdOK (W.sends.getD i.toNat default) := (hW0.st g1).sd
 obtain ⟨q, rfl⟩ : ∃ q : Nat, p = (q : Int) := ⟨p.toNat, by omega⟩
 rw [Int.toNat_natCast] at hw
 cases h3 : inB size 1 12
 ·rw [out (.inl (.inr (.inr h3)))]
  exact vmSendNone W hW0 i size q (by omega) h1 hw (y := aI 0) (.inl rfl) (vmSendNextNo _ size hsd h3)
 clear out
 have g3 := inB_iff.1 h3
 have hq : q < 4 := by omega
 have hls := path_few hW0 hq
 have hI := vmIsStream i
 have hJ := vmIsPath (q : Int)
 rw [h1] at hI
 rw [h2] at hJ
 have hN := vmSendNext (W.sends.getD i.toNat default) size hsd g3
 cases hn : sdNext (W.sends.getD i.toNat default) size with
 | none =>
   rw [hn] at hN
   rw [doSend_none hn]
   exact vmSendNone W hW0 i size q hq h1 hw (y := aI 0) (.inr rfl) hN
 | some sq =>
   obtain ⟨s, off, dat, fin⟩ := sq
   rw [hn] at hN
   have hqb := next_bds hW0 g1 g3 hn
   have hsum := next_sum hW0 g1 g3 hn
   dsimp only at hqb hsum
   change FnP _ _ _ (.tu [.ag (av (eSd s)), .ag (av [dI off, dS dat, dB fin]), aB true]) at hN
   have hE : ∀ c : Int, 0 ≤ c → c < 2 → FnP Tryz.prog 104 [.ag (av [dI 3, dI i, dI off, dI c, dS dat, dL 2 eRg []])] (.d (dS (encP ⟨3, i, off, c, dat, []⟩))) := fun c hc1 hc2 => vmFrameEncode ⟨3, i, off, c, dat, []⟩ (fm_stream g1 hqb.1.1 hsum ⟨hc1, by omega⟩ hqb.2) rfl rfl
   have hS3 : ∀ c, FnP Tryz.prog 103 [.ag (av (eLs (W.paths.getD q default))), aI W.now, aI ((encP ⟨3, i, off, c, dat, []⟩).length : Nat)] (sndR (W.paths.getD q default) (lsSend (W.paths.getD q default) W.now (5 + bl dat))) := fun c => by
    have := vmLossSend (W.paths.getD q default) W.now (5 + bl dat) (hW0.path q hq).ls (by have := hW0.now; omega) (by unfold bl; omega)
    rw [encP_len, show (((5 + dat.length : Nat)) : Int) = 5 + bl dat by unfold bl; omega]
    exact this
   cases hl : lsSend (W.paths.getD q default) W.now (5 + bl dat) with
   | none =>
     rw [hl] at hS3
     rw [doSend_full (p := (q : Int)) hn hl]
     exact vmSendFull W hW0 i size q hq h1 hw hN hE hS3
   | some ln =>
     obtain ⟨l, n⟩ := ln
     rw [hl] at hS3
     have hfc : (fin = false ∧ finI fin = 0) ∨ (fin = true ∧ finI fin = 1) := by cases fin <;> simp [finI]
     have hc2 : 0 ≤ finI fin ∧ finI fin < 2 := by cases fin <;> simp [finI]
     have hY := fun A hA => doSend_yes h1 hq h3 hw hn hl (A := A) hA hW0
     dsimp only at hY
     obtain ⟨j, a1, a2, a3, h⟩ := vmSendYes W hW0 i size q hq g1 hI hJ hw hfc hN (hE _ hc2.1 hc2.2) (hS3 _) (N := (doSend W i q size).net) (fun j a1 a2 a3 => by
      have hA := car_take hW0 hq a1 a2 a3
      have hy := hY _ hA
      rw [List.length_take, Nat.min_eq_left a3] at hy
      rw [← hy]
      have hf := post_form { W with sends := W.sends.set i.toNat s, paths := W.paths.set q l, carried := W.carried.take j ++ (⟨q, n, i, ⟨off, dat, fin⟩⟩ : Cd) :: W.carried.drop j } ⟨q, n, ⟨3, i, off, finI fin, dat, []⟩, true⟩
      rw [← hy] at hf
      exact hf)
     have hA := car_take hW0 hq a1 a2 a3
     have hy := hY _ hA
     rw [List.length_take, Nat.min_eq_left a3] at hy
     have hf := post_form { W with sends := W.sends.set i.toNat s, paths := W.paths.set q l, carried := W.carried.take j ++ (⟨q, n, i, ⟨off, dat, fin⟩⟩ : Cd) :: W.carried.drop j } ⟨q, n, ⟨3, i, off, finI fin, dat, []⟩, true⟩
     rw [← hy] at hf
     rw [hf]
     exact h
end Go.Proofs.YtjbhiglaginpeaaGreat
