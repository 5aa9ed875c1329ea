/- Parts of the proof, joined from several texts. No condition. -/
import Derived.Test.YtjbhiglaginpeaaGreatQ42
set_option maxRecDepth 100000
set_option maxHeartbeats 16000000
set_option linter.unusedVariables false
set_option linter.unusedSimpArgs false
namespace Go.Proofs.YtjbhiglaginpeaaGreat
open Go.RowKit
theorem ack_recvs {W : Wd} (h : WdOK W) {p : Nat} (hp : p < 4) {acked : List Rg} (ha : AckIn W p acked) : (doAck W p acked).recvs = W.recvs := by rw [doAck_eq h hp ha rfl]
theorem ack_got {W : Wd} (h : WdOK W) {p : Nat} (hp : p < 4) {acked : List Rg} (ha : AckIn W p acked) : (doAck W p acked).got = W.got := by rw [doAck_eq h hp ha rfl]
theorem ack_seen {W : Wd} (h : WdOK W) {p : Nat} (hp : p < 4) {acked : List Rg} (ha : AckIn W p acked) : (doAck W p acked).seen = W.seen := by rw [doAck_eq h hp ha rfl]
theorem ack_net {W : Wd} (h : WdOK W) {p : Nat} (hp : p < 4) {acked : List Rg} (ha : AckIn W p acked) : (doAck W p acked).net = W.net := by rw [doAck_eq h hp ha rfl]
theorem vmDeliverN (W : Wd) (p n k a b c : Int) (d : Bs) (rs : List Rg) : FnH Tryz.prog 98 [910, 901, 902, 903, 904, 905, 907, 908, 909] [.ptr 910 0, .ag (av [dI p, dI n, dI k, dI a, dI b, dI c, dS d, dL 2 eRg rs, dB false])] [(910, hW W), (901, hL 42 6 eSd W.sends), (902, hL 45 4 eRv W.recvs), (903, hL 9 1 eBs W.got), (904, hL 75 3 eLs W.paths), (905, hL 77 4 eRt W.rtts), (907, hS W.seen), (908, hL 82 6 eCd W.carried), (909, hL 106 9 eWi W.net)] (.tu []) [(910, hW W), (901, hL 42 6 eSd W.sends), (902, hL 45 4 eRv W.recvs), (903, hL 9 1 eBs W.got), (904, hL 75 3 eLs W.paths), (905, hL 77 4 eRt W.rtts), (907, hS W.seen), (908, hL 82 6 eCd W.carried), (909, hL 106 9 eWi W.net)] := by
 unfold hW hS
 refine fH Tryz.func98 Tryz.ntmps98 Tryz.results98 ?_
 repeat' (first
  | refine stp ?_
  | fail)
 exact rehw0 lP
theorem vmDeliverL (W : Wd) (p n a b c : Int) (d : Bs) (rs : List Rg) (l1 : W.sends.length = 3) (ha : 0 ≤ a ∧ a ≤ 2) : FnH Tryz.prog 98 [910, 901, 902, 903, 904, 905, 907, 908, 909] [.ptr 910 0, .ag (av [dI p, dI n, dI 4, dI a, dI b, dI c, dS d, dL 2 eRg rs, dB true])] [(910, hW W), (901, hL 42 6 eSd W.sends), (902, hL 45 4 eRv W.recvs), (903, hL 9 1 eBs W.got), (904, hL 75 3 eLs W.paths), (905, hL 77 4 eRt W.rtts), (907, hS W.seen), (908, hL 82 6 eCd W.carried), (909, hL 106 9 eWi W.net)] (.tu []) [(910, hW ({ W with sends := W.sends.set a.toNat { W.sends.getD a.toNat default with limit := max (W.sends.getD a.toNat default).limit b } })), (901, hL 42 6 eSd ({ W with sends := W.sends.set a.toNat { W.sends.getD a.toNat default with limit := max (W.sends.getD a.toNat default).limit b } }).sends), (902, hL 45 4 eRv ({ W with sends := W.sends.set a.toNat { W.sends.getD a.toNat default with limit := max (W.sends.getD a.toNat default).limit b } }).recvs), (903, hL 9 1 eBs ({ W with sends := W.sends.set a.toNat { W.sends.getD a.toNat default with limit := max (W.sends.getD a.toNat default).limit b } }).got), (904, hL 75 3 eLs ({ W with sends := W.sends.set a.toNat { W.sends.getD a.toNat default with limit := max (W.sends.getD a.toNat default).limit b } }).paths), (905, hL 77 4 eRt ({ W with sends := W.sends.set a.toNat { W.sends.getD a.toNat default with limit := max (W.sends.getD a.toNat default).limit b } }).rtts), (907, hS ({ W with sends := W.sends.set a.toNat { W.sends.getD a.toNat default with limit := max (W.sends.getD a.toNat default).limit b } }).seen), (908, hL 82 6 eCd ({ W with sends := W.sends.set a.toNat { W.sends.getD a.toNat default with limit := max (W.sends.getD a.toNat default).limit b } }).carried), (909, hL 106 9 eWi ({ W with sends := W.sends.set a.toNat { W.sends.getD a.toNat default with limit := max (W.sends.getD a.toNat default).limit b } }).net)] := by
 unfold hW hS
 dsimp only
 refine fH Tryz.func98 Tryz.ntmps98 Tryz.results98 ?_
 repeat' (first
  | refine stp ?_
  | (apply K.rg 14; refine wdr [0, 1, 3, 7, 0, 16, 0, 64, 192, 448, 0, 1024, 4032, 8128, 16320, 0, 32768, 131008, 262143, 524287, 1048575] 18 [82, 83, 84, 85, 86, 87, 88, 89, 90, 91, 92, 93, 94, 95, 96, 97, 98, 99] [] ?_)
  | refine dcl ?_)
 exact rehw0 lP
theorem vmDeliverA (W V : Wd) (p n b c : Int) (q : Nat) (d : Bs) (rs : List Rg) (k1 : V.recvs = W.recvs) (k2 : V.got = W.got) (k3 : V.seen = W.seen) (k4 : V.net = W.net)
 (hA : FnH Tryz.prog 140 [910, 901, 902, 903, 904, 905, 907, 908, 909] [.ptr 910 0, aI q, .d (dL 2 eRg rs)] [(910, hW W), (901, hL 42 6 eSd W.sends), (904, hL 75 3 eLs W.paths), (905, hL 77 4 eRt W.rtts), (908, hL 82 6 eCd W.carried)] (.tu []) [(910, hW V), (901, hL 42 6 eSd V.sends), (904, hL 75 3 eLs V.paths), (905, hL 77 4 eRt V.rtts), (908, hL 82 6 eCd V.carried)]) :
 FnH Tryz.prog 98 [910, 901, 902, 903, 904, 905, 907, 908, 909] [.ptr 910 0, .ag (av [dI p, dI n, dI 2, dI q, dI b, dI c, dS d, dL 2 eRg rs, dB true])] [(910, hW W), (901, hL 42 6 eSd W.sends), (902, hL 45 4 eRv W.recvs), (903, hL 9 1 eBs W.got), (904, hL 75 3 eLs W.paths), (905, hL 77 4 eRt W.rtts), (907, hS W.seen), (908, hL 82 6 eCd W.carried), (909, hL 106 9 eWi W.net)] (.tu []) [(910, hW V), (901, hL 42 6 eSd V.sends), (902, hL 45 4 eRv V.recvs), (903, hL 9 1 eBs V.got), (904, hL 75 3 eLs V.paths), (905, hL 77 4 eRt V.rtts), (907, hS V.seen), (908, hL 82 6 eCd V.carried), (909, hL 106 9 eWi V.net)] := by
 obtain ⟨v1, v2, v3, v4, v5, v6, v7, v8, v9, v10⟩ := V
 dsimp only at k1 k2 k3 k4 hA ⊢
 subst k1 k2 k3 k4
 unfold hW at hA ⊢
 unfold hS
 dsimp only at hA ⊢
 refine fH Tryz.func98 Tryz.ntmps98 Tryz.results98 ?_
 repeat' (first
  | refine stp ?_
  | (apply K.g0; apply K.callF; refine chq (F := hA) (G := ?_))
  | fail)
 exact rehw0 lP
theorem vmDeliver (W : Wd) (hW0 : WdOK W) (x : Wi) (hx : WireOK W x) : FnH Tryz.prog 98 [910, 901, 902, 903, 904, 905, 907, 908, 909] [.ptr 910 0, .ag (av (eWi x))] [(910, hW W), (901, hL 42 6 eSd W.sends), (902, hL 45 4 eRv W.recvs), (903, hL 9 1 eBs W.got), (904, hL 75 3 eLs W.paths), (905, hL 77 4 eRt W.rtts), (907, hS W.seen), (908, hL 82 6 eCd W.carried), (909, hL 106 9 eWi W.net)] (.tu []) [(910, hW (deliver W x)), (901, hL 42 6 eSd (deliver W x).sends), (902, hL 45 4 eRv (deliver W x).recvs), (903, hL 9 1 eBs (deliver W x).got), (904, hL 75 3 eLs (deliver W x).paths), (905, hL 77 4 eRt (deliver W x).rtts), (907, hS (deliver W x).seen), (908, hL 82 6 eCd (deliver W x).carried), (909, hL 106 9 eWi (deliver W x).net)] := by
 have hpath := hx.path
 have hgen := hx.gen
 have hframe := hx.frame
 have hfs := fm_sz hx.frame
 obtain ⟨p, n, ⟨k, a, b, c, d, rs⟩, g⟩ := x
 dsimp only at hpath hgen hframe hfs
 cases g
 ·exact vmDeliverN W p n k a b c d rs
 rcases hgen rfl with ⟨rfl, h1, h2, h3, _⟩ | ⟨rfl, h1, h2⟩ | ⟨rfl, h1, h2, h3⟩
 ·have hp4 : p = 0 ∨ p = 1 ∨ p = 2 ∨ p = 3 := by omega
  rcases hp4 with rfl | rfl | rfl | rfl
  ·exact vmDeliverS0 W hW0 n a b c d rs hx
  ·exact vmDeliverS1 W hW0 n a b c d rs hx
  ·exact vmDeliverS2 W hW0 n a b c d rs hx
  ·exact vmDeliverS3 W hW0 n a b c d rs hx
 ·have hf := fm4 hframe rfl
  dsimp only at hf
  have hE : deliver W ⟨p, n, ⟨4, a, b, c, d, rs⟩, true⟩ = { W with sends := W.sends.set a.toNat { W.sends.getD a.toNat default with limit := max (W.sends.getD a.toNat default).limit b } } := by
   unfold deliver
   simp [Wd.sd]
  rw [hE]
  exact vmDeliverL W p n a b c d rs hW0.sends hf.1
 ·have hf := fm2 hframe rfl
  dsimp only at hf
  have hE : deliver W ⟨p, n, ⟨2, a, b, c, d, rs⟩, true⟩ = doAck W a rs := by
   unfold deliver
   simp
  rw [hE]
  obtain ⟨q, rfl⟩ : ∃ q : Nat, a = (q : Int) := ⟨a.toNat, by omega⟩
  exact vmDeliverA W _ p n b c q d rs (ack_recvs hW0 (by omega) ⟨hf.2.2.2, h2, h3⟩) (ack_got hW0 (by omega) ⟨hf.2.2.2, h2, h3⟩) (ack_seen hW0 (by omega) ⟨hf.2.2.2, h2, h3⟩) (ack_net hW0 (by omega) ⟨hf.2.2.2, h2, h3⟩) (vmAcknowledge W hW0 q (by omega) rs ⟨hf.2.2.2, h2, h3⟩ (by omega))
end Go.Proofs.YtjbhiglaginpeaaGreat
