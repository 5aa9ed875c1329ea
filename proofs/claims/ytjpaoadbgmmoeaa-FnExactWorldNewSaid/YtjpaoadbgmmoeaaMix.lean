/- Regions that draw their order and in which a chain of calls that make memory stands among loads: the loads may be taken first. No condition. -/
import Derived.Test.YtjpaoadbgmmoeaaCalm
import Derived.StillTail
namespace Go.Proofs.Ytjpaoadbgmmoeaa
open Go.RowKit

section
variable {P : Program} {ops : Array Oper} {md : Region.Mode} {C : World → Prop} {n : Nat}

/-- Operations that enter no function. -/
def opLeaf : Op → Bool
  | .call _ | .go _ | .defer _ | .send .. | .recv .. | .select .. => false
  | _ => true
theorem bind_no_enter {α : Type} {s : Sem α} {g : α → Sem Next} (hg : ∀ a w w' f args, (g a).run P w ≠ .ok (.enter f args) w') {w w' : World} {f : FuncId} {args : Array Value} (h : (s >>= g).run P w = .ok (.enter f args) w') : False := by
  rw [Sem.run_bind] at h
  cases hs : s.run P w with
  | ok a w1 => rw [hs, Result.andThen_ok] at h; exact hg _ _ _ _ _ h
  | halt x w1 => rw [hs, Result.andThen_halt] at h; cases h
theorem pure_no_enter {v : Value} (w w' : World) (f : FuncId) (args : Array Value) : (pure (Next.value v) : Sem Next).run P w ≠ .ok (.enter f args) w' := by
  intro h
  have h' : Result.ok (Next.value v) w = .ok (.enter f args) w' := h
  cases h'
theorem skip_no_enter (w w' : World) (f : FuncId) (args : Array Value) : (pure Next.skip : Sem Next).run P w ≠ .ok (.enter f args) w' := by
  intro h
  have h' : Result.ok Next.skip w = .ok (.enter f args) w' := h
  cases h'
theorem panic_no_enter {w w' : World} {f : FuncId} {args : Array Value} (h : (runtimePanic .nilDeref : Sem Next).run P w = .ok (.enter f args) w') : False := by
  simp [runtimePanic, goPanic, program, Sem.run, Sem.bind, bind] at h
theorem leaf_no_enter {o : Oper} (ho : opLeaf o.op = true) {ρ : Operand → Value} {w w' : World} {f : FuncId} {args : Array Value} (h : (execOp ρ o).run P w = .ok (.enter f args) w') : False := by
  unfold execOp at h
  split at h
  all_goals first
    | exact bind_no_enter (fun _ => pure_no_enter) h
    | exact bind_no_enter (fun _ => skip_no_enter) h
    | exact pure_no_enter _ _ _ _ h
    | (rename_i hop; rw [hop] at ho; cases ho)
    | (cases h)
    | skip
  repeat' split at h
  all_goals first
    | exact pure_no_enter _ _ _ _ h
    | exact panic_no_enter h
    | skip
  refine bind_no_enter (fun p w w' f args h => ?_) h
  refine bind_no_enter (fun b w w' f args h => ?_) h
  dsimp only at h
  split at h
  · exact bind_no_enter (fun _ => pure_no_enter) h
  · exact pure_no_enter _ _ _ _ h

/-- No way out but the straight one. -/
def NoWay : Exit → Act → World → Prop := fun _ _ _ => False
theorem oper_noWay {o : Oper} {a : Act} {w : World} {K : Act → World → Prop} {Q : Exit → Act → World → Prop} (hh : o.wp P a w K NoWay) : o.wp P a w K Q := by
  unfold Oper.wp at *
  generalize (execOp a.eval o).run P w = r at *
  cases r with
  | ok n w' =>
    cases n <;> simp only [Oper.upon] at hh ⊢ <;>
      first
        | exact hh
        | exact Calls.mono hh (fun e w'' he => by cases e <;> first | exact he | exact he.elim | (obtain ⟨_, _, h⟩ := he; exact h.elim))
  | halt x w' => cases x <;> simp only [Oper.upon] at hh ⊢ <;> first | exact hh | exact hh.elim
theorem wpOp_noWay {i : Nat} {a : Act} {w : World} {K : Act → World → Prop} {Q : Exit → Act → World → Prop} (hh : wpOp P ops NoWay i K a w) : wpOp P ops Q i K a w := by
  unfold wpOp at *
  split
  · simpa [*] using hh
  · rename_i o ho
    simp only [ho] at hh
    split
    · rename_i hw
      simp only [hw, if_true] at hh
      rcases hh with hh | ⟨_, _, _, hh⟩
      · exact .inl (oper_noWay hh)
      · exact hh.elim
    · rename_i hw; simp only [hw] at hh; exact hh

/-- Whatever order is picked: operations ahead of number n, the class kept; then L. -/
def wpAnyM (P : Program) (md : Region.Mode) (ops : Array Oper) (C : World → Prop) (n : Nat) (L : Array Bool → Act → World → Prop) : Nat → Array Bool → Act → World → Prop
  | 0, listed, a, w => L listed a w
  | f + 1, listed, a, w => Region.ready md ops listed ≠ [] ∧ ∀ i ∈ Region.ready md ops listed, i < n ∧ wpOp P ops NoWay i (fun a' w' => C w' ∧ wpAnyM P md ops C n L f (listed.setIfInBounds i true) a' w') a w
theorem wpAny_of_headM {g : Nat} {L : Array Bool → Act → World → Prop} {Q' : Exit → Act → World → Prop} (hL : ∀ listed a w, L listed a w → wpAny P md ops Q' g listed a w) :
    ∀ (f : Nat) (listed : Array Bool) (a : Act) (w : World), wpAnyM P md ops C n L f listed a w → wpAny P md ops Q' (f + g) listed a w
  | 0, listed, a, w, h => by rw [Nat.zero_add]; exact hL _ _ _ h
  | f + 1, listed, a, w, h => by
    rw [show f + 1 + g = (f + g) + 1 by omega]
    exact ⟨fun h0 => absurd h0 h.1, fun i hi => wpOp_mono (fun a' w' h' => wpAny_of_headM hL f _ a' w' h'.2) (wpOp_noWay (h.2 i hi).2)⟩

theorem yieldsIn_wpOp {i : Nat} {o : Oper} {v : Value} {a : Act} {w : World} (hi : ops[i]? = some o) (hlf : opLeaf o.op = true) (hy : YieldsIn P ops C o v a) (hw : C w) {K : Act → World → Prop} (h : K (a.put o.dst v) w) : wpOp P ops NoWay i K a w := by
  unfold wpOp
  simp only [hi]
  rcases hy with ⟨hwt, hv⟩ | ⟨hwt, rfl⟩
  · simp only [hwt, if_true]
    left
    have h3 := hv w hw
    unfold Oper.quietAt at h3
    unfold Oper.wp
    cases hr : (execOp a.eval o).run P w with
    | ok n w' =>
      rw [hr] at h3
      cases n <;> simp only [Oper.quietUpon] at h3 <;> simp only [Oper.upon]
      case value u => obtain ⟨rfl, rfl⟩ := h3; exact h
      case skip => obtain ⟨rfl, rfl⟩ := h3; exact h
      case enter f args => exact (leaf_no_enter hlf hr).elim
    | halt x w' => rw [hr] at h3; simp only [Oper.quietUpon] at h3
  · simp only [hwt, Bool.false_eq_true, if_false]; exact h

/-- An operation apart from 'oi' does the same whether 'oi''s value lies in its temporary or not. -/
theorem wpOp_putM {j : Nat} {oi oj : Oper} {v : Value} (hj : ops[j]? = some oj) (hap : oi.apart ops oj = true)
    (hsi : ∀ cs b, oi.op ≠ .select cs b) (hsj : ∀ cs b, oj.op ≠ .select cs b) {K : Act → World → Prop} {a : Act} {w : World}
    (hy : YieldsIn P ops C oi v a) (h : wpOp P ops NoWay j K (a.put oi.dst v) w) :
    wpOp P ops NoWay j (fun a' w' => YieldsIn P ops C oi v a' ∧ K (a'.put oi.dst v) w') a w := by
  obtain ⟨h1, h2, h3⟩ := Oper.apart_spec hap
  have keep : ∀ (a : Act), YieldsIn P ops C oi v a → ∀ u, YieldsIn P ops C oi v (a.put oj.dst u) := fun a hy u =>
    hy.of_same (execOp_put oi hsi a oj.dst u h3) (wanted_put oi a oj.dst u h3)
  unfold wpOp at *
  simp only [hj] at *
  rw [wanted_put oj a oi.dst v h1] at h
  split
  · rename_i hw
    simp only [hw, if_true] at h
    rcases h with h | ⟨_, _, _, h⟩
    · left
      unfold Oper.wp at *
      rw [execOp_put oj hsj a oi.dst v h1] at h
      generalize (execOp a.eval oj).run P w = r at *
      cases r with
      | ok n w' =>
        cases n <;> simp only [Oper.upon] at h ⊢
        case value u => exact ⟨keep a hy u, by rw [← Act.put_comm a v u h2]; exact h⟩
        case skip => exact ⟨keep a hy _, by rw [← Act.put_comm a v undef h2]; exact h⟩
        case defer d =>
          refine ⟨?_, ?_⟩
          · exact keep _ (hy.of_same (a' := { a with defers := d :: a.defers }) rfl rfl) undef
          · have := Act.put_comm { a with defers := d :: a.defers } (x := oi.dst) (y := oj.dst) v undef h2
            rw [← this]
            cases hd : oi.dst <;> rw [hd] at h <;> exact h
        case enter f args =>
          exact Calls.mono h (fun e w'' he => by
            cases e with
            | returned u => exact ⟨keep a hy u, by rw [← Act.put_comm a v u h2]; exact he⟩
            | panicked c => exact he.elim
            | outgrown => obtain ⟨_, _, h⟩ := he; exact h.elim)
        case row row args => exact Rows.mono h (fun u _ he => ⟨keep a hy u, by rw [← Act.put_comm a v u h2]; exact he⟩)
        all_goals exact h.elim
      | halt x w' => cases x <;> simp only [Oper.upon] at h ⊢ <;> exact h.elim
    · exact h.elim
  · rename_i hw
    simp only [hw] at h
    exact ⟨keep a hy _, by rw [← Act.put_comm a v undef h2]; exact h⟩

/-- An operation that reads may be taken first. -/
theorem wpAnyM_first {i : Nat} {oi : Oper} {v : Value} {L : Array Bool → Act → World → Prop} (hi : ops[i]? = some oi) (hlf : opLeaf oi.op = true) (hsel : ∀ (j : Nat) (o : Oper) cs b, ops[j]? = some o → o.op ≠ .select cs b)
    (hs : Region.sinkB md ops n = true) (hc : Region.chainB md ops n = true) (hn : n < ops.size) (hin : i < n)
    (hdone : ∀ listed a w, L listed a w → ∀ j ∈ Region.ready md ops listed, n ≤ j) :
    ∀ (f : Nat) (listed : Array Bool) (a : Act) (w : World), HeadInv md ops n listed → C w →
      (∀ j oj, ops[j]? = some oj → j ≠ i → listed.getD j true = false → (∀ e ∈ oj.after, Region.binds md e = true → e.on ≠ i) → oi.apart ops oj = true) →
      i ∈ Region.ready md ops listed → YieldsIn P ops C oi v a →
      wpAnyM P md ops C n L f (listed.setIfInBounds i true) (a.put oi.dst v) w → wpAnyM P md ops C n L (f + 1) listed a w := by
  intro f
  induction f with
  | zero =>
    intro listed a w inv hw _ hr hy H
    have hun := (mem_ready.1 hr).1
    refine ⟨fun h => (by rw [h] at hr; cases hr), fun j hj => ?_⟩
    have hjn : j < n := by
      rcases Nat.lt_or_ge j n with h | h
      · exact h
      · exact absurd hj (tail_waits hs hc hn inv _ i rfl hin hun j h)
    refine ⟨hjn, ?_⟩
    by_cases hji : j = i
    · subst hji; exact yieldsIn_wpOp hi hlf hy hw ⟨hw, H⟩
    · have := hdone _ _ _ H j (ready_mono hj hji)
      omega
  | succ f ih =>
    intro listed a w inv hw hfree hr hy H
    have hun := (mem_ready.1 hr).1
    refine ⟨fun h => (by rw [h] at hr; cases hr), fun j hj => ?_⟩
    have hjn : j < n := by
      rcases Nat.lt_or_ge j n with h | h
      · exact h
      · exact absurd hj (tail_waits hs hc hn inv _ i rfl hin hun j h)
    refine ⟨hjn, ?_⟩
    by_cases hji : j = i
    · subst hji; exact yieldsIn_wpOp hi hlf hy hw ⟨hw, H⟩
    · have h1 := (H.2 j (ready_mono hj hji)).2
      obtain ⟨hjun, oj, hoj, hall⟩ := mem_ready.1 hj
      have hnot : ∀ e ∈ oj.after, Region.binds md e = true → e.on ≠ i := fun e he hb heq => by
        have h1 := hall e he hb
        rw [heq, getD_both hun] at h1
        cases h1
      have h2 := wpOp_putM hoj (hfree j oj hoj hji hjun hnot) (fun cs b => hsel i oi cs b hi) (fun cs b => hsel j oj cs b hoj) hy h1
      have hfree' : ∀ k ok, ops[k]? = some ok → k ≠ i → (listed.setIfInBounds j true).getD k true = false →
          (∀ e ∈ ok.after, Region.binds md e = true → e.on ≠ i) → oi.apart ops ok = true := fun k ok hk hki hun hno => by
        refine hfree k ok hk hki ?_ hno
        by_cases hjk : j = k
        · subst hjk; exact hjun
        · rw [getD_set_ne true hjk] at hun; exact hun
      refine wpOp_mono (fun a' w' h3 => ⟨h3.2.1, ih (listed.setIfInBounds j true) a' w' (inv.set hj hjn) h3.2.1 hfree' (ready_mono hr (Ne.symm hji)) h3.1 ?_⟩) h2
      rw [Array.setIfInBounds_comm _ _ hji]
      exact h3.2.2

/-- The operations of the chain, one by one. -/
def wpMids (P : Program) (ops : Array Oper) (C : World → Prop) (R : Act → World → Prop) : List Oper → Act → World → Prop
  | [], a, w => R a w
  | o :: rest, a, w => wpList P ops (fun e a' w' => e = .normal ∧ C w' ∧ wpMids P ops C R rest a' w') [o] a w
def picks (l : List Oper) (is : List Nat) : List Oper := is.filterMap (l[·]?)
def mixMids (md : Region.Mode) (ops : Array Oper) (n g : Nat) : List Nat → Array Bool → Bool
  | [], listed => Region.seqB md ops g n listed
  | k :: rest, listed => decide (Region.ready md ops listed = [k]) && (decide (k < n) && mixMids md ops n g rest (listed.setIfInBounds k true))
def mixHead (md : Region.Mode) (ops : Array Oper) (n g : Nat) (mids : List Nat) : List Nat → Array Bool → Bool
  | [], listed => mixMids md ops n g mids listed
  | k :: rest, listed => ((Region.ready md ops listed).contains k && Region.free md ops listed k) && ((match ops[k]? with | some o => opLeaf o.op | none => false) && (decide (k < n) && mixHead md ops n g mids rest (listed.setIfInBounds k true)))
def mixB (md : Region.Mode) (ops : Array Oper) (n : Nat) (softs mids : List Nat) : Bool :=
  (Region.noSelect ops && decide (n < ops.size)) && ((Region.sinkB md ops n && Region.chainB md ops n) && (mixHead md ops n (ops.size - n) mids softs (Array.replicate ops.size false) && decide (softs.length + mids.length = n)))

theorem wpList_one {o : Oper} {k : Nat} {a : Act} {w : World} {K : Act → World → Prop} (hk : ops[k]? = some o) (h : wpList P ops (fun e a' w' => e = .normal ∧ K a' w') [o] a w) : wpOp P ops NoWay k K a w := by
  unfold wpList at h
  unfold wpOp
  simp only [hk]
  split
  · rename_i hw
    simp only [hw, if_true] at h
    rcases h with h | ⟨_, _, _, h, _⟩
    · left
      unfold Oper.wp at *
      generalize (execOp a.eval o).run P w = r at *
      cases r with
      | ok n w' =>
        cases n <;> simp only [Oper.upon] at h ⊢
        case value u => exact h.2
        case skip => exact h.2
        case defer d => exact h.2
        case enter f args =>
          exact Calls.mono h (fun e w'' he => by
            cases e with
            | returned u => exact he.2
            | panicked c => exact absurd he.1 (by simp)
            | outgrown => obtain ⟨_, _, h, _⟩ := he; cases h)
        case row row args => exact Rows.mono h (fun u _ he => he.2)
        all_goals exact h.elim
      | halt x w' => cases x <;> simp only [Oper.upon] at h ⊢ <;> first | exact h.elim | cases h.1
    · cases h
  · rename_i hw
    simp only [hw] at h
    exact h.2
theorem wpAnyM_mids {R : Act → World → Prop} {l : List Oper} {g : Nat} (hl : l.toArray = ops) : ∀ (is : List Nat) (listed : Array Bool) (a : Act) (w : World), mixMids md ops n g is listed = true →
    wpMids P ops C R (picks l is) a w → wpAnyM P md ops C n (fun listed' a' w' => Region.seqB md ops g n listed' = true ∧ R a' w') is.length listed a w
  | [], listed, a, w, hB, h => ⟨hB, h⟩
  | k :: rest, listed, a, w, hB, h => by
    simp only [mixMids, Bool.and_eq_true, decide_eq_true_eq] at hB
    obtain ⟨hr, hk, hB'⟩ := hB
    have hlt : k < ops.size := by
      have : k ∈ Region.ready md ops listed := by rw [hr]; exact List.mem_singleton.2 rfl
      obtain ⟨_, o, ho, _⟩ := mem_ready.1 this
      exact (Array.getElem?_eq_some_iff.1 ho).1
    have hlo : l[k]? = ops[k]? := by rw [← hl]; simp
    have ho : ops[k]? = some ops[k] := Array.getElem?_eq_getElem hlt
    have hp : picks l (k :: rest) = ops[k] :: picks l rest := by
      unfold picks
      rw [List.filterMap_cons, hlo, ho]
    rw [hp] at h
    unfold wpMids at h
    refine ⟨by rw [hr]; simp, fun i hi => ?_⟩
    rw [hr] at hi
    obtain rfl : i = k := by simpa using hi
    exact ⟨hk, wpOp_mono (fun a' w' h' => ⟨h'.1, wpAnyM_mids hl rest _ a' w' hB' h'.2⟩) (wpList_one ho h)⟩
theorem wpAnyM_softs {R : Act → World → Prop} {l : List Oper} {g : Nat} (hl : l.toArray = ops) (hsel : Region.noSelect ops = true) (hs : Region.sinkB md ops n = true) (hc : Region.chainB md ops n = true) (hn : n < ops.size) (mids : List Nat) (w : World) (hw : C w) :
    ∀ (is : List Nat) (listed : Array Bool) (a : Act), HeadInv md ops n listed → mixHead md ops n g mids is listed = true →
    wpQuiet P ops C (fun a' => wpMids P ops C R (picks l mids) a' w) (picks l is) a →
    wpAnyM P md ops C n (fun listed' a' w' => Region.seqB md ops g n listed' = true ∧ R a' w') (is.length + mids.length) listed a w
  | [], listed, a, _, hB, h => by
    rw [List.length_nil, Nat.zero_add]
    exact wpAnyM_mids hl mids listed a w hB h
  | k :: rest, listed, a, inv, hB, h => by
    simp only [mixHead, Bool.and_eq_true, decide_eq_true_eq] at hB
    obtain ⟨⟨hr, hf⟩, hlf, hk, hB'⟩ := hB
    have hr' : k ∈ Region.ready md ops listed := by simpa using hr
    obtain ⟨_, o, ho, _⟩ := mem_ready.1 hr'
    rw [ho] at hlf
    have hlo : l[k]? = some o := by rw [← ho, ← hl]; simp
    have hp : picks l (k :: rest) = o :: picks l rest := by
      unfold picks
      rw [List.filterMap_cons, hlo]
    rw [hp] at h
    have hst : qOp P ops C k (wpQuiet P ops C (fun a' => wpMids P ops C R (picks l mids) a' w) (picks l rest)) a := by unfold qOp; simp only [ho]; exact h
    obtain ⟨v, hy, hK⟩ := yieldsIn_of_qOp ho hst
    have := wpAnyM_first ho hlf (Region.noSelect_spec hsel) hs hc hn hk (fun listed' a' w' hL => seqB_ready hL.1) (rest.length + mids.length) listed a w inv hw (Region.free_spec ho hf) hr' hy
      (wpAnyM_softs hl hsel hs hc hn mids w hw rest _ _ (inv.set hr' hk) hB' hK)
    rwa [show rest.length + mids.length + 1 = (k :: rest).length + mids.length by simp; omega] at this

/-- **A region that draws its order, of loads and of one chain of calls, with a forced tail: the loads first, then the chain, then the tail.** -/
theorem wp_region_mix {id : Nat} {Q : Exit → Act → World → Prop} {a : Act} {w : World} {l : List Oper} (n : Nat) (softs mids : List Nat) (hm : P.follows .mixedOrders = true) (hB : mixB .any l.toArray n softs mids = true) (hC : C w.drew)
    (h : wpQuiet P l.toArray C (fun a' => wpMids P l.toArray C (fun a'' w'' => wpList P l.toArray Q (l.drop n) a'' w'') (picks l mids) a' w.drew) (picks l softs) a) : (Code.region id l.toArray true).wp P Q a w := by
  simp only [mixB, Bool.and_eq_true, decide_eq_true_eq] at hB
  obtain ⟨⟨hsel, hn⟩, ⟨hs, hc⟩, hh, hlen⟩ := hB
  have hn' : n < l.length := by simpa using hn
  have hdl : (l.drop n).length = l.toArray.size - n := by simp
  have inv0 : HeadInv .any l.toArray n (Array.replicate l.toArray.size false) :=
    ⟨by simp, fun j oj _ hl => (by rw [getD_replicate_false] at hl; cases hl), fun t _ ht => getD_in (by simpa using ht) (getD_replicate_false _ _)⟩
  have H := wpAnyM_softs (md := .any) (n := n) (g := l.toArray.size - n) (l := l) rfl hsel hs hc hn mids w.drew hC softs _ a inv0 hh h
  refine wp_region_any hm ?_
  have := wpAny_of_headM (Q' := Q) (g := l.toArray.size - n) (fun listed a' w' hL => by
    have := wpAny_of_seq (md := .any) (Q' := Q) (l.drop n) n listed a' w' (fun j => by simp [List.getElem?_drop]) (by rw [hdl]; exact hL.1) hL.2
    rwa [hdl] at this) _ _ _ _ H
  rw [hlen, show n + (l.toArray.size - n) = l.toArray.size by omega] at this
  exact this
end
open Classical in
/-- A world in which the blocks of 'ok' are as in W: x itself if they are, W otherwise. -/
noncomputable def held (ok : Nat → Prop) (W x : World) : World := if (∀ b, ok b → x.heap[b]? = W.heap[b]?) then x else W
theorem held_block (ok : Nat → Prop) (W x : World) (b : Nat) (h : ok b) : (held ok W x).heap[b]? = W.heap[b]? := by
  unfold held
  split
  · rename_i hs; exact hs b h
  · rfl
theorem held_of {ok : Nat → Prop} {W x : World} (h : ∀ b, ok b → x.heap[b]? = W.heap[b]?) : ∃ y, x = held ok W y := ⟨x, by unfold held; rw [if_pos h]⟩
theorem held_cell (ok : Nat → Prop) (W x : World) (a : Addr) (h : ok a.block) : (held ok W x).cell? a = W.cell? a := World.cell?_of_block (w := W) (held_block ok W x a.block h)
attribute [go_sem] held_cell
theorem held_drew (ok : Nat → Prop) (W : World) : ∃ y, W.drew = held ok W y := held_of fun _ _ => rfl
end Go.Proofs.Ytjpaoadbgmmoeaa
