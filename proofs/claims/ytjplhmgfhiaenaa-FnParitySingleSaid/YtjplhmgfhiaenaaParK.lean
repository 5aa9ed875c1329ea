/- Facts on groups and parities: recovery, independence of the missing payload, change. No condition. -/
import Derived.Test.YtjplhmgfhiaenaaParJ
namespace Go.Proofs.Ytjplhmgfhiaenaa
open Go.RowKit

theorem psum_split (ss : List Bs) (k t : Nat) (u : Bs) (h : ss[k]? = some u) : psum ss t = psum (others ss k) t + byteAt u t := by
  unfold psum others
  induction ss generalizing k with
  | nil => simp at h
  | cons x xs ih =>
    cases k with
    | zero =>
      simp only [List.getElem?_cons_zero, Option.some.injEq] at h
      subst h
      simp only [List.set_cons_zero, List.map_cons, List.sum_cons, byteAt_nil]
      omega
    | succ j =>
      simp only [List.getElem?_cons_succ] at h
      have := ih j h
      simp only [List.set_cons_succ, List.map_cons, List.sum_cons]
      omega
theorem gvB_set {ss : List Bs} (h : gvB ss = true) (k : Nat) {u : Bs} (hu : u.length ≤ 12) : gvB (ss.set k u) = true := by
  simp only [gvB, Bool.and_eq_true, List.all_eq_true, List.length_set] at h ⊢
  refine ⟨fun s hs => ?_, h.2⟩
  rcases List.mem_or_eq_of_mem_set hs with hs | rfl
  · exact h.1 s hs
  · simpa [shortB] using hu
theorem dat_full {ss : List Bs} {k t : Nat} {u : Bs} (hu : ss[k]? = some u) (ht : t < longest ss + 1) (p : Bs) (hp : p[t]? = (parity ss)[t]?) : dat ss k p t = UInt8.ofNat (byteAt u t) := by
  have h1 : (parity ss)[t]? = some (parB ss t) := by simp [parity, ht]
  have h2 : p.getD t 0 = parB ss t := by rw [List.getD_eq_getElem?_getD, hp, h1]; rfl
  unfold dat
  rw [h2]
  unfold parB
  rw [psum_split ss k t u hu, UInt8.ofNat_add]
  apply UInt8.toNat_inj.1
  rw [UInt8.toNat_sub, UInt8.toNat_add]
  have a := UInt8.toNat_lt (UInt8.ofNat (psum (others ss k) t))
  have b := UInt8.toNat_lt (UInt8.ofNat (byteAt u t))
  omega
theorem len_full {ss : List Bs} (h : gvB ss = true) {k : Nat} {u : Bs} (hu : ss[k]? = some u) (p : Bs) (hp : ∀ t, t < longest ss + 1 → p[t]? = (parity ss)[t]?) : (dat ss k p 0).toNat = u.length := by
  rw [dat_full hu (by omega) p (hp 0 (by omega))]
  have := gvB_short h u (List.mem_of_getElem? hu)
  simp [byteAt]
  omega
theorem payl_full {ss : List Bs} (h : gvB ss = true) {k : Nat} {u : Bs} (hu : ss[k]? = some u) (p : Bs) (hp : ∀ t, t < longest ss + 1 → p[t]? = (parity ss)[t]?) : payl ss k p = u := by
  have hl := le_longest (List.mem_of_getElem? hu)
  unfold payl
  rw [len_full h hu p hp]
  apply List.ext_getElem?
  intro t
  by_cases ht : t < u.length
  · rw [List.getElem?_map, List.getElem?_range ht]
    simp only [Option.map_some]
    rw [dat_full hu (by omega) p (hp (t + 1) (by omega))]
    simp [byteAt, ht]
  · rw [List.getElem?_eq_none (by simp; omega), List.getElem?_eq_none (by omega)]
theorem rec_full {ss : List Bs} (h : gvB ss = true) {k : Nat} {u : Bs} (hu : ss[k]? = some u) : recOk ss k (pm ss) = true ∧ recD ss k (pm ss) = u := by
  have hk : k < ss.length := (List.getElem?_eq_some_iff.1 hu).1
  have hpm : pm ss = parity ss := by simp [pm, h]
  have hpl := payl_full h hu (pm ss) (fun t _ => by rw [hpm])
  have hd := len_full h hu (pm ss) (fun t _ => by rw [hpm])
  have h12 := gvB_short h u (List.mem_of_getElem? hu)
  have hl := le_longest (List.mem_of_getElem? hu)
  have hlen : (pm ss).length = longest ss + 1 := by rw [hpm, parity_length]
  have hne : (pm ss).isEmpty = false := by cases he : pm ss with | nil => rw [he] at hlen; simp at hlen | cons _ _ => rfl
  have hset : ss.set k u = ss := by
    apply List.ext_getElem?
    intro i
    rw [List.getElem?_set]
    split
    · subst_vars; simp [hk]; simpa [hk] using hu.symm
    · rfl
  have hok : recOk ss k (pm ss) = true := by
    simp only [recOk, h, hne, Int.toNat_natCast, hd, hpl, hset, withinB, Bool.and_eq_true, decide_eq_true_eq, Bool.not_false, beq_self_eq_true, and_true, true_and]
    omega
  refine ⟨hok, ?_⟩
  rw [recD, if_pos hok, Int.toNat_natCast, hpl]
theorem rec_more {ss : List Bs} (h : gvB ss = true) {k : Nat} (hk : k < ss.length) (b : UInt8) : recOk ss k (pm ss ++ [b]) = false := by
  cases hr : recOk ss k (pm ss ++ [b]) with
  | false => rfl
  | true =>
    obtain ⟨u, hu⟩ : ∃ u, ss[k]? = some u := ⟨ss[k], by simp [hk]⟩
    have hpm : pm ss = parity ss := by simp [pm, h]
    have hpl := payl_full h hu (pm ss ++ [b]) (fun t ht => by rw [hpm, List.getElem?_append_left (by rw [parity_length]; exact ht)])
    simp only [recOk, Bool.and_eq_true, beq_iff_eq, Int.toNat_natCast, hpl] at hr
    have hset : ss.set k u = ss := by
      apply List.ext_getElem?
      intro i
      rw [List.getElem?_set]
      split
      · subst_vars; simp [hk]; simpa [hk] using hu.symm
      · rfl
    have := congrArg List.length hr.2
    rw [hset] at this
    simp at this
theorem others_set (ss : List Bs) (k : Nat) (x : Bs) : others (ss.set k x) k = others ss k := by simp [others]
theorem dat_set (ss : List Bs) (k t : Nat) (x p : Bs) : dat (ss.set k x) k p t = dat ss k p t := by unfold dat; rw [others_set]
theorem payl_set (ss : List Bs) (k : Nat) (x p : Bs) : payl (ss.set k x) k p = payl ss k p := by
  unfold payl
  simp only [dat_set]
theorem rec_set {ss : List Bs} (h : gvB ss = true) (k : Nat) {x : Bs} (hx : x.length ≤ 12) (p : Bs) : recOk (ss.set k x) k p = recOk ss k p ∧ recD (ss.set k x) k p = recD ss k p := by
  have hok : recOk (ss.set k x) k p = recOk ss k p := by
    simp only [recOk, gvB_set h k hx, h, List.length_set, Int.toNat_natCast, dat_set, payl_set, List.set_set]
  refine ⟨hok, ?_⟩
  rw [recD, recD, hok, Int.toNat_natCast, payl_set]
theorem rec_pc {ss : List Bs} {m : Int} {p : Bs} (h : recOk ss m p = true) : pcB (ss.set m.toNat (recD ss m p)) p = true ∧ (recD ss m p).length ≤ 12 ∧ 0 ≤ m ∧ m ≤ (ss.length : Int) - 1 := by
  have hd : recD ss m p = payl ss m.toNat p := by rw [recD, if_pos h]
  rw [hd, payl_len]
  simp only [recOk, Bool.and_eq_true, beq_iff_eq, decide_eq_true_eq, withinB] at h
  obtain ⟨⟨⟨⟨⟨hg, hw⟩, hne⟩, h12⟩, hl⟩, he⟩ := h
  refine ⟨?_, h12, hw.1, hw.2⟩
  have hg2 : gvB (ss.set m.toNat (payl ss m.toNat p)) = true := by
    cases hv : gvB (ss.set m.toNat (payl ss m.toNat p)) with
    | true => rfl
    | false =>
      rw [pm, hv] at he
      cases p with
      | nil => simp at hne
      | cons _ _ => simp at he
  simp [pcB, hg2, he]
theorem pm_change {ss : List Bs} (h : gvB ss = true) {k : Nat} {u x : Bs} (hu : ss[k]? = some u) (hx : x.length ≤ 12) (hne : x ≠ u) : pm (ss.set k x) ≠ pm ss := by
  intro he
  have hk : k < ss.length := (List.getElem?_eq_some_iff.1 hu).1
  have hg := gvB_set h k hx
  have h1 : payl ss k (pm ss) = u := payl_full h hu _ (fun t _ => by simp [pm, h])
  have h2 : payl (ss.set k x) k (pm (ss.set k x)) = x := payl_full hg (by simp [hk]) _ (fun t _ => by simp [pm, hg])
  rw [payl_set, he, h1] at h2
  exact hne h2.symm
end Go.Proofs.Ytjplhmgfhiaenaa
