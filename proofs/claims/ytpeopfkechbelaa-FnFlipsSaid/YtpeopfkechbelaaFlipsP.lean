
/-
  Plain laws of the way up: each place of it is a raise that can be taken back, and there are as many as squares between; no condition.
-/
import Derived.Test.YtpeopfkechbelaaCountWaysP
import Derived.Test.YtpeopfkechbelaaFoldsP
import Derived.Test.YtpeopfkechbelaaRaises
import Derived.Test.YtpeopfkechbelaaAreaP
import Derived.Test.YtpeopfkechbelaaRoom
namespace Go.Proofs.Ytpeopfkechbelaa
open Go.ChangeShapes Go.WideShapes Go.ChangeAt Go.RowKit Go.Deep
set_option linter.unusedVariables false
set_option linter.unusedSimpArgs false

theorem up_parts { t x : List UInt8} {k : Nat} (h : up t x k = true) : foldAt 100 x (k : Int) = true ∧ isAbove t (swp x k) = true ∧ 1 ≤ k ∧ k < x.length := by
  simp only [up, Bool.and_eq_true] at h
  have := valley_parts h.1
  exact ⟨h.1, h.2, this.2.1, this.2.2.1⟩
/-- the head of a way -/
theorem way_cons { t x : List UInt8} (ha : isAbove t x = true) (hg : gap t x ≠ 0) : ∃ k, k < x.length ∧ up t x k = true ∧ wayF (gap t x) t x = (k : Int) :: wayF (gap t (swp x k)) t (swp x k) ∧ gap t (swp x k) + 1 = gap t x := by
  have hne : x ≠ t := fun e => hg (by rw [e, gap_self])
  obtain ⟨k0, hk0, hu0⟩ := up_some ha hne
  have hf : ∃ k, firstUp t x = some k := by
    unfold firstUp
    cases e : (List.range x.length).find? (up t x) with
    | none =>
      have := List.find?_eq_none.1 e k0 (List.mem_range.2 hk0)
      exact absurd hu0 (by simpa using this)
    | some k => exact ⟨k, rfl⟩
  obtain ⟨k, hk⟩ := hf
  have hu : up t x k = true := List.find?_some hk
  exact ⟨k, (up_parts hu).2.2.2, hu, wayF_step ha hk hu, gap_up ha hu⟩
theorem way_nil (t x : List UInt8) (hg : gap t x = 0) : wayF (gap t x) t x = [] := by rw [hg]; rfl

theorem fold_back {l : List UInt8} {k : Nat} (h : foldAt 100 l (k : Int) = true) : foldAt 102 (swp l k) (k : Int) = true ∧ swp (swp l k) k = l := by
  obtain ⟨h0, h1, h2, h3, h4⟩ := valley_parts h
  have hs := swp_strip h
  have hl := swp_len l k h1 h2
  have hat := fun j => swp_at l k j h1 h2
  refine ⟨(foldAt_nat hs h1 (by omega)).2 ⟨?_, ?_⟩, ?_⟩
  · rw [hat (k - 1), if_pos rfl]; exact h4
  · rw [hat k, if_neg (by omega), if_pos rfl, h3]; decide
  · refine list_at (by rw [swp_len _ k h1 (by omega), hl]) fun j hj => ?_
    rw [swp_at (swp l k) k j h1 (by omega), hat k, hat (k - 1), if_neg (show ¬ k = k - 1 by omega), if_pos rfl, if_pos rfl, hat j]
    by_cases e1 : j = k - 1
    · rw [if_pos e1, e1]
    · rw [if_neg e1, if_neg e1]
      by_cases e2 : j = k
      · rw [if_pos e2, e2]
      · rw [if_neg e2, if_neg e2]

theorem raises_has {l : List UInt8} {k : Nat} (h : foldAt 100 l (k : Int) = true) : (k : Int) ∈ raisesOf l := by
  have hk := (valley_parts h).2.2.1
  exact List.mem_map.2 ⟨k, List.mem_filter.2 ⟨List.mem_range.2 hk, h⟩, rfl⟩
theorem raises_cnt (l : List UInt8) : (raisesOf l).length = cntF 100 l l.length := by
  have key : ∀ j, (kP (fun k => foldAt 100 l (k : Int)) j).length = cntF 100 l j := by
    intro j
    induction j with
    | zero => rfl
    | succ j ih =>
      cases h : foldAt 100 l (j : Int)
      · rw [kP_no h, ih]
        show cntF 100 l j = cntF 100 l j + _
        rw [if_neg (by rw [h]; simp)]
        rfl
      · rw [kP_yes h, List.length_append, ih]
        show cntF 100 l j + 1 = cntF 100 l j + _
        rw [if_pos h]
  exact key l.length
theorem raises_law {l : List UInt8} (h : isStrip l = true) : foldsOf l = (raisesOf l).length + peaksOf l + b1 (at_ l 0 = 102) + b1 (at_ l (l.length - 1) = 100) := by
  unfold foldsOf peaksOf
  rw [raises_cnt, cntK_is h _ (Nat.le_refl _)]

theorem filter_one (p : Nat → Bool) (k1 : Nat) (h : ∀ k, p k = true → k = k1) (h1 : p k1 = true) : ∀ n, (List.range n).filter p = if k1 < n then [k1] else [] := by
  intro n
  induction n with
  | zero => simp
  | succ n ih =>
    rw [List.range_succ, List.filter_append, ih]
    by_cases e : n = k1
    · subst e
      rw [if_neg (by omega), if_pos (by omega)]
      simp [h1]
    · have hp : p n = false := by
        cases hn : p n with
        | false => rfl
        | true => exact absurd (h n hn) e
      by_cases g : k1 < n
      · rw [if_pos g, if_pos (by omega)]; simp [hp]
      · rw [if_neg g, if_neg (by omega)]; simp [hp]
theorem nUp_one { t s : List UInt8} (ha : isAbove t s = true) (hg : gap t s = 1) : nUp t s = 1 := by
  have hne : s ≠ t := fun e => by rw [e, gap_self] at hg; omega
  obtain ⟨k1, hk1, hu1, _, hg1⟩ := way_cons ha (by omega)
  have hone : ∀ k, up t s k = true → swp s k = t := fun k hu => by
    have := gap_up ha hu
    exact gap_zero (up_parts hu).2.1 (by omega)
  have huniq : ∀ k, up t s k = true → k = k1 := fun k hu => by
    have e := (hone k hu).trans (hone k1 hu1).symm
    obtain ⟨a1, _, a3, a4⟩ := up_parts hu
    obtain ⟨b1', _, b3, b4⟩ := up_parts hu1
    have va := valley_parts a1
    have vb := valley_parts b1'
    have f1 := fw_swp s k a3 a4 va.2.2.2.1 va.2.2.2.2 k (by omega)
    have f2 := fw_swp s k1 b3 b4 vb.2.2.2.1 vb.2.2.2.2 k (by omega)
    rw [e, f2, if_pos rfl] at f1
    by_cases h : k = k1
    · exact h
    · rw [if_neg h] at f1; omega
  rw [nUp_step ha hne, filter_one (up t s) k1 huniq hu1, if_pos hk1]
  show nUp t (swp s k1) + 0 = 1
  rw [hone k1 hu1, nUp_self]

/-- the state of the law's loop behind k places -/
structure Flip (T : List UInt8) (W : List Int) (n : Nat) (k : Nat) (x : ByteArray) : Prop where
  above : isAbove T x.data.toList = true
  rest : W.drop k = wayF (gap T x.data.toList) T x.data.toList
  left : gap T x.data.toList + k = n
theorem Flip.done { T : List UInt8} {W : List Int} {n k : Nat} {x : ByteArray} (h : Flip T W n k x) (hk : W.length ≤ k) : x.data.toList = T ∧ k = n := by
  have hg : gap T x.data.toList = 0 := by
    refine Classical.byContradiction fun hg => ?_
    obtain ⟨k0, _, _, hw, _⟩ := way_cons h.above hg
    have := h.rest
    rw [hw, List.drop_eq_nil_of_le hk] at this
    exact absurd this (by simp)
  exact ⟨gap_zero h.above hg, by have := h.left; omega⟩
/-- one place of the way -/
theorem Flip.step { T : List UInt8} {W : List Int} {n k : Nat} {x : ByteArray} (h : Flip T W n k x) (hk : k < W.length) : ∃ k0 : Nat, W.getD k 0 = (k0 : Int) ∧ foldAt 100 x.data.toList (k0 : Int) = true ∧ foldAt 102 (turnB x k0).data.toList (k0 : Int) = true ∧ turnB (turnB x k0) k0 = x ∧ (k0 : Int) ∈ raisesOf x.data.toList ∧
    roomOf (turnB x k0).data.toList = roomOf x.data.toList + 1 ∧ (turnB x k0).size = x.size ∧ k0 < x.size ∧ Flip T W n (k + 1) (turnB x k0) := by
  have hg : gap T x.data.toList ≠ 0 := fun hg => by
    have := h.rest
    rw [way_nil T _ hg] at this
    have hl := congrArg List.length this
    rw [List.length_drop] at hl
    simp at hl
    omega
  obtain ⟨k0, hk0, hu, hw, hgs⟩ := way_cons h.above hg
  obtain ⟨hf, hab, h1, h2⟩ := up_parts hu
  rw [size_list] at h2
  have ht := turnB_list x k0 h1 h2
  have htz := turnB_size x k0 h1 h2
  obtain ⟨hf2, hss⟩ := fold_back hf
  have hcons : W.drop k = W.getD k 0 :: W.drop (k + 1) := by
    rw [List.drop_eq_getElem_cons hk]
    simp [List.getD, hk]
  have hr := h.rest
  rw [hcons, hw] at hr
  injection hr with hr1 hr2
  have hs := (valley_parts hf).1
  refine ⟨k0, hr1, hf, by rw [ht]; exact hf2, ?_, raises_has hf, ?_, htz, h2, ⟨by rw [ht]; exact hab, by rw [ht]; exact hr2, by rw [ht]; have := h.left; omega⟩⟩
  · have e := turnB_list (turnB x k0) k0 h1 (by rw [htz]; exact h2)
    rw [ht, hss] at e
    have := congrArg bs e
    rwa [bs_of, bs_of] at this
  · rw [ht]
    have hs2 := swp_strip hf
    have e1 : roomOf (swp x.data.toList k0) = sumI (hts (swp x.data.toList k0)) := by rw [← hts_all hs2]; exact if_pos hs2
    have e2 : roomOf x.data.toList = sumI (hts x.data.toList) := by rw [← hts_all hs]; exact if_pos hs
    rw [e1, e2]
    exact hts_swp_sum hf

end Go.Proofs.Ytpeopfkechbelaa
