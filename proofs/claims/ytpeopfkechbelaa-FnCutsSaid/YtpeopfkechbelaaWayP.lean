
/-
  Plain law of WayUp and CountWays: a strip that lies below another has a place where it can be raised and stays below; no program in sight.
-/
import Derived.Test.YtpeopfkechbelaaAbove
import Derived.Test.YtpeopfkechbelaaRaise
namespace Go.Proofs.Ytpeopfkechbelaa
open Go.ChangeShapes Go.WideShapes Go.ChangeAt Go.RowKit Go.Deep Go.BigFrame
set_option linter.unusedVariables false
set_option linter.unusedSimpArgs false

theorem at_app (a b : List UInt8) (j : Nat) : at_ (a ++ b) j = if j < a.length then at_ a j else at_ b (j - a.length) := by
  unfold at_
  rw [List.getD_eq_getElem?_getD, List.getElem?_append]
  by_cases h : j < a.length
  · rw [if_pos h, if_pos h]; rfl
  · rw [if_neg h, if_neg h]; rfl
theorem at_take (l : List UInt8) (k j : Nat) (h : j < k) : at_ (l.take k) j = at_ l j := by
  unfold at_
  rw [List.getD_eq_getElem?_getD, List.getElem?_take, if_pos h]; rfl
theorem at_drop (l : List UInt8) (k j : Nat) : at_ (l.drop k) j = at_ l (k + j) := by
  unfold at_
  rw [List.getD_eq_getElem?_getD, List.getElem?_drop]; rfl
theorem list_at {l m : List UInt8} (hl : l.length = m.length) (h : ∀ j, j < l.length → at_ l j = at_ m j) : l = m := by
  apply List.ext_getElem hl
  intro i h1 h2
  have := h i h1
  simpa [at_, List.getD, h1, h2] using this

/-- the letters k - 1 and k exchanged -/
def swp (l : List UInt8) (k : Nat) : List UInt8 := l.take (k - 1) ++ ([at_ l k] ++ ([at_ l (k - 1)] ++ l.drop (k + 1)))
theorem take_one_at (l : List UInt8) (k : Nat) (h : k < l.length) : (l.drop k).take 1 = [at_ l k] := by
  rw [List.drop_eq_getElem_cons h]
  show [l[k]] = [at_ l k]
  simp [at_, List.getD, h]
theorem swp_len (l : List UInt8) (k : Nat) (h1 : 1 ≤ k) (h2 : k < l.length) : (swp l k).length = l.length := by
  unfold swp
  simp only [List.length_append, List.length_take, List.length_cons, List.length_nil, List.length_drop]
  omega
theorem swp_at (l : List UInt8) (k j : Nat) (h1 : 1 ≤ k) (h2 : k < l.length) : at_ (swp l k) j = if j = k - 1 then at_ l k else if j = k then at_ l (k - 1) else at_ l j := by
  have e : (l.take (k - 1)).length = k - 1 := by rw [List.length_take]; omega
  unfold swp
  rw [at_app, e]
  by_cases a : j < k - 1
  · rw [if_pos a, if_neg (by omega), if_neg (by omega), at_take _ _ _ a]
  · rw [if_neg a]
    by_cases b : j = k - 1
    · rw [if_pos b, b, Nat.sub_self]; rfl
    · rw [if_neg b, at_app]
      have e1 : ([at_ l k] : List UInt8).length = 1 := rfl
      rw [e1, if_neg (by omega), at_app]
      by_cases c : j = k
      · rw [if_pos c]
        have e2 : j - (k - 1) - 1 = 0 := by omega
        rw [e2]; rfl
      · have e3 : ([at_ l (k - 1)] : List UInt8).length = 1 := rfl
        rw [if_neg c, e3, if_neg (by omega), at_drop]
        congr 1
        omega

theorem turnB_list (s : ByteArray) (k : Nat) (h1 : 1 ≤ k) (h2 : k < s.size) : (turnB s k).data.toList = swp s.data.toList k := by
  have hl : k < s.data.toList.length := by rw [size_list]; exact h2
  have e : (turnB s k).data.toList = s.data.toList.take (k - 1) ++ ((s.data.toList.drop k).take 1 ++ ((s.data.toList.drop (k - 1)).take 1 ++ s.data.toList.drop (k + 1))) := by
    have q1 : k + 1 - k = 1 := by omega
    have q2 : k - (k - 1) = 1 := by omega
    have q3 : (s.data.toList.drop (k + 1)).take (s.size - (k + 1)) = s.data.toList.drop (k + 1) := List.take_of_length_le (by rw [List.length_drop, size_list]; exact Nat.le_refl _)
    unfold turnB
    simp only [ByteArray.data_append, ByteArray.data_extract, Array.toList_append, Array.toList_extract, List.extract_eq_take_drop, List.append_assoc, List.drop_zero, Nat.sub_zero, q1, q2, q3]
  rw [e, take_one_at _ _ hl, take_one_at _ _ (by omega)]
  rfl
theorem turnB_size (s : ByteArray) (k : Nat) (h1 : 1 ≤ k) (h2 : k < s.size) : (turnB s k).size = s.size := by
  rw [← size_list, turnB_list s k h1 h2, swp_len _ _ h1 (by rw [size_list]; exact h2), size_list]

/-- a valley of a strip -/
theorem valley_parts {l : List UInt8} {k : Nat} (h : foldAt 100 l (k : Int) = true) : isStrip l = true ∧ 1 ≤ k ∧ k < l.length ∧ at_ l (k - 1) = 100 ∧ at_ l k = 102 := by
  simp only [foldAt, corner, Bool.and_eq_true, decide_eq_true_eq, Bool.not_eq_true', decide_eq_false_iff_not, Int.toNat_natCast] at h
  obtain ⟨h1, _, ⟨h3, h4, h5⟩, h6⟩ := h
  refine ⟨h1, h3, by omega, h6, ?_⟩
  cases Classical.em (at_ l k = 102) with
  | inl e => exact e
  | inr e =>
    exfalso
    rw [h6] at h5
    have := other_letter l k (by omega) (fun e2 => h5 e2.symm) e
    rw [h1] at this
    exact absurd this (by decide)
theorem valley_mk {l : List UInt8} {k : Nat} (h1 : isStrip l = true) (h2 : 1 ≤ k) (h3 : k < l.length) (h4 : at_ l (k - 1) = 100) (h5 : at_ l k = 102) : foldAt 100 l (k : Int) = true := by
  simp only [foldAt, corner, Bool.and_eq_true, decide_eq_true_eq, Bool.not_eq_true', decide_eq_false_iff_not, Int.toNat_natCast]
  refine ⟨h1, by omega, ⟨h2, by omega, ?_⟩, h4⟩
  rw [h4, h5]
  decide

/-- beginnings of a raised strip -/
theorem fw_swp (l : List UInt8) (k : Nat) (h1 : 1 ≤ k) (h2 : k < l.length) (h3 : at_ l (k - 1) = 100) (h4 : at_ l k = 102) : ∀ j, j ≤ l.length → fw ((swp l k).take j) = fw (l.take j) + if j = k then 1 else 0 := by
  intro j
  induction j with
  | zero => intro _; rw [if_neg (by omega)]; rfl
  | succ j ih =>
    intro hj
    have i := ih (by omega)
    rw [fw_take _ _ (by rw [swp_len l k h1 h2]; omega), fw_take l j (by omega), i]
    have e12 : ¬ (100 : UInt8) = 102 := by decide
    by_cases a : j = k - 1
    · have b1 : ¬ j = k := by omega
      have b2 : j + 1 = k := by omega
      have b3 : at_ l j = 100 := by rw [a]; exact h3
      have q : at_ (swp l k) j = 102 := by rw [swp_at l k j h1 h2, if_pos a, h4]
      rw [q, b3, if_neg b1, if_pos rfl, if_neg e12, if_pos b2]
    · by_cases b : j = k
      · have b2 : ¬ j + 1 = k := by omega
        have b3 : at_ l j = 102 := by rw [b]; exact h4
        have q : at_ (swp l k) j = 100 := by rw [swp_at l k j h1 h2, if_neg a, if_pos b, h3]
        rw [q, b3, if_pos b, if_neg e12, if_pos rfl, if_neg b2]
      · have b2 : ¬ j + 1 = k := by omega
        have q : at_ (swp l k) j = at_ l j := by rw [swp_at l k j h1 h2, if_neg a, if_neg b]
        rw [q, if_neg b, if_neg b2]
        omega
theorem dn_swp (l : List UInt8) (k : Nat) (h1 : 1 ≤ k) (h2 : k < l.length) (h3 : at_ l (k - 1) = 100) (h4 : at_ l k = 102) : ∀ j, j ≤ l.length → dn ((swp l k).take j) + (if j = k then 1 else 0) = dn (l.take j) := by
  intro j
  induction j with
  | zero => intro _; rw [if_neg (by omega)]; rfl
  | succ j ih =>
    intro hj
    have i := ih (by omega)
    rw [dn_take _ _ (by rw [swp_len l k h1 h2]; omega), dn_take l j (by omega), ← i]
    have e12 : ¬ (102 : UInt8) = 100 := by decide
    by_cases a : j = k - 1
    · have b1 : ¬ j = k := by omega
      have b2 : j + 1 = k := by omega
      have b3 : at_ l j = 100 := by rw [a]; exact h3
      have q : at_ (swp l k) j = 102 := by rw [swp_at l k j h1 h2, if_pos a, h4]
      rw [q, b3, if_neg e12, if_pos b2, if_neg b1, if_pos rfl]
    · by_cases b : j = k
      · have b2 : ¬ j + 1 = k := by omega
        have b3 : at_ l j = 102 := by rw [b]; exact h4
        have q : at_ (swp l k) j = 100 := by rw [swp_at l k j h1 h2, if_neg a, if_pos b, h3]
        rw [q, b3, if_pos rfl, if_neg b2, if_pos b, if_neg e12]
      · have b2 : ¬ j + 1 = k := by omega
        have q : at_ (swp l k) j = at_ l j := by rw [swp_at l k j h1 h2, if_neg a, if_neg b]
        rw [q, if_neg b2, if_neg b]
        omega

theorem swp_counts {l : List UInt8} {k : Nat} (h : foldAt 100 l (k : Int) = true) : fw (swp l k) = fw l ∧ dn (swp l k) = dn l ∧ (swp l k).length = l.length := by
  obtain ⟨h0, h1, h2, h3, h4⟩ := valley_parts h
  have e := swp_len l k h1 h2
  have a := fw_swp l k h1 h2 h3 h4 l.length (Nat.le_refl _)
  have b := dn_swp l k h1 h2 h3 h4 l.length (Nat.le_refl _)
  rw [if_neg (by omega)] at a b
  have e1 : (swp l k).take l.length = swp l k := by rw [← e]; exact List.take_length
  rw [e1, List.take_length] at a b
  exact ⟨by omega, by omega, e⟩
theorem swp_strip {l : List UInt8} {k : Nat} (h : foldAt 100 l (k : Int) = true) : isStrip (swp l k) = true := by
  obtain ⟨a, b, c⟩ := swp_counts h
  have := (valley_parts h).1
  unfold isStrip at this ⊢
  rw [a, b, c]
  exact this
theorem swp_frame { t l : List UInt8} {k : Nat} (h : foldAt 100 l (k : Int) = true) (hf : sameFrame t l = true) : sameFrame t (swp l k) = true := by
  obtain ⟨a, b, c⟩ := swp_counts h
  obtain ⟨h1, h2, h3, h4⟩ := sameFrame_parts hf
  simp only [sameFrame, Bool.and_eq_true, decide_eq_true_eq]
  exact ⟨h1, swp_strip h, by omega, by omega⟩

/-- s can be raised at k and stays below t -/
def up (t s : List UInt8) (k : Nat) : Bool := foldAt 100 s (k : Int) && isAbove t (swp s k)
theorem up_iff { t s : List UInt8} {k : Nat} (ha : isAbove t s = true) (h : foldAt 100 s (k : Int) = true) : isAbove t (swp s k) = decide (fw (s.take k) < fw (t.take k)) := by
  obtain ⟨h0, h1, h2, h3, h4⟩ := valley_parts h
  obtain ⟨hf, hall⟩ := isAbove_parts ha
  have hff := swp_frame h hf
  have hfs := fw_swp s k h1 h2 h3 h4
  rw [Bool.eq_iff_iff, decide_eq_true_eq]
  constructor
  · intro e
    have := (isAbove_parts e).2 k
    rw [hfs k (by omega), if_pos rfl] at this
    omega
  · intro e
    refine isAbove_mk hff fun j => ?_
    by_cases hj : j ≤ s.length
    · rw [hfs j hj]
      by_cases b : j = k
      · rw [if_pos b, b]; omega
      · rw [if_neg b]; have := hall j; omega
    · have e1 := List.take_of_length_le (l := swp s k) (i := j) (by rw [swp_len s k h1 h2]; omega)
      have e2 := List.take_of_length_le (l := t) (i := j) (by rw [sameFrame_len hf]; omega)
      have := (sameFrame_parts hff).2.2.2
      rw [e1, e2]
      omega

/-- s lies below t and is another strip: there is a place -/
theorem up_some { t s : List UInt8} (ha : isAbove t s = true) (hne : s ≠ t) : ∃ k, k < s.length ∧ up t s k = true := by
  obtain ⟨hf, hall⟩ := isAbove_parts ha
  obtain ⟨ht, hs, _, hfw⟩ := sameFrame_parts hf
  have hlen := sameFrame_len hf
  -- a beginning with fewer letters f
  have h1 : ∃ j, fw (s.take j) < fw (t.take j) := by
    refine Classical.byContradiction fun hno => hne ?_
    have heq : ∀ j, fw (s.take j) = fw (t.take j) := fun j => by
      have := hall j
      have : ¬ fw (s.take j) < fw (t.take j) := fun e => hno ⟨j, e⟩
      omega
    refine list_at hlen.symm fun j hj => ?_
    have a := fw_take s j hj
    have b := fw_take t j (by omega)
    rw [heq, heq] at a
    have key : ∀ l : List UInt8, isStrip l = true → j < l.length → at_ l j = 102 ∨ at_ l j = 100 := fun l hl hjl => by
      refine Classical.byContradiction fun hno => ?_
      have := other_letter l j hjl (fun e => hno (Or.inr e)) (fun e => hno (Or.inl e))
      rw [hl] at this
      exact absurd this (by decide)
    rcases key s hs hj with e | e <;> rcases key t ht (by omega) with e' | e'
    · rw [e, e']
    · rw [e, if_pos rfl] at a; rw [e', if_neg (by decide)] at b; omega
    · rw [e, if_neg (by decide)] at a; rw [e', if_pos rfl] at b; omega
    · rw [e, e']
  obtain ⟨j, hj⟩ := h1
  have hjl : j < s.length := by
    refine Classical.byContradiction fun hno => ?_
    have e1 := List.take_of_length_le (l := s) (i := j) (by omega)
    have e2 := List.take_of_length_le (l := t) (i := j) (by omega)
    rw [e1, e2] at hj
    omega
  -- the last beginning, from j on, that is a step down in s
  have step : ∀ m j, j + m = s.length → (fw (s.take j) < fw (t.take j)) → (j = 0 ∨ at_ s (j - 1) = 100 ∨ ∃ i, i < j ∧ 0 < i ∧ up t s i = true) → ∃ k, k < s.length ∧ up t s k = true := by
    intro m
    induction m with
    | zero =>
      intro j hj hlt _
      exfalso
      have e1 := List.take_of_length_le (l := s) (i := j) (by omega)
      have e2 := List.take_of_length_le (l := t) (i := j) (by omega)
      rw [e1, e2] at hlt
      omega
    | succ m ih =>
      intro j hj hlt hd
      have hjl : j < s.length := by omega
      have hkey : at_ s j = 102 ∨ at_ s j = 100 := by
        refine Classical.byContradiction fun hno => ?_
        have := other_letter s j hjl (fun e => hno (Or.inr e)) (fun e => hno (Or.inl e))
        rw [hs] at this
        exact absurd this (by decide)
      rcases hd with hd | hd | ⟨i, hi, hi0, hu⟩
      · exfalso
        subst hd
        simp [fw] at hlt
      · rcases hkey with e | e
        · have hj1 : 1 ≤ j := by
            refine Classical.byContradiction fun h0 => ?_
            have : j = 0 := by omega
            subst this
            simp [fw] at hlt
          have hv := valley_mk hs hj1 hjl hd e
          refine ⟨j, hjl, ?_⟩
          unfold up
          rw [hv, up_iff ha hv, decide_eq_true hlt]
          rfl
        · refine ih (j + 1) (by omega) ?_ (Or.inr (Or.inl (by simpa using e)))
          have a := fw_take s j hjl
          have b := fw_take t j (by omega)
          rw [e, if_neg (by decide)] at a
          omega
      · exact ⟨i, by omega, hu⟩
  -- the first such beginning ends with a step down in s
  have first : ∀ j, j ≤ s.length → fw (s.take j) < fw (t.take j) → ∃ i, i ≤ s.length ∧ 1 ≤ i ∧ fw (s.take i) < fw (t.take i) ∧ at_ s (i - 1) = 100 := by
    intro j
    induction j with
    | zero => intro _ h; simp [fw] at h
    | succ j ih =>
      intro hj h
      by_cases hb : fw (s.take j) < fw (t.take j)
      · exact ih (by omega) hb
      · refine ⟨j + 1, hj, by omega, h, ?_⟩
        have a := fw_take s j (by omega)
        have b := fw_take t j (by omega)
        have c := hall j
        have hkey : at_ s j = 102 ∨ at_ s j = 100 := by
          refine Classical.byContradiction fun hno => ?_
          have := other_letter s j (by omega) (fun e => hno (Or.inr e)) (fun e => hno (Or.inl e))
          rw [hs] at this
          exact absurd this (by decide)
        rcases hkey with e | e
        · exfalso
          rw [e, if_pos rfl] at a
          by_cases e2 : at_ t j = 102
          · rw [if_pos e2] at b; omega
          · rw [if_neg e2] at b; omega
        · simpa using e
  obtain ⟨i, hi, hi1, hilt, hid⟩ := first j (by omega) hj
  exact step (s.length - i) i (by omega) hilt (Or.inr (Or.inl hid))

/-- how far s lies below t -/
def gap (t s : List UInt8) : Nat := ((List.range (s.length + 1)).map fun k => fw (t.take k) - fw (s.take k)).sum

theorem sum_range_one (f g : Nat → Nat) (k : Nat) : ∀ n, (∀ j, j ≠ k → g j = f j) → g k + 1 = f k → ((List.range n).map g).sum + (if k < n then 1 else 0) = ((List.range n).map f).sum := by
  intro n hj hk
  induction n with
  | zero => simp
  | succ n ih =>
    rw [List.range_succ, List.map_append, List.map_append, List.sum_append, List.sum_append]
    simp only [List.map_cons, List.map_nil, List.sum_cons, List.sum_nil, Nat.add_zero]
    by_cases e : k = n
    · subst e
      rw [if_neg (by omega)] at ih
      rw [if_pos (by omega)]
      omega
    · have := hj n (fun h => e h.symm)
      by_cases e2 : k < n
      · rw [if_pos e2] at ih
        rw [if_pos (by omega)]
        omega
      · rw [if_neg e2] at ih
        rw [if_neg (by omega)]
        omega

theorem gap_up { t s : List UInt8} {k : Nat} (ha : isAbove t s = true) (h : up t s k = true) : gap t (swp s k) + 1 = gap t s := by
  simp only [up, Bool.and_eq_true] at h
  obtain ⟨hv, hu⟩ := h
  rw [up_iff ha hv, decide_eq_true_eq] at hu
  obtain ⟨h0, h1, h2, h3, h4⟩ := valley_parts hv
  have hfs := fw_swp s k h1 h2 h3 h4
  unfold gap
  rw [swp_len s k h1 h2]
  have e : ((List.range (s.length + 1)).map fun j => fw (t.take j) - fw ((swp s k).take j)) = (List.range (s.length + 1)).map fun j => if j = k then fw (t.take j) - fw (s.take j) - 1 else fw (t.take j) - fw (s.take j) := by
    refine List.map_congr_left fun j hj => ?_
    rw [List.mem_range] at hj
    rw [hfs j (by omega)]
    by_cases b : j = k
    · rw [if_pos b, if_pos b]; omega
    · rw [if_neg b, if_neg b]; rfl
  rw [e]
  have := sum_range_one (fun j => fw (t.take j) - fw (s.take j)) (fun j => if j = k then fw (t.take j) - fw (s.take j) - 1 else fw (t.take j) - fw (s.take j)) k (s.length + 1)
    (fun j hj => if_neg hj) (by simp only [if_true]; omega)
  rw [if_pos (by omega)] at this
  exact this

theorem gap_self (t : List UInt8) : gap t t = 0 := by
  unfold gap
  simp [List.map_const']
theorem gap_zero { t s : List UInt8} (ha : isAbove t s = true) (h : gap t s = 0) : s = t := by
  refine Classical.byContradiction fun hne => ?_
  obtain ⟨k, _, hk⟩ := up_some ha hne
  have := gap_up ha hk
  omega
theorem gap_le { t s : List UInt8} : gap t s ≤ (s.length + 1) * t.length := by
  unfold gap
  have h : ∀ n, ((List.range n).map fun k => fw (t.take k) - fw (s.take k)).sum ≤ n * t.length := by
    intro n
    induction n with
    | zero => simp
    | succ n ih =>
      rw [List.range_succ, List.map_append, List.sum_append]
      simp only [List.map_cons, List.map_nil, List.sum_cons, List.sum_nil, Nat.add_zero]
      have a := fw_le (t.take n)
      have b : (t.take n).length ≤ t.length := by rw [List.length_take]; omega
      have c : (n + 1) * t.length = n * t.length + t.length := Nat.succ_mul _ _
      omega
  exact h _

/-- the first place where s can be raised and stays below t -/
def firstUp (t s : List UInt8) : Option Nat := (List.range s.length).find? (up t s)
theorem firstUp_is { t s : List UInt8} {k : Nat} (hk : k < s.length) (h : up t s k = true) (hno : ∀ j, j < k → up t s j = false) : firstUp t s = some k := by
  unfold firstUp
  have e : List.range s.length = List.range k ++ (k :: (List.range (s.length - (k + 1))).map (k + 1 + ·)) := by
    have h1 : s.length = k + (1 + (s.length - (k + 1))) := by omega
    conv => lhs; rw [h1]
    rw [List.range_add, List.range_add, List.map_append]
    simp [List.range_succ, Function.comp_def, Nat.add_assoc]
  rw [e, List.find?_append]
  have : (List.range k).find? (up t s) = none := by
    rw [List.find?_eq_none]
    intro j hj
    rw [List.mem_range] at hj
    rw [hno j hj]
    decide
  rw [this, List.find?_cons, h]
  rfl
/-- the places of a way up -/
def wayF : Nat → List UInt8 → List UInt8 → List Int
  | 0, _, _ => []
  | n + 1, t, s => (firstUp t s).elim [] fun k => (k : Int) :: wayF n t (swp s k)
def wayUp (s t : List UInt8) : List Int := if isAbove t s = true then wayF (gap t s) t s else []
theorem wayF_step { t s : List UInt8} {k : Nat} (ha : isAbove t s = true) (h : firstUp t s = some k) (hu : up t s k = true) : wayF (gap t s) t s = (k : Int) :: wayF (gap t (swp s k)) t (swp s k) := by
  have e := gap_up ha hu
  rw [← e]
  show (firstUp t s).elim [] (fun k' => (k' : Int) :: wayF (gap t (swp s k)) t (swp s k')) = _
  rw [h]
  rfl
theorem wayF_len { t : List UInt8} : ∀ (n : Nat) (s : List UInt8), (wayF n t s).length ≤ n := by
  intro n
  induction n with
  | zero => intro s; exact Nat.le_refl _
  | succ n ih =>
    intro s
    show ((firstUp t s).elim [] fun k => (k : Int) :: wayF n t (swp s k)).length ≤ n + 1
    cases firstUp t s with
    | none => simp
    | some k => have := ih (swp s k); simp only [Option.elim_some, List.length_cons]; omega

end Go.Proofs.Ytpeopfkechbelaa
