
/-
  Plain law: a raise makes the room under a strip greater by one, and the area between two strips, one above the other, is the number of raises; no program in sight.
-/
import Derived.Test.YtpeopfkechbelaaWayP
import Derived.Test.YtpeopfkechbelaaArea
namespace Go.Proofs.Ytpeopfkechbelaa
open Go.ChangeShapes Go.WideShapes Go.ChangeAt Go.RowKit Go.Deep Go.BigFrame
set_option linter.unusedVariables false
set_option linter.unusedSimpArgs false

/-- the steps down behind each step forward -/
def hts : List UInt8 → List Int
  | [] => []
  | c :: l => if c = 102 then (dn l : Int) :: hts l else hts l
theorem hts_yes (l : List UInt8) : hts (102 :: l) = (dn l : Int) :: hts l := if_pos rfl
theorem hts_no (c : UInt8) (l : List UInt8) (h : ¬ c = 102) : hts (c :: l) = hts l := if_neg h
theorem hts_app (a b : List UInt8) : hts (a ++ b) = (hts a).map (· + (dn b : Int)) ++ hts b := by
  induction a with
  | nil => rfl
  | cons c a ih =>
    by_cases h : c = 102
    · subst h
      rw [List.cons_append, hts_yes, hts_yes, ih, dn_app]
      simp
    · rw [List.cons_append, hts_no _ _ h, hts_no _ _ h, ih]

theorem hts_take (l : List UInt8) : ∀ j, j ≤ l.length → dn (l.take j) + fw (l.take j) = j → hP l j = (hts (l.take j)).map (· + ((dn l : Int) - dn (l.take j))) := by
  intro j
  induction j with
  | zero => intro _ _; rfl
  | succ j ih =>
    intro hj hs
    have b := both_le (l.take j)
    have e0 : (l.take j).length = j := by rw [List.length_take]; omega
    rw [dn_take l j (by omega), fw_take l j (by omega)] at hs
    have h102 : at_ l j = 102 → ¬ at_ l j = 100 := fun e => by rw [e]; decide
    have hsj : dn (l.take j) + fw (l.take j) = j := by
      by_cases a : at_ l j = 102
      · rw [if_neg (h102 a), if_pos a] at hs; omega
      · rw [if_neg a] at hs
        by_cases a2 : at_ l j = 100
        · rw [if_pos a2] at hs; omega
        · rw [if_neg a2] at hs; omega
    have i := ih (by omega) hsj
    rw [take_at l j (by omega), hts_app, dn_app, dn_one]
    by_cases a : at_ l j = 102
    · rw [hP_yes a, i, if_neg (h102 a), a]
      have e2 : hts [(102 : UInt8)] = [0] := by rw [hts_yes]; rfl
      have e3 : dn [(102 : UInt8)] = 0 := by decide
      rw [e2]
      simp only [List.map_append, List.map_map, List.map_cons, List.map_nil, Function.comp_def]
      congr 1
      · refine List.map_congr_left fun x _ => ?_
        simp
      · congr 1
        have : (j : Int) - fw (l.take j) = dn (l.take j) := by omega
        rw [this]
        simp
    · rw [hP_no a, i]
      by_cases a2 : at_ l j = 100
      · rw [if_pos a2, a2]
        have e2 : hts [(100 : UInt8)] = [] := by rw [hts_no _ _ (by decide)]; rfl
        have e3 : dn [(100 : UInt8)] = 1 := by decide
        rw [e2, List.append_nil, List.map_map]
        refine List.map_congr_left fun x _ => ?_
        simp only [Function.comp_def]
        omega
      · rw [if_neg a, if_neg a2] at hs; omega

theorem hts_all {l : List UInt8} (h : isStrip l = true) : hP l l.length = hts l := by
  have := hts_take l l.length (Nat.le_refl _) (by rw [List.take_length]; exact (isStrip_parts h).1)
  rw [List.take_length] at this
  rw [this]
  have e : (fun x : Int => x + ((dn l : Int) - dn l)) = id := by funext x; simp
  rw [e, List.map_id]

theorem hts_len (l : List UInt8) : (hts l).length = fw l := by
  induction l with
  | nil => rfl
  | cons c l ih =>
    by_cases h : c = 102
    · subst h; rw [hts_yes, List.length_cons, ih]; simp [fw, List.count_cons]
    · rw [hts_no _ _ h, ih]; simp [fw, List.count_cons, h]

/-- one raise: one height is greater by one -/
theorem hts_swp {s : List UInt8} {k : Nat} (h : foldAt 100 s (k : Int) = true) : ∃ (a b : List Int) (v : Int), hts s = a ++ v :: b ∧ hts (swp s k) = a ++ (v + 1) :: b := by
  obtain ⟨h0, h1, h2, h3, h4⟩ := valley_parts h
  have e : s = s.take (k - 1) ++ (100 :: 102 :: s.drop (k + 1)) := by
    have e1 := split_at s (k - 1) (by omega)
    have e2 : s.drop (k - 1 + 1) = 102 :: s.drop (k + 1) := by
      rw [show k - 1 + 1 = k by omega, List.drop_eq_getElem_cons h2]
      have : s[k] = at_ s k := by simp [at_, List.getD, h2]
      rw [this, h4]
    rw [e2, h3] at e1
    exact e1
  have e' : swp s k = s.take (k - 1) ++ (102 :: 100 :: s.drop (k + 1)) := by
    unfold swp
    rw [h3, h4]
    rfl
  generalize s.take (k - 1) = A at *
  generalize s.drop (k + 1) = B at *
  refine ⟨(hts A).map (· + (dn B + 1 : Int)), hts B, dn B, ?_, ?_⟩
  · rw [e, hts_app, hts_no _ _ (by decide), hts_yes]
    have : dn (100 :: 102 :: B) = dn B + 1 := by simp [dn, List.count_cons]
    rw [this]
    simp
  · rw [e', hts_app, hts_yes, hts_no _ _ (by decide)]
    have : dn (102 :: 100 :: B) = dn B + 1 := by simp [dn, List.count_cons]
    have t2 : dn (100 :: B) = dn B + 1 := by simp [dn, List.count_cons]
    rw [this, t2]
    simp

theorem getD_mid (a b : List Int) (v : Int) (i : Nat) : (a ++ v :: b).getD i 0 = if i < a.length then a.getD i 0 else if i = a.length then v else b.getD (i - a.length - 1) 0 := by
  simp only [List.getD_eq_getElem?_getD, List.getElem?_append]
  by_cases h : i < a.length
  · rw [if_pos h, if_pos h]
  · rw [if_neg h, if_neg h]
    by_cases h2 : i = a.length
    · rw [if_pos h2, h2, Nat.sub_self]; rfl
    · rw [if_neg h2]
      have : i - a.length = (i - a.length - 1) + 1 := by omega
      rw [this, List.getElem?_cons_succ]
      simp

theorem hts_swp_le {s : List UInt8} {k : Nat} (h : foldAt 100 s (k : Int) = true) (i : Nat) : (hts s).getD i 0 ≤ (hts (swp s k)).getD i 0 := by
  obtain ⟨a, b, v, e1, e2⟩ := hts_swp h
  rw [e1, e2, getD_mid, getD_mid]
  by_cases h1 : i < a.length
  · rw [if_pos h1, if_pos h1]; exact Int.le_refl _
  · rw [if_neg h1, if_neg h1]
    by_cases h2 : i = a.length
    · rw [if_pos h2, if_pos h2]; omega
    · rw [if_neg h2, if_neg h2]; exact Int.le_refl _
theorem hts_swp_sum {s : List UInt8} {k : Nat} (h : foldAt 100 s (k : Int) = true) : (hts (swp s k)).sum = (hts s).sum + 1 := by
  obtain ⟨a, b, v, e1, e2⟩ := hts_swp h
  rw [e1, e2]
  simp only [List.sum_append, List.sum_cons]
  omega

/-- the steps of a way up, by induction -/
theorem way_ind { t : List UInt8} {Q : List UInt8 → Prop} (h0 : Q t) (hs : ∀ s k, isAbove t s = true → up t s k = true → Q (swp s k) → Q s) : ∀ (n : Nat) (s : List UInt8), isAbove t s = true → gap t s ≤ n → Q s := by
  intro n
  induction n with
  | zero =>
    intro s ha hg
    rw [gap_zero ha (by omega)]
    exact h0
  | succ n ih =>
    intro s ha hg
    by_cases e : s = t
    · rw [e]; exact h0
    · obtain ⟨k, hk, hu⟩ := up_some ha e
      have g := gap_up ha hu
      have hu' := hu
      simp only [up, Bool.and_eq_true] at hu'
      exact hs s k ha hu (ih _ hu'.2 (by omega))

theorem hts_above { t s : List UInt8} (ha : isAbove t s = true) : (∀ i, (hts s).getD i 0 ≤ (hts t).getD i 0) ∧ (hts t).sum = (hts s).sum + gap t s := by
  refine way_ind (t := t) (Q := fun s => (∀ i, (hts s).getD i 0 ≤ (hts t).getD i 0) ∧ (hts t).sum = (hts s).sum + gap t s) ?_ ?_ (gap t s) s ha (Nat.le_refl _)
  · refine ⟨fun i => Int.le_refl _, ?_⟩
    rw [gap_self]; simp
  · intro s k ha hu ⟨q1, q2⟩
    have g := gap_up ha hu
    simp only [up, Bool.and_eq_true] at hu
    have e := hts_swp_sum hu.1
    exact ⟨fun i => Int.le_trans (hts_swp_le hu.1 i) (q1 i), by omega⟩

theorem sum_getD (xs : List Int) : ∀ n, xs.length ≤ n → ((List.range n).map fun i => xs.getD i 0).sum = xs.sum := by
  induction xs with
  | nil =>
    intro n _
    induction n with
    | zero => rfl
    | succ n ih => rw [List.range_succ, List.map_append, List.sum_append, ih (by simp)]; simp
  | cons x xs ih =>
    intro n hn
    cases n with
    | zero => simp at hn
    | succ n =>
      rw [List.range_succ_eq_map, List.map_cons, List.map_map, List.sum_cons]
      have := ih n (by simpa using hn)
      simp only [Function.comp_def, List.getD_cons_succ, List.getD_cons_zero, List.sum_cons] at this ⊢
      rw [this]
theorem sum_sub (f g : Nat → Int) (n : Nat) : ((List.range n).map fun i => f i - g i).sum = ((List.range n).map f).sum - ((List.range n).map g).sum := by
  induction n with
  | zero => rfl
  | succ n ih =>
    simp only [List.range_succ, List.map_append, List.sum_append, List.map_cons, List.map_nil, List.sum_cons, List.sum_nil] at ih ⊢
    omega

theorem area_above { t s : List UInt8} (ha : isAbove t s = true) : areaOf s t = gap t s ∧ areaOf t s = gap t s := by
  obtain ⟨hf, _⟩ := isAbove_parts ha
  obtain ⟨p1, p2, p3, p4⟩ := sameFrame_parts hf
  have hf' : sameFrame s t = true := by
    simp only [sameFrame, Bool.and_eq_true, decide_eq_true_eq]
    exact ⟨p2, p1, p3.symm, p4.symm⟩
  obtain ⟨q1, q2⟩ := hts_above ha
  have l1 := hts_len s
  have l2 := hts_len t
  have s1 := sum_getD (hts s) (fw s) (by omega)
  have s2 := sum_getD (hts t) (fw s) (by omega)
  have e := sum_sub (fun i => (hts t).getD i 0) (fun i => (hts s).getD i 0) (fw s)
  constructor
  · unfold areaOf
    rw [if_pos hf', hts_all p1, hts_all p2]
    unfold aP
    have : ((List.range (fw s)).map fun i => max ((hts s).getD i 0 - (hts t).getD i 0) ((hts t).getD i 0 - (hts s).getD i 0)) = (List.range (fw s)).map fun i => (hts t).getD i 0 - (hts s).getD i 0 := by
      refine List.map_congr_left fun i _ => ?_
      have := q1 i
      omega
    rw [this, e, s1, s2]
    omega
  · unfold areaOf
    rw [if_pos hf, hts_all p1, hts_all p2, p4]
    unfold aP
    have : ((List.range (fw s)).map fun i => max ((hts t).getD i 0 - (hts s).getD i 0) ((hts s).getD i 0 - (hts t).getD i 0)) = (List.range (fw s)).map fun i => (hts t).getD i 0 - (hts s).getD i 0 := by
      refine List.map_congr_left fun i _ => ?_
      have := q1 i
      omega
    rw [this, e, s1, s2]
    omega

end Go.Proofs.Ytpeopfkechbelaa
