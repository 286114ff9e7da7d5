
/-
  Plain law of cuts: runs, areas as distances, cuts and areas; no program in sight.
-/
import Derived.Test.YtpeopfkechbelaaRunsC
import Derived.Test.YtpeopfkechbelaaLatP
namespace Go.Proofs.Ytpeopfkechbelaa
open Go.ChangeShapes Go.WideShapes Go.ChangeAt Go.RowKit Go.Deep Go.BigFrame
set_option linter.unusedVariables false
set_option linter.unusedSimpArgs false

/-- how many numbers the first runs hold -/
def sumR (xss : List (List Int)) : Nat → Int
  | 0 => 0
  | k + 1 => sumR xss k + (xss.getD k []).getD 1 0 - (xss.getD k []).getD 0 0 + 1
theorem sumR_succ (xss : List (List Int)) (k : Nat) : sumR xss (k + 1) = sumR xss k + (xss.getD k []).getD 1 0 - (xss.getD k []).getD 0 0 + 1 := rfl
theorem sumR_congr {xss yss : List (List Int)} : ∀ n : Nat, (∀ i, i < n → xss.getD i [] = yss.getD i []) → sumR xss n = sumR yss n := by
  intro n
  induction n with
  | zero => intro _; rfl
  | succ n ih =>
    intro h
    rw [sumR_succ, sumR_succ, ih (fun i hi => h i (by omega)), h n (by omega)]

/-- the runs of the numbers L -/
structure RunsOk (L : List Int) (xss : List (List Int)) : Prop where
  pair : ∀ i, i < xss.length → ∃ a b, xss.getD i [] = [a, b] ∧ a ≤ b ∧ a ∈ L ∧ b ∈ L ∧ ¬ (b + 1) ∈ L
  sum : sumR xss xss.length = (L.length : Int)
  last : L ≠ [] → ∃ m a b, xss.length = m + 1 ∧ xss.getD m [] = [a, b] ∧ ∀ i, i < m → ∀ a' b', xss.getD i [] = [a', b'] → b' < b
  none : L = [] → xss = []
theorem RunsOk.nil_ : RunsOk [] [] := ⟨fun i h => absurd h (by simp), rfl, fun h => absurd rfl h, fun _ => rfl⟩

theorem snoc_sum (xss : List (List Int)) (z : Int) : sumR (xss ++ [[z, z]]) (xss ++ [[z, z]]).length = sumR xss xss.length + 1 := by
  rw [List.length_append, List.length_singleton, sumR_succ, getD_end _ _ _ _ rfl, sumR_congr (yss := xss) xss.length (fun i hi => getD_lt _ _ _ _ hi)]
  simp only [List.getD_cons_succ, List.getD_cons_zero]
  omega
theorem RunsOk.step {L : List Int} {xss : List (List Int)} {z : Int} (h : RunsOk L xss) (hz : ∀ x ∈ L, x < z) : RunsOk (L ++ [z]) (runStep xss z) := by
  have hin : ∀ {x : Int}, x ∈ L → x ∈ L ++ [z] := fun hx => List.mem_append_left _ hx
  have hzin : z ∈ L ++ [z] := by simp
  have hznext : ¬ (z + 1) ∈ L ++ [z] := fun hx => by
    rcases List.mem_append.1 hx with h1 | h1
    · have := hz _ h1; omega
    · simp at h1; omega
  have hne : L ++ [z] ≠ [] := by simp
  by_cases hL : L = []
  · have hx := h.none hL
    subst hL
    subst hx
    rw [step_new rfl]
    refine ⟨fun i hi => ?_, ?_, fun _ => ⟨0, z, z, rfl, rfl, fun i hi => absurd hi (by omega)⟩, fun e => absurd e hne⟩
    · have hi0 : i = 0 := by simp at hi; omega
      subst hi0
      exact ⟨z, z, rfl, Int.le_refl _, hzin, hzin, hznext⟩
    · simp [sumR]
  · obtain ⟨m, a, b, hm, hab, hlt⟩ := h.last hL
    obtain ⟨a1, b1, hab1, p1, p2, p3, p4⟩ := h.pair m (by omega)
    rw [hab] at hab1
    obtain ⟨rfl, rfl⟩ : a = a1 ∧ b = b1 := by simpa using hab1
    have hbz := hz b p3
    by_cases hb : b = z - 1
    · rw [step_grow hm hab hb]
      refine ⟨fun i hi => ?_, ?_, fun _ => ⟨m, a, z, by rw [List.length_set]; exact hm, ?_, fun i hi a' b' e => ?_⟩, fun e => absurd e hne⟩
      · rw [getD_set_at _ _ _ _ (by omega)]
        by_cases e : i = m
        · rw [if_pos e]
          exact ⟨a, z, rfl, by omega, hin p2, hzin, hznext⟩
        · rw [if_neg e]
          have hi2 : i < xss.length := by simpa using hi
          obtain ⟨a', b', e1, q1, q2, q3, q4⟩ := h.pair i hi2
          have := hlt i (by omega) a' b' e1
          refine ⟨a', b', e1, q1, hin q2, hin q3, fun hx => ?_⟩
          rcases List.mem_append.1 hx with h1 | h1
          · exact q4 h1
          · simp at h1; omega
      · have hs := h.sum
        rw [hm, sumR_succ, hab] at hs
        rw [List.length_set, hm, sumR_succ, getD_set_at _ _ _ _ (by omega), if_pos rfl, sumR_congr (yss := xss) m (fun i hi => by rw [getD_set_at _ _ _ _ (by omega), if_neg (by omega)])]
        simp only [List.getD_cons_succ, List.getD_cons_zero, List.length_append, List.length_singleton] at hs ⊢
        omega
      · rw [getD_set_at _ _ _ _ (by omega), if_pos rfl]
      · rw [getD_set_at _ _ _ _ (by omega), if_neg (by omega)] at e
        have := hlt i hi a' b' e
        omega
    · rw [step_next hm hab hb]
      refine ⟨fun i hi => ?_, ?_, fun _ => ⟨m + 1, z, z, by rw [List.length_append, hm]; rfl, getD_end _ _ _ _ hm.symm, fun i hi a' b' e => ?_⟩, fun e => absurd e hne⟩
      · by_cases e : i < xss.length
        · rw [getD_lt _ _ _ _ e]
          obtain ⟨a', b', e1, q1, q2, q3, q4⟩ := h.pair i e
          refine ⟨a', b', e1, q1, hin q2, hin q3, fun hx => ?_⟩
          rcases List.mem_append.1 hx with h1 | h1
          · exact q4 h1
          · have e9 : b' + 1 = z := by simpa using h1
            by_cases e2 : i = m
            · subst e2
              rw [hab] at e1
              obtain ⟨rfl, rfl⟩ : a = a' ∧ b = b' := by simpa using e1
              omega
            · have := hlt i (by omega) a' b' e1
              omega
        · rw [getD_end _ _ _ _ (by simp at hi; omega)]
          exact ⟨z, z, rfl, Int.le_refl _, hzin, hzin, hznext⟩
      · rw [snoc_sum, h.sum]
        simp
      · rw [getD_lt _ _ _ _ (by omega)] at e
        obtain ⟨a2, b2, e1, q1, q2, q3, q4⟩ := h.pair i (by omega)
        rw [e1] at e
        obtain ⟨rfl, rfl⟩ : a2 = a' ∧ b2 = b' := by simpa using e
        exact hz _ q3

theorem runs_ok {zs : List Int} (hs : zs.Pairwise (· < ·)) : ∀ j, j ≤ zs.length → RunsOk (zs.take j) (runsTo zs j) := by
  intro j
  induction j with
  | zero => intro _; exact RunsOk.nil_
  | succ j ih =>
    intro hj
    rw [take_snoc_getD zs j 0 (by omega), runsTo_succ]
    refine (ih (by omega)).step fun x hx => ?_
    obtain ⟨i, hi, rfl⟩ := List.getElem_of_mem hx
    rw [List.length_take] at hi
    have := (List.pairwise_iff_getElem.1 hs) i j (by omega) (by omega) (by omega)
    rw [List.getElem_take]
    rw [List.getD_eq_getElem?_getD, List.getElem?_eq_getElem (by omega)]
    exact this
theorem cP_sorted (p : Nat → Bool) (n : Nat) : (cP p n).Pairwise (· < ·) := by
  unfold cP
  rw [List.pairwise_map]
  refine List.Pairwise.imp (fun h => ?_) (List.pairwise_lt_range.filter p)
  exact Int.ofNat_lt.2 h
theorem cutsOf_sorted (l m : List UInt8) : (cutsOf l m).Pairwise (· < ·) := by
  unfold cutsOf
  split
  · exact cP_sorted _ _
  · exact List.Pairwise.nil
theorem cuts_runs (l m : List UInt8) : RunsOk (cutsOf l m) (runsTo (cutsOf l m) (cutsOf l m).length) := by
  have := runs_ok (cutsOf_sorted l m) _ (Nat.le_refl _)
  rw [List.take_length] at this
  exact this
theorem sumR_small {B : Int} {xss : List (List Int)} (h : ∀ i, i < xss.length → ∃ a b, xss.getD i [] = [a, b] ∧ a ≤ b ∧ 0 ≤ a ∧ b ≤ B) : ∀ k : Nat, k ≤ xss.length → 0 ≤ sumR xss k ∧ sumR xss k ≤ (B + 1) * (k : Int) := by
  intro k
  induction k with
  | zero => intro _; simp [sumR]
  | succ k ih =>
    intro hk
    obtain ⟨a, b, e, h1, h2, h3⟩ := h k hk
    have := ih (by omega)
    rw [sumR_succ, e]
    have e2 : (B + 1) * ((k + 1 : Nat) : Int) = (B + 1) * (k : Int) + (B + 1) := by rw [Int.natCast_add, Int.mul_add]; simp
    simp only [List.getD_cons_succ, List.getD_cons_zero]
    omega

/-- the sum of the differences of the beginnings -/
def distK (s t : List UInt8) : Nat → Nat
  | 0 => 0
  | k + 1 => distK s t k + (max (fk s k) (fk t k) - min (fk s k) (fk t k))
theorem distK_succ (s t : List UInt8) (k : Nat) : distK s t (k + 1) = distK s t k + (max (fk s k) (fk t k) - min (fk s k) (fk t k)) := rfl
theorem distK_symm (s t : List UInt8) (n : Nat) : distK s t n = distK t s n := by
  induction n with
  | zero => rfl
  | succ n ih => rw [distK_succ, distK_succ, ih]; omega
theorem distK_tri (r s t : List UInt8) (n : Nat) : distK r t n ≤ distK r s n + distK s t n := by
  induction n with
  | zero => exact Nat.le_refl _
  | succ n ih => rw [distK_succ, distK_succ, distK_succ]; omega
theorem distK_self (s : List UInt8) (n : Nat) : distK s s n = 0 := by
  induction n with
  | zero => rfl
  | succ n ih => rw [distK_succ, ih]; omega
theorem distK_zero {s t : List UInt8} {n : Nat} (h : distK s t n = 0) : ∀ k, k < n → fk s k = fk t k := by
  induction n with
  | zero => intro k hk; omega
  | succ n ih =>
    intro k hk
    rw [distK_succ] at h
    by_cases e : k = n
    · subst e; omega
    · exact ih (by omega) k (by omega)
theorem distK_small (s t : List UInt8) (n : Nat) (hs : fw s ≤ 8) (ht : fw t ≤ 8) : distK s t n ≤ 8 * n := by
  induction n with
  | zero => exact Nat.le_refl _
  | succ n ih =>
    have a : fk s n ≤ fw s := by unfold fk fw; exact List.Sublist.count_le _ (List.take_sublist _ _)
    have b : fk t n ≤ fw t := by unfold fk fw; exact List.Sublist.count_le _ (List.take_sublist _ _)
    rw [distK_succ]
    omega
theorem gap_dist {s t u l : List UInt8} (n : Nat) (h : ∀ k, k < n → fk u k = max (fk s k) (fk t k) ∧ fk l k = min (fk s k) (fk t k)) : ((List.range n).map fun k => fw (u.take k) - fw (l.take k)).sum = distK s t n := by
  induction n with
  | zero => rfl
  | succ n ih =>
    rw [List.range_succ, List.map_append, List.sum_append, ih (fun k hk => h k (by omega)), distK_succ]
    obtain ⟨a, b⟩ := h n (by omega)
    unfold fk at a b
    simp only [List.map_cons, List.map_nil, List.sum_cons, List.sum_nil, a, b, fk]
    omega

/-- the area between two strips is the sum of the differences of their beginnings -/
theorem area_dist {s t : List UInt8} (h : sameFrame s t = true) : areaOf s t = (distK s t (s.length + 1) : Int) := by
  obtain ⟨_, ha⟩ := lat_rooms h
  have fu : sameFrame s (mix true s t) = true := mix_frame h
  have fl : sameFrame s (mix false s t) = true := mix_frame h
  have ful : sameFrame (mix true s t) (mix false s t) = true := frame_trans (frame_symm fu) fl
  have lu : (mix true s t).length = s.length := mix_len h
  have ll : (mix false s t).length = s.length := mix_len h
  have hab : isAbove (mix true s t) (mix false s t) = true := (above_iff ful).2 fun k hk => by rw [up_fk h k (by omega), lo_fk h k (by omega)]; omega
  obtain ⟨_, hg⟩ := hts_above hab
  rw [ha, room_hts (sameFrame_parts fu).2.1, room_hts (sameFrame_parts fl).2.1, hg]
  unfold gap
  rw [ll, gap_dist (s := s) (t := t) (s.length + 1) (fun k hk => ⟨up_fk h k (by omega), lo_fk h k (by omega)⟩)]
  omega

theorem strip_letter {l : List UInt8} {k : Nat} (h : isStrip l = true) (hk : k < l.length) : at_ l k = 100 ∨ at_ l k = 102 := by
  refine Classical.byContradiction fun hno => ?_
  have := other_letter l k hk (fun e => hno (Or.inl e)) (fun e => hno (Or.inr e))
  rw [h] at this
  exact absurd this (by decide)
theorem cut_diff {s t : List UInt8} {k : Nat} (hs : isStrip s = true) (ht : isStrip t = true) (hk : k < s.length) (hkt : k < t.length) (h : cutAt s t k = true) : fk s k ≠ fk t k ∨ fk s (k + 1) ≠ fk t (k + 1) := by
  rw [cut_parts] at h
  by_cases e : fk s k = fk t k
  · right
    have e' : fw (s.take k) = fw (t.take k) := e
    rw [decide_eq_true e'] at h
    have hl : at_ s k ≠ at_ t k := by simpa using h
    have a := fw_take s k hk
    have b := fw_take t k hkt
    unfold fk
    rw [a, b, e']
    rcases strip_letter hs hk with h1 | h1 <;> rcases strip_letter ht hkt with h2 | h2
    · exact absurd (h1.trans h2.symm) hl
    · rw [h1, h2]; simp
    · rw [h1, h2]; simp
    · exact absurd (h1.trans h2.symm) hl
  · exact .inl e
theorem cuts_dist {s t : List UInt8} (hs : isStrip s = true) (ht : isStrip t = true) (hl : s.length = t.length) : ∀ k, k ≤ s.length → (cP (cutAt s t) k).length ≤ distK s t k + distK s t (k + 1) := by
  intro k
  induction k with
  | zero => intro _; exact Nat.zero_le _
  | succ k ih =>
    intro hk
    have i := ih (by omega)
    rw [distK_succ s t (k + 1)]
    rw [distK_succ] at i ⊢
    cases hc : cutAt s t k
    · rw [cP_no hc]; omega
    · rw [cP_yes hc, List.length_append, List.length_singleton]
      rcases cut_diff hs ht (by omega) (by omega) hc with h | h <;> omega

/-- the law -/
theorem cuts_law {s t : List UInt8} (h : sameFrame s t = true) :
    cutsOf t s = cutsOf s t ∧ areaOf t s = areaOf s t ∧ 0 ≤ areaOf s t ∧ (areaOf s t = 0 ↔ s = t) ∧ (cutsOf s t = [] ↔ s = t) ∧ ((cutsOf s t).length : Int) ≤ 2 * areaOf s t := by
  obtain ⟨ps, pt, pd, pf⟩ := sameFrame_parts h
  have hl := sameFrame_len h
  have hc : cutsOf s t = cP (cutAt s t) s.length := if_pos h
  refine ⟨?_, ?_, ?_, ?_, ?_, ?_⟩
  · rw [hc, show cutsOf t s = cP (cutAt t s) t.length from if_pos (frame_symm h), ← hl]
    congr 1
    funext k
    rw [cut_parts, cut_parts]
    congr 2 <;> exact decide_eq_decide.2 ⟨Eq.symm, Eq.symm⟩
  · rw [area_dist h, area_dist (frame_symm h), distK_symm, hl]
  · rw [area_dist h]; omega
  · rw [area_dist h]
    constructor
    · intro e
      exact strip_ext h fun k hk => distK_zero (n := s.length + 1) (by omega) k (by omega)
    · intro e
      rw [e, distK_self]
      rfl
  · rw [hc]
    constructor
    · intro e
      refine list_at hl fun j hj => ?_
      refine Classical.byContradiction fun hno => ?_
      have hcut : cutAt s t j = true := by rw [cut_parts, decide_eq_false hno]; rfl
      have : (j : Int) ∈ cP (cutAt s t) s.length := by
        unfold cP
        exact List.mem_map.2 ⟨j, List.mem_filter.2 ⟨List.mem_range.2 hj, hcut⟩, rfl⟩
      rw [e] at this
      exact absurd this (by simp)
    · intro e
      subst e
      unfold cP
      rw [List.map_eq_nil_iff, List.filter_eq_nil_iff]
      intro k _
      rw [cut_parts]
      simp
  · rw [area_dist h, hc]
    have := cuts_dist ps pt hl s.length (Nat.le_refl _)
    have e := distK_succ s t s.length
    omega
theorem area_tri {r s t : List UInt8} (h1 : sameFrame r s = true) (h2 : sameFrame s t = true) : areaOf r t ≤ areaOf r s + areaOf s t := by
  rw [area_dist (frame_trans h1 h2), area_dist h1, area_dist h2, ← sameFrame_len h1]
  have := distK_tri r s t (r.length + 1)
  omega
theorem area_small {s t : List UInt8} (h : sameFrame s t = true) : areaOf s t ≤ 1000 := by
  obtain ⟨ps, pt, pd, pf⟩ := sameFrame_parts h
  have a := isStrip_parts ps
  have b := isStrip_parts pt
  have := distK_small s t (s.length + 1) (by omega) (by omega)
  rw [area_dist h]
  omega

end Go.Proofs.Ytpeopfkechbelaa
