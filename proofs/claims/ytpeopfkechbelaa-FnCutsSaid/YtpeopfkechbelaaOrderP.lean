
/-
  Plain law of the order of strips: the upper and the lower strip of two, the rooms under them; no program in sight.
-/
import Derived.Test.YtpeopfkechbelaaAreaP
namespace Go.Proofs.Ytpeopfkechbelaa
open Go.ChangeShapes Go.WideShapes Go.ChangeAt Go.RowKit Go.Deep Go.BigFrame
set_option linter.unusedVariables false
set_option linter.unusedSimpArgs false

/-- the letters f of a beginning -/
def fk (l : List UInt8) (k : Nat) : Nat := fw (l.take k)
theorem fk_zero (l : List UInt8) : fk l 0 = 0 := by simp [fk, fw]
theorem fk_step (l : List UInt8) (k : Nat) : fk l k ≤ fk l (k + 1) ∧ fk l (k + 1) ≤ fk l k + 1 := by
  unfold fk
  by_cases h : k < l.length
  · rw [fw_take l k h]
    by_cases a : at_ l k = 102
    · rw [if_pos a]; omega
    · rw [if_neg a]; omega
  · rw [List.take_of_length_le (by omega), List.take_of_length_le (by omega)]; omega
theorem fk_end {l : List UInt8} {k : Nat} (h : l.length ≤ k) : fk l k = fw l := by unfold fk; rw [List.take_of_length_le h]

/-- the path whose beginnings have F k letters f -/
def mixL (F : Nat → Nat) (n : Nat) : List UInt8 := (List.range n).map fun k => if F k < F (k + 1) then 102 else 100
theorem mixL_len (F : Nat → Nat) (n : Nat) : (mixL F n).length = n := by simp [mixL]
theorem mixL_succ (F : Nat → Nat) (n : Nat) : mixL F (n + 1) = mixL F n ++ [if F n < F (n + 1) then 102 else 100] := by
  unfold mixL
  rw [List.range_succ, List.map_append]
  rfl
theorem mixL_take (F : Nat → Nat) (n k : Nat) (h : k ≤ n) : (mixL F n).take k = mixL F k := by
  unfold mixL
  rw [← List.map_take, List.take_range]
  congr 2
  omega
theorem mixL_counts (F : Nat → Nat) (h0 : F 0 = 0) (hs : ∀ k, F k ≤ F (k + 1) ∧ F (k + 1) ≤ F k + 1) : ∀ n, fw (mixL F n) = F n ∧ dn (mixL F n) + F n = n := by
  intro n
  induction n with
  | zero => simp [mixL, fw, dn, h0]
  | succ n ih =>
    obtain ⟨a, b⟩ := ih
    have := hs n
    rw [mixL_succ, fw_app, dn_app, fw_one, dn_one]
    by_cases c : F n < F (n + 1)
    · rw [if_pos c, if_pos rfl, if_neg (by decide)]; omega
    · rw [if_neg c, if_neg (by decide), if_pos rfl]; omega
theorem mixL_fk (F : Nat → Nat) (h0 : F 0 = 0) (hs : ∀ k, F k ≤ F (k + 1) ∧ F (k + 1) ≤ F k + 1) (n k : Nat) (h : k ≤ n) : fk (mixL F n) k = F k := by
  unfold fk
  rw [mixL_take F n k h]
  exact (mixL_counts F h0 hs k).1

/-- a strip is known by its beginnings -/
theorem strip_ext {s t : List UInt8} (h : sameFrame s t = true) (he : ∀ k, k ≤ s.length → fk s k = fk t k) : s = t := by
  obtain ⟨hs, ht, _, _⟩ := sameFrame_parts h
  have hlen := sameFrame_len h
  refine list_at hlen fun j hj => ?_
  have a := fw_take s j hj
  have b := fw_take t j (by omega)
  have e1 := he j (by omega)
  have e2 := he (j + 1) (by omega)
  unfold fk at e1 e2
  have key : ∀ l : List UInt8, isStrip l = true → j < l.length → at_ l j = 102 ∨ at_ l j = 100 := fun l hl hjl => by
    refine Classical.byContradiction fun hno => ?_
    have := other_letter l j hjl (fun e => hno (Or.inr e)) (fun e => hno (Or.inl e))
    rw [hl] at this
    exact absurd this (by decide)
  rcases key s hs hj with e | e <;> rcases key t ht (by omega) with e' | e'
  · rw [e, e']
  · rw [e, if_pos rfl] at a; rw [e', if_neg (by decide)] at b; omega
  · rw [e, if_neg (by decide)] at a; rw [e', if_pos rfl] at b; omega
  · rw [e, e']

theorem frame_symm {s t : List UInt8} (h : sameFrame s t = true) : sameFrame t s = true := by
  obtain ⟨a, b, c, d⟩ := sameFrame_parts h
  simp only [sameFrame, Bool.and_eq_true, decide_eq_true_eq]
  exact ⟨b, a, c.symm, d.symm⟩
theorem frame_trans {r s t : List UInt8} (h : sameFrame r s = true) (k : sameFrame s t = true) : sameFrame r t = true := by
  obtain ⟨a, b, c, d⟩ := sameFrame_parts h
  obtain ⟨a', b', c', d'⟩ := sameFrame_parts k
  simp only [sameFrame, Bool.and_eq_true, decide_eq_true_eq]
  exact ⟨a, b', by omega, by omega⟩

def maxF (s t : List UInt8) (k : Nat) : Nat := max (fk s k) (fk t k)
def minF (s t : List UInt8) (k : Nat) : Nat := min (fk s k) (fk t k)
def mixF (up : Bool) (s t : List UInt8) (k : Nat) : Nat := if up = true then maxF s t k else minF s t k
theorem mixF_zero (up : Bool) (s t : List UInt8) : mixF up s t 0 = 0 := by
  cases up <;> simp [mixF, maxF, minF, fk_zero]
theorem mixF_step (up : Bool) (s t : List UInt8) (k : Nat) : mixF up s t k ≤ mixF up s t (k + 1) ∧ mixF up s t (k + 1) ≤ mixF up s t k + 1 := by
  have a := fk_step s k
  have b := fk_step t k
  cases up
  · show minF s t k ≤ minF s t (k + 1) ∧ minF s t (k + 1) ≤ minF s t k + 1
    unfold minF; omega
  · show maxF s t k ≤ maxF s t (k + 1) ∧ maxF s t (k + 1) ≤ maxF s t k + 1
    unfold maxF; omega
/-- the upper (lower) strip of two -/
def mix (up : Bool) (s t : List UInt8) : List UInt8 := if sameFrame s t = true then mixL (mixF up s t) s.length else []
theorem mix_yes {up : Bool} {s t : List UInt8} (h : sameFrame s t = true) : mix up s t = mixL (mixF up s t) s.length := if_pos h

theorem mix_fk {up : Bool} {s t : List UInt8} (h : sameFrame s t = true) (k : Nat) (hk : k ≤ s.length) : fk (mix up s t) k = mixF up s t k := by
  rw [mix_yes h]
  exact mixL_fk _ (mixF_zero up s t) (mixF_step up s t) _ _ hk
theorem mix_frame {up : Bool} {s t : List UInt8} (h : sameFrame s t = true) : sameFrame s (mix up s t) = true := by
  have hl := sameFrame_len h
  obtain ⟨a, b, c, d⟩ := sameFrame_parts h
  have hc := mixL_counts (mixF up s t) (mixF_zero up s t) (mixF_step up s t) s.length
  have he : mixF up s t s.length = fw s := by
    have e1 := fk_end (l := s) (k := s.length) (Nat.le_refl _)
    have e2 := fk_end (l := t) (k := s.length) (by omega)
    cases up
    · show minF s t s.length = _
      unfold minF; omega
    · show maxF s t s.length = _
      unfold maxF; omega
  have hs := isStrip_parts a
  rw [he] at hc
  rw [mix_yes h]
  have hd : dn (mixL (mixF up s t) s.length) = dn s := by omega
  have hst : isStrip (mixL (mixF up s t) s.length) = true := by
    have e : isStrip (mixL (mixF up s t) s.length) = isStrip s := by
      unfold isStrip
      rw [hc.1, hd, mixL_len]
    rw [e]; exact a
  simp only [sameFrame, Bool.and_eq_true, decide_eq_true_eq]
  exact ⟨a, hst, hd.symm, hc.1.symm⟩
theorem mix_len {up : Bool} {s t : List UInt8} (h : sameFrame s t = true) : (mix up s t).length = s.length := (sameFrame_len (mix_frame h)).symm

theorem above_iff {s t : List UInt8} (h : sameFrame s t = true) : isAbove s t = true ↔ ∀ k, k ≤ s.length → fk t k ≤ fk s k := by
  constructor
  · intro ha k _
    exact (isAbove_parts ha).2 k
  · intro hk
    refine isAbove_mk h fun k => ?_
    by_cases a : k ≤ s.length
    · exact hk k a
    · have e1 := fk_end (l := s) (k := k) (by omega)
      have e2 := fk_end (l := t) (k := k) (by have := sameFrame_len h; omega)
      unfold fk at e1 e2
      have := (sameFrame_parts h).2.2.2
      omega

/-- the height of a step forward, told by the beginnings -/
theorem hts_ge (l : List UInt8) : dn l + fw l = l.length → ∀ (i v : Nat), i < fw l → v ≤ dn l → ((v : Int) ≤ (hts l).getD i 0 ↔ i + 1 ≤ fw (l.take (dn l - v + i + 1))) := by
  induction l with
  | nil => intro _ i v h; simp [fw] at h
  | cons c l ih =>
    intro hall i v hi hv
    have hbl := both_le l
    rw [List.length_cons] at hall
    have hle : ∀ x ∈ hts l, x ≤ (dn l : Int) := by
      clear ih hi hv hall hbl
      induction l with
      | nil => intro x hx; simp [hts] at hx
      | cons d l ih2 =>
        intro x hx
        by_cases h : d = 102
        · subst h
          rw [hts_yes] at hx
          have e : dn (102 :: l) = dn l := by simp [dn, List.count_cons]
          rw [e]
          rcases List.mem_cons.1 hx with rfl | hx
          · exact Int.le_refl _
          · exact ih2 x hx
        · rw [hts_no _ _ h] at hx
          have e : dn l ≤ dn (d :: l) := by simp only [dn, List.count_cons]; omega
          have := ih2 x hx
          omega
    by_cases h : c = 102
    · subst h
      have ed : dn (102 :: l) = dn l := by simp [dn, List.count_cons]
      have ef : ∀ m : List UInt8, fw (102 :: m) = fw m + 1 := fun m => by simp [fw, List.count_cons]
      rw [ed] at hv ⊢
      rw [hts_yes, List.take_succ_cons, ef]
      cases i with
      | zero =>
        simp only [List.getD_cons_zero]
        constructor
        · intro _; omega
        · intro _; omega
      | succ i =>
        rw [ef] at hi
        rw [List.getD_cons_succ, ih (by rw [ed, ef] at hall; omega) i v (by omega) hv]
        have : dn l - v + (i + 1) = dn l - v + i + 1 := by omega
        rw [this]
        omega
    · have ef : ∀ m : List UInt8, fw (c :: m) = fw m := fun m => by simp [fw, List.count_cons, h]
      rw [hts_no _ _ h, List.take_succ_cons, ef]
      rw [ef] at hi
      by_cases hd : c = 100
      · have ed : dn (c :: l) = dn l + 1 := by rw [hd]; simp [dn, List.count_cons]
        rw [ed] at hv ⊢
        by_cases hv2 : v ≤ dn l
        · rw [ih (by rw [ed, ef] at hall; omega) i v hi hv2]
          have : dn l + 1 - v + i = dn l - v + i + 1 := by omega
          rw [this]
        · have e0 : dn l + 1 - v + i = i := by omega
          rw [e0]
          have hil : i < (hts l).length := by rw [hts_len]; exact hi
          have := hle ((hts l).getD i 0) (by simp [List.getD, hil])
          have f1 := fw_le (l.take i)
          have f2 := List.length_take_le i l
          constructor
          · intro _; omega
          · intro _; omega
      · have ed : dn (c :: l) = dn l := by simp [dn, List.count_cons, hd]
        exfalso
        rw [ed, ef] at hall
        omega

end Go.Proofs.Ytpeopfkechbelaa
