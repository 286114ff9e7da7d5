
/-
  The crease at one place of a strip: plain words, and the contract of the reference's l15Crease; no condition beyond the length of the text.
-/
import Derived.Test.YtpeopfkechbelaaCorner
namespace Go.Proofs.Ytpeopfkechbelaa
open Go.ChangeShapes Go.WideShapes Go.ChangeAt Go.RowKit Go.Deep Go.BigFrame
set_option linter.unusedVariables false
set_option linter.unusedSimpArgs false

/-- the crease at a place: 1 a mountain, 2 a valley, 0 none -/
def crease (l : List UInt8) (i : Int) : Int :=
  if (i = 0 ∧ at_ l 0 = 102) ∨ (i = l.length ∧ at_ l (l.length - 1) = 100) then 2 else if foldAt 102 l i = true then 1 else if foldAt 100 l i = true then 2 else 0
theorem foldAt_in {c : UInt8} {l : List UInt8} {i : Int} (h : foldAt c l i = true) : 1 ≤ i ∧ i + 1 ≤ l.length := by
  simp only [foldAt, corner, Bool.and_eq_true, decide_eq_true_eq] at h
  omega
theorem foldAt_lo {c : UInt8} {l : List UInt8} {i : Int} (h : i < 1 ∨ (l.length : Int) ≤ i) : foldAt c l i = false := by
  cases e : foldAt c l i with
  | false => rfl
  | true => have := foldAt_in e; omega
theorem crease_first {l : List UInt8} (h : at_ l 0 = 102) : crease l 0 = 2 := if_pos (Or.inl ⟨rfl, h⟩)
theorem crease_last {l : List UInt8} (h : at_ l (l.length - 1) = 100) : crease l l.length = 2 := if_pos (Or.inr ⟨rfl, h⟩)
theorem crease_m {l : List UInt8} {i : Int} (h : foldAt 102 l i = true) : crease l i = 1 := by
  have := foldAt_in h
  unfold crease
  rw [if_neg (by rintro (⟨a, _⟩ | ⟨a, _⟩) <;> omega), if_pos h]
theorem crease_v {l : List UInt8} {i : Int} (h : foldAt 100 l i = true) : crease l i = 2 := by
  have := foldAt_in h
  have hm : foldAt 102 l i = false := by
    cases e : foldAt 102 l i with
    | false => rfl
    | true =>
      simp only [foldAt, Bool.and_eq_true, decide_eq_true_eq] at h e
      have := h.2.2.2.symm.trans e.2.2.2
      exact absurd this (by decide)
  unfold crease
  rw [if_neg (by rintro (⟨a, _⟩ | ⟨a, _⟩) <;> omega), hm, if_neg (by decide), if_pos h]
theorem crease_0 {l : List UInt8} {i : Int} (h1 : ¬ (i = 0 ∧ at_ l 0 = 102)) (h2 : ¬ (i = l.length ∧ at_ l (l.length - 1) = 100)) (h3 : foldAt 102 l i = false) (h4 : foldAt 100 l i = false) : crease l i = 0 := by
  unfold crease
  rw [if_neg (by rintro (h | h); exact h1 h; exact h2 h), h3, if_neg (by decide), h4, if_neg (by decide)]
theorem crease_in (l : List UInt8) (i : Int) : 0 ≤ crease l i ∧ crease l i ≤ 2 := by
  unfold crease
  by_cases h1 : (i = 0 ∧ at_ l 0 = 102) ∨ (i = l.length ∧ at_ l (l.length - 1) = 100)
  · rw [if_pos h1]; decide
  · rw [if_neg h1]
    by_cases h2 : foldAt 102 l i = true
    · rw [if_pos h2]; decide
    · rw [if_neg h2]
      by_cases h3 : foldAt 100 l i = true
      · rw [if_pos h3]; decide
      · rw [if_neg h3]; decide

theorem u8_t {c d : UInt8} (h : c = d) : ((c.toNat : Int) == (d.toNat : Int)) = true := by rw [h]; simp
theorem u8_f {c d : UInt8} (h : ¬ c = d) : ((c.toNat : Int) == (d.toNat : Int)) = false := by rw [u8_eq]; simp [h]

end Go.Proofs.Ytpeopfkechbelaa
