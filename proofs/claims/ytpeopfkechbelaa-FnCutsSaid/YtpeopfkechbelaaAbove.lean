
/-
  Contracts of IsAbove on both sides, and of the reference's look at two paths; no condition beyond the length of the texts.
-/
import Derived.Test.YtpeopfkechbelaaFrame
namespace Go.Proofs.Ytpeopfkechbelaa
open Go.ChangeShapes Go.WideShapes Go.ChangeAt Go.RowKit Go.Deep Go.BigFrame
set_option linter.unusedVariables false
set_option linter.unusedSimpArgs false

/-- no beginning of l has fewer letters f than that of m -/
def aboveB (l m : List UInt8) : Bool := (List.range (l.length + 1)).all fun k => decide (fw (m.take k) ≤ fw (l.take k))
theorem aboveB_iff {l m : List UInt8} (h : l.length = m.length) : aboveB l m = true ↔ ∀ k, fw (m.take k) ≤ fw (l.take k) := by
  unfold aboveB
  rw [List.all_eq_true]
  simp only [List.mem_range, decide_eq_true_eq]
  constructor
  · intro H k
    by_cases hk : k ≤ l.length
    · exact H k (by omega)
    · have e := H l.length (by omega)
      have e1 := List.take_of_length_le (l := m) (i := k) (by omega)
      have e2 := List.take_of_length_le (l := l) (i := k) (by omega)
      have e3 := List.take_of_length_le (l := m) (i := l.length) (by omega)
      have e4 := List.take_of_length_le (l := l) (i := l.length) (by omega)
      rw [e1, e2]
      rw [e3, e4] at e
      exact e
  · intro H k _
    exact H k

theorem aboveB_yes {l m : List UInt8} {n : Nat} (hl : l.length = n) (hm : m.length = n) (h : ∀ j, j ≤ n → fw (m.take j) ≤ fw (l.take j)) : aboveB l m = true := by
  unfold aboveB
  rw [List.all_eq_true]
  simp only [List.mem_range, decide_eq_true_eq]
  intro k hk
  exact h k (by omega)
theorem aboveB_no {l m : List UInt8} {n k : Nat} (hl : l.length = n) (hk : k ≤ n) (h : fw (l.take k) < fw (m.take k)) : aboveB l m = false := by
  cases e : aboveB l m with
  | false => rfl
  | true =>
    unfold aboveB at e
    rw [List.all_eq_true] at e
    have := e k (by rw [List.mem_range]; omega)
    simp only [decide_eq_true_eq] at this
    omega

/-- the strip l is nowhere below m -/
def isAbove (l m : List UInt8) : Bool := sameFrame l m && aboveB l m
theorem sameFrame_len {l m : List UInt8} (h : sameFrame l m = true) : l.length = m.length := by
  obtain ⟨h1, h2, h3, h4⟩ := sameFrame_parts h
  have a := (isStrip_parts h1).1
  have b := (isStrip_parts h2).1
  omega
theorem isAbove_parts {l m : List UInt8} (h : isAbove l m = true) : sameFrame l m = true ∧ ∀ k, fw (m.take k) ≤ fw (l.take k) := by
  simp only [isAbove, Bool.and_eq_true] at h
  exact ⟨h.1, (aboveB_iff (sameFrame_len h.1)).1 h.2⟩
theorem isAbove_mk {l m : List UInt8} (h : sameFrame l m = true) (h2 : ∀ k, fw (m.take k) ≤ fw (l.take k)) : isAbove l m = true := by
  simp only [isAbove, Bool.and_eq_true]
  exact ⟨h, (aboveB_iff (sameFrame_len h)).2 h2⟩

end Go.Proofs.Ytpeopfkechbelaa
