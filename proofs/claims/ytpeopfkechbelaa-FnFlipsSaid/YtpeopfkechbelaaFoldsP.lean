
/-
  Plain laws of the folds of a strip: corners, peaks, and that they alternate; no condition.
-/
import Derived.Test.YtpeopfkechbelaaCrease
namespace Go.Proofs.Ytpeopfkechbelaa
open Go.ChangeShapes Go.WideShapes Go.ChangeAt Go.RowKit Go.Deep
set_option linter.unusedVariables false
set_option linter.unusedSimpArgs false

theorem letter_of {l : List UInt8} (h : isStrip l = true) {k : Nat} (hk : k < l.length) : at_ l k = 100 ∨ at_ l k = 102 := by
  by_cases a : at_ l k = 100
  · exact .inl a
  · by_cases b : at_ l k = 102
    · exact .inr b
    · have := other_letter l k hk a b
      rw [h] at this
      exact absurd this (by simp)
theorem foldAt_nat {c : UInt8} {l : List UInt8} (h : isStrip l = true) {k : Nat} (h1 : 1 ≤ k) (h2 : k < l.length) : foldAt c l (k : Int) = true ↔ at_ l (k - 1) = c ∧ at_ l k ≠ c := by
  simp only [foldAt, corner, h, Bool.and_eq_true, decide_eq_true_eq, Int.toNat_natCast, Bool.not_eq_true', decide_eq_false_iff_not, Bool.true_and]
  constructor
  · rintro ⟨_, ⟨_, _, a⟩, b⟩
    exact ⟨b, fun e => a (b.trans e.symm)⟩
  · rintro ⟨a, b⟩
    exact ⟨by omega, ⟨h1, by omega, fun e => b (e.symm.trans a)⟩, a⟩

/-- how many of the first j places are folds of a kind -/
def cntF (c : UInt8) (l : List UInt8) : Nat → Nat
  | 0 => 0
  | j + 1 => cntF c l j + if foldAt c l (j : Int) = true then 1 else 0
theorem cntF_le (c : UInt8) (l : List UInt8) : ∀ j, cntF c l j ≤ j := by
  intro j
  induction j with
  | zero => exact Nat.le_refl _
  | succ j ih =>
    show cntF c l j + _ ≤ j + 1
    by_cases h : foldAt c l (j : Int) = true
    · rw [if_pos h]; omega
    · rw [if_neg h]; omega
theorem cntF_one (c : UInt8) (l : List UInt8) : cntF c l 1 = 0 := by
  show 0 + _ = 0
  rw [if_neg (by rw [foldAt_lo (.inl (by decide))]; simp)]
theorem cntF_end (c : UInt8) (l : List UInt8) : cntF c l (l.length + 1) = cntF c l l.length := by
  show cntF c l l.length + _ = _
  rw [if_neg (by rw [foldAt_lo (.inr (Int.le_refl _))]; simp)]
  rfl

/-- 1 for yes -/
def b1 (p : Prop) [Decidable p] : Nat := if p then 1 else 0
/-- mountains and valleys alternate -/
theorem folds_alt {l : List UInt8} (h : isStrip l = true) : ∀ j, 1 ≤ j → j ≤ l.length → b1 (at_ l 0 = 102) + cntF 100 l j = cntF 102 l j + b1 (at_ l (j - 1) = 102) := by
  intro j
  induction j with
  | zero => intro h; omega
  | succ j ih =>
    intro h1 h2
    by_cases z : j = 0
    · subst z
      rw [cntF_one, cntF_one]
      simp
    · have a := ih (by omega) (by omega)
      show _ + (cntF 100 l j + _) = cntF 102 l j + _ + _
      have f1 := foldAt_nat (c := 100) h (k := j) (by omega) (by omega)
      have f2 := foldAt_nat (c := 102) h (k := j) (by omega) (by omega)
      rw [show j + 1 - 1 = j from rfl]
      rcases letter_of h (k := j - 1) (by omega) with c | c <;> rcases letter_of h (k := j) (by omega) with e | e
      · rw [if_neg (fun x => (f1.1 x).2 e), if_neg (fun x => absurd (c.symm.trans (f2.1 x).1) (by decide)), show b1 (at_ l j = 102) = 0 from if_neg (by rw [e]; decide)]
        rw [show b1 (at_ l (j - 1) = 102) = 0 from if_neg (by rw [c]; decide)] at a
        omega
      · rw [if_pos (f1.2 ⟨c, by rw [e]; decide⟩), if_neg (fun x => absurd (c.symm.trans (f2.1 x).1) (by decide)), show b1 (at_ l j = 102) = 1 from if_pos e]
        rw [show b1 (at_ l (j - 1) = 102) = 0 from if_neg (by rw [c]; decide)] at a
        omega
      · rw [if_neg (fun x => absurd (c.symm.trans (f1.1 x).1) (by decide)), if_pos (f2.2 ⟨c, by rw [e]; decide⟩), show b1 (at_ l j = 102) = 0 from if_neg (by rw [e]; decide)]
        rw [show b1 (at_ l (j - 1) = 102) = 1 from if_pos c] at a
        omega
      · rw [if_neg (fun x => absurd (c.symm.trans (f1.1 x).1) (by decide)), if_neg (fun x => (f2.1 x).2 e), show b1 (at_ l j = 102) = 1 from if_pos e]
        rw [show b1 (at_ l (j - 1) = 102) = 1 from if_pos c] at a
        omega

/-- the corners of the first j places -/
def cntK (l : List UInt8) : Nat → Nat
  | 0 => 0
  | j + 1 => cntK l j + if corner l j = true then 1 else 0
theorem cntK_is {l : List UInt8} (h : isStrip l = true) : ∀ j, j ≤ l.length → cntK l j = cntF 100 l j + cntF 102 l j := by
  intro j
  induction j with
  | zero => intro _; rfl
  | succ j ih =>
    intro h2
    have a := ih (by omega)
    show cntK l j + _ = (cntF 100 l j + _) + (cntF 102 l j + _)
    by_cases z : j = 0
    · subst z
      rw [if_neg (by simp [corner]), if_neg (by rw [foldAt_lo (.inl (by decide))]; simp), if_neg (by rw [foldAt_lo (.inl (by decide))]; simp)]
      rfl
    · have f1 := foldAt_nat (c := 100) h (k := j) (by omega) (by omega)
      have f2 := foldAt_nat (c := 102) h (k := j) (by omega) (by omega)
      have fc : corner l j = true ↔ at_ l (j - 1) ≠ at_ l j := by
        simp only [corner, Bool.and_eq_true, decide_eq_true_eq, Bool.not_eq_true', decide_eq_false_iff_not]
        exact ⟨fun x => x.2.2, fun x => ⟨by omega, by omega, x⟩⟩
      rcases letter_of h (k := j - 1) (by omega) with c | c <;> rcases letter_of h (k := j) (by omega) with e | e
      · rw [if_neg (fun x => fc.1 x (c.trans e.symm)), if_neg (fun x => (f1.1 x).2 e), if_neg (fun x => absurd (c.symm.trans (f2.1 x).1) (by decide))]
        omega
      · rw [if_pos (fc.2 (by rw [c, e]; decide)), if_pos (f1.2 ⟨c, by rw [e]; decide⟩), if_neg (fun x => absurd (c.symm.trans (f2.1 x).1) (by decide))]
        omega
      · rw [if_pos (fc.2 (by rw [c, e]; decide)), if_neg (fun x => absurd (c.symm.trans (f1.1 x).1) (by decide)), if_pos (f2.2 ⟨c, by rw [e]; decide⟩)]
        omega
      · rw [if_neg (fun x => fc.1 x (c.trans e.symm)), if_neg (fun x => absurd (c.symm.trans (f1.1 x).1) (by decide)), if_neg (fun x => (f2.1 x).2 e)]
        omega

/-- the folds of a strip -/
def foldsOf (l : List UInt8) : Nat := cntK l l.length + b1 (at_ l 0 = 102) + b1 (at_ l (l.length - 1) = 100)
def peaksOf (l : List UInt8) : Nat := cntF 102 l l.length

end Go.Proofs.Ytpeopfkechbelaa
