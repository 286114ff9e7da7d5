
/-
  Contracts of AreaBetween on both sides and the walk of its law; no condition beyond the length of the texts.
-/
import Derived.Test.YtkhlolhmaoenoaaRoom
import Derived.Test.YtkhlolhmaoenoaaFrame
import Derived.BigRegion
namespace Go.Proofs.Ytkhlolhmaoenoaa
open Go.ChangeShapes Go.WideShapes Go.ChangeAt Go.RowKit Go.Deep Go.BigFrame
set_option linter.unusedVariables false

theorem hP_count (l : List UInt8) : ∀ j, j ≤ l.length → (hP l j).length = fw (l.take j) := by
  intro j
  induction j with
  | zero => intro _; rfl
  | succ j ih =>
    intro h
    rw [fw_take l j (by omega)]
    by_cases h1 : at_ l j = 102
    · rw [hP_yes h1, if_pos h1, List.length_append, ih (by omega)]
      rfl
    · rw [hP_no h1, if_neg h1, ih (by omega)]
      rfl
theorem hP_all (l : List UInt8) : (hP l l.length).length = fw l := by
  rw [hP_count l _ (Nat.le_refl _), List.take_length]

/-- the area between the first k heights -/
def aP (xs ys : List Int) (k : Nat) : Int := ((List.range k).map fun i : Nat => max (xs.getD i 0 - ys.getD i 0) (ys.getD i 0 - xs.getD i 0)).sum
theorem aP_succ (xs ys : List Int) (k : Nat) : aP xs ys (k + 1) = aP xs ys k + max (xs.getD k 0 - ys.getD k 0) (ys.getD k 0 - xs.getD k 0) := by
  unfold aP
  rw [List.range_succ, List.map_append, List.sum_append]
  simp
theorem getD_small {zs : List Int} (hz : ∀ z ∈ zs, -16 ≤ z ∧ z ≤ 16) (k : Nat) : -16 ≤ zs.getD k 0 ∧ zs.getD k 0 ≤ 16 := by
  by_cases h : k < zs.length
  · have := hz _ (List.getElem_mem h)
    simpa [List.getD, h] using this
  · simp [List.getD, h]
theorem aP_small {xs ys : List Int} (hx : ∀ z ∈ xs, -16 ≤ z ∧ z ≤ 16) (hy : ∀ z ∈ ys, -16 ≤ z ∧ z ≤ 16) : ∀ k : Nat, 0 ≤ aP xs ys k ∧ aP xs ys k ≤ 32 * (k : Int) := by
  intro k
  induction k with
  | zero => simp [aP]
  | succ k ih =>
    have h1 := getD_small hx k
    have h2 := getD_small hy k
    rw [aP_succ]
    omega

def areaOf (l m : List UInt8) : Int := if sameFrame l m = true then aP (hP l l.length) (hP m m.length) (fw l) else -1

end Go.Proofs.Ytkhlolhmaoenoaa
