
/-
  Contracts of the laws' own functions on slices of ints (equal, mark, held, size, copy); no condition.
-/
import Derived.Test.YtpeopfkechbelaaInts0
namespace Go.Proofs.Ytpeopfkechbelaa
open Go.ChangeShapes Go.WideShapes Go.ChangeAt Go.RowKit Go.Deep
set_option linter.unusedVariables false

/-- the numbers that 'mark' writes: k, k + 1 .. -/
def marks (k n : Nat) : List Int := (List.range n).map fun i => ((k + i : Nat) : Int)

theorem marks_length (k n : Nat) : (marks k n).length = n := by simp [marks]
theorem marks_get (k n i : Nat) (h : i < n) : (marks k n).getD i 0 = ((k + i : Nat) : Int) := by simp [marks, List.getD, h]

end Go.Proofs.Ytpeopfkechbelaa
