
/-
  The contract of the size of a slice of ints; no condition.
-/
import Derived.Test.YtodocfanaplmpaaInts
namespace Go.Proofs.Ytodocfanaplmpaa
open Go.ChangeShapes Go.WideShapes Go.ChangeAt Go.RowKit Go.Deep
set_option linter.unusedVariables false

end Go.Proofs.Ytodocfanaplmpaa
