
/-
  The walks of the laws FnExactDepthsOf, FnExactHeightsOf; no condition beyond the length of the text.
-/
import Derived.Test.YtpeopfkechbelaaViews
import Derived.Test.YtpeopfkechbelaaMarks
namespace Go.Proofs.Ytpeopfkechbelaa
open Go.ChangeShapes Go.WideShapes Go.ChangeAt Go.RowKit Go.Deep Go.BigFrame
set_option linter.unusedVariables false

end Go.Proofs.Ytpeopfkechbelaa
