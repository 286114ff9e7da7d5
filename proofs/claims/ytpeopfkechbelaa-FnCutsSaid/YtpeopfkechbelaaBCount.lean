
/-
  The contract of the reference's BridgeCount; no condition beyond the length of the text.
-/
import Derived.Test.YtpeopfkechbelaaWays
import Derived.Test.YtpeopfkechbelaaBridgeP
import Derived.Test.YtpeopfkechbelaaRaise
namespace Go.Proofs.Ytpeopfkechbelaa
open Go.ChangeShapes Go.WideShapes Go.ChangeAt Go.RowKit Go.Deep Go.BigFrame
set_option linter.unusedVariables false

/-- how many bridges there are between two places -/
def bridgeCount (l : List UInt8) (fr to : Int) : Int := if glued l fr to = true then pathsAbove (cutL l fr.toNat to.toNat) else 0

end Go.Proofs.Ytpeopfkechbelaa
