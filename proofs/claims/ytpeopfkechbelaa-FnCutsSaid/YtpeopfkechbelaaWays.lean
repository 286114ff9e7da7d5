
/-
  Contracts of CountAbove on both sides; no condition beyond the length of the text.
-/
import Derived.Test.YtpeopfkechbelaaWaysP
import Derived.BigRegion
namespace Go.Proofs.Ytpeopfkechbelaa
open Go.ChangeShapes Go.WideShapes Go.ChangeAt Go.RowKit Go.Deep Go.BigFrame
set_option linter.unusedVariables false

theorem owned_cell {w : World} {base g c n : Nat} {e : TypeId} {zs : List Int} (h : w.ownsRow base e 1 (.slice (some ⟨g, 0, none⟩) n c) n (zs.map (Value.int .i64))) (x : Nat) (hx : x < n) : w.cell? ⟨g, x, none⟩ = some (.int .i64 (zs.getD x 0)) := by
  have hl : zs.length = n := by have := h.1; simpa using this
  rw [h.cellAt x (by omega), List.getElem?_map, List.getD_eq_getElem?_getD, List.getElem?_eq_getElem (by omega)]
  rfl

end Go.Proofs.Ytpeopfkechbelaa
