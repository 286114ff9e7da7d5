
/-
  Small words for the laws' marks; plain laws, no condition.
-/
import Derived.Test.YtpeopfkechbelaaInts
namespace Go.Proofs.Ytpeopfkechbelaa
open Go.ChangeShapes Go.WideShapes Go.ChangeAt Go.RowKit Go.Deep
set_option linter.unusedVariables false

theorem own_drewN {w : World} {base : Nat} {e : TypeId} {size n : Nat} {v : Value} {xs : List Value} (h : w.ownsRow base e size v n xs) (q : Nat) : (w.drewN q).ownsRow base e size v n xs :=
  own_on h (below_drewN (Below.refl _ _) q)
theorem drewN_grown {w w' : World} {q : Nat} {row : Option Nat} (h : (w.drewN q).grownBy w' row) : w.grownBy w' row := ⟨h.os, h.tape, h.output, h.size, h.block⟩
theorem irow_marks {w : World} {base c k n : Nat} {e : TypeId} {A : Option Addr} (h : w.ownsRow base e 1 (.slice A n c) n ((marks k n).map (Value.int .i64))) : IRow w w.heap.size A (marks k n) := by
  have hl := marks_length k n
  generalize marks k n = ms at *
  subst hl
  exact IRow.of_own h

end Go.Proofs.Ytpeopfkechbelaa
