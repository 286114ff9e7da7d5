
/-
  The contracts of ReadCreases on both sides; no condition beyond the length of the text.
-/
import Derived.Test.YtkhlolhmaoenoaaCText
import Derived.Test.YtkhlolhmaoenoaaTurn
namespace Go.Proofs.Ytkhlolhmaoenoaa
open Go.ChangeShapes Go.WideShapes Go.ChangeAt Go.RowKit Go.Deep Go.BigFrame
set_option linter.unusedVariables false
set_option linter.unusedSimpArgs false

/-- is the step at a place a step forward -/
def lt_ (T : List UInt8) : Nat → Bool
  | 0 => decide (at_ T 0 = 118)
  | i + 1 => if at_ T (i + 1) = 46 then lt_ T i else !lt_ T i
def lb (b : Bool) : UInt8 := if b = true then 102 else 100
def outP (T : List UInt8) (j : Nat) : List UInt8 := (List.range j).map fun i => lb (lt_ T i)
theorem outP_succ (T : List UInt8) (j : Nat) : outP T (j + 1) = outP T j ++ [lb (lt_ T j)] := by
  unfold outP
  rw [List.range_succ, List.map_append]
  rfl
theorem outP_len (T : List UInt8) (j : Nat) : (outP T j).length = j := by simp [outP]
def readCr (t : ByteArray) (d f : Int) : ByteArray :=
  if (inB d 1 8 && (inB f 1 8 && (decide ((t.size : Int) = d + f + 1) && (inFrame d f (bs (outP t.data.toList (t.size - 1))) && decide (bs (ctext (outP t.data.toList (t.size - 1))) = t))))) = true then bs (outP t.data.toList (t.size - 1)) else .empty

theorem lb_size (b : Bool) : (bs [lb b]).size = 1 := bs_size _
theorem lb_d : (bs [lb false]) = ⟨#[100]⟩ := rfl
theorem lb_f : (bs [lb true]) = ⟨#[102]⟩ := rfl

end Go.Proofs.Ytkhlolhmaoenoaa
