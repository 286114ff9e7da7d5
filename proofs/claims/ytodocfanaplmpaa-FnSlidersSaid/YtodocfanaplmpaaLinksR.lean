
/-
  Rows of masks as a table; plain, no condition.
-/
import Derived.Test.YtodocfanaplmpaaLinksQ
import Derived.Test.YtodocfanaplmpaaBitsN
namespace Go.Proofs.Ytodocfanaplmpaa
open Go.ChangeShapes Go.WideShapes Go.ChangeAt Go.RowKit
set_option linter.unusedVariables false

/-- the table that masks tell -/
def tb (ms : List Nat) (i j : Nat) : Bool := (ms.getD i 0).testBit j
theorem tb_set (ms : List Nat) (i v : Nat) (hi : i < ms.length) : tb (ms.set i v) = putRow (tb ms) i (fun b => v.testBit b) := by
  funext a b
  unfold tb putRow
  by_cases e : a = i
  · rw [if_pos e, e]
    simp [List.getD, hi]
  · rw [if_neg e]
    have e' : ¬ i = a := fun x => e x.symm
    simp [List.getD, e']
theorem tb_or (ms : List Nat) (i j : Nat) (hi : i < ms.length) : tb (ms.set i (ms.getD i 0 ||| ms.getD j 0)) = putRow (tb ms) i (fun b => tb ms i b || tb ms j b) := by
  rw [tb_set ms i _ hi]
  unfold tb
  simp [Nat.testBit_or]
theorem tb_link (ms : List Nat) (i j : Nat) (hi : i < ms.length) : tb (ms.set i (ms.getD i 0 ||| 2 ^ j)) = put1 (tb ms) i j true := by
  rw [tb_set ms i _ hi]
  funext a b
  unfold putRow put1
  by_cases e : a = i
  · by_cases e2 : b = j
    · rw [if_pos e, if_pos ⟨e, e2⟩, e2]
      show (ms.getD i 0 ||| 2 ^ j).testBit j = true
      rw [Nat.testBit_or, Nat.testBit_two_pow_self, Bool.or_true]
    · rw [if_pos e, if_neg (fun h => e2 h.2), e]
      show (ms.getD i 0 ||| 2 ^ j).testBit b = tb ms i b
      rw [Nat.testBit_or, Nat.testBit_two_pow_of_ne (fun h => e2 h.symm), Bool.or_false]
      rfl
  · rw [if_neg e, if_neg (fun h => e h.1)]

end Go.Proofs.Ytodocfanaplmpaa
