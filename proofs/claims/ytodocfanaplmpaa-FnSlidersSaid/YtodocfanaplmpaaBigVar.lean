
/-
  A variable that is an array of many cells: build, alloc, store in one step; plain, no condition.
-/
import Derived.Test.YtodocfanaplmpaaBase
import Derived.Deep.WholeRow
namespace Go.Proofs.Ytodocfanaplmpaa
open Go.ChangeShapes Go.WideShapes Go.ChangeAt Go.RowKit
set_option linter.unusedVariables false

theorem wpList_bigVar {P : Program} {ops : Array Oper} {rest : List Oper} {o1 o2 o3 : Oper} {a : Act} {w : World} {Q : Exit → Act → World → Prop} (T : TypeId) (Z : Array Value) (p v : Operand)
    (hb : ∀ w, (Instr.build T #[]).run P w = .ok (.agg Z) w) (hz : ∀ w, (zeroValue T).run P w = .ok (.agg Z) w)
    (hi : (P.info? T).map (·.size) = some Z.size) (h1 : Z.all (·.oneCell') = true)
    (g1 : o1.guard = none) (g2 : o2.guard = none) (g3 : o3.guard = none)
    (ho1 : o1.op = .build T #[]) (ho2 : o2.op = .alloc T) (ho3 : o3.op = .store T p v)
    (e1 : ((a.put o1.dst (.agg Z)).put o2.dst (.pointer (some ⟨w.heap.size, 0, none⟩))).eval p = .pointer (some ⟨w.heap.size, 0, none⟩))
    (e2 : ((a.put o1.dst (.agg Z)).put o2.dst (.pointer (some ⟨w.heap.size, 0, none⟩))).eval v = .agg Z)
    (h : wpList P ops Q rest (((a.put o1.dst (.agg Z)).put o2.dst (.pointer (some ⟨w.heap.size, 0, none⟩))).put o3.dst undef) (w.alloc (.cells Z T))) :
    wpList P ops Q (o1 :: o2 :: o3 :: rest) a w := by
  refine wpList_plain g1 fun K hK => ?_
  have r1 : (execOp a.eval o1).run P w = .ok (.value (.agg Z)) w := by
    simp [execOp, ho1, hb, Result.andThen]
  unfold Oper.wp
  rw [r1, Oper.upon_value]
  refine hK _ _ (wpList_plain g2 fun K2 hK2 => ?_)
  have r2 : (execOp (a.put o1.dst (.agg Z)).eval o2).run P w = .ok (.value (.pointer (some ⟨w.heap.size, 0, none⟩))) (w.alloc (.cells Z T)) := by
    simp [execOp, ho2, hz, Result.andThen, Instr.alloc, go_sem]
  unfold Oper.wp
  rw [r2, Oper.upon_value]
  refine hK2 _ _ (wpList_plain g3 fun K3 hK3 => ?_)
  have r3 : (execOp ((a.put o1.dst (.agg Z)).put o2.dst (.pointer (some ⟨w.heap.size, 0, none⟩))).eval o3).run P (w.alloc (.cells Z T)) = .ok .skip (w.alloc (.cells Z T)) := by
    have hs := run_storeAt_new (P := P) w T Z Z hi rfl h1
    simp [execOp, ho3, e1, e2, hs, Result.andThen]
  unfold Oper.wp
  rw [r3, Oper.upon_skip]
  exact hK3 _ _ h

end Go.Proofs.Ytodocfanaplmpaa
