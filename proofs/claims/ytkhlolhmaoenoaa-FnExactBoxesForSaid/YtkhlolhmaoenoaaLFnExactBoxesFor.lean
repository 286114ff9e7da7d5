
/-
  The law FnExactBoxesFor returns true at every input and leaves its arguments as they were; no condition beyond the size of the texts.
-/
import Derived.Test.YtkhlolhmaoenoaaLBoxesForW
import Derived.Test.YtkhlolhmaoenoaaArgS
namespace Go.Proofs.Ytkhlolhmaoenoaa
open Go.ChangeShapes Go.WideShapes Go.ChangeAt Go.RowKit
set_option linter.unusedVariables false

namespace fnExactBoxesFor
set_option maxRecDepth 100000 in
theorem lifted (os : Os) (started : os.Started) (H : Type) (enc : TypeId × Value → H) :
    ReturnsInHanded {} Try.checked os 7 .any (Rows.fnExactBoxesForSpec.pre6 enc Try.prog Try.f7 Rows.fnExactBoxesForRow.domain false) (Rows.fnExactBoxesForSpec.post enc Try.prog Try.f7 false true false false) := by
  refine returnsInHanded_of_change (C := Try.checked) own started (by kernel_rfl) Try.func7
    (ChangeSpec.witness6 (enc := enc) (C := Try.checked) false ⟨#[], #[.agg #[.int .i64 0, .int .i64 0, .slice none 0 0]], []⟩ 8 (by kernel_rfl) (by kernel_rfl) (by kernel_rfl) (by kernel_rfl)) ?_
  intro W base args ds gs before hval0 hW hcnd _
  have hval : ∀ (j : Nat) t v, Try.f7.params[j]? = some t → args[j]? = some v → Value.okWide Try.prog W .any base t v := hval0
  have hW' := hW
  obtain ⟨p, q, hA0, hV, rfl, hfz, hnd⟩ := hW
  have hA : DataW.TrodAll enc Try.prog W 0 (fun _ => true) true Try.f7.params.toList args.toList ds p := hA0
  rw [Try.params7] at hA hval
  obtain ⟨v0, vs0, d0, ds0, p0, q0, hargs, rfl, rfl, h0, r0⟩ := trodAll_cons hA
  obtain ⟨rfl, rfl, rfl⟩ := trodAll_nil r0
  obtain rfl : args = #[v0] := by cases args; simp_all
  obtain ⟨c0_0, c0_1, c0_2, y0_0, y0_1, y0_2, m0, rfl, rfl, rfl, hy0_0, hy0_1, hy0_2⟩ := Go.Joins.open_agg3 Try.underlying24 (by kernel_rfl) (by kernel_rfl) (hval 0 24 v0 rfl rfl) h0
  obtain ⟨n0_0, e0_0, rfl, wf0_0⟩ := DataW.trod_int Try.underlying3 hy0_0
  simp only [List.cons.injEq, and_true] at e0_0; subst e0_0
  have b0_0 : -9223372036854775808 ≤ n0_0 ∧ n0_0 ≤ 9223372036854775807 := by simpa [Lit.wf, IntKind.min, IntKind.max, IntKind.signed, IntKind.bits] using wf0_0
  obtain ⟨n0_1, e0_1, rfl, wf0_1⟩ := DataW.trod_int Try.underlying3 hy0_1
  simp only [List.cons.injEq, and_true] at e0_1; subst e0_1
  have b0_1 : -9223372036854775808 ≤ n0_1 ∧ n0_1 ≤ 9223372036854775807 := by simpa [Lit.wf, IntKind.min, IntKind.max, IntKind.signed, IntKind.bits] using wf0_1
  obtain ⟨A0, cp0, ss0, rfl, hz0, wz0⟩ := srow_of_trod Try.underlying22 Try.underlying9 (by kernel_rfl) hy0_2
  clear hA0 hval0
  refine (fnExactBoxesFor_walk n0_0 n0_1 A0 cp0 ss0 W hz0 wz0 b0_0 b0_1).mono fun e W' ⟨he, hg⟩ => ?_
  subst he
  exact ⟨_, rfl, law_post laidOut (by kernel_rfl) rfl (by kernel_rfl) Try.underlying4 rfl rfl rfl hW' hg⟩
theorem closed : joinedFacts Try.prog 7 Try.f7 Rows.fnExactBoxesForSpec Rows.fnExactBoxesForRow = true := by
  unfold joinedFacts
  repeat' (with_reducible refine andI ?_ ?_)
  all_goals (first | (with_reducible exact laidOut) | (with_reducible exact mayEnter) | (rw [liftsFinal]; rfl) | (rw [make_is]; rfl) | (as_aux_lemma => kernel_rfl))
theorem over : Rows.fnExactBoxesForRow.holds Try.pinned (OpenSpec.ofChange Rows.fnExactBoxesForSpec) :=
  OpenClaim.holds_of_wide 7 Try.f7 rfl rfl rfl rfl rfl rfl rfl ⟨rfl, rfl, rfl, rfl, rfl⟩ rfl rfl rfl rfl rfl (by kernel_rfl) Try.func7 closed
    (of_decide_eq_true (by kernel_rfl)) (by unfold Func.isWrapper; first | (rw [if_pos (by decide +kernel)]; kernel_rfl) | (rw [if_neg (by decide +kernel)]; exact ⟨rfl, rfl⟩))
    (fun os started H enc _ => lifted os started H enc)
/-- THE STATEMENT -/
theorem proved : Rows.FnExactBoxesForSaid := over
#print axioms proved
end fnExactBoxesFor

end Go.Proofs.Ytkhlolhmaoenoaa
