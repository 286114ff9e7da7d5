/-
  The walk of the law FnExactPullSlider; no condition.
-/
import Derived.Test.YtlbbnbhehonbiaaSl1
namespace Go.Proofs.Ytlbbnbhehonbiaa
open Go.ChangeShapes Go.WideShapes Go.ChangeAt Go.RowKit
set_option linter.unusedVariables false

set_option maxHeartbeats 400000 in
theorem fnExactPullSlider_walk (lo hi now b : Int) (w : World) (_ : -9223372036854775808 ≤ b ∧ b ≤ 9223372036854775807) : Calls Try.prog 5 #[.agg #[.int .i64 lo, .int .i64 hi, .int .i64 now], .int .i64 b] w fun e w' => e = .returned (.bool true) ∧ Below w.heap.size w w' := by
  generalize hm : slPull lo hi now b = m
  go_enter Try.func5, Try.ntmps5
  go_wp2_with fail
  refine (toSlider_any _ _ _ _).mono ?_
  rintro e w1 ⟨rfl, hb1⟩
  obtain ⟨hc1, hf1⟩ := bcell hb1
  have hz1 : w.heap.size < w1.heap.size := (by have hsz_ := hb1.size; first | omega | (simp at hsz_; omega))
  go_wp2_with fail
  refine (specPullSlider_any _ _ _ _ _).mono ?_
  rw [hm]
  rintro e w2 ⟨rfl, hb2⟩
  obtain ⟨hc2, hf2⟩ := bcell hb2
  have hz2 : w1.heap.size ≤ w2.heap.size := (by have hsz_ := hb2.size; first | omega | (simp at hsz_; omega))
  have hz3 : w.heap.size < w2.heap.size := by omega
  go_wp2_with fail
  refine (toSlider_any _ _ _ _).mono ?_
  rintro e w3 ⟨rfl, hb3⟩
  obtain ⟨hc3, hf3⟩ := bcell hb3
  have hz4 : w2.heap.size < w3.heap.size := (by have hsz_ := hb3.size; first | omega | (simp at hsz_; omega))
  have hz5 : w.heap.size < w3.heap.size := by omega
  go_wp2_with fail
  refine (implPullSlider_any _ _ _ _ _).mono ?_
  rw [hm]
  rintro e w4 ⟨rfl, hb4⟩
  obtain ⟨hc4, hf4⟩ := bcell hb4
  have hz6 : w3.heap.size ≤ w4.heap.size := (by have hsz_ := hb4.size; first | omega | (simp at hsz_; omega))
  have hz7 : w2.heap.size < w4.heap.size := by omega
  have hz8 : w.heap.size < w4.heap.size := by omega
  go_wp2_with fail
  refine (eqSlider_any _ _ _ _ _ _ _).mono ?_
  rintro e w5 ⟨rfl, hb5⟩
  go_wp2_with fail
  go_ret
  exact ⟨rfl, (by repeat' (first | exact Below.refl _ _ | assumption | (refine Below.drew ?_) | (refine below_drewN ?_ _) | (refine below_thru ?_ (by assumption)) | (refine below_alloc ?_ _) | (refine Below.setCell ?_ (by first | omega | (simp; done) | (simp; omega)) _) | (refine Below.alloc ?_ (by first | omega | (simp; done) | (simp; omega)) _)))⟩

end Go.Proofs.Ytlbbnbhehonbiaa
