
/-
  Contracts of the functions on one slider; no condition.
-/
import Derived.Test.YtodocfanaplmpaaBase
import Derived.Lib.SmallJoins
namespace Go.Proofs.Ytodocfanaplmpaa
open Go.ChangeShapes Go.WideShapes Go.ChangeAt Go.RowKit
set_option linter.unusedVariables false

theorem within_any (n lo hi : Int) (w : World) : Calls Try.prog 38 #[.int .i64 n, .int .i64 lo, .int .i64 hi] w fun e w' => e = .returned (.bool (inB n lo hi)) ∧ w = w' := by
  by_cases h1 : lo ≤ n
  · go_enter Try.func38, Try.ntmps38
    go_wp2
    go_ret
    refine ⟨?_, rfl⟩
    simp [inB, h1]
  · have hd : decide (lo ≤ n) = false := by simpa using h1
    go_enter Try.func38, Try.ntmps38
    go_wp2
    go_ret
    refine ⟨?_, rfl⟩
    simp [inB, hd]

theorem l01In_any (n lo hi : Int) (w : World) : Calls Try.prog 36 #[.int .i64 n, .int .i64 lo, .int .i64 hi] w fun e w' => e = .returned (.bool (inB n lo hi)) ∧ w = w' := by
  by_cases h1 : lo ≤ n
  · go_enter Try.func36, Try.ntmps36
    go_wp2
    go_ret
    refine ⟨?_, rfl⟩
    simp [inB, h1]
  · have hd : decide (lo ≤ n) = false := by simpa using h1
    go_enter Try.func36, Try.ntmps36
    go_wp2
    go_ret
    refine ⟨?_, rfl⟩
    simp [inB, hd]

/-- the slider of these three numbers is valid -/
def slOk (lo hi now : Int) : Bool := inB lo (-100) hi && decide (hi ≤ 100) && inB now lo hi

theorem specSliderOk_any (lo hi now : Int) (w : World) : Calls Try.prog 20 #[.agg #[.int .i64 lo, .int .i64 hi, .int .i64 now]] w fun e w' => e = .returned (.bool (slOk lo hi now)) ∧ w.alloc (.cells #[.int .i64 lo, .int .i64 hi, .int .i64 now] 43) = w' := by
  go_enter Try.func20, Try.ntmps20
  go_wp2_with (go_at_call 36; refine (l01In_any _ _ _ _).mono ?_; rintro e w' ⟨rfl, rfl⟩)
  all_goals go_ret
  all_goals refine ⟨?_, rfl⟩
  all_goals simp_all [slOk, inB]
  all_goals omega

theorem implSliderOk_any (lo hi now : Int) (w : World) : Calls Try.prog 21 #[.agg #[.int .i64 lo, .int .i64 hi, .int .i64 now]] w fun e w' => e = .returned (.bool (slOk lo hi now)) ∧ w.alloc (.cells #[.int .i64 lo, .int .i64 hi, .int .i64 now] 43) = w' := by
  go_enter Try.func21, Try.ntmps21
  go_wp2_with (go_at_call 38; refine (within_any _ _ _ _).mono ?_; rintro e w' ⟨rfl, rfl⟩)
  all_goals go_ret
  all_goals refine ⟨?_, rfl⟩
  all_goals simp_all [slOk]
  all_goals omega

theorem toSlider_any (lo hi now : Int) (w : World) : Calls Try.prog 54 #[.agg #[.int .i64 lo, .int .i64 hi, .int .i64 now]] w fun e w' => e = .returned (.agg #[.int .i64 lo, .int .i64 hi, .int .i64 now]) ∧ Below w.heap.size w w' := by
  go_enter Try.func54, Try.ntmps54
  go_wp2
  refine bodyPost_ret (v := .agg #[.int .i64 lo, .int .i64 hi, .int .i64 now]) (by simp [results, Try.results54, go_sem]) rfl ⟨rfl, ?_⟩
  exact (by repeat' (first | exact Below.refl _ _ | assumption | (refine Below.drew ?_) | (refine below_drewN ?_ _) | (refine below_thru ?_ (by assumption)) | (refine below_alloc ?_ _) | (refine Below.setCell ?_ (by first | omega | (simp; done) | (simp; omega)) _) | (refine Below.alloc ?_ (by first | omega | (simp; done) | (simp; omega)) _)))

theorem clamp_any (n lo hi : Int) (w : World) : Calls Try.prog 52 #[.int .i64 n, .int .i64 lo, .int .i64 hi] w fun e w' => e = .returned (.int .i64 (max (min n hi) lo)) ∧ w = w' := by
  go_enter Try.func52, Try.ntmps52
  go_wp2
  all_goals go_ret
  all_goals refine ⟨?_, rfl⟩
  all_goals simp
  all_goals omega

/-- the slider's place after a pull -/
def slPull (lo hi now b : Int) : Int := if slOk lo hi now = true ∧ inB b (-1000) 1000 = true then max lo (min hi (now + b)) else now

theorem slOk_bounds {lo hi now : Int} (h : slOk lo hi now = true) : -100 ≤ lo ∧ hi ≤ 100 ∧ lo ≤ now ∧ now ≤ hi := by
  simp only [slOk, inB, Bool.and_eq_true, decide_eq_true_eq] at h
  omega

theorem slPull_yes {lo hi now b : Int} (h1 : slOk lo hi now = true) (h2 : inB b (-1000) 1000 = true) : slPull lo hi now b = max lo (min hi (now + b)) := if_pos ⟨h1, h2⟩
theorem slPull_no {lo hi now b : Int} (h : ¬ (slOk lo hi now = true ∧ inB b (-1000) 1000 = true)) : slPull lo hi now b = now := if_neg h

theorem specPullSlider_any (lo hi now b : Int) (w : World) : Calls Try.prog 53 #[.agg #[.int .i64 lo, .int .i64 hi, .int .i64 now], .int .i64 b] w fun e w' => e = .returned (.agg #[.int .i64 lo, .int .i64 hi, .int .i64 (slPull lo hi now b)]) ∧ Below w.heap.size w w' := by
  by_cases h1 : slOk lo hi now = true
  · obtain ⟨b1, b2, b3, b4⟩ := slOk_bounds h1
    by_cases h2 : inB b (-1000) 1000 = true
    · rw [slPull_yes h1 h2]
      obtain ⟨b5, b6⟩ := inB_iff.1 h2
      go_enter Try.func53, Try.ntmps53
      go_wp2_with (first | (go_at_call 20; refine (specSliderOk_any _ _ _ _).mono ?_; rintro e w' ⟨rfl, rfl⟩) | (go_at_call 36; refine (l01In_any _ _ _ _).mono ?_; rintro e w' ⟨rfl, rfl⟩))
      all_goals refine bodyPost_ret (v := .agg #[.int .i64 lo, .int .i64 hi, .int .i64 (max lo (min hi (now + b)))]) ?_ rfl ⟨rfl, (by repeat' (first | exact Below.refl _ _ | assumption | (refine Below.drew ?_) | (refine below_drewN ?_ _) | (refine below_thru ?_ (by assumption)) | (refine below_alloc ?_ _) | (refine Below.setCell ?_ (by first | omega | (simp; done) | (simp; omega)) _) | (refine Below.alloc ?_ (by first | omega | (simp; done) | (simp; omega)) _)))⟩
      all_goals simp [results, Try.results53, go_sem]
      all_goals omega
    · rw [slPull_no (fun h => h2 h.2)]
      have h3 : inB b (-1000) 1000 = false := by simpa using h2
      clear h2
      go_enter Try.func53, Try.ntmps53
      go_wp2_with (first | (go_at_call 20; refine (specSliderOk_any _ _ _ _).mono ?_; rintro e w' ⟨rfl, rfl⟩) | (go_at_call 36; refine (l01In_any _ _ _ _).mono ?_; rintro e w' ⟨rfl, rfl⟩))
      exact bodyPost_ret (v := .agg #[.int .i64 lo, .int .i64 hi, .int .i64 now]) (by simp [results, Try.results53, go_sem]) rfl ⟨rfl, (by repeat' (first | exact Below.refl _ _ | assumption | (refine Below.drew ?_) | (refine below_drewN ?_ _) | (refine below_thru ?_ (by assumption)) | (refine below_alloc ?_ _) | (refine Below.setCell ?_ (by first | omega | (simp; done) | (simp; omega)) _) | (refine Below.alloc ?_ (by first | omega | (simp; done) | (simp; omega)) _)))⟩
  · rw [slPull_no (fun h => h1 h.1)]
    have h3 : slOk lo hi now = false := by simpa using h1
    clear h1
    go_enter Try.func53, Try.ntmps53
    go_wp2_with (first | (go_at_call 20; refine (specSliderOk_any _ _ _ _).mono ?_; rintro e w' ⟨rfl, rfl⟩) | (go_at_call 36; refine (l01In_any _ _ _ _).mono ?_; rintro e w' ⟨rfl, rfl⟩))
    exact bodyPost_ret (v := .agg #[.int .i64 lo, .int .i64 hi, .int .i64 now]) (by simp [results, Try.results53, go_sem]) rfl ⟨rfl, (by repeat' (first | exact Below.refl _ _ | assumption | (refine Below.drew ?_) | (refine below_drewN ?_ _) | (refine below_thru ?_ (by assumption)) | (refine below_alloc ?_ _) | (refine Below.setCell ?_ (by first | omega | (simp; done) | (simp; omega)) _) | (refine Below.alloc ?_ (by first | omega | (simp; done) | (simp; omega)) _)))⟩

theorem implPullSlider_any (lo hi now b : Int) (w : World) : Calls Try.prog 23 #[.agg #[.int .i64 lo, .int .i64 hi, .int .i64 now], .int .i64 b] w fun e w' => e = .returned (.agg #[.int .i64 lo, .int .i64 hi, .int .i64 (slPull lo hi now b)]) ∧ Below w.heap.size w w' := by
  by_cases h1 : slOk lo hi now = true
  · obtain ⟨b1, b2, b3, b4⟩ := slOk_bounds h1
    by_cases h2 : inB b (-1000) 1000 = true
    · rw [slPull_yes h1 h2]
      obtain ⟨b5, b6⟩ := inB_iff.1 h2
      go_enter Try.func23, Try.ntmps23
      go_wp2_with (first | (go_at_call 21; refine (implSliderOk_any _ _ _ _).mono ?_; rintro e w' ⟨rfl, rfl⟩) | (go_at_call 38; refine (within_any _ _ _ _).mono ?_; rintro e w' ⟨rfl, rfl⟩) | (go_at_call 52; refine (clamp_any _ _ _ _).mono ?_; rintro e w' ⟨rfl, rfl⟩))
      all_goals refine bodyPost_ret (v := .agg #[.int .i64 lo, .int .i64 hi, .int .i64 (max lo (min hi (now + b)))]) ?_ rfl ⟨rfl, (by repeat' (first | exact Below.refl _ _ | assumption | (refine Below.drew ?_) | (refine below_drewN ?_ _) | (refine below_thru ?_ (by assumption)) | (refine below_alloc ?_ _) | (refine Below.setCell ?_ (by first | omega | (simp; done) | (simp; omega)) _) | (refine Below.alloc ?_ (by first | omega | (simp; done) | (simp; omega)) _)))⟩
      all_goals simp [results, Try.results23, go_sem]
      all_goals omega
    · rw [slPull_no (fun h => h2 h.2)]
      have h3 : inB b (-1000) 1000 = false := by simpa using h2
      clear h2
      go_enter Try.func23, Try.ntmps23
      go_wp2_with (first | (go_at_call 21; refine (implSliderOk_any _ _ _ _).mono ?_; rintro e w' ⟨rfl, rfl⟩) | (go_at_call 38; refine (within_any _ _ _ _).mono ?_; rintro e w' ⟨rfl, rfl⟩))
      exact bodyPost_ret (v := .agg #[.int .i64 lo, .int .i64 hi, .int .i64 now]) (by simp [results, Try.results23, go_sem]) rfl ⟨rfl, (by repeat' (first | exact Below.refl _ _ | assumption | (refine Below.drew ?_) | (refine below_drewN ?_ _) | (refine below_thru ?_ (by assumption)) | (refine below_alloc ?_ _) | (refine Below.setCell ?_ (by first | omega | (simp; done) | (simp; omega)) _) | (refine Below.alloc ?_ (by first | omega | (simp; done) | (simp; omega)) _)))⟩
  · rw [slPull_no (fun h => h1 h.1)]
    have h3 : slOk lo hi now = false := by simpa using h1
    clear h1
    go_enter Try.func23, Try.ntmps23
    go_wp2_with (first | (go_at_call 21; refine (implSliderOk_any _ _ _ _).mono ?_; rintro e w' ⟨rfl, rfl⟩) | (go_at_call 38; refine (within_any _ _ _ _).mono ?_; rintro e w' ⟨rfl, rfl⟩))
    exact bodyPost_ret (v := .agg #[.int .i64 lo, .int .i64 hi, .int .i64 now]) (by simp [results, Try.results23, go_sem]) rfl ⟨rfl, (by repeat' (first | exact Below.refl _ _ | assumption | (refine Below.drew ?_) | (refine below_drewN ?_ _) | (refine below_thru ?_ (by assumption)) | (refine below_alloc ?_ _) | (refine Below.setCell ?_ (by first | omega | (simp; done) | (simp; omega)) _) | (refine Below.alloc ?_ (by first | omega | (simp; done) | (simp; omega)) _)))⟩

/-- two sliders are equal -/
theorem eqSlider_any (a1 a2 a3 b1 b2 b3 : Int) (w : World) : Calls Try.prog 55 #[.agg #[.int .i64 a1, .int .i64 a2, .int .i64 a3], .agg #[.int .i64 b1, .int .i64 b2, .int .i64 b3]] w fun e w' => e = .returned (.bool (decide ((a1, a2, a3) = (b1, b2, b3)))) ∧ Below w.heap.size w w' := by
  go_enter Try.func55, Try.ntmps55
  go_wp2
  all_goals go_ret
  all_goals refine ⟨?_, (by repeat' (first | exact Below.refl _ _ | assumption | (refine Below.drew ?_) | (refine below_drewN ?_ _) | (refine below_thru ?_ (by assumption)) | (refine below_alloc ?_ _) | (refine Below.setCell ?_ (by first | omega | (simp; done) | (simp; omega)) _) | (refine Below.alloc ?_ (by first | omega | (simp; done) | (simp; omega)) _)))⟩
  all_goals simp_all

end Go.Proofs.Ytodocfanaplmpaa
