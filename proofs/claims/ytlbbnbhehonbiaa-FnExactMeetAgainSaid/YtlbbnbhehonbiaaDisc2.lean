/-
  Contracts of ShownAt, TurnsToShow and MeetAgain on both sides; no condition.
-/
import Derived.Test.YtlbbnbhehonbiaaDisc
namespace Go.Proofs.Ytlbbnbhehonbiaa
open Go.ChangeShapes Go.WideShapes Go.ChangeAt Go.RowKit Go.Deep Go.BigFrame
set_option linter.unusedVariables false

/-- the disc is valid and has the window -/
def winOk (sec now : Int) (zs : List Int) (win : Int) : Bool := dcOk sec now zs && inB win 0 (sec - 1)
/-- the picture at a number of places behind the sign -/
def picAt (sec now : Int) (zs : List Int) (k : Int) : Int := zs.getD ((now + k) % sec).toNat 0
def shownAt (sec now : Int) (zs : List Int) (win : Int) : Int := if winOk sec now zs win = true then picAt sec now zs win else -1

theorem dcOk_parts {sec now : Int} {zs : List Int} (h : dcOk sec now zs = true) : 2 ≤ sec ∧ sec ≤ 24 ∧ 0 ≤ now ∧ now ≤ sec - 1 ∧ (zs.length : Int) = sec := by
  simp only [dcOk, inB, Bool.and_eq_true, decide_eq_true_eq] at h
  omega
theorem winOk_parts {sec now : Int} {zs : List Int} {win : Int} (h : winOk sec now zs win = true) : dcOk sec now zs = true ∧ inB win 0 (sec - 1) = true := by
  simpa [winOk] using h

theorem specShownAt_any (sec now win : Int) (A : Option Addr) (c : Nat) (zs : List Int) (w : World) (hx : IRow w w.heap.size A zs) (bs : -9223372036854775808 ≤ sec ∧ sec ≤ 9223372036854775807) :
    Calls Try.prog 38 #[.agg #[.int .i64 sec, .int .i64 now, .slice A zs.length c], .int .i64 win] w fun e w' => e = .returned (.int .i64 (shownAt sec now zs win)) ∧ Below w.heap.size w w' := by
  by_cases h1 : dcOk sec now zs = true
  · obtain ⟨q1, q2, q3, q4, q5⟩ := dcOk_parts h1
    by_cases h2 : inB win 0 (sec - 1) = true
    · obtain ⟨q6, q7⟩ := inB_iff.1 h2
      rw [show shownAt sec now zs win = picAt sec now zs win from if_pos (by simp [winOk, h1, h2])]
      unfold picAt
      have hr0 : 0 ≤ (now + win) % sec := Int.emod_nonneg _ (by omega)
      have hr1 : (now + win) % sec < sec := Int.emod_lt_of_pos _ (by omega)
      obtain ⟨idx, hidx⟩ := Int.eq_ofNat_of_zero_le hr0
      rw [hidx] at hr0 hr1 ⊢
      rw [Int.toNat_natCast]
      obtain ⟨b1, o1, rfl, hb1, hc1⟩ := hx.at_ (k := idx) (by omega)
      generalize hl : zs.length = n at *
      generalize hv : zs.getD idx 0 = v at *
      have HX := Lib.hid hx
      have HQ := Lib.hid q5
      have HL := Lib.hid hl
      have HV := Lib.hid hv
      clear hx q5 hl hv
      go_enter Try.func38, Try.ntmps38
      go_wp2_with fail
      have hl := HL.out
      subst hl
      refine (specDiscOk_any _ _ _ _ _ _ (HX.out.on (by repeat' (first | exact Below.refl _ _ | assumption | (refine Below.drew ?_) | (refine below_drewN ?_ _) | (refine below_thru ?_ (by assumption)) | (refine below_alloc ?_ _) | (refine Below.setCell ?_ (by first | omega | (simp; done) | (simp; omega)) _) | (refine Below.alloc ?_ (by first | omega | (simp; done) | (simp; omega)) _)))) bs).mono ?_
      rintro e w1 ⟨rfl, hb2⟩
      obtain ⟨hc2, hf2⟩ := bcell hb2
      have hz2 : w.heap.size < w1.heap.size := (by have hsz_ := hb2.size; first | omega | (simp at hsz_; omega))
      have hc1' : w1.cell? ⟨b1, o1 + idx, none⟩ = some (.int .i64 v) := cell_on hb2 (by rw [← hc1]; exact World.cell?_alloc_lt w _ _ hb1)
      have hi : (idx : Int) < (zs.length : Int) := by rw [HQ.out]; exact hr1
      go_wp2_with (go_at_call 58; refine (l01In_any _ _ _ _).mono ?_; rintro e w' ⟨rfl, rfl⟩)
      go_quiet (fail)
      go_wp2_with fail
      go_ret
      exact ⟨rfl, (by repeat' (first | exact Below.refl _ _ | assumption | (refine Below.drew ?_) | (refine below_drewN ?_ _) | (refine below_thru ?_ (by assumption)) | (refine below_alloc ?_ _) | (refine Below.setCell ?_ (by first | omega | (simp; done) | (simp; omega)) _) | (refine Below.alloc ?_ (by first | omega | (simp; done) | (simp; omega)) _)))⟩
    · have h2' : inB win 0 (sec - 1) = false := by simpa using h2
      rw [show shownAt sec now zs win = -1 from if_neg (by simp [winOk, h2'])]
      clear h2 q5
      go_enter Try.func38, Try.ntmps38
      go_wp2_with fail
      refine (specDiscOk_any _ _ _ _ _ _ (hx.on (by repeat' (first | exact Below.refl _ _ | assumption | (refine Below.drew ?_) | (refine below_drewN ?_ _) | (refine below_thru ?_ (by assumption)) | (refine below_alloc ?_ _) | (refine Below.setCell ?_ (by first | omega | (simp; done) | (simp; omega)) _) | (refine Below.alloc ?_ (by first | omega | (simp; done) | (simp; omega)) _)))) bs).mono ?_
      rintro e w1 ⟨rfl, hb2⟩
      obtain ⟨hc2, hf2⟩ := bcell hb2
      go_wp2_with (go_at_call 58; refine (l01In_any _ _ _ _).mono ?_; rintro e w' ⟨rfl, rfl⟩)
      go_ret
      exact ⟨rfl, (by repeat' (first | exact Below.refl _ _ | assumption | (refine Below.drew ?_) | (refine below_drewN ?_ _) | (refine below_thru ?_ (by assumption)) | (refine below_alloc ?_ _) | (refine Below.setCell ?_ (by first | omega | (simp; done) | (simp; omega)) _) | (refine Below.alloc ?_ (by first | omega | (simp; done) | (simp; omega)) _)))⟩
  · have h1' : dcOk sec now zs = false := by simpa using h1
    rw [show shownAt sec now zs win = -1 from if_neg (by simp [winOk, h1'])]
    clear h1
    go_enter Try.func38, Try.ntmps38
    go_wp2_with fail
    refine (specDiscOk_any _ _ _ _ _ _ (hx.on (by repeat' (first | exact Below.refl _ _ | assumption | (refine Below.drew ?_) | (refine below_drewN ?_ _) | (refine below_thru ?_ (by assumption)) | (refine below_alloc ?_ _) | (refine Below.setCell ?_ (by first | omega | (simp; done) | (simp; omega)) _) | (refine Below.alloc ?_ (by first | omega | (simp; done) | (simp; omega)) _)))) bs).mono ?_
    rw [h1']
    rintro e w1 ⟨rfl, hb2⟩
    go_wp2_with fail
    go_ret
    exact ⟨rfl, (by repeat' (first | exact Below.refl _ _ | assumption | (refine Below.drew ?_) | (refine below_drewN ?_ _) | (refine below_thru ?_ (by assumption)) | (refine below_alloc ?_ _) | (refine Below.setCell ?_ (by first | omega | (simp; done) | (simp; omega)) _) | (refine Below.alloc ?_ (by first | omega | (simp; done) | (simp; omega)) _)))⟩

theorem isWindow_any (sec now win : Int) (A : Option Addr) (c : Nat) (zs : List Int) (w : World) (hx : IRow w w.heap.size A zs) (bs : -9223372036854775808 ≤ sec ∧ sec ≤ 9223372036854775807) :
    Calls Try.prog 66 #[.agg #[.int .i64 sec, .int .i64 now, .slice A zs.length c], .int .i64 win] w fun e w' => e = .returned (.bool (winOk sec now zs win)) ∧ Below w.heap.size w w' := by
  by_cases h1 : dcOk sec now zs = true
  · obtain ⟨q1, q2, q3, q4, q5⟩ := dcOk_parts h1
    rw [show winOk sec now zs win = inB win 0 (sec - 1) by simp [winOk, h1]]
    clear q5
    go_enter Try.func66, Try.ntmps66
    go_wp2_with fail
    refine (implDiscOk_any _ _ _ _ _ _ (hx.on (by repeat' (first | exact Below.refl _ _ | assumption | (refine Below.drew ?_) | (refine below_drewN ?_ _) | (refine below_thru ?_ (by assumption)) | (refine below_alloc ?_ _) | (refine Below.setCell ?_ (by first | omega | (simp; done) | (simp; omega)) _) | (refine Below.alloc ?_ (by first | omega | (simp; done) | (simp; omega)) _)))) bs).mono ?_
    rw [h1]
    rintro e w1 ⟨rfl, hb2⟩
    obtain ⟨hc2, hf2⟩ := bcell hb2
    go_wp2_with (go_at_call 60; refine (within_any _ _ _ _).mono ?_; rintro e w' ⟨rfl, rfl⟩)
    go_ret
    exact ⟨rfl, (by repeat' (first | exact Below.refl _ _ | assumption | (refine Below.drew ?_) | (refine below_drewN ?_ _) | (refine below_thru ?_ (by assumption)) | (refine below_alloc ?_ _) | (refine Below.setCell ?_ (by first | omega | (simp; done) | (simp; omega)) _) | (refine Below.alloc ?_ (by first | omega | (simp; done) | (simp; omega)) _)))⟩
  · have h1' : dcOk sec now zs = false := by simpa using h1
    rw [show winOk sec now zs win = false by simp [winOk, h1']]
    clear h1
    go_enter Try.func66, Try.ntmps66
    go_wp2_with fail
    refine (implDiscOk_any _ _ _ _ _ _ (hx.on (by repeat' (first | exact Below.refl _ _ | assumption | (refine Below.drew ?_) | (refine below_drewN ?_ _) | (refine below_thru ?_ (by assumption)) | (refine below_alloc ?_ _) | (refine Below.setCell ?_ (by first | omega | (simp; done) | (simp; omega)) _) | (refine Below.alloc ?_ (by first | omega | (simp; done) | (simp; omega)) _)))) bs).mono ?_
    rw [h1']
    rintro e w1 ⟨rfl, hb2⟩
    go_wp2_with fail
    go_ret
    exact ⟨rfl, (by repeat' (first | exact Below.refl _ _ | assumption | (refine Below.drew ?_) | (refine below_drewN ?_ _) | (refine below_thru ?_ (by assumption)) | (refine below_alloc ?_ _) | (refine Below.setCell ?_ (by first | omega | (simp; done) | (simp; omega)) _) | (refine Below.alloc ?_ (by first | omega | (simp; done) | (simp; omega)) _)))⟩

theorem implShownAt_any (sec now win : Int) (A : Option Addr) (c : Nat) (zs : List Int) (w : World) (hx : IRow w w.heap.size A zs) (bs : -9223372036854775808 ≤ sec ∧ sec ≤ 9223372036854775807) :
    Calls Try.prog 39 #[.agg #[.int .i64 sec, .int .i64 now, .slice A zs.length c], .int .i64 win] w fun e w' => e = .returned (.int .i64 (shownAt sec now zs win)) ∧ Below w.heap.size w w' := by
  by_cases hwin : winOk sec now zs win = true
  · obtain ⟨h1, h2⟩ := winOk_parts hwin
    obtain ⟨q1, q2, q3, q4, q5⟩ := dcOk_parts h1
    · obtain ⟨q6, q7⟩ := inB_iff.1 h2
      rw [show shownAt sec now zs win = picAt sec now zs win from if_pos hwin]
      unfold picAt
      clear h1 h2
      have hr0 : 0 ≤ (now + win) % sec := Int.emod_nonneg _ (by omega)
      have hr1 : (now + win) % sec < sec := Int.emod_lt_of_pos _ (by omega)
      obtain ⟨idx, hidx⟩ := Int.eq_ofNat_of_zero_le hr0
      rw [hidx] at hr0 hr1 ⊢
      rw [Int.toNat_natCast]
      obtain ⟨b1, o1, rfl, hb1, hc1⟩ := hx.at_ (k := idx) (by omega)
      generalize hl : zs.length = n at *
      generalize hv : zs.getD idx 0 = v at *
      have HX := Lib.hid hx
      have HQ := Lib.hid q5
      have HL := Lib.hid hl
      have HV := Lib.hid hv
      clear hx q5 hl hv
      go_enter Try.func39, Try.ntmps39
      go_wp2_with fail
      have hl := HL.out
      subst hl
      refine (isWindow_any _ _ _ _ _ _ _ (HX.out.on (by repeat' (first | exact Below.refl _ _ | assumption | (refine Below.drew ?_) | (refine below_drewN ?_ _) | (refine below_thru ?_ (by assumption)) | (refine below_alloc ?_ _) | (refine Below.setCell ?_ (by first | omega | (simp; done) | (simp; omega)) _) | (refine Below.alloc ?_ (by first | omega | (simp; done) | (simp; omega)) _)))) bs).mono ?_
      rw [hwin]
      rintro e w1 ⟨rfl, hb2⟩
      obtain ⟨hc2, hf2⟩ := bcell hb2
      have hz2 : w.heap.size < w1.heap.size := (by have hsz_ := hb2.size; first | omega | (simp at hsz_; omega))
      have hc1' : w1.cell? ⟨b1, o1 + idx, none⟩ = some (.int .i64 v) := cell_on hb2 (by rw [← hc1]; exact World.cell?_alloc_lt w _ _ hb1)
      have hi : (idx : Int) < (zs.length : Int) := by rw [HQ.out]; exact hr1
      clear hwin
      go_wp2_with fail
      go_quiet (fail)
      go_wp2_with fail
      go_ret
      exact ⟨rfl, (by repeat' (first | exact Below.refl _ _ | assumption | (refine Below.drew ?_) | (refine below_drewN ?_ _) | (refine below_thru ?_ (by assumption)) | (refine below_alloc ?_ _) | (refine Below.setCell ?_ (by first | omega | (simp; done) | (simp; omega)) _) | (refine Below.alloc ?_ (by first | omega | (simp; done) | (simp; omega)) _)))⟩
  · have h1' : winOk sec now zs win = false := by simpa using hwin
    rw [show shownAt sec now zs win = -1 from if_neg hwin]
    clear hwin
    go_enter Try.func39, Try.ntmps39
    go_wp2_with fail
    refine (isWindow_any _ _ _ _ _ _ _ (hx.on (by repeat' (first | exact Below.refl _ _ | assumption | (refine Below.drew ?_) | (refine below_drewN ?_ _) | (refine below_thru ?_ (by assumption)) | (refine below_alloc ?_ _) | (refine Below.setCell ?_ (by first | omega | (simp; done) | (simp; omega)) _) | (refine Below.alloc ?_ (by first | omega | (simp; done) | (simp; omega)) _)))) bs).mono ?_
    rw [h1']
    rintro e w1 ⟨rfl, hb2⟩
    go_wp2_with fail
    go_ret
    exact ⟨rfl, (by repeat' (first | exact Below.refl _ _ | assumption | (refine Below.drew ?_) | (refine below_drewN ?_ _) | (refine below_thru ?_ (by assumption)) | (refine below_alloc ?_ _) | (refine Below.setCell ?_ (by first | omega | (simp; done) | (simp; omega)) _) | (refine Below.alloc ?_ (by first | omega | (simp; done) | (simp; omega)) _)))⟩

end Go.Proofs.Ytlbbnbhehonbiaa
