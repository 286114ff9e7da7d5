
/-
  The walk of the law FnExactCountSteps; no condition beyond the size of the texts.
-/
import Derived.Test.YtjdelolfbnaiaaaSteps
import Derived.Deep.RegionHeld3
namespace Go.Proofs.Ytjdelolfbnaiaaa
open Go.ChangeShapes Go.WideShapes Go.ChangeAt Go.RowKit Go.Deep Go.BigFrame
set_option linter.unusedVariables false

theorem fnExactCountSteps_walk (d f : Int) (A : Option Addr) (c : Nat) (ss : List ByteArray)  (w : World) (hx : SRow w w.heap.size A ss) (hmx : ∀ s ∈ ss, s.size ≤ maxLen)
    (bd : -9223372036854775808 ≤ d ∧ d ≤ 9223372036854775807) (bf : -9223372036854775808 ≤ f ∧ f ≤ 9223372036854775807) :
    Calls Try.prog 9 #[.agg #[.int .i64 d, .int .i64 f, .slice A ss.length c]] w fun e w' => e = .returned (.bool true) ∧ Below w.heap.size w w' := by
  have hrr := szAll_cases ss 1048576 (by decide)
  have hsm' := szAll_small (ss := ss)
  have HZ := Lib.hid (fun w hx => szCard_any d f A c ss 1048576 w hx hmx (by decide) (by decide))
  generalize szAll 1048576 ss = r at *
  by_cases hlen : 0 ≤ r
  · obtain ⟨hl2, hsm⟩ := hsm' hlen
    have hsz : ∀ s ∈ ss, s.size ≤ 4294967296 := fun s h => Nat.le_trans (hsm s h) (by decide)
    have HM := Lib.hid hsz
    clear hsm' hsm hsz hmx
    go_enter Try.func9, Try.ntmps9
    go_wp2_with fail
    refine (HZ.out _ (hx.on (by repeat' (first | exact Below.refl _ _ | assumption | (refine Below.drew ?_) | (refine below_drewN ?_ _) | (refine below_thru ?_ (by assumption)) | (refine below_alloc ?_ _) | (refine Below.setCell ?_ (by first | omega | (simp; done) | (simp; omega)) _) | (refine Below.alloc ?_ (by first | omega | (simp; done) | (simp; omega)) _))))).mono ?_
    rintro e w1 ⟨rfl, hb1⟩
    obtain ⟨hc1, hf1⟩ := bcell hb1
    have hz1 : w.heap.size < w1.heap.size := (by have hsz_ := hb1.size; first | omega | (simp at hsz_; omega))
    go_wp2_with fail
    refine (toCard_any _ _ _ _ _ _ (hx.on (by repeat' (first | exact Below.refl _ _ | assumption | (refine Below.drew ?_) | (refine below_drewN ?_ _) | (refine below_thru ?_ (by assumption)) | (refine below_alloc ?_ _) | (refine Below.setCell ?_ (by first | omega | (simp; done) | (simp; omega)) _) | (refine Below.alloc ?_ (by first | omega | (simp; done) | (simp; omega)) _)))) hl2).mono ?_
    rintro e w2 ⟨A2, c2, rfl, hown2, hb2⟩
    obtain ⟨hc2, hf2⟩ := bcell hb2
    have hz2 : w.heap.size < w2.heap.size := (by have hsz_ := hb2.size; first | omega | (simp at hsz_; omega))
    have hr2 := SRow.of_own hown2
    clear hown2
    go_wp2_with fail
    refine (specCountSteps_any d f _ _ ss  _ hr2 HM.out bd bf).mono ?_
    generalize hS0 : countSteps d f ss = S0
    have HS0 := Lib.hid hS0
    clear hS0
    rintro e w3 ⟨rfl, hb3⟩
    obtain ⟨hc3, hf3⟩ := bcell hb3
    have hz3 : w.heap.size < w3.heap.size := (by have hsz_ := hb3.size; first | omega | (simp at hsz_; omega))
    go_wp2_with fail
    refine (toCard_any _ _ _ _ _ _ (hx.on (by repeat' (first | exact Below.refl _ _ | assumption | (refine Below.drew ?_) | (refine below_drewN ?_ _) | (refine below_thru ?_ (by assumption)) | (refine below_alloc ?_ _) | (refine Below.setCell ?_ (by first | omega | (simp; done) | (simp; omega)) _) | (refine Below.alloc ?_ (by first | omega | (simp; done) | (simp; omega)) _)))) hl2).mono ?_
    rintro e w4 ⟨A4, c4, rfl, hown4, hb4⟩
    obtain ⟨hc4, hf4⟩ := bcell hb4
    have hz4 : w.heap.size < w4.heap.size := (by have hsz_ := hb4.size; first | omega | (simp at hsz_; omega))
    have hr4 := SRow.of_own hown4
    clear hown4
    go_wp2_with fail
    refine (implCountSteps_any d f _ _ ss  _ (hr4.on (by repeat' (first | exact Below.refl _ _ | assumption | (refine Below.drew ?_) | (refine below_drewN ?_ _) | (refine below_thru ?_ (by assumption)) | (refine below_alloc ?_ _) | (refine Below.setCell ?_ (by first | omega | (simp; done) | (simp; omega)) _) | (refine Below.alloc ?_ (by first | omega | (simp; done) | (simp; omega)) _)))) HM.out bd bf).mono ?_
    rw [HS0.out]
    rintro e w5 ⟨rfl, hb5⟩
    obtain ⟨hc5, hf5⟩ := bcell hb5
    have hz5 : w.heap.size < w5.heap.size := (by have hsz_ := hb5.size; first | omega | (simp at hsz_; omega))
    have hz45 : w4.heap.size < w5.heap.size := (by have hsz_ := hb5.size; first | omega | (simp at hsz_; omega))
    have k0 : w5.cell? ⟨w.heap.size, 0, none⟩ = some (.int .i64 d) := by go_simp
    have k1 : w5.cell? ⟨w.heap.size, 1, none⟩ = some (.int .i64 f) := by go_simp
    have k2 : w5.cell? ⟨w.heap.size, 2, none⟩ = some (.slice A ss.length c) := by go_simp
    have k3 : w5.cell? ⟨w4.heap.size, 0, none⟩ = some (.int .i64 d) := by go_simp
    have k4 : w5.cell? ⟨w4.heap.size, 1, none⟩ = some (.int .i64 f) := by go_simp
    have k5 : w5.cell? ⟨w4.heap.size, 2, none⟩ = some (.slice A4 ss.length c4) := by go_simp
    have hx5 := Lib.hid (hx.on (w' := w5) (by repeat' (first | exact Below.refl _ _ | assumption | (refine Below.drew ?_) | (refine below_drewN ?_ _) | (refine below_thru ?_ (by assumption)) | (refine below_alloc ?_ _) | (refine Below.setCell ?_ (by first | omega | (simp; done) | (simp; omega)) _) | (refine Below.alloc ?_ (by first | omega | (simp; done) | (simp; omega)) _))))
    have hr5 := Lib.hid (hr4.on (w' := w5) (by repeat' (first | exact Below.refl _ _ | assumption | (refine Below.drew ?_) | (refine below_drewN ?_ _) | (refine below_thru ?_ (by assumption)) | (refine below_alloc ?_ _) | (refine Below.setCell ?_ (by first | omega | (simp; done) | (simp; omega)) _) | (refine Below.alloc ?_ (by first | omega | (simp; done) | (simp; omega)) _))))
    have hbz := Lib.hid (show Below w.heap.size w w5 from (by repeat' (first | exact Below.refl _ _ | assumption | (refine Below.drew ?_) | (refine below_drewN ?_ _) | (refine below_thru ?_ (by assumption)) | (refine below_alloc ?_ _) | (refine Below.setCell ?_ (by first | omega | (simp; done) | (simp; omega)) _) | (refine Below.alloc ?_ (by first | omega | (simp; done) | (simp; omega)) _))))
    clear hc1 hc2 hc3 hc4 hc5 hf1 hf2 hf3 hf4 hf5 hx hr2 hr4 hb1 hb2 hb3 hb4 hb5
    go_wp2_with fail
    go_region_held3 (fun w' => w'.cell? ⟨w.heap.size, 0, none⟩ = some (.int .i64 d) ∧ w'.cell? ⟨w.heap.size, 1, none⟩ = some (.int .i64 f) ∧ w'.cell? ⟨w.heap.size, 2, none⟩ = some (.slice A ss.length c) ∧ w'.cell? ⟨w4.heap.size, 0, none⟩ = some (.int .i64 d) ∧ w'.cell? ⟨w4.heap.size, 1, none⟩ = some (.int .i64 f) ∧ w'.cell? ⟨w4.heap.size, 2, none⟩ = some (.slice A4 ss.length c4))
      (first | go_keep | (go_split_ands; refine ⟨?_, ?_, ?_, ?_, ?_, ?_⟩ <;> (refine cell_on hb6 ?_; assumption)) | (go_split_ands; refine ⟨?_, ?_, ?_, ?_, ?_, ?_⟩ <;> (refine cell_on hb7 ?_; assumption)))
      ((first
        | (go_at_call 14; refine (toCard_any _ _ _ _ _ _ (hx5.out.drew) hl2).mono ?_; rintro e w6 ⟨A6, c6, rfl, hown6, hb6⟩; have hr6 := Lib.hid (SRow.of_own hown6); clear hown6)
        | (go_at_call 16; refine (eqCard_any _ _ _ _ _ _ _ _ _ _ _ (SRow.on (w := w5.drew) hr5.out hb6) hr6.out).mono ?_; rw [decide_eq_true rfl]; rintro e w7 ⟨rfl, hb7⟩)))
    go_wp2_with fail
    go_ret
    exact ⟨rfl, hbz.out.trans (Below.mono (Below.trans (Below.drew (Below.refl w5.heap.size w5)) (Below.trans hb6 (Below.mono hb7 hb6.size))) hbz.out.size)⟩
  · obtain rfl : r = -1 := by omega
    clear hsm' hmx
    go_enter Try.func9, Try.ntmps9
    go_wp2_with fail
    refine (HZ.out _ (hx.on (by repeat' (first | exact Below.refl _ _ | assumption | (refine Below.drew ?_) | (refine below_drewN ?_ _) | (refine below_thru ?_ (by assumption)) | (refine below_alloc ?_ _) | (refine Below.setCell ?_ (by first | omega | (simp; done) | (simp; omega)) _) | (refine Below.alloc ?_ (by first | omega | (simp; done) | (simp; omega)) _))))).mono ?_
    rintro e w1 ⟨rfl, hb1⟩
    go_wp2_with fail
    go_ret
    exact ⟨rfl, (by repeat' (first | exact Below.refl _ _ | assumption | (refine Below.drew ?_) | (refine below_drewN ?_ _) | (refine below_thru ?_ (by assumption)) | (refine below_alloc ?_ _) | (refine Below.setCell ?_ (by first | omega | (simp; done) | (simp; omega)) _) | (refine Below.alloc ?_ (by first | omega | (simp; done) | (simp; omega)) _)))⟩


end Go.Proofs.Ytjdelolfbnaiaaa
