/-
  The walk of the law FnExactTurnsToShow; no condition.
-/
import Derived.Test.YtlbbnbhehonbiaaTurns
namespace Go.Proofs.Ytlbbnbhehonbiaa
open Go.ChangeShapes Go.WideShapes Go.ChangeAt Go.RowKit Go.Deep Go.BigFrame
set_option linter.unusedVariables false

theorem fnExactTurnsToShow_walk (sec now : Int) (A : Option Addr) (c : Nat) (zs : List Int) (win : Int) (pic : Int) (w : World) (hx : IRow w w.heap.size A zs) (_ : ∀ z ∈ zs, -9223372036854775808 ≤ z ∧ z ≤ 9223372036854775807)
    (bs : -9223372036854775808 ≤ sec ∧ sec ≤ 9223372036854775807) (_ : -9223372036854775808 ≤ now ∧ now ≤ 9223372036854775807) (_ : -9223372036854775808 ≤ win ∧ win ≤ 9223372036854775807) (_ : -9223372036854775808 ≤ pic ∧ pic ≤ 9223372036854775807) :
    Calls Try.prog 11 #[.agg #[.int .i64 sec, .int .i64 now, .slice A zs.length c], .int .i64 win, .int .i64 pic] w fun e w' => e = .returned (.bool true) ∧ Below w.heap.size w w' := by
  have hm := hx.2.1
  by_cases hlen : (zs.length : Int) ≤ 1048576
  · have hi : (if (zs.length : Int) ≤ 1048576 then 1048576 - (zs.length : Int) else -1) = 1048576 - (zs.length : Int) := if_pos hlen
    have hl2 : zs.length ≤ 1048576 := by omega
    go_enter Try.func11, Try.ntmps11
    go_wp2_with fail
    refine (szDisc_any _ _ _ _ _ _ _ hm (by omega) (by omega)).mono ?_
    rw [hi]
    rintro e w1 ⟨rfl, hb1⟩
    obtain ⟨hc1, hf1⟩ := bcell hb1
    have hz1 : w.heap.size < w1.heap.size := (by have hsz_ := hb1.size; first | omega | (simp at hsz_; omega))
    clear hi
    go_wp2_with fail
    refine (toDisc_any _ _ _ _ _ _ (hx.on (by repeat' (first | exact Below.refl _ _ | assumption | (refine Below.drew ?_) | (refine below_drewN ?_ _) | (refine below_thru ?_ (by assumption)) | (refine below_alloc ?_ _) | (refine Below.setCell ?_ (by first | omega | (simp; done) | (simp; omega)) _) | (refine Below.alloc ?_ (by first | omega | (simp; done) | (simp; omega)) _)))) hl2).mono ?_
    rintro e w2 ⟨A2, c2, rfl, hown2, hb2⟩
    obtain ⟨hc2, hf2⟩ := bcell hb2
    have hz2 : w.heap.size < w2.heap.size := (by have hsz_ := hb2.size; first | omega | (simp at hsz_; omega))
    have hr2 := IRow.of_own hown2
    clear hown2
    go_wp2_with fail
    refine (specTurnsToShow_any _ _ _ _ _ _ _ _ hr2 bs).mono ?_
    generalize hS : turnsToShow sec now zs win pic = S
    have HS := Lib.hid hS
    clear hS
    rintro e w3 ⟨rfl, hb3⟩
    obtain ⟨hc3, hf3⟩ := bcell hb3
    have hz3 : w.heap.size < w3.heap.size := (by have hsz_ := hb3.size; first | omega | (simp at hsz_; omega))
    go_wp2_with fail
    refine (toDisc_any _ _ _ _ _ _ (hx.on (by repeat' (first | exact Below.refl _ _ | assumption | (refine Below.drew ?_) | (refine below_drewN ?_ _) | (refine below_thru ?_ (by assumption)) | (refine below_alloc ?_ _) | (refine Below.setCell ?_ (by first | omega | (simp; done) | (simp; omega)) _) | (refine Below.alloc ?_ (by first | omega | (simp; done) | (simp; omega)) _)))) hl2).mono ?_
    rintro e w4 ⟨A4, c4, rfl, hown4, hb4⟩
    obtain ⟨hc4, hf4⟩ := bcell hb4
    have hz4 : w.heap.size < w4.heap.size := (by have hsz_ := hb4.size; first | omega | (simp at hsz_; omega))
    have hr4 := IRow.of_own hown4
    clear hown4
    go_wp2_with fail
    refine (implTurnsToShow_any _ _ _ _ _ _ _ _ (hr4.on (by repeat' (first | exact Below.refl _ _ | assumption | (refine Below.drew ?_) | (refine below_drewN ?_ _) | (refine below_thru ?_ (by assumption)) | (refine below_alloc ?_ _) | (refine Below.setCell ?_ (by first | omega | (simp; done) | (simp; omega)) _) | (refine Below.alloc ?_ (by first | omega | (simp; done) | (simp; omega)) _)))) bs).mono ?_
    rw [HS.out]
    rintro e w5 ⟨rfl, hb5⟩
    obtain ⟨hc5, hf5⟩ := bcell hb5
    have hz5 : w.heap.size < w5.heap.size := (by have hsz_ := hb5.size; first | omega | (simp at hsz_; omega))
    have hz45 : w4.heap.size < w5.heap.size := (by have hsz_ := hb5.size; first | omega | (simp at hsz_; omega))
    have k0 : w5.cell? ⟨w.heap.size, 0, none⟩ = some (.int .i64 sec) := by go_simp
    have k1 : w5.cell? ⟨w.heap.size, 1, none⟩ = some (.int .i64 now) := by go_simp
    have k2 : w5.cell? ⟨w.heap.size, 2, none⟩ = some (.slice A zs.length c) := by go_simp
    have k3 : w5.cell? ⟨w4.heap.size, 0, none⟩ = some (.int .i64 sec) := by go_simp
    have k4 : w5.cell? ⟨w4.heap.size, 1, none⟩ = some (.int .i64 now) := by go_simp
    have k5 : w5.cell? ⟨w4.heap.size, 2, none⟩ = some (.slice A4 zs.length c4) := by go_simp
    have hx5 := Lib.hid (hx.on (w' := w5) (by repeat' (first | exact Below.refl _ _ | assumption | (refine Below.drew ?_) | (refine below_drewN ?_ _) | (refine below_thru ?_ (by assumption)) | (refine below_alloc ?_ _) | (refine Below.setCell ?_ (by first | omega | (simp; done) | (simp; omega)) _) | (refine Below.alloc ?_ (by first | omega | (simp; done) | (simp; omega)) _))))
    have hr5 := Lib.hid (hr4.on (w' := w5) (by repeat' (first | exact Below.refl _ _ | assumption | (refine Below.drew ?_) | (refine below_drewN ?_ _) | (refine below_thru ?_ (by assumption)) | (refine below_alloc ?_ _) | (refine Below.setCell ?_ (by first | omega | (simp; done) | (simp; omega)) _) | (refine Below.alloc ?_ (by first | omega | (simp; done) | (simp; omega)) _))))
    have hbz := Lib.hid (show Below w.heap.size w w5 from (by repeat' (first | exact Below.refl _ _ | assumption | (refine Below.drew ?_) | (refine below_drewN ?_ _) | (refine below_thru ?_ (by assumption)) | (refine below_alloc ?_ _) | (refine Below.setCell ?_ (by first | omega | (simp; done) | (simp; omega)) _) | (refine Below.alloc ?_ (by first | omega | (simp; done) | (simp; omega)) _))))
    clear hc1 hc2 hc3 hc4 hc5 hf1 hf2 hf3 hf4 hf5 hx hr2 hr4 hb1 hb2 hb3 hb4 hb5
    go_wp2_with fail
    go_region_held3 (fun w' => w'.cell? ⟨w.heap.size, 0, none⟩ = some (.int .i64 sec) ∧ w'.cell? ⟨w.heap.size, 1, none⟩ = some (.int .i64 now) ∧ w'.cell? ⟨w.heap.size, 2, none⟩ = some (.slice A zs.length c) ∧ w'.cell? ⟨w4.heap.size, 0, none⟩ = some (.int .i64 sec) ∧ w'.cell? ⟨w4.heap.size, 1, none⟩ = some (.int .i64 now) ∧ w'.cell? ⟨w4.heap.size, 2, none⟩ = some (.slice A4 zs.length c4))
      (first | go_keep | (go_split_ands; refine ⟨?_, ?_, ?_, ?_, ?_, ?_⟩ <;> (refine cell_on hb6 ?_; assumption)) | (go_split_ands; refine ⟨?_, ?_, ?_, ?_, ?_, ?_⟩ <;> (refine cell_on hb7 ?_; assumption)))
      ((first
        | (go_at_call 30; refine (toDisc_any _ _ _ _ _ _ (hx5.out.drew) hl2).mono ?_; rintro e w6 ⟨A6, c6, rfl, hown6, hb6⟩; have hr6 := Lib.hid (IRow.of_own hown6); clear hown6)
        | (go_at_call 32; refine (eqDisc_any _ _ _ _ _ _ _ _ _ _ _ (IRow.on (w := w5.drew) hr5.out hb6) hr6.out).mono ?_; rw [decide_eq_true rfl]; rintro e w7 ⟨rfl, hb7⟩)))
    go_wp2_with fail
    go_ret
    exact ⟨rfl, hbz.out.trans (Below.mono (Below.trans (Below.drew (Below.refl w5.heap.size w5)) (Below.trans hb6 (Below.mono hb7 hb6.size))) hbz.out.size)⟩
  · have hi : (if (zs.length : Int) ≤ 1048576 then 1048576 - (zs.length : Int) else -1) = -1 := if_neg hlen
    go_enter Try.func11, Try.ntmps11
    go_wp2_with fail
    refine (szDisc_any _ _ _ _ _ _ _ hm (by omega) (by omega)).mono ?_
    rw [hi]
    rintro e w1 ⟨rfl, hb1⟩
    clear hi
    go_wp2_with fail
    go_ret
    exact ⟨rfl, (by repeat' (first | exact Below.refl _ _ | assumption | (refine Below.drew ?_) | (refine below_drewN ?_ _) | (refine below_thru ?_ (by assumption)) | (refine below_alloc ?_ _) | (refine Below.setCell ?_ (by first | omega | (simp; done) | (simp; omega)) _) | (refine Below.alloc ?_ (by first | omega | (simp; done) | (simp; omega)) _)))⟩

end Go.Proofs.Ytlbbnbhehonbiaa
