/-
  The walk of the law FnExactMeetAgain; no condition.
-/
import Derived.Test.YtlbbnbhehonbiaaMeet
import Derived.Deep.RegionWith
namespace Go.Proofs.Ytlbbnbhehonbiaa
open Go.ChangeShapes Go.WideShapes Go.ChangeAt Go.RowKit Go.Deep Go.BigFrame
set_option linter.unusedVariables false

theorem fnExactMeetAgain_walk (s0 n0 : Int) (A0 : Option Addr) (c0 : Nat) (zs0 : List Int) (s1 n1 : Int) (A1 : Option Addr) (c1 : Nat) (zs1 : List Int) (w : World) (hx0 : IRow w w.heap.size A0 zs0) (_ : ∀ z ∈ zs0, -9223372036854775808 ≤ z ∧ z ≤ 9223372036854775807) (bs0 : -9223372036854775808 ≤ s0 ∧ s0 ≤ 9223372036854775807) (_ : -9223372036854775808 ≤ n0 ∧ n0 ≤ 9223372036854775807)
    (hx1 : IRow w w.heap.size A1 zs1) (_ : ∀ z ∈ zs1, -9223372036854775808 ≤ z ∧ z ≤ 9223372036854775807) (bs1 : -9223372036854775808 ≤ s1 ∧ s1 ≤ 9223372036854775807) (_ : -9223372036854775808 ≤ n1 ∧ n1 ≤ 9223372036854775807) :
    Calls Try.prog 10 #[.agg #[.int .i64 s0, .int .i64 n0, .slice A0 zs0.length c0], .agg #[.int .i64 s1, .int .i64 n1, .slice A1 zs1.length c1]] w fun e w' => e = .returned (.bool true) ∧ Below w.heap.size w w' := by
  have hm0 := hx0.2.1
  have hm1 := hx1.2.1
  by_cases hl0 : (zs0.length : Int) ≤ 1048576
  · have hi0 : (if (zs0.length : Int) ≤ 1048576 then 1048576 - (zs0.length : Int) else -1) = 1048576 - (zs0.length : Int) := if_pos hl0
    have ll0 : zs0.length ≤ 1048576 := by omega
    by_cases hl1 : (zs1.length : Int) ≤ 1048576 - (zs0.length : Int)
    · have hi1 : (if (zs1.length : Int) ≤ 1048576 - (zs0.length : Int) then 1048576 - (zs0.length : Int) - (zs1.length : Int) else -1) = 1048576 - (zs0.length : Int) - (zs1.length : Int) := if_pos hl1
      have ll1 : zs1.length ≤ 1048576 := by omega
      go_enter Try.func10, Try.ntmps10
      go_wp2_with fail
      refine (szDisc_any _ _ _ _ _ _ _ hm0 (by omega) (by omega)).mono ?_
      rw [hi0]
      rintro e w1 ⟨rfl, hb1⟩
      obtain ⟨hc1, hf1⟩ := bcell hb1
      have hz1 : w.heap.size + 1 < w1.heap.size := (by have hsz_ := hb1.size; first | omega | (simp at hsz_; omega))
      have hz1p : w.heap.size < w1.heap.size := by omega
      go_wp2_with fail
      refine (szDisc_any _ _ _ _ _ _ _ hm1 (by omega) (by omega)).mono ?_
      rw [hi1]
      rintro e w2 ⟨rfl, hb2⟩
      obtain ⟨hc2, hf2⟩ := bcell hb2
      have hz2 : w.heap.size + 1 < w2.heap.size := (by have hsz_ := hb2.size; first | omega | (simp at hsz_; omega))
      have hz2p : w.heap.size < w2.heap.size := by omega
      clear hi0 hi1
      have k0 : w2.cell? ⟨w.heap.size, 0, none⟩ = some (.int .i64 s0) := cell_on hb2 (cell_on hb1 (by go_simp))
      have k1 : w2.cell? ⟨w.heap.size, 1, none⟩ = some (.int .i64 n0) := cell_on hb2 (cell_on hb1 (by go_simp))
      have k2 : w2.cell? ⟨w.heap.size, 2, none⟩ = some (.slice A0 zs0.length c0) := cell_on hb2 (cell_on hb1 (by go_simp))
      have m0 : w2.cell? ⟨w.heap.size + 1, 0, none⟩ = some (.int .i64 s1) := cell_on hb2 (cell_on hb1 (by go_simp))
      have m1 : w2.cell? ⟨w.heap.size + 1, 1, none⟩ = some (.int .i64 n1) := cell_on hb2 (cell_on hb1 (by go_simp))
      have m2 : w2.cell? ⟨w.heap.size + 1, 2, none⟩ = some (.slice A1 zs1.length c1) := cell_on hb2 (cell_on hb1 (by go_simp))
      have hy0 := Lib.hid (hx0.on (w' := w2) (by repeat' (first | exact Below.refl _ _ | assumption | (refine Below.drew ?_) | (refine below_drewN ?_ _) | (refine below_thru ?_ (by assumption)) | (refine below_alloc ?_ _) | (refine Below.setCell ?_ (by first | omega | (simp; done) | (simp; omega)) _) | (refine Below.alloc ?_ (by first | omega | (simp; done) | (simp; omega)) _))))
      have hy1 := Lib.hid (hx1.on (w' := w2) (by repeat' (first | exact Below.refl _ _ | assumption | (refine Below.drew ?_) | (refine below_drewN ?_ _) | (refine below_thru ?_ (by assumption)) | (refine below_alloc ?_ _) | (refine Below.setCell ?_ (by first | omega | (simp; done) | (simp; omega)) _) | (refine Below.alloc ?_ (by first | omega | (simp; done) | (simp; omega)) _))))
      have hbz := Lib.hid (show Below w.heap.size w w2 from (by repeat' (first | exact Below.refl _ _ | assumption | (refine Below.drew ?_) | (refine below_drewN ?_ _) | (refine below_thru ?_ (by assumption)) | (refine below_alloc ?_ _) | (refine Below.setCell ?_ (by first | omega | (simp; done) | (simp; omega)) _) | (refine Below.alloc ?_ (by first | omega | (simp; done) | (simp; omega)) _))))
      clear hc1 hc2 hf1 hf2 hx0 hx1 hb1 hb2
      generalize hS : meetV s0 n0 zs0 s1 n1 zs1 = S
      have HS := Lib.hid hS
      clear hS
      go_wp2_with fail
      go_region_held3 (fun w' => w'.cell? ⟨w.heap.size, 0, none⟩ = some (.int .i64 s0) ∧ w'.cell? ⟨w.heap.size, 1, none⟩ = some (.int .i64 n0) ∧ w'.cell? ⟨w.heap.size, 2, none⟩ = some (.slice A0 zs0.length c0) ∧ w'.cell? ⟨w.heap.size + 1, 0, none⟩ = some (.int .i64 s1) ∧ w'.cell? ⟨w.heap.size + 1, 1, none⟩ = some (.int .i64 n1) ∧ w'.cell? ⟨w.heap.size + 1, 2, none⟩ = some (.slice A1 zs1.length c1))
        (first | go_keep | (go_split_ands; refine ⟨?_, ?_, ?_, ?_, ?_, ?_⟩ <;> (refine cell_on hb3 ?_; assumption)) | (go_split_ands; refine ⟨?_, ?_, ?_, ?_, ?_, ?_⟩ <;> (refine cell_on hb4 ?_; assumption)) | (go_split_ands; refine ⟨?_, ?_, ?_, ?_, ?_, ?_⟩ <;> (refine cell_on hb4b ?_; assumption)))
        ((first
          | (go_at_call_of 30 A0; refine (toDisc_any _ _ _ _ _ _ (hy0.out.drew) ll0).mono ?_; rintro e w3 ⟨A3, c3, rfl, hown3, hb3⟩; have hr3 := Lib.hid (IRow.of_own hown3); clear hown3)
          | (go_at_call_of 30 A1; refine (toDisc_any _ _ _ _ _ _ (IRow.on (w := w2.drew) hy1.out hb3) ll1).mono ?_; rintro e w4 ⟨A4, c4, rfl, hown4, hb4⟩; have hr4 := Lib.hid (IRow.of_own hown4); clear hown4)
          | (go_at_call 40; refine (specMeetAgain_any _ _ _ _ _ _ _ _ _ _ _ (hr3.out.on hb4) hr4.out bs0 bs1).mono ?_; rw [HS.out]; rintro e w4b ⟨rfl, hb4b⟩)))
      have hb24 : Below w2.heap.size w2 w4b := Below.trans (Below.drew (Below.refl w2.heap.size w2)) (Below.trans hb3 (Below.mono (Below.trans hb4 (Below.mono hb4b hb4.size)) hb3.size))
      replace k0 := cell_on hb24 k0
      replace k1 := cell_on hb24 k1
      replace k2 := cell_on hb24 k2
      replace m0 := cell_on hb24 m0
      replace m1 := cell_on hb24 m1
      replace m2 := cell_on hb24 m2
      have hx0 := hy0.out.on hb24
      have hx1 := hy1.out.on hb24
      have hbz2 := Lib.hid (hbz.out.trans (hb24.mono hbz.out.size))
      have hz4b : w.heap.size + 1 < w4b.heap.size := by have := hb24.size; omega
      have hz4bp : w.heap.size < w4b.heap.size := by omega
      clear hb24 hb3 hb4 hb4b hr3 hr4 hy0 hy1 hbz hz1 hz2 hz1p hz2p
      go_wp2_with fail
      refine (toDisc_any _ _ _ _ _ _ (hx0.on (by repeat' (first | exact Below.refl _ _ | assumption | (refine Below.drew ?_) | (refine below_drewN ?_ _) | (refine below_thru ?_ (by assumption)) | (refine below_alloc ?_ _) | (refine Below.setCell ?_ (by first | omega | (simp; done) | (simp; omega)) _) | (refine Below.alloc ?_ (by first | omega | (simp; done) | (simp; omega)) _)))) ll0).mono ?_
      rintro e w5 ⟨A5, c5, rfl, hown5, hb5⟩
      obtain ⟨hc5, hf5⟩ := bcell hb5
      have hz5 : w.heap.size + 1 < w5.heap.size := (by have hsz_ := hb5.size; first | omega | (simp at hsz_; omega))
      have hz5p : w.heap.size < w5.heap.size := by omega
      have hr5 := IRow.of_own hown5
      clear hown5
      go_wp2_with fail
      refine (toDisc_any _ _ _ _ _ _ (hx1.on (by repeat' (first | exact Below.refl _ _ | assumption | (refine Below.drew ?_) | (refine below_drewN ?_ _) | (refine below_thru ?_ (by assumption)) | (refine below_alloc ?_ _) | (refine Below.setCell ?_ (by first | omega | (simp; done) | (simp; omega)) _) | (refine Below.alloc ?_ (by first | omega | (simp; done) | (simp; omega)) _)))) ll1).mono ?_
      rintro e w6 ⟨A6, c6, rfl, hown6, hb6⟩
      obtain ⟨hc6, hf6⟩ := bcell hb6
      have hz6 : w.heap.size + 1 < w6.heap.size := (by have hsz_ := hb6.size; first | omega | (simp at hsz_; omega))
      have hz6p : w.heap.size < w6.heap.size := by omega
      have hz56 : w5.heap.size < w6.heap.size := (by have hsz_ := hb6.size; first | omega | (simp at hsz_; omega))
      have hr6 := IRow.of_own hown6
      clear hown6
      go_wp2_with fail
      refine (implMeetAgain_any _ _ _ _ _ _ _ _ _ _ _ (hr5.on (by repeat' (first | exact Below.refl _ _ | assumption | (refine Below.drew ?_) | (refine below_drewN ?_ _) | (refine below_thru ?_ (by assumption)) | (refine below_alloc ?_ _) | (refine Below.setCell ?_ (by first | omega | (simp; done) | (simp; omega)) _) | (refine Below.alloc ?_ (by first | omega | (simp; done) | (simp; omega)) _)))) (hr6.on (by repeat' (first | exact Below.refl _ _ | assumption | (refine Below.drew ?_) | (refine below_drewN ?_ _) | (refine below_thru ?_ (by assumption)) | (refine below_alloc ?_ _) | (refine Below.setCell ?_ (by first | omega | (simp; done) | (simp; omega)) _) | (refine Below.alloc ?_ (by first | omega | (simp; done) | (simp; omega)) _)))) bs0 bs1).mono ?_
      rw [HS.out]
      rintro e w7 ⟨rfl, hb7⟩
      obtain ⟨hc7, hf7⟩ := bcell hb7
      have hz7 : w.heap.size + 1 < w7.heap.size := (by have hsz_ := hb7.size; first | omega | (simp at hsz_; omega))
      have hz7p : w.heap.size < w7.heap.size := by omega
      have hz67 : w6.heap.size < w7.heap.size := (by have hsz_ := hb7.size; first | omega | (simp at hsz_; omega))
      have hz57 : w5.heap.size < w7.heap.size := by omega
      have hs0 := Lib.hid (hr5.on (w' := w7) (by repeat' (first | exact Below.refl _ _ | assumption | (refine Below.drew ?_) | (refine below_drewN ?_ _) | (refine below_thru ?_ (by assumption)) | (refine below_alloc ?_ _) | (refine Below.setCell ?_ (by first | omega | (simp; done) | (simp; omega)) _) | (refine Below.alloc ?_ (by first | omega | (simp; done) | (simp; omega)) _))))
      have hs1 := Lib.hid (hr6.on (w' := w7) (by repeat' (first | exact Below.refl _ _ | assumption | (refine Below.drew ?_) | (refine below_drewN ?_ _) | (refine below_thru ?_ (by assumption)) | (refine below_alloc ?_ _) | (refine Below.setCell ?_ (by first | omega | (simp; done) | (simp; omega)) _) | (refine Below.alloc ?_ (by first | omega | (simp; done) | (simp; omega)) _))))
      have hb47 : Below w4b.heap.size w4b w7 := (by repeat' (first | exact Below.refl _ _ | assumption | (refine Below.drew ?_) | (refine below_drewN ?_ _) | (refine below_thru ?_ (by assumption)) | (refine below_alloc ?_ _) | (refine Below.setCell ?_ (by first | omega | (simp; done) | (simp; omega)) _) | (refine Below.alloc ?_ (by first | omega | (simp; done) | (simp; omega)) _)))
      replace k0 := cell_on hb47 k0
      replace k1 := cell_on hb47 k1
      replace k2 := cell_on hb47 k2
      replace m0 := cell_on hb47 m0
      replace m1 := cell_on hb47 m1
      replace m2 := cell_on hb47 m2
      have k3 : w7.cell? ⟨w5.heap.size, 0, none⟩ = some (.int .i64 s0) := cell_on hb7 (cell_alloc (cell_on hb6 (by go_simp)) _)
      have k4 : w7.cell? ⟨w5.heap.size, 1, none⟩ = some (.int .i64 n0) := cell_on hb7 (cell_alloc (cell_on hb6 (by go_simp)) _)
      have k5 : w7.cell? ⟨w5.heap.size, 2, none⟩ = some (.slice A5 zs0.length c5) := cell_on hb7 (cell_alloc (cell_on hb6 (by go_simp)) _)
      have m3 : w7.cell? ⟨w6.heap.size, 0, none⟩ = some (.int .i64 s1) := cell_on hb7 (by go_simp)
      have m4 : w7.cell? ⟨w6.heap.size, 1, none⟩ = some (.int .i64 n1) := cell_on hb7 (by go_simp)
      have m5 : w7.cell? ⟨w6.heap.size, 2, none⟩ = some (.slice A6 zs1.length c6) := cell_on hb7 (by go_simp)
      have hy0 := Lib.hid (hx0.on (w' := w7) hb47)
      have hy1 := Lib.hid (hx1.on (w' := w7) hb47)
      have hbz := Lib.hid (hbz2.out.trans (hb47.mono hbz2.out.size))
      clear hb47 hc5 hc6 hc7 hf5 hf6 hf7 hx0 hx1 hr5 hr6 hb5 hb6 hb7 hbz2
      go_wp2_with fail
      go_region_held3 (fun w' => w'.cell? ⟨w.heap.size, 0, none⟩ = some (.int .i64 s0) ∧ w'.cell? ⟨w.heap.size, 1, none⟩ = some (.int .i64 n0) ∧ w'.cell? ⟨w.heap.size, 2, none⟩ = some (.slice A0 zs0.length c0) ∧ w'.cell? ⟨w5.heap.size, 0, none⟩ = some (.int .i64 s0) ∧ w'.cell? ⟨w5.heap.size, 1, none⟩ = some (.int .i64 n0) ∧ w'.cell? ⟨w5.heap.size, 2, none⟩ = some (.slice A5 zs0.length c5))
        (first | go_keep | (go_split_ands; refine ⟨?_, ?_, ?_, ?_, ?_, ?_⟩ <;> (refine cell_on hb8 ?_; assumption)) | (go_split_ands; refine ⟨?_, ?_, ?_, ?_, ?_, ?_⟩ <;> (refine cell_on hb9 ?_; assumption)))
        ((first
          | (go_at_call 30; refine (toDisc_any _ _ _ _ _ _ (hy0.out.drew) ll0).mono ?_; rintro e w8 ⟨A8, c8, rfl, hown8, hb8⟩; have hr8 := Lib.hid (IRow.of_own hown8); clear hown8)
          | (go_at_call 32; refine (eqDisc_any _ _ _ _ _ _ _ _ _ _ _ (IRow.on (w := w7.drew) hs0.out hb8) hr8.out).mono ?_; rw [decide_eq_true rfl]; rintro e w9 ⟨rfl, hb9⟩)))
      have hb79 : Below w7.heap.size w7 w9 := Below.trans (Below.drew (Below.refl w7.heap.size w7)) (Below.trans hb8 (Below.mono hb9 hb8.size))
      replace m0 := cell_on hb79 m0
      replace m1 := cell_on hb79 m1
      replace m2 := cell_on hb79 m2
      replace m3 := cell_on hb79 m3
      replace m4 := cell_on hb79 m4
      replace m5 := cell_on hb79 m5
      have hy1' := Lib.hid (hy1.out.on hb79)
      have hs1' := Lib.hid (hs1.out.on hb79)
      have hbz' := Lib.hid (hbz.out.trans (hb79.mono hbz.out.size))
      have hz9 : w.heap.size + 1 < w9.heap.size := by have := hb79.size; omega
      have hz9p : w.heap.size < w9.heap.size := by omega
      have hz69 : w6.heap.size < w9.heap.size := by have := hb79.size; omega
      clear hb79 hb8 hb9 k0 k1 k2 k3 k4 k5
      go_wp2_with fail
      go_region_held3 (fun w' => w'.cell? ⟨w.heap.size + 1, 0, none⟩ = some (.int .i64 s1) ∧ w'.cell? ⟨w.heap.size + 1, 1, none⟩ = some (.int .i64 n1) ∧ w'.cell? ⟨w.heap.size + 1, 2, none⟩ = some (.slice A1 zs1.length c1) ∧ w'.cell? ⟨w6.heap.size, 0, none⟩ = some (.int .i64 s1) ∧ w'.cell? ⟨w6.heap.size, 1, none⟩ = some (.int .i64 n1) ∧ w'.cell? ⟨w6.heap.size, 2, none⟩ = some (.slice A6 zs1.length c6))
        (first | go_keep | (go_split_ands; refine ⟨?_, ?_, ?_, ?_, ?_, ?_⟩ <;> (refine cell_on hb10 ?_; assumption)) | (go_split_ands; refine ⟨?_, ?_, ?_, ?_, ?_, ?_⟩ <;> (refine cell_on hb11 ?_; assumption)))
        ((first
          | (go_at_call 30; refine (toDisc_any _ _ _ _ _ _ (hy1'.out.drew) ll1).mono ?_; rintro e w10 ⟨A10, c10, rfl, hown10, hb10⟩; have hr10 := Lib.hid (IRow.of_own hown10); clear hown10)
          | (go_at_call 32; refine (eqDisc_any _ _ _ _ _ _ _ _ _ _ _ (IRow.on (w := w9.drew) hs1'.out hb10) hr10.out).mono ?_; rw [decide_eq_true rfl]; rintro e w11 ⟨rfl, hb11⟩)))
      go_wp2_with fail
      go_ret
      exact ⟨rfl, hbz'.out.trans (Below.mono (Below.trans (Below.drew (Below.refl w9.heap.size w9)) (Below.trans hb10 (Below.mono hb11 hb10.size))) hbz'.out.size)⟩
    · have hi1 : (if (zs1.length : Int) ≤ 1048576 - (zs0.length : Int) then 1048576 - (zs0.length : Int) - (zs1.length : Int) else -1) = -1 := if_neg hl1
      go_enter Try.func10, Try.ntmps10
      go_wp2_with fail
      refine (szDisc_any _ _ _ _ _ _ _ hm0 (by omega) (by omega)).mono ?_
      rw [hi0]
      rintro e w1 ⟨rfl, hb1⟩
      obtain ⟨hc1, hf1⟩ := bcell hb1
      have hz1 : w.heap.size + 1 < w1.heap.size := (by have hsz_ := hb1.size; first | omega | (simp at hsz_; omega))
      have hz1p : w.heap.size < w1.heap.size := by omega
      go_wp2_with fail
      refine (szDisc_any _ _ _ _ _ _ _ hm1 (by omega) (by omega)).mono ?_
      rw [hi1]
      rintro e w2 ⟨rfl, hb2⟩
      clear hi0 hi1
      go_wp2_with fail
      go_ret
      exact ⟨rfl, (by repeat' (first | exact Below.refl _ _ | assumption | (refine Below.drew ?_) | (refine below_drewN ?_ _) | (refine below_thru ?_ (by assumption)) | (refine below_alloc ?_ _) | (refine Below.setCell ?_ (by first | omega | (simp; done) | (simp; omega)) _) | (refine Below.alloc ?_ (by first | omega | (simp; done) | (simp; omega)) _)))⟩
  · have hi : (if (zs0.length : Int) ≤ 1048576 then 1048576 - (zs0.length : Int) else -1) = -1 := if_neg hl0
    go_enter Try.func10, Try.ntmps10
    go_wp2_with fail
    refine (szDisc_any _ _ _ _ _ _ _ hm0 (by omega) (by omega)).mono ?_
    rw [hi]
    rintro e w1 ⟨rfl, hb1⟩
    clear hi
    go_wp2_with fail
    go_ret
    exact ⟨rfl, (by repeat' (first | exact Below.refl _ _ | assumption | (refine Below.drew ?_) | (refine below_drewN ?_ _) | (refine below_thru ?_ (by assumption)) | (refine below_alloc ?_ _) | (refine Below.setCell ?_ (by first | omega | (simp; done) | (simp; omega)) _) | (refine Below.alloc ?_ (by first | omega | (simp; done) | (simp; omega)) _)))⟩

end Go.Proofs.Ytlbbnbhehonbiaa
