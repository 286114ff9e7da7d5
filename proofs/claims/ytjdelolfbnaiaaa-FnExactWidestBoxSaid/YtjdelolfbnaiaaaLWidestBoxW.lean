
/-
  The walk of the law FnExactWidestBox; no condition beyond the size of the texts.
-/
import Derived.Test.YtjdelolfbnaiaaaWidest
import Derived.Deep.RegionHeld3
namespace Go.Proofs.Ytjdelolfbnaiaaa
open Go.ChangeShapes Go.WideShapes Go.ChangeAt Go.RowKit Go.Deep Go.BigFrame
set_option linter.unusedVariables false
set_option linter.unusedSimpArgs false

theorem eqBox_same (x y z : Int) (w : World) : Calls Try.prog 25 #[.agg #[.int .i64 x, .int .i64 y, .int .i64 z], .agg #[.int .i64 x, .int .i64 y, .int .i64 z]] w fun e w' => e = .returned (.bool true) ∧ Below w.heap.size w w' := by
  have h0 : (x != x) = false := by simp
  have h1 : (y != y) = false := by simp
  have h2 : (z != z) = false := by simp
  go_enter Try.func25, Try.ntmps25
  go_wp2_with fail
  go_ret
  exact ⟨rfl, (by repeat' (first | exact Below.refl _ _ | assumption | (refine Below.drew ?_) | (refine below_drewN ?_ _) | (refine below_thru ?_ (by assumption)) | (refine below_alloc ?_ _) | (refine Below.setCell ?_ (by first | omega | (simp; done) | (simp; omega)) _) | (refine Below.alloc ?_ (by first | omega | (simp; done) | (simp; omega)) _)))⟩

set_option maxHeartbeats 1000000 in
set_option maxRecDepth 8000 in
theorem fnExactWidestBox_walk (d f : Int) (A : Option Addr) (c : Nat) (ss : List ByteArray) (k : Int) (i : Int) (w : World) (hx : SRow w w.heap.size A ss) (hmx : ∀ s ∈ ss, s.size ≤ maxLen)
    (bd : -9223372036854775808 ≤ d ∧ d ≤ 9223372036854775807) (bf : -9223372036854775808 ≤ f ∧ f ≤ 9223372036854775807) (bk : -9223372036854775808 ≤ k ∧ k ≤ 9223372036854775807) (bi : -9223372036854775808 ≤ i ∧ i ≤ 9223372036854775807) :
    Calls Try.prog 7 #[.agg #[.int .i64 d, .int .i64 f, .slice A ss.length c], .int .i64 k, .int .i64 i] w fun e w' => e = .returned (.bool true) ∧ Below w.heap.size w w' := by
  have hrr := szAll_cases ss 1048576 (by decide)
  have hsm' := szAll_small (ss := ss)
  have HZ := Lib.hid (fun w hx => szCard_any d f A c ss 1048576 w hx hmx (by decide) (by decide))
  have HA0 := Lib.hid (show CardAt w (w.alloc (.cells #[.int .i64 d, .int .i64 f, .slice A ss.length c] 24)) d f A c ss from ⟨by go_simp, by go_simp, by go_simp, hx.alloc (Nat.le_refl _) _, (Below.refl _ _).alloc (Nat.le_refl _) _, by simp⟩)
  generalize szAll 1048576 ss = r at *
  by_cases hlen : 0 ≤ r
  case neg =>
    obtain rfl : r = -1 := by omega
    clear hsm' hmx hx
    go_enter Try.func7, Try.ntmps7
    go_wp2_with fail
    refine (HZ.out _ HA0.out.full).mono ?_
    rintro e w1 ⟨rfl, hb1⟩
    go_wp2_with fail
    go_ret
    exact ⟨rfl, below_thru HA0.out.below hb1⟩
  obtain ⟨hl2, hsm⟩ := hsm' hlen
  have hsz : ∀ s ∈ ss, s.size ≤ 4294967296 := fun s h => Nat.le_trans (hsm s h) (by decide)
  have HSP := Lib.hid (fun A c (u : World) hx => specWidestBox_any d f A c ss k i u hx hsz bk bi)
  have HIM := Lib.hid (fun A c (u : World) hx => implWidestBox_any d f A c ss k i u hx hsz bk bi)
  have HTC := Lib.hid (fun (u : World) hx => toCard_any d f A c ss u hx hl2)
  generalize (wbox d f ss k i).1 = x at *
  generalize (wbox d f ss k i).2.1 = y at *
  generalize (wbox d f ss k i).2.2 = z at *
  generalize canW d f ss k i = v at *
  clear hsm' hsm hsz hmx hx
  go_enter Try.func7, Try.ntmps7
  go_wp2_with fail
  refine (HZ.out _ HA0.out.full).mono ?_
  rintro e w1 ⟨rfl, hb1⟩
  have HA1 := Lib.hid (HA0.out.on hb1)
  obtain ⟨p0, p1, p2, prow, pb, plt⟩ := HA1.out
  clear hb1 HA0 prow pb
  go_wp2_with fail
  refine (HTC.out _ HA1.out.full).mono ?_
  rintro e w2 ⟨A2, c2, rfl, o2, b2⟩
  have HA2 := Lib.hid (HA1.out.on b2)
  have R2 := Lib.hid (SRow.of_own o2)
  clear o2 b2 HA1 p0 p1 p2 plt
  go_wp2_with fail
  refine (HSP.out _ _ _ R2.out).mono ?_
  rintro e w3 ⟨rfl, b3⟩
  have HA3 := Lib.hid ((HA2.out.on b3).on (below_alloc (Below.refl _ _) (.cells #[.int .i64 x, .int .i64 y, .int .i64 z] 37)))
  have HW3 := Lib.hid (show BoxAt (w3.alloc (.cells #[.int .i64 x, .int .i64 y, .int .i64 z] 37)) w3.heap.size x y z from ⟨by go_simp, by go_simp, by go_simp, fun j => by go_simp⟩)
  clear b3 R2 HA2 HSP
  go_upto_region 6 with (fail)
  generalize w3.alloc (.cells #[.int .i64 x, .int .i64 y, .int .i64 z] 37) = w4 at *
  obtain ⟨p0, p1, p2, prow, pb, plt⟩ := HA3.out
  clear prow pb
  go_wp2_with fail
  refine (HTC.out _ HA3.out.full).mono ?_
  rintro e w5 ⟨A5, c5, rfl, o5, b5⟩
  have HX6 := Lib.hid (CardAt.start (d := d) (f := f) (c := c5) (SRow.of_own o5))
  have HA6 := Lib.hid ((HA3.out.on b5).on (below_alloc (Below.refl _ _) (.cells #[.int .i64 d, .int .i64 f, .slice A5 ss.length c5] 27)))
  have HW6 := Lib.hid ((HW3.out.on b5).on (below_alloc (Below.refl _ _) (.cells #[.int .i64 d, .int .i64 f, .slice A5 ss.length c5] 27)))
  clear o5 b5 HA3 HW3 p0 p1 p2 plt
  go_upto_region 7 with (fail)
  generalize w5.alloc (.cells #[.int .i64 d, .int .i64 f, .slice A5 ss.length c5] 27) = w6 at *
  obtain ⟨q0, q1, q2, qrow, qb, qlt⟩ := HX6.out
  clear qrow qb
  go_wp2_with fail
  refine (HIM.out _ _ _ HX6.out.full).mono ?_
  rintro e w7 ⟨rfl, b7⟩
  have HG8 := Lib.hid (show BoxAt (w7.alloc (.cells #[.int .i64 x, .int .i64 y, .int .i64 z] 37)) w7.heap.size x y z from ⟨by go_simp, by go_simp, by go_simp, fun j => by go_simp⟩)
  have HA8 := Lib.hid ((HA6.out.on b7).on (below_alloc (Below.refl _ _) (.cells #[.int .i64 x, .int .i64 y, .int .i64 z] 37)))
  have HW8 := Lib.hid ((HW6.out.on b7).on (below_alloc (Below.refl _ _) (.cells #[.int .i64 x, .int .i64 y, .int .i64 z] 37)))
  have HX8 := Lib.hid ((HX6.out.on b7).on (below_alloc (Below.refl _ _) (.cells #[.int .i64 x, .int .i64 y, .int .i64 z] 37)))
  clear b7 HA6 HW6 HX6 q0 q1 q2 qlt
  go_upto_region 8 with (fail)
  generalize w7.alloc (.cells #[.int .i64 x, .int .i64 y, .int .i64 z] 37) = w8 at *
  obtain ⟨g0, g1, g2, gfz⟩ := HG8.out
  obtain ⟨v0, v1, v2, vfz⟩ := HW8.out
  clear gfz vfz
  have hvv : (v != v) = false := by simp
  go_wp2_with fail
  refine (eqBox_same x y z _).mono ?_
  rintro e w9 ⟨rfl, b9⟩
  have HA9 := Lib.hid (HA8.out.on b9)
  have HX9 := Lib.hid (HX8.out.on b9)
  clear b9 HA8 HW8 HX8 HG8 g0 g1 g2 v0 v1 v2
  obtain ⟨p0, p1, p2, prow, pb, plt⟩ := HA9.out
  obtain ⟨q0, q1, q2, qrow, qb, qlt⟩ := HX9.out
  have HXF := Lib.hid (show SRow w9 w9.heap.size A ss from HA9.out.full)
  have HYF := Lib.hid (show SRow w9 w9.heap.size A5 ss from HX9.out.full)
  clear prow pb qrow qb
  go_wp2_with fail
  go_region_held3 (fun w' => w'.cell? ⟨w.heap.size, 0, none⟩ = some (.int .i64 d) ∧ w'.cell? ⟨w.heap.size, 1, none⟩ = some (.int .i64 f) ∧ w'.cell? ⟨w.heap.size, 2, none⟩ = some (.slice A ss.length c) ∧ w'.cell? ⟨w5.heap.size, 0, none⟩ = some (.int .i64 d) ∧ w'.cell? ⟨w5.heap.size, 1, none⟩ = some (.int .i64 f) ∧ w'.cell? ⟨w5.heap.size, 2, none⟩ = some (.slice A5 ss.length c5))
    (first | go_keep | (go_split_ands; refine ⟨?_, ?_, ?_, ?_, ?_, ?_⟩ <;> (refine cell_on hb6 ?_; assumption)) | (go_split_ands; refine ⟨?_, ?_, ?_, ?_, ?_, ?_⟩ <;> (refine cell_on hb7 ?_; assumption)))
    ((first
      | (go_at_call 14; refine (HTC.out _ (HXF.out.drew)).mono ?_; rintro e w10 ⟨A10, c10, rfl, hown6, hb6⟩; have hr6 := Lib.hid (SRow.of_own hown6); clear hown6)
      | (go_at_call 16; refine (eqCard_any _ _ _ _ _ _ _ _ _ _ _ (SRow.on (w := w9.drew) HYF.out hb6) hr6.out).mono ?_; rw [decide_eq_true rfl]; rintro e w11 ⟨rfl, hb7⟩)))
  have HB := Lib.hid (below_thru HA9.out.below (below_thru (show Below w9.heap.size w9 w10 from ⟨hb6.os, hb6.tape, hb6.output, hb6.size, hb6.block⟩) hb7))
  clear hb6 hb7
  go_wp2_with fail
  go_ret
  exact ⟨rfl, HB.out⟩

end Go.Proofs.Ytjdelolfbnaiaaa
