
/-
  The walks of the laws FnExactDepthsOf, FnExactHeightsOf; no condition beyond the length of the text.
-/
import Derived.Test.YtjkicfagphielaaViews
import Derived.Test.YtjkicfagphielaaMarks
namespace Go.Proofs.Ytjkicfagphielaa
open Go.ChangeShapes Go.WideShapes Go.ChangeAt Go.RowKit Go.Deep Go.BigFrame
set_option linter.unusedVariables false

theorem fnExactDepthsOf_walk (s : ByteArray) (w : World) (_ : s.size ≤ maxLen) :
    Calls Try.prog 8 #[.string s] w fun e w' => e = .returned (.bool true) ∧ Below w.heap.size w w' := by
  by_cases hls : s.size ≤ 1048576
  case neg =>
    have hs2 : (1048576 : Int) < (s.size : Int) := by omega
    go_enter Try.func8, Try.ntmps8
    go_wp2_with fail
    go_ret
    exact ⟨rfl, (by repeat' (first | exact Below.refl _ _ | assumption | (refine Below.drew ?_) | (refine below_drewN ?_ _) | (refine below_thru ?_ (by assumption)) | (refine below_alloc ?_ _) | (refine Below.setCell ?_ (by first | omega | (simp; done) | (simp; omega)) _) | (refine Below.alloc ?_ (by first | omega | (simp; done) | (simp; omega)) _)))⟩
  have hss : s.size ≤ 4294967296 := by omega
  have his : (s.size : Int) ≤ 1048576 := by omega
  have hc1 := fun w => specDepthsOf_any s w hss
  have hc2 := fun w => implDepthsOf_any s w hss
  have hzl : (depths s.data.toList).length ≤ 4294967296 := by have := depths_len s.data.toList; rw [size_list] at this; omega
  generalize depths s.data.toList = zs at *
  have H1 := Lib.hid hc1
  have H2 := Lib.hid hc2
  clear hc1 hc2
  go_enter Try.func8, Try.ntmps8
  go_wp2_with fail
  refine (H1.out _).mono ?_
  rintro e w1 ⟨A1, c1, rfl, o1, b1⟩
  go_wp2_with fail
  refine (H2.out _).mono ?_
  rintro e w2 ⟨A2, c2, rfl, o2, b2⟩
  have r1 := (IRow.of_own o1).below b2
  have hz1 := b1.size
  have hz2 := b2.size
  have O2 := Lib.hid o2
  have R1 := Lib.hid r1
  have B1 := Lib.hid b1
  have B2 := Lib.hid b2
  clear o1 o2 r1 b1 b2
  go_wp2_with fail
  refine (eqIntS_any A2 A1 c2 c1 zs zs w2 (IRow.of_own O2.out) (R1.out.more hz2)).mono ?_
  rw [decide_eq_true rfl]
  rintro e w3 ⟨rfl, q3, rfl⟩
  go_wp2_with fail
  refine (markIntS_any A2 c2 1 zs.length w1.heap.size _ _ (own_drewN O2.out q3) (by decide) hzl).mono ?_
  rintro e w4 ⟨rfl, o4, g4⟩
  have hr : ∀ g, (Value.slice A2 zs.length c2).ownBlock = some g → w1.heap.size ≤ g := fun g hg => (O2.out.lt g hg).1
  have R4 := Lib.hid (R1.out.grown (drewN_grown g4) hz2 hr)
  have B4 := Lib.hid (Below.grown (below_thru B1.out B2.out) (drewN_grown g4) (by omega) (fun g hg => Nat.le_trans hz1 (hr g hg)))
  have M4 := Lib.hid (irow_marks o4)
  have hz4 : w2.heap.size ≤ w4.heap.size := (drewN_grown g4).size
  clear o4 g4 hr
  go_wp2_with fail
  refine (heldIntS_any A2 c2 1 zs.length w4 M4.out (by decide) hzl).mono ?_
  rintro e w5 ⟨rfl, q5, rfl⟩
  go_wp2_with fail
  refine (H2.out _).mono ?_
  rintro e w6 ⟨A3, c3, rfl, o3, b3⟩
  have b36 : Below w4.heap.size w4 w6 := ⟨b3.os, b3.tape, b3.output, b3.size, b3.block⟩
  have r16 := (R4.out.more (by omega)).on b36
  have m6 := M4.out.on b36
  have B6 := Lib.hid (below_thru B4.out (b36.mono (by omega)))
  have R6 := Lib.hid r16
  have M6 := Lib.hid m6
  have O3 := Lib.hid (IRow.of_own o3)
  clear r16 m6 b36 b3 o3
  go_wp2_with fail
  refine (eqIntS_any A3 A1 c3 c1 zs zs w6 O3.out R6.out).mono ?_
  rw [decide_eq_true rfl]
  rintro e w7 ⟨rfl, q7, rfl⟩
  go_wp2_with fail
  refine (heldIntS_any A2 c2 1 zs.length (w6.drewN q7) (M6.out.drewN q7) (by decide) hzl).mono ?_
  rintro e w8 ⟨rfl, q8, rfl⟩
  go_wp2_with fail
  go_ret
  exact ⟨rfl, below_drewN B6.out _⟩

theorem fnExactHeightsOf_walk (s : ByteArray) (w : World) (_ : s.size ≤ maxLen) :
    Calls Try.prog 14 #[.string s] w fun e w' => e = .returned (.bool true) ∧ Below w.heap.size w w' := by
  by_cases hls : s.size ≤ 1048576
  case neg =>
    have hs2 : (1048576 : Int) < (s.size : Int) := by omega
    go_enter Try.func14, Try.ntmps14
    go_wp2_with fail
    go_ret
    exact ⟨rfl, (by repeat' (first | exact Below.refl _ _ | assumption | (refine Below.drew ?_) | (refine below_drewN ?_ _) | (refine below_thru ?_ (by assumption)) | (refine below_alloc ?_ _) | (refine Below.setCell ?_ (by first | omega | (simp; done) | (simp; omega)) _) | (refine Below.alloc ?_ (by first | omega | (simp; done) | (simp; omega)) _)))⟩
  have hss : s.size ≤ 4294967296 := by omega
  have his : (s.size : Int) ≤ 1048576 := by omega
  have hc1 := fun w => specHeightsOf_any s w hss
  have hc2 := fun w => implHeightsOf_any s w hss
  have hzl : (heights s.data.toList).length ≤ 4294967296 := by have := heights_len s.data.toList; rw [size_list] at this; omega
  generalize heights s.data.toList = zs at *
  have H1 := Lib.hid hc1
  have H2 := Lib.hid hc2
  clear hc1 hc2
  go_enter Try.func14, Try.ntmps14
  go_wp2_with fail
  refine (H1.out _).mono ?_
  rintro e w1 ⟨A1, c1, rfl, o1, b1⟩
  go_wp2_with fail
  refine (H2.out _).mono ?_
  rintro e w2 ⟨A2, c2, rfl, o2, b2⟩
  have r1 := (IRow.of_own o1).below b2
  have hz1 := b1.size
  have hz2 := b2.size
  have O2 := Lib.hid o2
  have R1 := Lib.hid r1
  have B1 := Lib.hid b1
  have B2 := Lib.hid b2
  clear o1 o2 r1 b1 b2
  go_wp2_with fail
  refine (eqIntS_any A2 A1 c2 c1 zs zs w2 (IRow.of_own O2.out) (R1.out.more hz2)).mono ?_
  rw [decide_eq_true rfl]
  rintro e w3 ⟨rfl, q3, rfl⟩
  go_wp2_with fail
  refine (markIntS_any A2 c2 1 zs.length w1.heap.size _ _ (own_drewN O2.out q3) (by decide) hzl).mono ?_
  rintro e w4 ⟨rfl, o4, g4⟩
  have hr : ∀ g, (Value.slice A2 zs.length c2).ownBlock = some g → w1.heap.size ≤ g := fun g hg => (O2.out.lt g hg).1
  have R4 := Lib.hid (R1.out.grown (drewN_grown g4) hz2 hr)
  have B4 := Lib.hid (Below.grown (below_thru B1.out B2.out) (drewN_grown g4) (by omega) (fun g hg => Nat.le_trans hz1 (hr g hg)))
  have M4 := Lib.hid (irow_marks o4)
  have hz4 : w2.heap.size ≤ w4.heap.size := (drewN_grown g4).size
  clear o4 g4 hr
  go_wp2_with fail
  refine (heldIntS_any A2 c2 1 zs.length w4 M4.out (by decide) hzl).mono ?_
  rintro e w5 ⟨rfl, q5, rfl⟩
  go_wp2_with fail
  refine (H2.out _).mono ?_
  rintro e w6 ⟨A3, c3, rfl, o3, b3⟩
  have b36 : Below w4.heap.size w4 w6 := ⟨b3.os, b3.tape, b3.output, b3.size, b3.block⟩
  have r16 := (R4.out.more (by omega)).on b36
  have m6 := M4.out.on b36
  have B6 := Lib.hid (below_thru B4.out (b36.mono (by omega)))
  have R6 := Lib.hid r16
  have M6 := Lib.hid m6
  have O3 := Lib.hid (IRow.of_own o3)
  clear r16 m6 b36 b3 o3
  go_wp2_with fail
  refine (eqIntS_any A3 A1 c3 c1 zs zs w6 O3.out R6.out).mono ?_
  rw [decide_eq_true rfl]
  rintro e w7 ⟨rfl, q7, rfl⟩
  go_wp2_with fail
  refine (heldIntS_any A2 c2 1 zs.length (w6.drewN q7) (M6.out.drewN q7) (by decide) hzl).mono ?_
  rintro e w8 ⟨rfl, q8, rfl⟩
  go_wp2_with fail
  go_ret
  exact ⟨rfl, below_drewN B6.out _⟩

end Go.Proofs.Ytjkicfagphielaa
