/-
  The walk of the law FnExactBridgeCount; no condition beyond the length of the text.
-/
import Derived.Test.YtjkicfagphielaaBCount2
namespace Go.Proofs.Ytjkicfagphielaa
open Go.ChangeShapes Go.WideShapes Go.ChangeAt Go.RowKit Go.Deep Go.BigFrame
set_option linter.unusedVariables false

theorem fnExactBridgeCount_walk (s : ByteArray) (fr : Int) (to : Int) (w : World) (_ : s.size ≤ maxLen) (_ : -9223372036854775808 ≤ fr ∧ fr ≤ 9223372036854775807) (_ : -9223372036854775808 ≤ to ∧ to ≤ 9223372036854775807) :
    Calls Try.prog 12 #[.string s, .int .i64 fr, .int .i64 to] w fun e w' => e = .returned (.bool true) ∧ Below w.heap.size w w' := by
  by_cases hls : s.size ≤ 1048576
  case neg =>
    have hs2 : (1048576 : Int) < (s.size : Int) := by omega
    go_enter Try.func12, Try.ntmps12
    go_wp2_with fail
    go_ret
    exact ⟨rfl, (by repeat' (first | exact Below.refl _ _ | assumption | (refine Below.drew ?_) | (refine below_drewN ?_ _) | (refine below_thru ?_ (by assumption)) | (refine below_alloc ?_ _) | (refine Below.setCell ?_ (by first | omega | (simp; done) | (simp; omega)) _) | (refine Below.alloc ?_ (by first | omega | (simp; done) | (simp; omega)) _)))⟩
  have hss : s.size ≤ 4294967296 := by omega
  have his : (s.size : Int) ≤ 1048576 := by omega
  have hc1 := fun w => specBridgeCount_any s fr to w hss
  have hc2 := fun w => implBridgeCount_any s fr to w hss
  generalize bridgeCount s.data.toList fr to = zs at *
  have H1 := Lib.hid hc1
  have H2 := Lib.hid hc2
  clear hc1 hc2
  go_enter Try.func12, Try.ntmps12
  go_wp2_with fail
  refine (H1.out _).mono ?_
  rintro e w1 ⟨rfl, b1⟩
  go_wp2_with fail
  refine (H2.out _).mono ?_
  rintro e w2 ⟨rfl, b2⟩
  go_wp2_with fail
  go_ret
  exact ⟨rfl, (by repeat' (first | exact Below.refl _ _ | assumption | (refine Below.drew ?_) | (refine below_drewN ?_ _) | (refine below_thru ?_ (by assumption)) | (refine below_alloc ?_ _) | (refine Below.setCell ?_ (by first | omega | (simp; done) | (simp; omega)) _) | (refine Below.alloc ?_ (by first | omega | (simp; done) | (simp; omega)) _)))⟩


end Go.Proofs.Ytjkicfagphielaa
