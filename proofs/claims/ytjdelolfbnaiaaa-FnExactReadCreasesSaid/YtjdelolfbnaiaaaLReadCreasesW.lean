
/-
  The walk of the law FnExactReadCreases; no condition beyond the length of the text.
-/
import Derived.Test.YtjdelolfbnaiaaaRead2
namespace Go.Proofs.Ytjdelolfbnaiaaa
open Go.ChangeShapes Go.WideShapes Go.ChangeAt Go.RowKit Go.Deep Go.BigFrame
set_option linter.unusedVariables false

theorem fnExactReadCreases_walk (t : ByteArray) (d : Int) (f : Int) (w : World) (_ : t.size ≤ maxLen) (bd : -9223372036854775808 ≤ d ∧ d ≤ 9223372036854775807) (bf : -9223372036854775808 ≤ f ∧ f ≤ 9223372036854775807) :
    Calls Try.prog 4 #[.string t, .int .i64 d, .int .i64 f] w fun e w' => e = .returned (.bool true) ∧ Below w.heap.size w w' := by
  by_cases hlt : t.size ≤ 1048576
  case neg =>
    have hs2 : (1048576 : Int) < (t.size : Int) := by omega
    go_enter Try.func4, Try.ntmps4
    go_wp2_with fail
    go_ret
    exact ⟨rfl, (by repeat' (first | exact Below.refl _ _ | assumption | (refine Below.drew ?_) | (refine below_drewN ?_ _) | (refine below_thru ?_ (by assumption)) | (refine below_alloc ?_ _) | (refine Below.setCell ?_ (by first | omega | (simp; done) | (simp; omega)) _) | (refine Below.alloc ?_ (by first | omega | (simp; done) | (simp; omega)) _)))⟩
  have hst : t.size ≤ 4294967296 := by omega
  have hit : (t.size : Int) ≤ 1048576 := by omega
  have hc1 := fun w => specReadCreases_any t d f w hlt bd bf
  have hc2 := fun w => implReadCreases_any t d f w hlt bd bf
  generalize readCr t d f = zs at *
  have H1 := Lib.hid hc1
  have H2 := Lib.hid hc2
  clear hc1 hc2
  go_enter Try.func4, Try.ntmps4
  go_wp2_with fail
  refine (H1.out _).mono ?_
  rintro e w1 ⟨rfl, q1, rfl⟩
  go_wp2_with fail
  refine (H2.out _).mono ?_
  rintro e w2 ⟨rfl, b2⟩
  go_wp2_with fail
  go_ret
  exact ⟨rfl, (by repeat' (first | exact Below.refl _ _ | assumption | (refine Below.drew ?_) | (refine below_drewN ?_ _) | (refine below_thru ?_ (by assumption)) | (refine below_alloc ?_ _) | (refine Below.setCell ?_ (by first | omega | (simp; done) | (simp; omega)) _) | (refine Below.alloc ?_ (by first | omega | (simp; done) | (simp; omega)) _)))⟩


end Go.Proofs.Ytjdelolfbnaiaaa
