
/-
  The walk of the law FnExactLinksOk; no condition.
-/
import Derived.Test.YtodocfanaplmpaaLkS
import Derived.Test.YtodocfanaplmpaaLinksS
import Derived.Test.YtodocfanaplmpaaLinksW
import Derived.Test.YtodocfanaplmpaaSlS
namespace Go.Proofs.Ytodocfanaplmpaa
open Go.ChangeShapes Go.WideShapes Go.ChangeAt Go.RowKit Go.Deep Go.BigFrame
set_option linter.unusedVariables false

theorem fnExactLinksOk_walk (n : Int) (A : Option Addr) (c : Nat) (ts : List (Int × Int × Int)) (w : World) (_ : -9223372036854775808 ≤ n ∧ n ≤ 9223372036854775807) (hx : TRow w w.heap.size A ts) : Calls Try.prog 4 #[.int .i64 n, .slice A ts.length c] w fun e w' => e = .returned (.bool true) ∧ Below w.heap.size w w' := by
  have hm := hx.2.1
  by_cases hlen : (ts.length : Int) ≤ 1048576
  · have hi : (if (ts.length : Int) ≤ 1048576 then 1048576 - (ts.length : Int) else -1) = 1048576 - (ts.length : Int) := if_pos hlen
    have hl2 : ts.length ≤ 1048576 := by omega
    go_enter Try.func4, Try.ntmps4
    go_wp2_with fail
    refine (szLinkS_any _ _ _ _ _ hm (by omega) (by omega)).mono ?_
    rw [hi]
    rintro e w1 ⟨rfl, rfl⟩
    clear hi
    go_wp2_with fail
    refine (toLinkS_any _ _ _ _ hx hl2).mono ?_
    rintro e w1 ⟨A1, c1, rfl, hown1, hb1⟩
    have hx1 := hx.on hb1
    have hr1 := TRow.of_own hown1
    have H1 := Lib.hid hown1
    clear hown1
    go_wp2_with fail
    refine (specLinksOk_any _ _ _ _ _ hr1).mono ?_
    rintro e w2 ⟨rfl, hb2⟩
    have hx2 := hx1.on hb2
    generalize hS : linksOk n ts = S
    have HS := Lib.hid hS
    clear hS
    go_wp2_with fail
    refine (toLinkS_any _ _ _ _ hx2 hl2).mono ?_
    rintro e w3 ⟨A3, c3, rfl, hown3, hb3⟩
    have hx3 := hx2.on hb3
    have hr3 := TRow.of_own hown3
    have H3 := Lib.hid hown3
    clear hown3
    go_wp2_with fail
    refine (implLinksOk_any _ _ _ _ _ hr3).mono ?_
    rw [HS.out]
    rintro e w4 ⟨rfl, hb4⟩
    have hx4 := hx3.on hb4
    have hr4 := hr3.on hb4
    go_wp2_with fail
    refine (toLinkS_any _ _ _ _ hx4 hl2).mono ?_
    rintro e w5 ⟨A5, c5, rfl, hown5, hb5⟩
    have hr5 := hr4.on hb5
    have hs5 := TRow.of_own hown5
    have H5 := Lib.hid hown5
    clear hown5
    go_wp2_with fail
    refine (eqLinkS_any _ _ _ _ _ _ _ hr5 hs5).mono ?_
    rw [decide_eq_true rfl]
    rintro e w6 ⟨rfl, hb6⟩
    go_wp2_with fail
    go_ret
    exact ⟨rfl, (by repeat' (first | exact Below.refl _ _ | assumption | (refine Below.drew ?_) | (refine below_drewN ?_ _) | (refine below_thru ?_ (by assumption)) | (refine below_alloc ?_ _) | (refine Below.setCell ?_ (by first | omega | (simp; done) | (simp; omega)) _) | (refine Below.alloc ?_ (by first | omega | (simp; done) | (simp; omega)) _)))⟩
  · have hi : (if (ts.length : Int) ≤ 1048576 then 1048576 - (ts.length : Int) else -1) = -1 := if_neg hlen
    go_enter Try.func4, Try.ntmps4
    go_wp2_with fail
    refine (szLinkS_any _ _ _ _ _ hm (by omega) (by omega)).mono ?_
    rw [hi]
    rintro e w1 ⟨rfl, rfl⟩
    clear hi
    go_wp2_with fail
    go_ret
    exact ⟨rfl, Below.refl _ _⟩

end Go.Proofs.Ytodocfanaplmpaa
