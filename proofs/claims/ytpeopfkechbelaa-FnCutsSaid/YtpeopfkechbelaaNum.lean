
/-
  Contracts of the small functions on numbers; no condition.
-/
import Derived.Test.YtpeopfkechbelaaMem
namespace Go.Proofs.Ytpeopfkechbelaa
open Go.ChangeShapes Go.WideShapes Go.ChangeAt Go.RowKit
set_option linter.unusedVariables false

theorem within_any (n lo hi : Int) (w : World) : Calls Try.prog 104 #[.int .i64 n, .int .i64 lo, .int .i64 hi] w fun e w' => e = .returned (.bool (inB n lo hi)) ∧ w = w' := by
  by_cases h1 : lo ≤ n
  · go_enter Try.func104, Try.ntmps104
    go_wp2
    go_ret
    refine ⟨?_, rfl⟩
    simp [inB, h1]
  · have hd : decide (lo ≤ n) = false := by simpa using h1
    go_enter Try.func104, Try.ntmps104
    go_wp2
    go_ret
    refine ⟨?_, rfl⟩
    simp [inB, hd]

theorem l01In_any (n lo hi : Int) (w : World) : Calls Try.prog 69 #[.int .i64 n, .int .i64 lo, .int .i64 hi] w fun e w' => e = .returned (.bool (inB n lo hi)) ∧ w = w' := by
  by_cases h1 : lo ≤ n
  · go_enter Try.func69, Try.ntmps69
    go_wp2
    go_ret
    refine ⟨?_, rfl⟩
    simp [inB, h1]
  · have hd : decide (lo ≤ n) = false := by simpa using h1
    go_enter Try.func69, Try.ntmps69
    go_wp2
    go_ret
    refine ⟨?_, rfl⟩
    simp [inB, hd]

theorem isSteps_any (n : Int) (w : World) : Calls Try.prog 103 #[.int .i64 n] w fun e w' => e = .returned (.bool (inB n 1 8)) ∧ w = w' := by
  go_enter Try.func103, Try.ntmps103
  go_wp2_with (go_at_call 104; refine (within_any _ _ _ _).mono ?_; rintro e w' ⟨rfl, rfl⟩)
  go_ret
  exact ⟨rfl, rfl⟩

theorem l02Frame_any (d f : Int) (w : World) : Calls Try.prog 89 #[.int .i64 d, .int .i64 f] w fun e w' => e = .returned (.bool (inB d 1 8 && inB f 1 8)) ∧ w = w' := by
  by_cases h : inB d 1 8 = true
  · rw [h]
    go_enter Try.func89, Try.ntmps89
    go_wp2_with (go_at_call 69; refine (l01In_any _ _ _ _).mono ?_; rintro e w' ⟨rfl, rfl⟩)
    go_ret
    exact ⟨rfl, rfl⟩
  · have h' : inB d 1 8 = false := by simpa using h
    rw [h']
    clear h
    go_enter Try.func89, Try.ntmps89
    go_wp2_with (go_at_call 69; refine (l01In_any _ _ _ _).mono ?_; rintro e w' ⟨rfl, rfl⟩)
    go_ret
    exact ⟨rfl, rfl⟩

theorem within_is {n lo hi : Int} {b : Bool} (h : inB n lo hi = b) (w : World) : Calls Try.prog 104 #[.int .i64 n, .int .i64 lo, .int .i64 hi] w fun e w' => e = .returned (.bool b) ∧ w = w' := h ▸ within_any n lo hi w
theorem l01In_is {n lo hi : Int} {b : Bool} (h : inB n lo hi = b) (w : World) : Calls Try.prog 69 #[.int .i64 n, .int .i64 lo, .int .i64 hi] w fun e w' => e = .returned (.bool b) ∧ w = w' := h ▸ l01In_any n lo hi w

theorem quiet_left {P : Program} {f : FuncId} {args : Array Value} {w : World} {n : Nat} {v : Value}
    (h : Calls P f args (w.drewN n) fun e w' => e = .returned v ∧ w.drewN n = w') : Calls P f args (w.drewN n) fun e w'' => e = .returned v ∧ ∃ m, w'' = w.drewN m :=
  h.mono fun _ _ ⟨he, hm⟩ => ⟨he, n, hm.symm⟩

end Go.Proofs.Ytpeopfkechbelaa
