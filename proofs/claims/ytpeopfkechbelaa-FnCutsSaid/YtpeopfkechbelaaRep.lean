
/-
  The letter d again and again: the contract of the reference's l02Many; no condition beyond the number.
-/
import Derived.Test.YtpeopfkechbelaaTurn
namespace Go.Proofs.Ytpeopfkechbelaa
open Go.ChangeShapes Go.WideShapes Go.ChangeAt Go.RowKit Go.Deep Go.BigFrame
set_option linter.unusedVariables false

def rep (n : Nat) : List UInt8 := List.replicate n 100
theorem rep_len (n : Nat) : (rep n).length = n := List.length_replicate
theorem rep_succ (n : Nat) : rep (n + 1) = rep n ++ [100] := List.replicate_succ'

theorem l02Many_any (n : Nat) (w : World) (hn : n ≤ 4294967295) : Calls Try.prog 91 #[.string ⟨#[100]⟩, .int .i64 n] w fun e w' => e = .returned (.string (bs (rep n))) ∧ w = w' := by
  go_enter Try.func91, Try.ntmps91
  go_wp2_with fail
  go_loop [5, 6] (fun o i => ∃ j : Nat, j ≤ n ∧ i = .int .i64 j ∧ o = .string (bs (rep j))) (fun _ i => n - (intOf i).toNat)
  case atStart => exact ⟨0, Nat.zero_le _, rfl, rfl⟩
  case round =>
    obtain ⟨j, hj, rfl, rfl⟩ := hrel
    by_cases hlt : j < n
    · have hbz : (bs (rep j)).size ≤ 4294967295 := by rw [bs_size, rep_len]; omega
      have HR := Lib.hid (rep_succ j)
      generalize rep j = r at *
      go_wp2_with fail
      go_round
      case rel => exact ⟨j + 1, by omega, by go_num, by rw [HR.out, ← bs_app]; rfl⟩
      case measure => simp [intOf]; omega
    · obtain rfl : j = n := by omega
      go_wp2_with fail
      go_ret
      exact ⟨rfl, rfl⟩

end Go.Proofs.Ytpeopfkechbelaa
