
/-
  Contracts of the reference's FlatStrip and HighStrip, and of l02Many for both letters; no condition.
-/
import Derived.Test.YtpeopfkechbelaaRep
import Derived.Test.YtpeopfkechbelaaAreasP
namespace Go.Proofs.Ytpeopfkechbelaa
open Go.ChangeShapes Go.WideShapes Go.ChangeAt Go.RowKit Go.Deep Go.BigFrame
set_option linter.unusedVariables false

theorem repF_len (n : Nat) : (repF n).length = n := List.length_replicate
theorem repF_succ (n : Nat) : repF (n + 1) = repF n ++ [102] := List.replicate_succ'
theorem l02ManyF_any (n : Nat) (w : World) (hn : n ≤ 4294967295) : Calls Try.prog 91 #[.string ⟨#[102]⟩, .int .i64 n] w fun e w' => e = .returned (.string (bs (repF n))) ∧ w = w' := by
  go_enter Try.func91, Try.ntmps91
  go_wp2_with fail
  go_loop [5, 6] (fun o i => ∃ j : Nat, j ≤ n ∧ i = .int .i64 j ∧ o = .string (bs (repF j))) (fun _ i => n - (intOf i).toNat)
  case atStart => exact ⟨0, Nat.zero_le _, rfl, rfl⟩
  case round =>
    obtain ⟨j, hj, rfl, rfl⟩ := hrel
    by_cases hlt : j < n
    · have hbz : (bs (repF j)).size ≤ 4294967295 := by rw [bs_size, repF_len]; omega
      have HR := Lib.hid (repF_succ j)
      generalize repF j = r at *
      go_wp2_with fail
      go_round
      case rel => exact ⟨j + 1, by omega, by go_num, by rw [HR.out, ← bs_app]; rfl⟩
      case measure => simp [intOf]; omega
    · obtain rfl : j = n := by omega
      go_wp2_with fail
      go_ret
      exact ⟨rfl, rfl⟩

theorem specFlatStrip_any (d f : Nat) (w : World) (hd : 1 ≤ d ∧ d ≤ 8) (hf : 1 ≤ f ∧ f ≤ 8) : Calls Try.prog 88 #[.int .i64 d, .int .i64 f] w fun e w' => e = .returned (.string (bs (flat d f))) ∧ w = w' := by
  have HF := Lib.hid (fun w => l02Frame_any d f w)
  rw [show (inB (d : Int) 1 8 && inB (f : Int) 1 8) = true from andI (inB_iff.2 (by omega)) (inB_iff.2 (by omega))] at HF
  have HD := Lib.hid (fun w => l02Many_any d w (by omega))
  have HG := Lib.hid (fun w => l02ManyF_any f w (by omega))
  have hz1 : (bs (rep d)).size ≤ 8 := by rw [bs_size, rep_len]; omega
  have hz2 : (bs (repF f)).size ≤ 8 := by rw [bs_size, repF_len]; omega
  have he : bs (flat d f) = bs (rep d) ++ bs (repF f) := (bs_app _ _).symm
  rw [he]
  clear he
  generalize bs (rep d) = u at *
  generalize bs (repF f) = v at *
  go_enter Try.func88, Try.ntmps88
  go_wp2_with fail
  refine (HF.out _).mono ?_
  rintro e w1 ⟨rfl, rfl⟩
  go_wp2_with fail
  refine (HD.out _).mono ?_
  rintro e w1 ⟨rfl, rfl⟩
  go_wp2_with fail
  refine (HG.out _).mono ?_
  rintro e w1 ⟨rfl, rfl⟩
  go_wp2_with fail
  go_ret
  exact ⟨rfl, rfl⟩

end Go.Proofs.Ytpeopfkechbelaa
