
/-
  Contracts of CanRaise, RaiseAt and LowerAt on both sides; no condition beyond the length of the text.
-/
import Derived.Test.YtjdelolfbnaiaaaCorner
namespace Go.Proofs.Ytjdelolfbnaiaaa
open Go.ChangeShapes Go.WideShapes Go.ChangeAt Go.RowKit Go.Deep Go.BigFrame
set_option linter.unusedVariables false

theorem run_sl (s : ByteArray) (lo hi : Int) (a b : Nat) (hlo : lo = a) (hhi : hi = b) (h1 : a ≤ b) (h2 : b ≤ s.size) (W : World) :
    (Instr.slice 9 (.string s) (some (.int .i64 lo)) (some (.int .i64 hi)) none).run Try.prog W = .ok (.string (s.extract a b)) W := by
  subst hlo hhi
  have := run_slice_string (P := Try.prog) W 9 s .i64 .i64 (a : Int) (b : Int) Try.underlying9 (by omega) (by omega) (by omega)
  simpa using this

/-- the text with the letters k - 1 and k exchanged -/
def turnB (s : ByteArray) (k : Nat) : ByteArray := s.extract 0 (k - 1) ++ s.extract k (k + 1) ++ s.extract (k - 1) k ++ s.extract (k + 1) s.size

theorem foldAt_bounds {c : UInt8} {s : ByteArray} {k : Int} (h : foldAt c s.data.toList k = true) : isStrip s.data.toList = true ∧ 1 ≤ k ∧ k + 1 ≤ s.size := by
  have e := size_list s
  simp only [foldAt, corner, Bool.and_eq_true, decide_eq_true_eq] at h
  exact ⟨h.1, by omega, by omega⟩

theorem implCanRaise_any (s : ByteArray) (k : Int) (w : World) (hs : s.size ≤ 4294967296) : Calls Try.prog 52 #[.string s, .int .i64 k] w fun e w' => e = .returned (.bool (foldAt 100 s.data.toList k)) ∧ ∃ q, w' = w.drewN q := by
  go_enter Try.func52, Try.ntmps52
  go_wp2_with fail
  refine (implIsValley_any s k _ hs).mono ?_
  rintro e w' ⟨rfl, q, rfl⟩
  go_wp2_with fail
  go_ret
  exact ⟨rfl, q, rfl⟩

end Go.Proofs.Ytjdelolfbnaiaaa
