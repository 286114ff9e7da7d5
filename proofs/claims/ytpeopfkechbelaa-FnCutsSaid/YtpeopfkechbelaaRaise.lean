
/-
  Contracts of CanRaise, RaiseAt and LowerAt on both sides; no condition beyond the length of the text.
-/
import Derived.Test.YtpeopfkechbelaaCorner
namespace Go.Proofs.Ytpeopfkechbelaa
open Go.ChangeShapes Go.WideShapes Go.ChangeAt Go.RowKit Go.Deep Go.BigFrame
set_option linter.unusedVariables false

theorem run_sl (s : ByteArray) (lo hi : Int) (a b : Nat) (hlo : lo = a) (hhi : hi = b) (h1 : a ≤ b) (h2 : b ≤ s.size) (W : World) :
    (Instr.slice 9 (.string s) (some (.int .i64 lo)) (some (.int .i64 hi)) none).run Try.prog W = .ok (.string (s.extract a b)) W := by
  subst hlo hhi
  have := run_slice_string (P := Try.prog) W 9 s .i64 .i64 (a : Int) (b : Int) Try.underlying9 (by omega) (by omega) (by omega)
  simpa using this

/-- the text with the letters k - 1 and k exchanged -/
def turnB (s : ByteArray) (k : Nat) : ByteArray := s.extract 0 (k - 1) ++ s.extract k (k + 1) ++ s.extract (k - 1) k ++ s.extract (k + 1) s.size

theorem foldAt_bounds {c : UInt8} {s : ByteArray} {k : Int} (h : foldAt c s.data.toList k = true) : isStrip s.data.toList = true ∧ 1 ≤ k ∧ k + 1 ≤ s.size := by
  have e := size_list s
  simp only [foldAt, corner, Bool.and_eq_true, decide_eq_true_eq] at h
  exact ⟨h.1, by omega, by omega⟩

theorem implCanRaise_any (s : ByteArray) (k : Int) (w : World) (hs : s.size ≤ 4294967296) : Calls Try.prog 34 #[.string s, .int .i64 k] w fun e w' => e = .returned (.bool (foldAt 100 s.data.toList k)) ∧ ∃ q, w' = w.drewN q := by
  go_enter Try.func34, Try.ntmps34
  go_wp2_with fail
  refine (implIsValley_any s k _ hs).mono ?_
  rintro e w' ⟨rfl, q, rfl⟩
  go_wp2_with fail
  go_ret
  exact ⟨rfl, q, rfl⟩

theorem turnedAt_any (s : ByteArray) (k : Nat) (w : World) (hs : s.size ≤ 4294967296) (h1 : 1 ≤ k) (h2 : k + 1 ≤ s.size) : Calls Try.prog 75 #[.string s, .int .i64 k] w fun e w' => e = .returned (.string (turnB s k)) ∧ ∃ q, w' = w.drewN q := by
  have a1 : 1 ≤ (k : Int) := by omega
  have a2 : (k : Int) + 1 ≤ (s.size : Int) := by omega
  have e1 := run_sl s k (k + 1) k (k + 1) rfl (by omega) (by omega) (by omega)
  have e2 := run_sl s (k - 1) k (k - 1) k (by omega) rfl (by omega) (by omega)
  go_enter Try.func75, Try.ntmps75
  go_wp2_with fail
  go_quiet (fail)
  go_wp2_with fail
  go_ret
  exact ⟨rfl, _, rfl⟩

theorem implRaiseAt_any (s : ByteArray) (k : Int) (w : World) (hs : s.size ≤ 4294967296) : Calls Try.prog 35 #[.string s, .int .i64 k] w fun e w' => e = .returned (.tuple #[.string (if foldAt 100 s.data.toList k = true then turnB s k.toNat else s), .bool (foldAt 100 s.data.toList k)]) ∧ ∃ q, w' = w.drewN q := by
  by_cases h : foldAt 100 s.data.toList k = true
  · obtain ⟨_, h1, h2⟩ := foldAt_bounds h
    obtain ⟨n, rfl⟩ := Int.eq_ofNat_of_zero_le (show 0 ≤ k by omega)
    rw [if_pos h, h, Int.toNat_natCast]
    go_enter Try.func35, Try.ntmps35
    go_wp2_with fail
    refine (implCanRaise_any s _ _ hs).mono ?_
    rw [h]
    rintro e w' ⟨rfl, q, rfl⟩
    clear h
    go_wp2_with fail
    refine (turnedAt_any s n _ hs (by omega) (by omega)).mono ?_
    rintro e w' ⟨rfl, q2, rfl⟩
    go_wp2_with fail
    go_ret2
    exact ⟨rfl, _, rfl⟩
  · have h' : foldAt 100 s.data.toList k = false := by simpa using h
    rw [if_neg h, h']
    clear h
    go_enter Try.func35, Try.ntmps35
    go_wp2_with fail
    refine (implCanRaise_any s _ _ hs).mono ?_
    rw [h']
    rintro e w' ⟨rfl, q, rfl⟩
    clear h'
    go_wp2_with fail
    go_ret2
    exact ⟨rfl, _, rfl⟩

theorem implLowerAt_any (s : ByteArray) (k : Int) (w : World) (hs : s.size ≤ 4294967296) : Calls Try.prog 36 #[.string s, .int .i64 k] w fun e w' => e = .returned (.tuple #[.string (if foldAt 102 s.data.toList k = true then turnB s k.toNat else s), .bool (foldAt 102 s.data.toList k)]) ∧ ∃ q, w' = w.drewN q := by
  by_cases h : foldAt 102 s.data.toList k = true
  · obtain ⟨_, h1, h2⟩ := foldAt_bounds h
    obtain ⟨n, rfl⟩ := Int.eq_ofNat_of_zero_le (show 0 ≤ k by omega)
    rw [if_pos h, h, Int.toNat_natCast]
    go_enter Try.func36, Try.ntmps36
    go_wp2_with fail
    refine (implIsMountain_any s _ _ hs).mono ?_
    rw [h]
    rintro e w' ⟨rfl, q, rfl⟩
    clear h
    go_wp2_with fail
    refine (turnedAt_any s n _ hs (by omega) (by omega)).mono ?_
    rintro e w' ⟨rfl, q2, rfl⟩
    go_wp2_with fail
    go_ret2
    exact ⟨rfl, _, rfl⟩
  · have h' : foldAt 102 s.data.toList k = false := by simpa using h
    rw [if_neg h, h']
    clear h
    go_enter Try.func36, Try.ntmps36
    go_wp2_with fail
    refine (implIsMountain_any s _ _ hs).mono ?_
    rw [h']
    rintro e w' ⟨rfl, q, rfl⟩
    clear h'
    go_wp2_with fail
    go_ret2
    exact ⟨rfl, _, rfl⟩

end Go.Proofs.Ytpeopfkechbelaa
