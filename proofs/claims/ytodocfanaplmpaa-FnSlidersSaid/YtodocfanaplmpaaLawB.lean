
/-
  Contracts of the small functions of the laws: big, at, btoi, sameInts; no condition.
-/
import Derived.Test.YtodocfanaplmpaaDraw
import Derived.Test.YtodocfanaplmpaaInts
namespace Go.Proofs.Ytodocfanaplmpaa
open Go.ChangeShapes Go.WideShapes Go.ChangeAt Go.RowKit Go.Deep Go.BigFrame
set_option linter.unusedVariables false
set_option linter.unusedSimpArgs false

theorem big_any (A : Option Addr) (c : Nat) (cs : List UInt8) (w : World) :
    Calls Try.prog 17 #[.slice A cs.length c] w fun e w' => e = .returned (.bool (decide (1048576 < cs.length))) ∧ w' = w := by
  go_enter Try.func17, Try.ntmps17
  go_wp2_with fail
  go_ret
  refine ⟨?_, rfl⟩
  have : decide ((1048576 : Int) < (cs.length : Int)) = decide (1048576 < cs.length) := decide_eq_decide.2 (by omega)
  first | (rw [← this]; done) | (rw [← this]; rfl) | (simp only [← this]; rfl)

theorem at_any (A : Option Addr) (c : Nat) (cs : List UInt8) (i : Nat) (w : World) (h : BRow w w.heap.size A cs) (hi : i ≤ 100) :
    Calls Try.prog 24 #[.slice A cs.length c, .int .i64 i] w fun e w' => (∃ x : Nat, x < 256 ∧ e = .returned (.int .i64 x)) ∧ ∃ q, w' = w.drewN q := by
  have hm := h.2.1
  unfold maxLen at hm
  by_cases h0 : cs.length = 0
  · rw [h0]
    go_enter Try.func24, Try.ntmps24
    go_wp2_with fail
    go_ret
    exact ⟨⟨0, by decide, rfl⟩, 0, rfl⟩
  · have hlt : (i * 5 + 1) % cs.length < cs.length := Nat.mod_lt _ (by omega)
    obtain ⟨b, off, rfl, hb, hc⟩ := h.at_ hlt
    generalize hx : (cs.getD ((i * 5 + 1) % cs.length) 0) = x at *
    have hx2 := x.toNat_lt
    have h1 : ¬ (cs.length : Int) = 0 := by omega
    have h2 : ((i : Int) * 5 + 1) % (cs.length : Int) = (((i * 5 + 1) % cs.length : Nat) : Int) := by rw [Int.natCast_emod]; rfl
    have h3 : Int.tmod ((i : Int) * 5 + 1) (cs.length : Int) = (((i * 5 + 1) % cs.length : Nat) : Int) := by
      rw [Int.tmod_eq_emod_of_nonneg (by omega)]; exact h2
    have h4 : (((i * 5 + 1) % cs.length : Nat) : Int) < (cs.length : Int) := by omega
    have h5 : off + ((i * 5 + 1) % cs.length) = off + ((i * 5 + 1) % cs.length) := rfl
    clear hx h
    generalize (i * 5 + 1) % cs.length = k at *
    generalize x.toNat = xn at *
    go_enter Try.func24, Try.ntmps24
    go_wp2_with fail
    go_ret
    exact ⟨⟨xn, by omega, rfl⟩, 0, rfl⟩

end Go.Proofs.Ytodocfanaplmpaa
