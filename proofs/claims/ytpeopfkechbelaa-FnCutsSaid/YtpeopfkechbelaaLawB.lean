
/-
  Contracts of the small functions of the laws: big, at, btoi, sameInts; no condition.
-/
import Derived.Test.YtpeopfkechbelaaDraw
import Derived.Test.YtpeopfkechbelaaInts
namespace Go.Proofs.Ytpeopfkechbelaa
open Go.ChangeShapes Go.WideShapes Go.ChangeAt Go.RowKit Go.Deep Go.BigFrame
set_option linter.unusedVariables false
set_option linter.unusedSimpArgs false

theorem big_any (A : Option Addr) (c : Nat) (cs : List UInt8) (w : World) :
    Calls Try.prog 7 #[.slice A cs.length c] w fun e w' => e = .returned (.bool (decide (1048576 < cs.length))) ∧ w' = w := by
  go_enter Try.func7, Try.ntmps7
  go_wp2_with fail
  go_ret
  refine ⟨?_, rfl⟩
  have : decide ((1048576 : Int) < (cs.length : Int)) = decide (1048576 < cs.length) := decide_eq_decide.2 (by omega)
  first | (rw [← this]; done) | (rw [← this]; rfl) | (simp only [← this]; rfl)

theorem btoi_any (b : Bool) (w : World) :
    Calls Try.prog 41 #[.bool b] w fun e w' => e = .returned (.int .i64 ((if b = true then 1 else 0 : Nat) : Int)) ∧ w' = w := by
  cases b
  · go_enter Try.func41, Try.ntmps41
    go_wp2_with fail
    go_ret
    exact ⟨rfl, rfl⟩
  · go_enter Try.func41, Try.ntmps41
    go_wp2_with fail
    go_ret
    exact ⟨rfl, rfl⟩

theorem sameInts_any (A B : Option Addr) (c d : Nat) (xs ys : List Int) (w : World) (hx : IRow w w.heap.size A xs) (hy : IRow w w.heap.size B ys) :
    Calls Try.prog 45 #[.slice A xs.length c, .slice B ys.length d] w fun e w' => e = .returned (.bool (decide (xs = ys))) ∧ ∃ k, w' = w.drewN k := by
  by_cases hl : xs.length = ys.length
  · have hm := hx.2.1
    unfold maxLen at hm
    have hbl : ((xs.length : Int) != (ys.length : Int)) = false := by simp [hl]
    generalize hn : xs.length = n at *
    have hyn : ys.length = n := hl.symm
    rw [hyn] at hbl ⊢
    have HX := Lib.hid hn
    have HY := Lib.hid hyn
    clear hn hyn hl
    go_enter Try.func45, Try.ntmps45
    go_wp2
    go_loopw [5] (fun i wr => ∃ k : Nat, k ≤ n ∧ i = .int .i64 k ∧ xs.take k = ys.take k ∧ ∃ q, wr = w.drewN q) (fun i _ => n - (intOf i).toNat)
    case atStart => exact ⟨0, Nat.zero_le _, rfl, rfl, 0, rfl⟩
    case round =>
      obtain ⟨k, hk, rfl, ht, q, rfl⟩ := hrel
      by_cases hlt : k < n
      · obtain ⟨b1, o1, rfl, hb1, hc1⟩ := hx.at_ (k := k) (by rw [HX.out]; exact hlt)
        obtain ⟨b2, o2, rfl, hb2, hc2⟩ := hy.at_ (k := k) (by rw [HY.out]; exact hlt)
        generalize hv : xs.getD k 0 = v at *
        generalize hu : ys.getD k 0 = u at *
        have HV := Lib.hid hv
        have HU := Lib.hid hu
        have HT := Lib.hid ht
        clear hv hu ht hx hy
        have hi : (k : Int) < (n : Int) := by omega
        go_wp2_with fail
        go_quiet (fail)
        go_wp2
        · have hne : (v != u) = true := by assumption
          have hne' : decide (xs = ys) = false := by
            rw [decide_eq_false_iff_not]
            intro e
            rw [← HV.out, ← HU.out, e] at hne
            simp at hne
          go_ret
          exact ⟨by rw [hne']; rfl, _, World.drewN_drewN w _ _⟩
        · have heq : (v != u) = false := by assumption
          go_roundw
          case rel =>
            refine ⟨k + 1, by omega, by go_num, ?_, _, rfl⟩
            rw [take_snoc_getD xs k 0 (by rw [HX.out]; exact hlt), take_snoc_getD ys k 0 (by rw [HY.out]; exact hlt), HT.out, HV.out, HU.out]
            simp at heq
            rw [heq]
          case measure => simp [intOf]; omega
      · go_wp2
        go_ret
        have hkn : k = n := by omega
        subst hkn
        have e1 := List.take_of_length_le (l := xs) (i := k) (by rw [HX.out]; exact Nat.le_refl _)
        have e2 := List.take_of_length_le (l := ys) (i := k) (by rw [HY.out]; exact Nat.le_refl _)
        rw [e1, e2] at ht
        exact ⟨by rw [decide_eq_true ht]; rfl, q, rfl⟩
  · have hbl : ((xs.length : Int) != (ys.length : Int)) = true := by simp; omega
    have hne : decide (xs = ys) = false := by simp; intro e; exact hl (by rw [e])
    rw [hne]
    go_enter Try.func45, Try.ntmps45
    go_wp2
    go_ret
    exact ⟨rfl, 0, rfl⟩

end Go.Proofs.Ytpeopfkechbelaa
