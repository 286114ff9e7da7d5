
/-
  Contracts of the laws' own functions on slices of ints (equal, mark, held, size, copy); no condition.
-/
import Derived.Test.YtodocfanaplmpaaInts0
namespace Go.Proofs.Ytodocfanaplmpaa
open Go.ChangeShapes Go.WideShapes Go.ChangeAt Go.RowKit Go.Deep
set_option linter.unusedVariables false

theorem eqIntS_any (A B : Option Addr) (c d : Nat) (xs ys : List Int) (w : World) (hx : IRow w w.heap.size A xs) (hy : IRow w w.heap.size B ys) :
    Calls Try.prog 9 #[.slice A xs.length c, .slice B ys.length d] w fun e w' => e = .returned (.bool (decide (xs = ys))) ∧ ∃ k, w' = w.drewN k := by
  by_cases hl : xs.length = ys.length
  · have hm := hx.2.1
    unfold maxLen at hm
    have hbl : ((xs.length : Int) != (ys.length : Int)) = false := by simp [hl]
    generalize hn : xs.length = n at *
    have hyn : ys.length = n := hl.symm
    rw [hyn] at hbl ⊢
    have HX := Lib.hid hn
    have HY := Lib.hid hyn
    clear hn hyn hl
    go_enter Try.func9, Try.ntmps9
    go_wp2
    go_loopw [5] (fun i wr => ∃ k : Nat, k ≤ n ∧ i = .int .i64 k ∧ xs.take k = ys.take k ∧ ∃ q, wr = w.drewN q) (fun i _ => n - (intOf i).toNat)
    case atStart => exact ⟨0, Nat.zero_le _, rfl, rfl, 0, rfl⟩
    case round =>
      obtain ⟨k, hk, rfl, ht, q, rfl⟩ := hrel
      by_cases hlt : k < n
      · obtain ⟨b1, o1, rfl, hb1, hc1⟩ := hx.at_ (k := k) (by rw [HX.out]; exact hlt)
        obtain ⟨b2, o2, rfl, hb2, hc2⟩ := hy.at_ (k := k) (by rw [HY.out]; exact hlt)
        generalize hv : xs.getD k 0 = v at *
        generalize hu : ys.getD k 0 = u at *
        have HV := Lib.hid hv
        have HU := Lib.hid hu
        have HT := Lib.hid ht
        clear hv hu ht hx hy
        have hi : (k : Int) < (n : Int) := by omega
        go_wp2_with fail
        go_quiet (fail)
        go_wp2
        · have hne : (v != u) = true := by assumption
          have hne' : decide (xs = ys) = false := by
            rw [decide_eq_false_iff_not]
            intro e
            rw [← HV.out, ← HU.out, e] at hne
            simp at hne
          go_ret
          exact ⟨by rw [hne']; rfl, _, World.drewN_drewN w _ _⟩
        · have heq : (v != u) = false := by assumption
          go_roundw
          case rel =>
            refine ⟨k + 1, by omega, by go_num, ?_, _, rfl⟩
            rw [take_snoc_getD xs k 0 (by rw [HX.out]; exact hlt), take_snoc_getD ys k 0 (by rw [HY.out]; exact hlt), HT.out, HV.out, HU.out]
            simp at heq
            rw [heq]
          case measure => simp [intOf]; omega
      · go_wp2
        go_ret
        have hkn : k = n := by omega
        subst hkn
        have e1 := List.take_of_length_le (l := xs) (i := k) (by rw [HX.out]; exact Nat.le_refl _)
        have e2 := List.take_of_length_le (l := ys) (i := k) (by rw [HY.out]; exact Nat.le_refl _)
        rw [e1, e2] at ht
        exact ⟨by rw [decide_eq_true ht]; rfl, q, rfl⟩
  · have hbl : ((xs.length : Int) != (ys.length : Int)) = true := by simp; omega
    have hne : decide (xs = ys) = false := by simp; intro e; exact hl (by rw [e])
    rw [hne]
    go_enter Try.func9, Try.ntmps9
    go_wp2
    go_ret
    exact ⟨rfl, 0, rfl⟩

/-- the numbers that 'mark' writes: k, k + 1 .. -/
def marks (k n : Nat) : List Int := (List.range n).map fun i => ((k + i : Nat) : Int)

theorem marks_length (k n : Nat) : (marks k n).length = n := by simp [marks]
theorem marks_get (k n i : Nat) (h : i < n) : (marks k n).getD i 0 = ((k + i : Nat) : Int) := by simp [marks, List.getD, h]

theorem heldIntS_any (A : Option Addr) (c k n : Nat) (w : World) (hx : IRow w w.heap.size A (marks k n)) (hk : k ≤ 4294967296) (hn : n ≤ 4294967296) :
    Calls Try.prog 11 #[.slice A n c, .int .i64 k] w fun e w' => e = .returned (.int .i64 (k + n : Nat)) ∧ ∃ q, w' = w.drewN q := by
  go_enter Try.func11, Try.ntmps11
  go_wp2
  go_loopw [1, 5] (fun kk i wr => ∃ j : Nat, j ≤ n ∧ i = .int .i64 j ∧ kk = .int .i64 (k + j : Nat) ∧ ∃ q, wr = w.drewN q) (fun _ i _ => n - (intOf i).toNat)
  case atStart => exact ⟨0, Nat.zero_le _, rfl, rfl, 0, rfl⟩
  case round =>
    obtain ⟨j, hj, rfl, rfl, q, rfl⟩ := hrel
    by_cases hlt : j < n
    · obtain ⟨b1, o1, rfl, hb1, hc1⟩ := hx.at_ (k := j) (by rw [marks_length]; exact hlt)
      rw [marks_get k n j hlt] at hc1
      clear hx
      have hi : (j : Int) < (n : Int) := by omega
      go_wp2
      go_roundw
      case rel => exact ⟨j + 1, by omega, by go_num, by go_num, _, rfl⟩
      case measure => simp [intOf]; omega
    · obtain rfl : j = n := by omega
      clear hx
      go_wp2
      go_ret
      exact ⟨rfl, q, rfl⟩

theorem markIntS_any (A : Option Addr) (c k n : Nat) (B : Nat) (xs : List Value) (w : World) (hx : w.ownsRow B 3 1 (.slice A n c) n xs) (hk : k ≤ 4294967296) (hn : n ≤ 4294967296) :
    Calls Try.prog 10 #[.slice A n c, .int .i64 k] w fun e w' => e = .returned (.int .i64 (k + n : Nat)) ∧ w'.ownsRow B 3 1 (.slice A n c) n ((marks k n).map (Value.int .i64)) ∧ w.grownBy w' (Value.slice A n c).ownBlock := by
  rcases hx.2 with ⟨hnil, hn0⟩ | ⟨g, cap, cur, hv, hB, hg, hnc, hcm, hcs, ht⟩
  · subst hn0
    obtain ⟨rfl, rfl⟩ : A = none ∧ c = 0 := by simpa using hnil
    go_enter Try.func10, Try.ntmps10
    go_wp2
    go_loop [1, 5] (fun kk i => i = .int .i64 (0 : Int) ∧ kk = .int .i64 k) (fun _ _ => 0)
    case atStart => exact ⟨rfl, rfl⟩
    case round =>
      obtain ⟨rfl, rfl⟩ := hrel
      go_wp2
      go_ret
      exact ⟨rfl, World.ownsRow_nil _ _ _ _, World.grownBy.refl _ _⟩
  · obtain ⟨rfl, rfl⟩ : A = some ⟨g, 0, none⟩ ∧ c = cap := by simpa using hv
    clear hv hg hcs ht hnc hcm
    have H0 := Lib.hid hx
    clear hx
    go_enter Try.func10, Try.ntmps10
    go_wp2
    go_loopw [1, 5] (fun kk i wr => ∃ j : Nat, ∃ ys : List Value, j ≤ n ∧ i = .int .i64 j ∧ kk = .int .i64 (k + j : Nat) ∧ wr.ownsRow B 3 1 (.slice (some ⟨g, 0, none⟩) n c) n ys ∧ ys.take j = ((marks k n).map (Value.int .i64)).take j ∧ w.grownBy wr (some g)) (fun _ i _ => n - (intOf i).toNat)
    case atStart => exact ⟨0, xs, Nat.zero_le _, rfl, rfl, H0.out, rfl, World.grownBy.refl _ _⟩
    case round =>
      obtain ⟨j, ys, hj, rfl, rfl, hown, hts, hgr⟩ := hrel
      by_cases hlt : j < n
      · have hyl : ys.length = n := by have := hown.1; omega
        have hc1 := hown.cellAt j (by omega)
        have hf1 := hown.frozenAt j
        rw [List.getElem?_eq_getElem (by omega)] at hc1
        generalize ys[j]'(by omega) = u at hc1
        have hi : (j : Int) < (n : Int) := by omega
        have H1 := Lib.hid hts
        have H2 := Lib.hid hyl
        have H3 := Lib.hid hown
        have H4 := Lib.hid hgr
        clear hts hyl hown hgr H0
        go_wp2
        go_roundw
        case rel =>
          obtain ⟨s1, s2⟩ := H3.out.stored j (.int .i64 ((k : Int) + j))
          refine ⟨j + 1, _, by omega, by go_num, by go_num, s1, ?_, grown_trans H4.out s2⟩
          rw [take_set_snoc ys j _ (by rw [H2.out]; exact hlt), H1.out, take_snoc_getD _ j (.int .i64 0) (by simp [marks_length]; exact hlt)]
          simp [marks, List.getD, hlt]
        case measure => simp [intOf]; omega
      · obtain rfl : j = n := by omega
        go_wp2
        go_ret
        refine ⟨rfl, ?_, hgr⟩
        have e1 : ys = (marks k j).map (Value.int .i64) := by
          have h1 : ys.length = j := by have := hown.1; omega
          rw [List.take_of_length_le (by omega), List.take_of_length_le (by simp [marks_length])] at hts
          exact hts
        rw [← e1]
        exact hown

end Go.Proofs.Ytodocfanaplmpaa
