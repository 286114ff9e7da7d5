
/-
  Contracts of the laws on slices of boxes: equality and marks; no condition.
-/
import Derived.Test.YtkhlolhmaoenoaaMem
import Derived.Test.YtkhlolhmaoenoaaInts
import Derived.StillTailTactics
namespace Go.Proofs.Ytkhlolhmaoenoaa
open Go.ChangeShapes Go.WideShapes Go.ChangeAt Go.RowKit Go.Deep Go.BigFrame
set_option linter.unusedVariables false
set_option linter.unusedSimpArgs false

theorem marks_at (k n i : Nat) (h : i < n) : ((marks k n).map (Value.int .i64))[i]? = some (.int .i64 ((k + i : Nat) : Int)) := by simp [marks, h]

set_option maxHeartbeats 1000000 in
theorem markBoxS_any (A : Option Addr) (c k n : Nat) (B : Nat) (xs : List Value) (w : World) (hx : w.ownsRow B 72 3 (.slice A n c) n xs) (hk : k ≤ 4294967296) (hn : n ≤ 1048576) :
    Calls Try.prog 31 #[.slice A n c, .int .i64 k] w fun e w' => e = .returned (.int .i64 (k + n * 3 : Nat)) ∧ w'.ownsRow B 72 3 (.slice A n c) n ((marks k (n * 3)).map (Value.int .i64)) ∧ w.grownBy w' (Value.slice A n c).ownBlock := by
  rcases hx.2 with ⟨hnil, hn0⟩ | ⟨g, cap, cur, hv, hB, hg, hnc, hcm, hcs, ht⟩
  · subst hn0
    obtain ⟨rfl, rfl⟩ : A = none ∧ c = 0 := by simpa using hnil
    go_enter Try.func31, Try.ntmps31
    go_wp2_with fail
    go_loop [1, 5] (fun kk i => i = .int .i64 (0 : Int) ∧ kk = .int .i64 k) (fun _ _ => 0)
    case atStart => exact ⟨rfl, rfl⟩
    case round =>
      obtain ⟨rfl, rfl⟩ := hrel
      go_wp2_with fail
      go_ret
      exact ⟨rfl, World.ownsRow_nil _ _ _ _, World.grownBy.refl _ _⟩
  · obtain ⟨rfl, rfl⟩ : A = some ⟨g, 0, none⟩ ∧ c = cap := by simpa using hv
    clear hv hg hcs ht hnc hcm
    have H0 := Lib.hid hx
    clear hx
    go_enter Try.func31, Try.ntmps31
    go_wp2_with fail
    go_loopw [1, 5] (fun kk i wr => ∃ j : Nat, ∃ ys : List Value, j ≤ n ∧ i = .int .i64 j ∧ kk = .int .i64 (k + j * 3 : Nat) ∧ wr.ownsRow B 72 3 (.slice (some ⟨g, 0, none⟩) n c) n ys ∧ ys.take (j * 3) = ((marks k (n * 3)).map (Value.int .i64)).take (j * 3) ∧ w.grownBy wr (some g)) (fun _ i _ => n - (intOf i).toNat)
    case atStart => exact ⟨0, xs, Nat.zero_le _, rfl, rfl, H0.out, by simp, World.grownBy.refl _ _⟩
    case round =>
      obtain ⟨j, ys, hj, rfl, rfl, hown, hts, hgr⟩ := hrel
      by_cases hlt : j < n
      · have hyl : ys.length = n * 3 := hown.1
        have hd1 := hown.cellAt (j * 3) (by omega)
        have hd2 := hown.cellAt (j * 3 + 1) (by omega)
        have hd3 := hown.cellAt (j * 3 + 2) (by omega)
        have hf1 := hown.frozenAt (j * 3)
        have hf2 := hown.frozenAt (j * 3 + 1)
        have hf3 := hown.frozenAt (j * 3 + 2)
        rw [List.getElem?_eq_getElem (by omega)] at hd1 hd2 hd3
        generalize ys[j * 3]'(by omega) = u1 at hd1
        generalize ys[j * 3 + 1]'(by omega) = u2 at hd2
        generalize ys[j * 3 + 2]'(by omega) = u3 at hd3
        have hi : (j : Int) < (n : Int) := by omega
        have H1 := Lib.hid hts
        have H2 := Lib.hid hyl
        have H3 := Lib.hid hown
        have H4 := Lib.hid hgr
        clear hts hyl hown hgr H0
        go_wp2_with fail
        go_roundw
        case rel =>
          obtain ⟨r1, t1⟩ := H3.out.stored (j * 3) (.int .i64 ((k : Int) + (j : Int) * 3))
          obtain ⟨r2, t2⟩ := r1.stored (j * 3 + 1) (.int .i64 ((k : Int) + (j : Int) * 3 + 1))
          obtain ⟨r3, t3⟩ := r2.stored (j * 3 + 2) (.int .i64 ((k : Int) + (j : Int) * 3 + 1 + 1))
          refine ⟨j + 1, _, by omega, by go_num, by go_num, r3, ?_, grown_trans (grown_trans (grown_trans H4.out t1) t2) t3⟩
          have hys := H2.out
          rw [show (j + 1) * 3 = j * 3 + 1 + 1 + 1 by omega]
          have hml : ((marks k (n * 3)).map (Value.int .i64)).length = n * 3 := by simp [marks_length]
          rw [take_set_snoc _ _ _ (by simp; omega), take_set_snoc _ _ _ (by simp; omega), take_set_snoc _ _ _ (by omega), H1.out,
            take_snoc_getD _ (j * 3 + 1 + 1) undef (by omega), take_snoc_getD _ (j * 3 + 1) undef (by omega), take_snoc_getD _ (j * 3) undef (by omega)]
          simp only [List.getD]
          rw [marks_at k _ _ (by omega), marks_at k _ _ (by omega), marks_at k _ _ (by omega)]
          rw [show ((k + j * 3 : Nat) : Int) = (k : Int) + (j : Int) * 3 by omega, show ((k + (j * 3 + 1) : Nat) : Int) = (k : Int) + (j : Int) * 3 + 1 by omega, show ((k + (j * 3 + 1 + 1) : Nat) : Int) = (k : Int) + (j : Int) * 3 + 1 + 1 by omega]
          rfl
        case measure => simp [intOf]; omega
      · obtain rfl : j = n := by omega
        go_wp2_with fail
        go_ret
        refine ⟨rfl, ?_, hgr⟩
        have e1 : ys = (marks k (j * 3)).map (Value.int .i64) := by
          have h1 : ys.length = j * 3 := hown.1
          rw [List.take_of_length_le (by omega), List.take_of_length_le (by simp [marks_length])] at hts
          exact hts
        rw [← e1]
        exact hown

theorem heldBoxS_any (A : Option Addr) (c k n : Nat) (w : World) (hx : Row w w.heap.size 3 A n ((marks k (n * 3)).map (Value.int .i64))) (hk : k ≤ 4294967296) (hn : n ≤ 1048576) :
    Calls Try.prog 32 #[.slice A n c, .int .i64 k] w fun e w' => e = .returned (.int .i64 (k + n * 3 : Nat)) ∧ ∃ q, w' = w.drewN q := by
  go_enter Try.func32, Try.ntmps32
  go_wp2_with fail
  go_loopw [1, 5] (fun kk i wr => ∃ j : Nat, j ≤ n ∧ i = .int .i64 j ∧ kk = .int .i64 (k + j * 3 : Nat) ∧ ∃ q, wr = w.drewN q) (fun _ i _ => n - (intOf i).toNat)
  case atStart => exact ⟨0, Nat.zero_le _, rfl, rfl, 0, rfl⟩
  case round =>
    obtain ⟨j, hj, rfl, rfl, q, rfl⟩ := hrel
    by_cases hlt : j < n
    · obtain ⟨b, off, rfl, hb, hc⟩ := hx.2.2 (by omega)
      have c1 := hc (j * 3) (by omega)
      have c2 := hc (j * 3 + 1) (by omega)
      have c3 := hc (j * 3 + 2) (by omega)
      rw [marks_at k _ _ (by omega)] at c1 c2 c3
      have e2 : ((k + (j * 3 + 1) : Nat) : Int) = (k : Int) + (j : Int) * 3 + 1 := by omega
      have e3 : ((k + (j * 3 + 2) : Nat) : Int) = (k : Int) + (j : Int) * 3 + 1 + 1 := by omega
      have e1 : ((k + j * 3 : Nat) : Int) = (k : Int) + (j : Int) * 3 := by omega
      rw [e1] at c1
      rw [e2, ← Nat.add_assoc] at c2
      rw [e3, ← Nat.add_assoc] at c3
      clear hx hc e1 e2 e3
      have hi : (j : Int) < (n : Int) := by omega
      go_wp2_with fail
      go_roundw
      case rel => exact ⟨j + 1, by omega, by go_num, by go_num, _, rfl⟩
      case measure => simp [intOf]; omega
    · obtain rfl : j = n := by omega
      clear hx
      go_wp2_with fail
      go_ret
      exact ⟨rfl, q, rfl⟩

theorem eqBox_any (a1 a2 a3 b1 b2 b3 : Int) (w : World) : Calls Try.prog 84 #[.agg #[.int .i64 a1, .int .i64 a2, .int .i64 a3], .agg #[.int .i64 b1, .int .i64 b2, .int .i64 b3]] w fun e w' => e = .returned (.bool (decide ((a1, a2, a3) = (b1, b2, b3)))) ∧ Below w.heap.size w w' := by
  go_enter Try.func84, Try.ntmps84
  go_wp2
  all_goals go_ret
  all_goals refine ⟨?_, (by repeat' (first | exact Below.refl _ _ | assumption | (refine Below.drew ?_) | (refine below_drewN ?_ _) | (refine below_thru ?_ (by assumption)) | (refine below_alloc ?_ _) | (refine Below.setCell ?_ (by first | omega | (simp; done) | (simp; omega)) _) | (refine Below.alloc ?_ (by first | omega | (simp; done) | (simp; omega)) _)))⟩
  all_goals simp_all

set_option maxRecDepth 100000 in
theorem eqBoxS_any (A B : Option Addr) (c d : Nat) (xs ys : List (Int × Int × Int)) (w : World) (hx : TRow w w.heap.size A xs) (hy : TRow w w.heap.size B ys) :
    Calls Try.prog 30 #[.slice A xs.length c, .slice B ys.length d] w fun e w' => e = .returned (.bool (decide (xs = ys))) ∧ Below w.heap.size w w' := by
  by_cases hl : xs.length = ys.length
  · have hm := hx.2.1
    unfold maxLen at hm
    have hbl : ((xs.length : Int) != (ys.length : Int)) = false := by simp [hl]
    generalize hn : xs.length = n at *
    have hyn : ys.length = n := hl.symm
    rw [hyn] at hbl ⊢
    have HX := Lib.hid hn
    have HY := Lib.hid hyn
    clear hn hyn hl
    go_enter Try.func30, Try.ntmps30
    go_wp2
    go_loopw [5] (fun i wr => ∃ k : Nat, k ≤ n ∧ i = .int .i64 k ∧ xs.take k = ys.take k ∧ Below w.heap.size w wr) (fun i _ => n - (intOf i).toNat)
    case atStart => exact ⟨0, Nat.zero_le _, rfl, rfl, Below.refl _ _⟩
    case round =>
      obtain ⟨k, hk, rfl, ht, hbr⟩ := hrel
      by_cases hlt : k < n
      · obtain ⟨b1, o1, rfl, hb1, hc1, hc2, hc3⟩ := (hx.below hbr).at_ (k := k) (by rw [HX.out]; exact hlt)
        obtain ⟨b2, o2, rfl, hb2, hd1, hd2, hd3⟩ := (hy.below hbr).at_ (k := k) (by rw [HY.out]; exact hlt)
        generalize hv : xs.getD k (0, 0, 0) = v at *
        generalize hu : ys.getD k (0, 0, 0) = u at *
        obtain ⟨v1, v2, v3⟩ := v
        obtain ⟨u1, u2, u3⟩ := u
        have HV := Lib.hid hv
        have HU := Lib.hid hu
        have HT := Lib.hid ht
        have HB := Lib.hid hbr
        clear hv hu ht hx hy hbr
        have hi : (k : Int) < (n : Int) := by omega
        go_wp2_with fail
        go_still_tail 8, (by kernel_rfl)
        go_wp2_with fail
        refine (eqBox_any _ _ _ _ _ _ _).mono ?_
        rintro e w2 ⟨rfl, hb2⟩
        generalize hD : decide ((v1, v2, v3) = (u1, u2, u3)) = D
        have HD := Lib.hid hD
        clear hD
        go_wp2_with fail
        · have hne : (!D) = true := by assumption
          have hne' : decide (xs = ys) = false := by
            rw [decide_eq_false_iff_not]
            intro e
            have h1 := HD.out
            rw [← HV.out, ← HU.out, e] at h1
            simp at h1
            subst h1
            simp at hne
          go_ret
          exact ⟨by rw [hne']; rfl, HB.out.drew.trans (hb2.mono HB.out.size)⟩
        · have heq : (!D) = false := by assumption
          go_roundw
          case rel =>
            refine ⟨k + 1, by omega, by go_num, ?_, HB.out.drew.trans (hb2.mono HB.out.size)⟩
            rw [take_snoc_getD xs k (0, 0, 0) (by rw [HX.out]; exact hlt), take_snoc_getD ys k (0, 0, 0) (by rw [HY.out]; exact hlt), HT.out, HV.out, HU.out]
            have h1 := HD.out
            have h2 : D = true := by simpa using heq
            rw [h2] at h1
            rw [of_decide_eq_true h1]
          case measure => simp [intOf]; omega
      · go_wp2
        go_ret
        have hkn : k = n := by omega
        subst hkn
        have e1 := List.take_of_length_le (l := xs) (i := k) (by rw [HX.out]; exact Nat.le_refl _)
        have e2 := List.take_of_length_le (l := ys) (i := k) (by rw [HY.out]; exact Nat.le_refl _)
        rw [e1, e2] at ht
        exact ⟨by rw [decide_eq_true ht]; rfl, hbr⟩
  · have hbl : ((xs.length : Int) != (ys.length : Int)) = true := by simp; omega
    have hne : decide (xs = ys) = false := by simp; intro e; exact hl (by rw [e])
    rw [hne]
    go_enter Try.func30, Try.ntmps30
    go_wp2
    go_ret
    exact ⟨rfl, Below.refl _ _⟩

end Go.Proofs.Ytkhlolhmaoenoaa
