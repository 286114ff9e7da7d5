
/-
  Contracts of the laws' functions on slices of links; no condition.
-/
import Derived.Test.YtodocfanaplmpaaNum
import Derived.Test.YtodocfanaplmpaaRooms
import Derived.Deep.RegionHeld3
import Derived.StillTailTactics
namespace Go.Proofs.Ytodocfanaplmpaa
open Go.ChangeShapes Go.WideShapes Go.ChangeAt Go.RowKit Go.Deep
set_option linter.unusedVariables false

theorem toLink_any (lo hi now : Int) (w : World) : Calls Try.prog 37 #[.agg #[.int .i64 lo, .int .i64 hi, .int .i64 now]] w fun e w' => e = .returned (.agg #[.int .i64 lo, .int .i64 hi, .int .i64 now]) ∧ Below w.heap.size w w' := by
  go_enter Try.func37, Try.ntmps37
  go_wp2
  refine bodyPost_ret (v := .agg #[.int .i64 lo, .int .i64 hi, .int .i64 now]) (by simp [results, Try.results37, go_sem]) rfl ⟨rfl, ?_⟩
  exact (by repeat' (first | exact Below.refl _ _ | assumption | (refine Below.drew ?_) | (refine below_drewN ?_ _) | (refine below_thru ?_ (by assumption)) | (refine below_alloc ?_ _) | (refine Below.setCell ?_ (by first | omega | (simp; done) | (simp; omega)) _) | (refine Below.alloc ?_ (by first | omega | (simp; done) | (simp; omega)) _)))

theorem eqLink_any (a1 a2 a3 b1 b2 b3 : Int) (w : World) : Calls Try.prog 39 #[.agg #[.int .i64 a1, .int .i64 a2, .int .i64 a3], .agg #[.int .i64 b1, .int .i64 b2, .int .i64 b3]] w fun e w' => e = .returned (.bool (decide ((a1, a2, a3) = (b1, b2, b3)))) ∧ Below w.heap.size w w' := by
  go_enter Try.func39, Try.ntmps39
  go_wp2
  all_goals go_ret
  all_goals refine ⟨?_, (by repeat' (first | exact Below.refl _ _ | assumption | (refine Below.drew ?_) | (refine below_drewN ?_ _) | (refine below_thru ?_ (by assumption)) | (refine below_alloc ?_ _) | (refine Below.setCell ?_ (by first | omega | (simp; done) | (simp; omega)) _) | (refine Below.alloc ?_ (by first | omega | (simp; done) | (simp; omega)) _)))⟩
  all_goals simp_all


theorem szLinkS_any (A : Option Addr) (c n : Nat) (left : Int) (w : World) (hn : n ≤ maxLen) (h0 : 0 ≤ left) (h1 : left ≤ 1048576) :
    Calls Try.prog 12 #[.slice A n c, .int .i64 left] w fun e w' => e = .returned (.int .i64 (if (n : Int) ≤ left then left - n else -1)) ∧ w = w' := by
  unfold maxLen at hn
  by_cases h : (n : Int) ≤ left
  · rw [if_pos h]
    go_enter Try.func12, Try.ntmps12
    go_wp2
    go_ret
    exact ⟨rfl, rfl⟩
  · rw [if_neg h]
    go_enter Try.func12, Try.ntmps12
    go_wp2
    go_ret
    exact ⟨rfl, rfl⟩

/-- a new slice of sliders of the call's own -/
def NewLk (w : World) (ts : List (Int × Int × Int)) (e : Ending) (w' : World) : Prop :=
  ∃ A c, e = .returned (.slice A ts.length c) ∧ w'.ownsRow w.heap.size 45 3 (.slice A ts.length c) ts.length (cells3 ts) ∧ Below w.heap.size w w'

theorem lkInfo : (Try.prog.info? 45).map (fun i => (i.zero, i.size, i.bytes)) = some (some (.agg #[.int .i64 0, .int .i64 0, .int .i64 0]), 3, 24) := by kernel_rfl

theorem toLinkS_any (A : Option Addr) (c : Nat) (ts : List (Int × Int × Int)) (w : World) (hx : TRow w w.heap.size A ts) (hn : ts.length ≤ 1048576) :
    Calls Try.prog 14 #[.slice A ts.length c] w (NewLk w ts) := by
  obtain ⟨i0, hi0, hz0, hz1, hz2⟩ := info_parts lkInfo
  generalize hl : ts.length = n at *
  have HL := Lib.hid hl
  clear hl
  go_enter Try.func14, Try.ntmps14
  go_wp2_with (at_make; refine wpList_make_full _ rfl (.tmp 6) (.tmp 6) 30 rfl w.heap.size 45 i0 _ 3 Try.underlying30 hi0 hz0 hz1 .i64 .i64 _ _ n rfl rfl rfl rfl (by rw [hz2]; omega) (by unfold maxLen; omega) (Nat.le_refl _) ?_)
  intro w1 hown hgr
  have hb1 : Below w.heap.size w w1 := (Below.refl _ _).grown hgr (Nat.le_refl _) (by simp)
  have HO := Lib.hid hown
  have HB := Lib.hid hb1
  clear hown hb1 hgr
  go_wp2_with fail
  go_loopw [4] (fun i wr => ∃ j : Nat, ∃ ys : List Value, j ≤ n ∧ i = .int .i64 j ∧ wr.ownsRow w.heap.size 45 3 (.slice (some ⟨w.heap.size, 0, none⟩) n n) n ys ∧ ys.take (j * 3) = (cells3 ts).take (j * 3) ∧ Below w.heap.size w wr) (fun i _ => n - (intOf i).toNat)
  case atStart => exact ⟨0, _, Nat.zero_le _, rfl, HO.out, by simp, HB.out⟩
  case round =>
    obtain ⟨j, ys, hj, rfl, hown, hts, hbr⟩ := hrel
    by_cases hlt : j < n
    · obtain ⟨b1, o1, rfl, hb1, hc1, hc2, hc3⟩ := (hx.below hbr).at_ (k := j) (by rw [HL.out]; exact hlt)
      generalize hv : ts.getD j (0, 0, 0) = v at *
      obtain ⟨v1, v2, v3⟩ := v
      have HV := Lib.hid hv
      have hyl : ys.length = n * 3 := hown.1
      have hd1 := hown.cellAt (j * 3) (by omega)
      have hd2 := hown.cellAt (j * 3 + 1) (by omega)
      have hd3 := hown.cellAt (j * 3 + 2) (by omega)
      have hf1 := hown.frozenAt (j * 3)
      have hf2 := hown.frozenAt (j * 3 + 1)
      have hf3 := hown.frozenAt (j * 3 + 2)
      rw [List.getElem?_eq_getElem (by omega)] at hd1 hd2 hd3
      generalize ys[j * 3]'(by omega) = u1 at hd1
      generalize ys[j * 3 + 1]'(by omega) = u2 at hd2
      generalize ys[j * 3 + 2]'(by omega) = u3 at hd3
      have hi : (j : Int) < (n : Int) := by omega
      have hgl := hown.lt _ rfl
      have H1 := Lib.hid hts
      have H2 := Lib.hid hyl
      have H3 := Lib.hid hown
      have H4 := Lib.hid hbr
      clear hts hyl hown hbr hv hx HO HB
      go_wp2_with fail
      refine (toLink_any _ _ _ _).mono ?_
      rintro e w2 ⟨rfl, hb2⟩
      obtain ⟨hcc, hff⟩ := bcell hb2
      go_wp2_with fail
      go_roundw
      case rel =>
        have o0 := own_on H3.out hb2
        obtain ⟨s1, _⟩ := o0.stored (j * 3) (.int .i64 v1)
        obtain ⟨s2, _⟩ := s1.stored (j * 3 + 1) (.int .i64 v2)
        obtain ⟨s3, _⟩ := s2.stored (j * 3 + 2) (.int .i64 v3)
        refine ⟨j + 1, _, by omega, by go_num, s3, ?_, (((H4.out.trans (hb2.mono H4.out.size)).setCell (Nat.le_refl _) _).setCell (Nat.le_refl _) _).setCell (Nat.le_refl _) _⟩
        have hl : j < ts.length := by rw [HL.out]; exact hlt
        obtain ⟨g1, g2, g3⟩ := cells3_get ts j hl
        rw [HV.out] at g1 g2 g3
        rw [show (j + 1) * 3 = j * 3 + 1 + 1 + 1 by omega]
        have hys : ys.length = n * 3 := H2.out
        have hcl : (cells3 ts).length = n * 3 := by rw [cells3_length, HL.out]
        rw [take_set_snoc _ _ _ (by simp; omega), take_set_snoc _ _ _ (by simp; omega), take_set_snoc _ _ _ (by omega), H1.out,
          take_snoc_getD (cells3 ts) (j * 3 + 1 + 1) undef (by omega), take_snoc_getD (cells3 ts) (j * 3 + 1) undef (by omega), take_snoc_getD (cells3 ts) (j * 3) undef (by omega)]
        simp only [List.getD]
        rw [g1, g2, show j * 3 + 1 + 1 = j * 3 + 2 by omega, g3]
        rfl
      case measure => simp [intOf]; omega
    · obtain rfl : j = n := by omega
      clear HO HB
      go_wp2
      go_ret
      have e1 : ys = cells3 ts := by
        have h1 : ys.length = j * 3 := hown.1
        rw [List.take_of_length_le (by omega), List.take_of_length_le (by rw [cells3_length, HL.out]; exact Nat.le_refl _)] at hts
        exact hts
      rw [e1] at hown
      have hl := HL.out
      subst hl
      exact ⟨_, _, rfl, hown, hbr⟩

set_option maxRecDepth 100000 in
theorem eqLinkS_any (A B : Option Addr) (c d : Nat) (xs ys : List (Int × Int × Int)) (w : World) (hx : TRow w w.heap.size A xs) (hy : TRow w w.heap.size B ys) :
    Calls Try.prog 16 #[.slice A xs.length c, .slice B ys.length d] w fun e w' => e = .returned (.bool (decide (xs = ys))) ∧ Below w.heap.size w w' := by
  by_cases hl : xs.length = ys.length
  · have hm := hx.2.1
    unfold maxLen at hm
    have hbl : ((xs.length : Int) != (ys.length : Int)) = false := by simp [hl]
    generalize hn : xs.length = n at *
    have hyn : ys.length = n := hl.symm
    rw [hyn] at hbl ⊢
    have HX := Lib.hid hn
    have HY := Lib.hid hyn
    clear hn hyn hl
    go_enter Try.func16, Try.ntmps16
    go_wp2
    go_loopw [5] (fun i wr => ∃ k : Nat, k ≤ n ∧ i = .int .i64 k ∧ xs.take k = ys.take k ∧ Below w.heap.size w wr) (fun i _ => n - (intOf i).toNat)
    case atStart => exact ⟨0, Nat.zero_le _, rfl, rfl, Below.refl _ _⟩
    case round =>
      obtain ⟨k, hk, rfl, ht, hbr⟩ := hrel
      by_cases hlt : k < n
      · obtain ⟨b1, o1, rfl, hb1, hc1, hc2, hc3⟩ := (hx.below hbr).at_ (k := k) (by rw [HX.out]; exact hlt)
        obtain ⟨b2, o2, rfl, hb2, hd1, hd2, hd3⟩ := (hy.below hbr).at_ (k := k) (by rw [HY.out]; exact hlt)
        generalize hv : xs.getD k (0, 0, 0) = v at *
        generalize hu : ys.getD k (0, 0, 0) = u at *
        obtain ⟨v1, v2, v3⟩ := v
        obtain ⟨u1, u2, u3⟩ := u
        have HV := Lib.hid hv
        have HU := Lib.hid hu
        have HT := Lib.hid ht
        have HB := Lib.hid hbr
        clear hv hu ht hx hy hbr
        have hi : (k : Int) < (n : Int) := by omega
        go_wp2_with fail
        go_still_tail 8, (by kernel_rfl)
        go_wp2_with fail
        refine (eqLink_any _ _ _ _ _ _ _).mono ?_
        rintro e w2 ⟨rfl, hb2⟩
        generalize hD : decide ((v1, v2, v3) = (u1, u2, u3)) = D
        have HD := Lib.hid hD
        clear hD
        go_wp2_with fail
        · have hne : (!D) = true := by assumption
          have hne' : decide (xs = ys) = false := by
            rw [decide_eq_false_iff_not]
            intro e
            have h1 := HD.out
            rw [← HV.out, ← HU.out, e] at h1
            simp at h1
            subst h1
            simp at hne
          go_ret
          exact ⟨by rw [hne']; rfl, HB.out.drew.trans (hb2.mono HB.out.size)⟩
        · have heq : (!D) = false := by assumption
          go_roundw
          case rel =>
            refine ⟨k + 1, by omega, by go_num, ?_, HB.out.drew.trans (hb2.mono HB.out.size)⟩
            rw [take_snoc_getD xs k (0, 0, 0) (by rw [HX.out]; exact hlt), take_snoc_getD ys k (0, 0, 0) (by rw [HY.out]; exact hlt), HT.out, HV.out, HU.out]
            have h1 := HD.out
            have h2 : D = true := by simpa using heq
            rw [h2] at h1
            rw [of_decide_eq_true h1]
          case measure => simp [intOf]; omega
      · go_wp2
        go_ret
        have hkn : k = n := by omega
        subst hkn
        have e1 := List.take_of_length_le (l := xs) (i := k) (by rw [HX.out]; exact Nat.le_refl _)
        have e2 := List.take_of_length_le (l := ys) (i := k) (by rw [HY.out]; exact Nat.le_refl _)
        rw [e1, e2] at ht
        exact ⟨by rw [decide_eq_true ht]; rfl, hbr⟩
  · have hbl : ((xs.length : Int) != (ys.length : Int)) = true := by simp; omega
    have hne : decide (xs = ys) = false := by simp; intro e; exact hl (by rw [e])
    rw [hne]
    go_enter Try.func16, Try.ntmps16
    go_wp2
    go_ret
    exact ⟨rfl, Below.refl _ _⟩

end Go.Proofs.Ytodocfanaplmpaa
