
/-
  Contracts of the laws' functions on slices of sliders; no condition.
-/
import Derived.Test.YtodocfanaplmpaaSz
import Derived.Test.YtodocfanaplmpaaSl1
import Derived.Deep.RegionHeld3
import Derived.StillTailTactics
namespace Go.Proofs.Ytodocfanaplmpaa
open Go.ChangeShapes Go.WideShapes Go.ChangeAt Go.RowKit Go.Deep
set_option linter.unusedVariables false

theorem szSliderS_any (A : Option Addr) (c n : Nat) (left : Int) (w : World) (hn : n ≤ maxLen) (h0 : 0 ≤ left) (h1 : left ≤ 1048576) :
    Calls Try.prog 26 #[.slice A n c, .int .i64 left] w fun e w' => e = .returned (.int .i64 (if (n : Int) ≤ left then left - n else -1)) ∧ w = w' := by
  unfold maxLen at hn
  by_cases h : (n : Int) ≤ left
  · rw [if_pos h]
    go_enter Try.func26, Try.ntmps26
    go_wp2
    go_ret
    exact ⟨rfl, rfl⟩
  · rw [if_neg h]
    go_enter Try.func26, Try.ntmps26
    go_wp2
    go_ret
    exact ⟨rfl, rfl⟩

/-- a new slice of sliders of the call's own -/
def NewSl (w : World) (ts : List (Int × Int × Int)) (e : Ending) (w' : World) : Prop :=
  ∃ A c, e = .returned (.slice A ts.length c) ∧ w'.ownsRow w.heap.size 43 3 (.slice A ts.length c) ts.length (cells3 ts) ∧ Below w.heap.size w w'

theorem slInfo : (Try.prog.info? 43).map (fun i => (i.zero, i.size, i.bytes)) = some (some (.agg #[.int .i64 0, .int .i64 0, .int .i64 0]), 3, 24) := by kernel_rfl

theorem toSliderS_any (A : Option Addr) (c : Nat) (ts : List (Int × Int × Int)) (w : World) (hx : TRow w w.heap.size A ts) (hn : ts.length ≤ 1048576) :
    Calls Try.prog 28 #[.slice A ts.length c] w (NewSl w ts) := by
  obtain ⟨i0, hi0, hz0, hz1, hz2⟩ := info_parts slInfo
  generalize hl : ts.length = n at *
  have HL := Lib.hid hl
  clear hl
  go_enter Try.func28, Try.ntmps28
  go_wp2_with (at_make; refine wpList_make_full _ rfl (.tmp 6) (.tmp 6) 36 rfl w.heap.size 43 i0 _ 3 Try.underlying36 hi0 hz0 hz1 .i64 .i64 _ _ n rfl rfl rfl rfl (by rw [hz2]; omega) (by unfold maxLen; omega) (Nat.le_refl _) ?_)
  intro w1 hown hgr
  have hb1 : Below w.heap.size w w1 := (Below.refl _ _).grown hgr (Nat.le_refl _) (by simp)
  have HO := Lib.hid hown
  have HB := Lib.hid hb1
  clear hown hb1 hgr
  go_wp2_with fail
  go_loopw [4] (fun i wr => ∃ j : Nat, ∃ ys : List Value, j ≤ n ∧ i = .int .i64 j ∧ wr.ownsRow w.heap.size 43 3 (.slice (some ⟨w.heap.size, 0, none⟩) n n) n ys ∧ ys.take (j * 3) = (cells3 ts).take (j * 3) ∧ Below w.heap.size w wr) (fun i _ => n - (intOf i).toNat)
  case atStart => exact ⟨0, _, Nat.zero_le _, rfl, HO.out, by simp, HB.out⟩
  case round =>
    obtain ⟨j, ys, hj, rfl, hown, hts, hbr⟩ := hrel
    by_cases hlt : j < n
    · obtain ⟨b1, o1, rfl, hb1, hc1, hc2, hc3⟩ := (hx.below hbr).at_ (k := j) (by rw [HL.out]; exact hlt)
      generalize hv : ts.getD j (0, 0, 0) = v at *
      obtain ⟨v1, v2, v3⟩ := v
      have HV := Lib.hid hv
      have hyl : ys.length = n * 3 := hown.1
      have hd1 := hown.cellAt (j * 3) (by omega)
      have hd2 := hown.cellAt (j * 3 + 1) (by omega)
      have hd3 := hown.cellAt (j * 3 + 2) (by omega)
      have hf1 := hown.frozenAt (j * 3)
      have hf2 := hown.frozenAt (j * 3 + 1)
      have hf3 := hown.frozenAt (j * 3 + 2)
      rw [List.getElem?_eq_getElem (by omega)] at hd1 hd2 hd3
      generalize ys[j * 3]'(by omega) = u1 at hd1
      generalize ys[j * 3 + 1]'(by omega) = u2 at hd2
      generalize ys[j * 3 + 2]'(by omega) = u3 at hd3
      have hi : (j : Int) < (n : Int) := by omega
      have hgl := hown.lt _ rfl
      have H1 := Lib.hid hts
      have H2 := Lib.hid hyl
      have H3 := Lib.hid hown
      have H4 := Lib.hid hbr
      clear hts hyl hown hbr hv hx HO HB
      go_wp2_with fail
      refine (toSlider_any _ _ _ _).mono ?_
      rintro e w2 ⟨rfl, hb2⟩
      obtain ⟨hcc, hff⟩ := bcell hb2
      go_wp2_with fail
      go_roundw
      case rel =>
        have o0 := own_on H3.out hb2
        obtain ⟨s1, _⟩ := o0.stored (j * 3) (.int .i64 v1)
        obtain ⟨s2, _⟩ := s1.stored (j * 3 + 1) (.int .i64 v2)
        obtain ⟨s3, _⟩ := s2.stored (j * 3 + 2) (.int .i64 v3)
        refine ⟨j + 1, _, by omega, by go_num, s3, ?_, (((H4.out.trans (hb2.mono H4.out.size)).setCell (Nat.le_refl _) _).setCell (Nat.le_refl _) _).setCell (Nat.le_refl _) _⟩
        have hl : j < ts.length := by rw [HL.out]; exact hlt
        obtain ⟨g1, g2, g3⟩ := cells3_get ts j hl
        rw [HV.out] at g1 g2 g3
        rw [show (j + 1) * 3 = j * 3 + 1 + 1 + 1 by omega]
        have hys : ys.length = n * 3 := H2.out
        have hcl : (cells3 ts).length = n * 3 := by rw [cells3_length, HL.out]
        rw [take_set_snoc _ _ _ (by simp; omega), take_set_snoc _ _ _ (by simp; omega), take_set_snoc _ _ _ (by omega), H1.out,
          take_snoc_getD (cells3 ts) (j * 3 + 1 + 1) undef (by omega), take_snoc_getD (cells3 ts) (j * 3 + 1) undef (by omega), take_snoc_getD (cells3 ts) (j * 3) undef (by omega)]
        simp only [List.getD]
        rw [g1, g2, show j * 3 + 1 + 1 = j * 3 + 2 by omega, g3]
        rfl
      case measure => simp [intOf]; omega
    · obtain rfl : j = n := by omega
      clear HO HB
      go_wp2
      go_ret
      have e1 : ys = cells3 ts := by
        have h1 : ys.length = j * 3 := hown.1
        rw [List.take_of_length_le (by omega), List.take_of_length_le (by rw [cells3_length, HL.out]; exact Nat.le_refl _)] at hts
        exact hts
      rw [e1] at hown
      have hl := HL.out
      subst hl
      exact ⟨_, _, rfl, hown, hbr⟩

set_option maxRecDepth 100000 in
theorem eqSliderS_any (A B : Option Addr) (c d : Nat) (xs ys : List (Int × Int × Int)) (w : World) (hx : TRow w w.heap.size A xs) (hy : TRow w w.heap.size B ys) :
    Calls Try.prog 29 #[.slice A xs.length c, .slice B ys.length d] w fun e w' => e = .returned (.bool (decide (xs = ys))) ∧ Below w.heap.size w w' := by
  by_cases hl : xs.length = ys.length
  · have hm := hx.2.1
    unfold maxLen at hm
    have hbl : ((xs.length : Int) != (ys.length : Int)) = false := by simp [hl]
    generalize hn : xs.length = n at *
    have hyn : ys.length = n := hl.symm
    rw [hyn] at hbl ⊢
    have HX := Lib.hid hn
    have HY := Lib.hid hyn
    clear hn hyn hl
    go_enter Try.func29, Try.ntmps29
    go_wp2
    go_loopw [5] (fun i wr => ∃ k : Nat, k ≤ n ∧ i = .int .i64 k ∧ xs.take k = ys.take k ∧ Below w.heap.size w wr) (fun i _ => n - (intOf i).toNat)
    case atStart => exact ⟨0, Nat.zero_le _, rfl, rfl, Below.refl _ _⟩
    case round =>
      obtain ⟨k, hk, rfl, ht, hbr⟩ := hrel
      by_cases hlt : k < n
      · obtain ⟨b1, o1, rfl, hb1, hc1, hc2, hc3⟩ := (hx.below hbr).at_ (k := k) (by rw [HX.out]; exact hlt)
        obtain ⟨b2, o2, rfl, hb2, hd1, hd2, hd3⟩ := (hy.below hbr).at_ (k := k) (by rw [HY.out]; exact hlt)
        generalize hv : xs.getD k (0, 0, 0) = v at *
        generalize hu : ys.getD k (0, 0, 0) = u at *
        obtain ⟨v1, v2, v3⟩ := v
        obtain ⟨u1, u2, u3⟩ := u
        have HV := Lib.hid hv
        have HU := Lib.hid hu
        have HT := Lib.hid ht
        have HB := Lib.hid hbr
        clear hv hu ht hx hy hbr
        have hi : (k : Int) < (n : Int) := by omega
        go_wp2_with fail
        go_still_tail 8, (by kernel_rfl)
        go_wp2_with fail
        refine (eqSlider_any _ _ _ _ _ _ _).mono ?_
        rintro e w2 ⟨rfl, hb2⟩
        generalize hD : decide ((v1, v2, v3) = (u1, u2, u3)) = D
        have HD := Lib.hid hD
        clear hD
        go_wp2_with fail
        · have hne : (!D) = true := by assumption
          have hne' : decide (xs = ys) = false := by
            rw [decide_eq_false_iff_not]
            intro e
            have h1 := HD.out
            rw [← HV.out, ← HU.out, e] at h1
            simp at h1
            subst h1
            simp at hne
          go_ret
          exact ⟨by rw [hne']; rfl, HB.out.drew.trans (hb2.mono HB.out.size)⟩
        · have heq : (!D) = false := by assumption
          go_roundw
          case rel =>
            refine ⟨k + 1, by omega, by go_num, ?_, HB.out.drew.trans (hb2.mono HB.out.size)⟩
            rw [take_snoc_getD xs k (0, 0, 0) (by rw [HX.out]; exact hlt), take_snoc_getD ys k (0, 0, 0) (by rw [HY.out]; exact hlt), HT.out, HV.out, HU.out]
            have h1 := HD.out
            have h2 : D = true := by simpa using heq
            rw [h2] at h1
            rw [of_decide_eq_true h1]
          case measure => simp [intOf]; omega
      · go_wp2
        go_ret
        have hkn : k = n := by omega
        subst hkn
        have e1 := List.take_of_length_le (l := xs) (i := k) (by rw [HX.out]; exact Nat.le_refl _)
        have e2 := List.take_of_length_le (l := ys) (i := k) (by rw [HY.out]; exact Nat.le_refl _)
        rw [e1, e2] at ht
        exact ⟨by rw [decide_eq_true ht]; rfl, hbr⟩
  · have hbl : ((xs.length : Int) != (ys.length : Int)) = true := by simp; omega
    have hne : decide (xs = ys) = false := by simp; intro e; exact hl (by rw [e])
    rw [hne]
    go_enter Try.func29, Try.ntmps29
    go_wp2
    go_ret
    exact ⟨rfl, Below.refl _ _⟩

/-- a slider is valid and at one of its ends -/
def endB (t : Int × Int × Int) : Bool := slOk t.1 t.2.1 t.2.2 && (decide (t.2.2 = t.1) || decide (t.2.2 = t.2.1))

theorem all_snoc {α : Type} (p : α → Bool) (xs : List α) (k : Nat) (d : α) (h : k < xs.length) (h1 : (xs.take k).all p = true) : (xs.take (k + 1)).all p = p (xs.getD k d) := by
  rw [take_snoc_getD xs k d h, List.all_append, h1]
  simp

theorem all_false {α : Type} (p : α → Bool) (xs : List α) (k : Nat) (d : α) (h : k < xs.length) (h1 : p (xs.getD k d) = false) : xs.all p = false := by
  rw [List.all_eq_false]
  refine ⟨xs.getD k d, ?_, by rw [h1]; simp⟩
  simp [List.getD, h]

theorem endB_of {v1 v2 v3 : Int} (h1 : slOk v1 v2 v3 = true) : endB (v1, v2, v3) = (decide (v3 = v1) || decide (v3 = v2)) := by simp [endB, h1]
theorem endB_no {v1 v2 v3 : Int} (h1 : slOk v1 v2 v3 = false) : endB (v1, v2, v3) = false := by simp [endB, h1]

theorem implIsSpent_any (A : Option Addr) (c : Nat) (ts : List (Int × Int × Int)) (w : World) (hx : TRow w w.heap.size A ts) :
    Calls Try.prog 25 #[.slice A ts.length c] w fun e w' => e = .returned (.bool (ts.all endB)) ∧ Below w.heap.size w w' := by
  have hm := hx.2.1
  unfold maxLen at hm
  generalize hl : ts.length = n at *
  have HL := Lib.hid hl
  clear hl
  go_enter Try.func25, Try.ntmps25
  go_wp2
  go_loopw [7] (fun i wr => ∃ k : Nat, k ≤ n ∧ i = .int .i64 k ∧ (ts.take k).all endB = true ∧ Below w.heap.size w wr) (fun i _ => n - (intOf i).toNat)
  case atStart => exact ⟨0, Nat.zero_le _, rfl, rfl, Below.refl _ _⟩
  case round =>
    obtain ⟨k, hk, rfl, ht, hbr⟩ := hrel
    by_cases hlt : k < n
    · obtain ⟨b1, o1, rfl, hb1, hc1, hc2, hc3⟩ := (hx.below hbr).at_ (k := k) (by rw [HL.out]; exact hlt)
      have hsn := all_snoc endB ts k (0, 0, 0) (by rw [HL.out]; exact hlt) ht
      have hfl := all_false endB ts k (0, 0, 0) (by rw [HL.out]; exact hlt)
      generalize hv : ts.getD k (0, 0, 0) = v at *
      obtain ⟨v1, v2, v3⟩ := v
      have HT := Lib.hid ht
      have HB := Lib.hid hbr
      have HS := Lib.hid hsn
      have HF := Lib.hid hfl
      clear hv ht hx hbr hsn hfl
      have hi : (k : Int) < (n : Int) := by omega
      by_cases h1 : slOk v1 v2 v3 = true
      · by_cases h2 : v3 = v1
        · have hb : (v3 != v1) = false := by simp [h2]
          have HE := Lib.hid (show endB (v1, v2, v3) = true from by rw [endB_of h1]; simp [h2])
          clear h2
          go_wp2_with (go_at_call 21; refine (implSliderOk_any _ _ _ _).mono ?_; rintro e w' ⟨rfl, rfl⟩)
          go_roundw
          case rel => exact ⟨k + 1, by omega, by go_num, by rw [HS.out]; exact HE.out, HB.out.trans (Below.mono (by exact (by repeat' (first | exact Below.refl _ _ | assumption | (refine Below.drew ?_) | (refine below_drewN ?_ _) | (refine below_thru ?_ (by assumption)) | (refine below_alloc ?_ _) | (refine Below.setCell ?_ (by first | omega | (simp; done) | (simp; omega)) _) | (refine Below.alloc ?_ (by first | omega | (simp; done) | (simp; omega)) _))) : Below wr.heap.size wr _) HB.out.size)⟩
          case measure => simp [intOf]; omega
        · have hb : (v3 != v1) = true := by simp [h2]
          by_cases h3 : v3 = v2
          · have hb2 : (v3 != v2) = false := by simp [h3]
            have HE := Lib.hid (show endB (v1, v2, v3) = true from by rw [endB_of h1]; simp [h3])
            clear h2 h3
            go_wp2_with (go_at_call 21; refine (implSliderOk_any _ _ _ _).mono ?_; rintro e w' ⟨rfl, rfl⟩)
            go_roundw
            case rel => exact ⟨k + 1, by omega, by go_num, by rw [HS.out]; exact HE.out, HB.out.trans (Below.mono (by exact (by repeat' (first | exact Below.refl _ _ | assumption | (refine Below.drew ?_) | (refine below_drewN ?_ _) | (refine below_thru ?_ (by assumption)) | (refine below_alloc ?_ _) | (refine Below.setCell ?_ (by first | omega | (simp; done) | (simp; omega)) _) | (refine Below.alloc ?_ (by first | omega | (simp; done) | (simp; omega)) _))) : Below wr.heap.size wr _) HB.out.size)⟩
            case measure => simp [intOf]; omega
          · have hb2 : (v3 != v2) = true := by simp [h3]
            have HE := Lib.hid (show endB (v1, v2, v3) = false from by rw [endB_of h1]; simp [h2, h3])
            clear h2 h3
            go_wp2_with (go_at_call 21; refine (implSliderOk_any _ _ _ _).mono ?_; rintro e w' ⟨rfl, rfl⟩)
            go_ret
            exact ⟨by rw [HF.out HE.out]; rfl, HB.out.trans (Below.mono (by exact (by repeat' (first | exact Below.refl _ _ | assumption | (refine Below.drew ?_) | (refine below_drewN ?_ _) | (refine below_thru ?_ (by assumption)) | (refine below_alloc ?_ _) | (refine Below.setCell ?_ (by first | omega | (simp; done) | (simp; omega)) _) | (refine Below.alloc ?_ (by first | omega | (simp; done) | (simp; omega)) _))) : Below wr.heap.size wr _) HB.out.size)⟩
      · have h1' : slOk v1 v2 v3 = false := by simpa using h1
        have HE : Hid (endB (v1, v2, v3) = false) := endB_no h1'
        clear h1
        go_wp2_with (go_at_call 21; refine (implSliderOk_any _ _ _ _).mono ?_; rintro e w' ⟨rfl, rfl⟩)
        go_ret
        exact ⟨by rw [HF.out HE.out]; rfl, HB.out.trans (Below.mono (by exact (by repeat' (first | exact Below.refl _ _ | assumption | (refine Below.drew ?_) | (refine below_drewN ?_ _) | (refine below_thru ?_ (by assumption)) | (refine below_alloc ?_ _) | (refine Below.setCell ?_ (by first | omega | (simp; done) | (simp; omega)) _) | (refine Below.alloc ?_ (by first | omega | (simp; done) | (simp; omega)) _))) : Below wr.heap.size wr _) HB.out.size)⟩
    · go_wp2
      go_ret
      have hkn : k = n := by omega
      subst hkn
      have e1 := List.take_of_length_le (l := ts) (i := k) (by rw [HL.out]; exact Nat.le_refl _)
      rw [e1] at ht
      exact ⟨by rw [ht]; rfl, hbr⟩

end Go.Proofs.Ytodocfanaplmpaa
