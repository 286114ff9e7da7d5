/-
  The contract of spec.IsSpent; no condition.
-/
import Derived.Test.YtlbbnbhehonbiaaSlS
import Derived.Deep.RegionWith
namespace Go.Proofs.Ytlbbnbhehonbiaa
open Go.ChangeShapes Go.WideShapes Go.ChangeAt Go.RowKit Go.Deep Go.BigFrame
set_option linter.unusedVariables false

set_option maxRecDepth 100000 in
theorem specIsSpent_any (A : Option Addr) (c : Nat) (ts : List (Int × Int × Int)) (w : World) (hx : TRow w w.heap.size A ts) :
    Calls Try.prog 24 #[.slice A ts.length c] w fun e w' => e = .returned (.bool (ts.all endB)) ∧ Below w.heap.size w w' := by
  have hm := hx.2.1
  unfold maxLen at hm
  generalize hl : ts.length = n at *
  have HL := Lib.hid hl
  clear hl
  go_enter Try.func24, Try.ntmps24
  go_wp2
  go_loopw [3] (fun i wr => ∃ k : Nat, k ≤ n ∧ i = .int .i64 k ∧ (ts.take k).all endB = true ∧ Below w.heap.size w wr) (fun i _ => n - (intOf i).toNat)
  case atStart => exact ⟨0, Nat.zero_le _, rfl, rfl, Below.refl _ _⟩
  case round =>
    obtain ⟨k, hk, rfl, ht, hbr⟩ := hrel
    by_cases hlt : k < n
    · obtain ⟨b1, o1, rfl, hb1, hc1, hc2, hc3⟩ := (hx.below hbr).at_ (k := k) (by rw [HL.out]; exact hlt)
      have hbz : b1 < wr.heap.size := by have := hbr.size; omega
      have hsn := all_snoc endB ts k (0, 0, 0) (by rw [HL.out]; exact hlt) ht
      have hfl := all_false endB ts k (0, 0, 0) (by rw [HL.out]; exact hlt)
      generalize hv : ts.getD k (0, 0, 0) = v at *
      obtain ⟨v1, v2, v3⟩ := v
      dsimp only at hc1 hc2 hc3
      have HT := Lib.hid ht
      have HB := Lib.hid hbr
      have HS := Lib.hid hsn
      have HF := Lib.hid hfl
      clear hv ht hx hbr hsn hfl
      have hi : (k : Int) < (n : Int) := by omega
      have hd1 := InW.cell hbz hc1
      have hd2 := InW.cell hbz hc2
      have hd3 := InW.cell hbz hc3
      clear hc1 hc2 hc3
      by_cases h1 : slOk v1 v2 v3 = true
      · by_cases h2 : v3 = v1
        · have hb : (v3 != v1) = false := by simp [h2]
          have HE := Lib.hid (show endB (v1, v2, v3) = true from by rw [endB_of h1]; simp [h2])
          clear h2
          go_wp2_with fail
          refine wp_region_in (by kernel_rfl) (by kernel_rfl) ?_
          repeat (go_big_quiet_step ((go_at_call 17; refine (specSliderOk_any _ _ _ _).mono ?_; rintro e w' ⟨rfl, rfl⟩; exact ⟨rfl, ⟨_, below_alloc (InW.on _) _⟩, rfl⟩)))
          refine wpQuiet_nil ?_
          intro w2_ hw2_
          obtain ⟨⟨w2, hb2⟩, rfl⟩ := hw2_
          go_wp2_with fail
          go_roundw
          case rel => exact ⟨k + 1, by omega, by go_num, by rw [HS.out]; exact HE.out, HB.out.trans (hb2.mono HB.out.size)⟩
          case measure => simp [intOf]; omega
        · have hb : (v3 != v1) = true := by simp [h2]
          by_cases h3 : v3 = v2
          · have hbb : (v3 != v2) = false := by simp [h3]
            have HE := Lib.hid (show endB (v1, v2, v3) = true from by rw [endB_of h1]; simp [h3])
            clear h2 h3
            go_wp2_with fail
            refine wp_region_in (by kernel_rfl) (by kernel_rfl) ?_
            repeat (go_big_quiet_step ((go_at_call 17; refine (specSliderOk_any _ _ _ _).mono ?_; rintro e w' ⟨rfl, rfl⟩; exact ⟨rfl, ⟨_, below_alloc (InW.on _) _⟩, rfl⟩)))
            refine wpQuiet_nil ?_
            intro w2_ hw2_
            obtain ⟨⟨w2, hb2⟩, rfl⟩ := hw2_
            go_wp2_with fail
            go_roundw
            case rel => exact ⟨k + 1, by omega, by go_num, by rw [HS.out]; exact HE.out, HB.out.trans (hb2.mono HB.out.size)⟩
            case measure => simp [intOf]; omega
          · have hbb : (v3 != v2) = true := by simp [h3]
            have HE := Lib.hid (show endB (v1, v2, v3) = false from by rw [endB_of h1]; simp [h2, h3])
            clear h2 h3
            go_wp2_with fail
            refine wp_region_in (by kernel_rfl) (by kernel_rfl) ?_
            repeat (go_big_quiet_step ((go_at_call 17; refine (specSliderOk_any _ _ _ _).mono ?_; rintro e w' ⟨rfl, rfl⟩; exact ⟨rfl, ⟨_, below_alloc (InW.on _) _⟩, rfl⟩)))
            refine wpQuiet_nil ?_
            intro w2_ hw2_
            obtain ⟨⟨w2, hb2⟩, rfl⟩ := hw2_
            go_wp2_with fail
            go_ret
            exact ⟨by rw [HF.out HE.out]; rfl, HB.out.trans (hb2.mono HB.out.size)⟩
      · have h1' : slOk v1 v2 v3 = false := by simpa using h1
        have HE := Lib.hid (endB_no h1')
        clear h1
        go_wp2_with fail
        refine wp_region_in (by kernel_rfl) (by kernel_rfl) ?_
        repeat (go_big_quiet_step ((go_at_call 17; refine (specSliderOk_any _ _ _ _).mono ?_; rintro e w' ⟨rfl, rfl⟩; exact ⟨rfl, ⟨_, below_alloc (InW.on _) _⟩, rfl⟩)))
        refine wpQuiet_nil ?_
        intro w2_ hw2_
        obtain ⟨⟨w2, hb2⟩, rfl⟩ := hw2_
        go_wp2_with fail
        go_ret
        exact ⟨by rw [HF.out HE.out]; rfl, HB.out.trans (hb2.mono HB.out.size)⟩
    · go_wp2
      go_ret
      have hkn : k = n := by omega
      subst hkn
      have e1 := List.take_of_length_le (l := ts) (i := k) (by rw [HL.out]; exact Nat.le_refl _)
      rw [e1] at ht
      exact ⟨by rw [ht]; rfl, hbr⟩

end Go.Proofs.Ytlbbnbhehonbiaa
