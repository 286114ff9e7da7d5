
/-
  Contracts of FreePart on both sides, the walks of the laws FnExactLayersOf and FnExactFreePart; no condition beyond the length of the text.
-/
import Derived.Test.YtkhlolhmaoenoaaLayers
import Derived.Test.YtkhlolhmaoenoaaViewsLaw
namespace Go.Proofs.Ytkhlolhmaoenoaa
open Go.ChangeShapes Go.WideShapes Go.ChangeAt Go.RowKit Go.Deep Go.BigFrame
set_option linter.unusedVariables false

/-- how many zeros -/
def zeros (zs : List Int) : Nat := zs.count 0
theorem zeros_take (zs : List Int) (k : Nat) (h : k < zs.length) : zeros (zs.take (k + 1)) = zeros (zs.take k) + if zs.getD k 0 = 0 then 1 else 0 := by
  unfold zeros
  rw [take_snoc_getD zs k 0 h, List.count_append]
  simp [List.count_cons]
theorem zeros_le (zs : List Int) (k : Nat) : zeros (zs.take k) ≤ k := Nat.le_trans List.count_le_length (List.length_take_le _ _)
def freePart (l : List UInt8) : Int := if isStrip l = true then (zeros (layP l l.length) : Int) else -1

theorem implFreePart_any (s : ByteArray) (w : World) (hs : s.size ≤ 4294967296) : Calls Try.prog 45 #[.string s] w fun e w' => e = .returned (.int .i64 (freePart s.data.toList)) ∧ Below w.heap.size w w' := by
  have hst := fun w => implIsStrip_any s w hs
  by_cases h : isStrip s.data.toList = true
  · have hh := fun w => implLayersOf_any s w hs
    rw [layers_yes h] at hh
    rw [show freePart s.data.toList = (zeros (layP s.data.toList s.data.toList.length) : Int) from if_pos h]
    have hln := layP_len s.data.toList s.data.toList.length
    rw [h] at hst
    rw [size_list] at hln hh ⊢
    generalize layP s.data.toList s.size = zs at *
    have HL := Lib.hid hln
    have HT := Lib.hid (zeros_take zs)
    have HE := Lib.hid (zeros_le zs)
    have HH := Lib.hid hh
    have HST := Lib.hid hst
    clear h hh hst hln
    go_enter Try.func45, Try.ntmps45
    go_wp2_with fail
    refine (HST.out _).mono ?_
    rintro e w1 ⟨rfl, rfl⟩
    go_wp2_with fail
    refine (HH.out _).mono ?_
    rintro e w1 ⟨A, c, rfl, ho, hb⟩
    have hx := IRow.of_own ho
    clear ho
    go_wp2_with fail
    go_loop [3, 12] (fun n i => ∃ k : Nat, k ≤ zs.length ∧ i = .int .i64 k ∧ n = .int .i64 (zeros (zs.take k) : Nat)) (fun _ i => zs.length - (intOf i).toNat)
    case atStart => exact ⟨0, Nat.zero_le _, rfl, rfl⟩
    case round =>
      obtain ⟨k, hk, rfl, rfl⟩ := hrel
      have hzk := HE.out k
      have hzl : zs.length ≤ 4294967296 := by rw [HL.out]; exact hs
      by_cases hlt : k < zs.length
      · obtain ⟨b1, o1, rfl, hb1, hc1⟩ := hx.at_ (k := k) hlt
        have HQ := Lib.hid (HT.out k hlt)
        clear hx
        generalize zs.getD k 0 = v at *
        generalize zeros (zs.take k) = t at *
        generalize zs.length = n at *
        by_cases hv : v = 0
        · subst hv
          go_wp2_with fail
          go_round
          case rel => exact ⟨k + 1, by omega, by go_num, by rw [HQ.out, if_pos rfl]; go_num⟩
          case measure => simp [intOf]; omega
        · have hb2 : (v == 0) = false := by simpa using hv
          have HV := Lib.hid hv
          clear hv
          go_wp2_with fail
          go_round
          case rel => exact ⟨k + 1, by omega, by go_num, by rw [HQ.out, if_neg HV.out]; rfl⟩
          case measure => simp [intOf]; omega
      · obtain rfl : k = zs.length := by omega
        clear hx
        go_wp2_with fail
        go_ret
        exact ⟨rfl, hb⟩
  · have h' : isStrip s.data.toList = false := by simpa using h
    rw [show freePart s.data.toList = -1 from if_neg h]
    rw [h'] at hst
    clear h h'
    go_enter Try.func45, Try.ntmps45
    go_wp2_with fail
    refine (hst _).mono ?_
    rintro e w1 ⟨rfl, rfl⟩
    go_wp2_with fail
    go_ret
    exact ⟨rfl, (by repeat' (first | exact Below.refl _ _ | assumption | (refine Below.drew ?_) | (refine below_drewN ?_ _) | (refine below_thru ?_ (by assumption)) | (refine below_alloc ?_ _) | (refine Below.setCell ?_ (by first | omega | (simp; done) | (simp; omega)) _) | (refine Below.alloc ?_ (by first | omega | (simp; done) | (simp; omega)) _)))⟩

end Go.Proofs.Ytkhlolhmaoenoaa
