/-
  Contracts of FreePart on both sides, the walks of the laws FnExactLayersOf and FnExactFreePart; no condition beyond the length of the text.
-/
import Derived.Test.YtjkicfagphielaaLayers
import Derived.Test.YtjkicfagphielaaViewsLaw
namespace Go.Proofs.Ytjkicfagphielaa
open Go.ChangeShapes Go.WideShapes Go.ChangeAt Go.RowKit Go.Deep Go.BigFrame
set_option linter.unusedVariables false

/-- how many zeros -/
def zeros (zs : List Int) : Nat := zs.count 0
theorem zeros_take (zs : List Int) (k : Nat) (h : k < zs.length) : zeros (zs.take (k + 1)) = zeros (zs.take k) + if zs.getD k 0 = 0 then 1 else 0 := by
  unfold zeros
  rw [take_snoc_getD zs k 0 h, List.count_append]
  simp [List.count_cons]
theorem zeros_le (zs : List Int) (k : Nat) : zeros (zs.take k) ≤ k := Nat.le_trans List.count_le_length (List.length_take_le _ _)
def freePart (l : List UInt8) : Int := if isStrip l = true then (zeros (layP l l.length) : Int) else -1

theorem specFreePart_any (s : ByteArray) (w : World) (hs : s.size ≤ 4294967296) : Calls Try.prog 69 #[.string s] w fun e w' => e = .returned (.int .i64 (freePart s.data.toList)) ∧ Below w.heap.size w w' := by
  have hst := fun w => specIsStrip_any s w hs
  by_cases h : isStrip s.data.toList = true
  · have hh := fun w => specLayersOf_any s w hs
    rw [layers_yes h] at hh
    rw [show freePart s.data.toList = (zeros (layP s.data.toList s.data.toList.length) : Int) from if_pos h]
    have hln := layP_len s.data.toList s.data.toList.length
    rw [h] at hst
    rw [size_list] at hln hh ⊢
    generalize layP s.data.toList s.size = zs at *
    have HL := Lib.hid hln
    have HT := Lib.hid (zeros_take zs)
    have HE := Lib.hid (zeros_le zs)
    have HH := Lib.hid hh
    have HST := Lib.hid hst
    clear h hh hst hln
    go_enter Try.func69, Try.ntmps69
    go_wp2_with fail
    refine (HST.out _).mono ?_
    rintro e w1 ⟨rfl, rfl⟩
    go_wp2_with fail
    refine (HH.out _).mono ?_
    rintro e w1 ⟨A, c, rfl, ho, hb⟩
    have hx := IRow.of_own ho
    clear ho
    go_wp2_with fail
    go_loop [3, 5] (fun n i => ∃ k : Nat, k ≤ zs.length ∧ i = .int .i64 k ∧ n = .int .i64 (zeros (zs.take k) : Nat)) (fun _ i => zs.length - (intOf i).toNat)
    case atStart => exact ⟨0, Nat.zero_le _, rfl, rfl⟩
    case round =>
      obtain ⟨k, hk, rfl, rfl⟩ := hrel
      have hzk := HE.out k
      have hzl : zs.length ≤ 4294967296 := by rw [HL.out]; exact hs
      by_cases hlt : k < zs.length
      · obtain ⟨b1, o1, rfl, hb1, hc1⟩ := hx.at_ (k := k) hlt
        have HQ := Lib.hid (HT.out k hlt)
        clear hx
        generalize zs.getD k 0 = v at *
        generalize zeros (zs.take k) = t at *
        generalize zs.length = n at *
        by_cases hv : v = 0
        · subst hv
          go_wp2_with fail
          go_round
          case rel => exact ⟨k + 1, by omega, by go_num, by rw [HQ.out, if_pos rfl]; go_num⟩
          case measure => simp [intOf]; omega
        · have hb2 : (v == 0) = false := by simpa using hv
          have HV := Lib.hid hv
          clear hv
          go_wp2_with fail
          go_round
          case rel => exact ⟨k + 1, by omega, by go_num, by rw [HQ.out, if_neg HV.out]; rfl⟩
          case measure => simp [intOf]; omega
      · obtain rfl : k = zs.length := by omega
        clear hx
        go_wp2_with fail
        go_ret
        exact ⟨rfl, hb⟩
  · have h' : isStrip s.data.toList = false := by simpa using h
    rw [show freePart s.data.toList = -1 from if_neg h]
    rw [h'] at hst
    clear h h'
    go_enter Try.func69, Try.ntmps69
    go_wp2_with fail
    refine (hst _).mono ?_
    rintro e w1 ⟨rfl, rfl⟩
    go_wp2_with fail
    go_ret
    exact ⟨rfl, (by repeat' (first | exact Below.refl _ _ | assumption | (refine Below.drew ?_) | (refine below_drewN ?_ _) | (refine below_thru ?_ (by assumption)) | (refine below_alloc ?_ _) | (refine Below.setCell ?_ (by first | omega | (simp; done) | (simp; omega)) _) | (refine Below.alloc ?_ (by first | omega | (simp; done) | (simp; omega)) _)))⟩

theorem implFreePart_any (s : ByteArray) (w : World) (hs : s.size ≤ 4294967296) : Calls Try.prog 70 #[.string s] w fun e w' => e = .returned (.int .i64 (freePart s.data.toList)) ∧ Below w.heap.size w w' := by
  have hst := fun w => implIsStrip_any s w hs
  by_cases h : isStrip s.data.toList = true
  · have hh := fun w => implLayersOf_any s w hs
    rw [layers_yes h] at hh
    rw [show freePart s.data.toList = (zeros (layP s.data.toList s.data.toList.length) : Int) from if_pos h]
    have hln := layP_len s.data.toList s.data.toList.length
    rw [h] at hst
    rw [size_list] at hln hh ⊢
    generalize layP s.data.toList s.size = zs at *
    have HL := Lib.hid hln
    have HT := Lib.hid (zeros_take zs)
    have HE := Lib.hid (zeros_le zs)
    have HH := Lib.hid hh
    have HST := Lib.hid hst
    clear h hh hst hln
    go_enter Try.func70, Try.ntmps70
    go_wp2_with fail
    refine (HST.out _).mono ?_
    rintro e w1 ⟨rfl, rfl⟩
    go_wp2_with fail
    refine (HH.out _).mono ?_
    rintro e w1 ⟨A, c, rfl, ho, hb⟩
    have hx := IRow.of_own ho
    clear ho
    go_wp2_with fail
    go_loop [3, 12] (fun n i => ∃ k : Nat, k ≤ zs.length ∧ i = .int .i64 k ∧ n = .int .i64 (zeros (zs.take k) : Nat)) (fun _ i => zs.length - (intOf i).toNat)
    case atStart => exact ⟨0, Nat.zero_le _, rfl, rfl⟩
    case round =>
      obtain ⟨k, hk, rfl, rfl⟩ := hrel
      have hzk := HE.out k
      have hzl : zs.length ≤ 4294967296 := by rw [HL.out]; exact hs
      by_cases hlt : k < zs.length
      · obtain ⟨b1, o1, rfl, hb1, hc1⟩ := hx.at_ (k := k) hlt
        have HQ := Lib.hid (HT.out k hlt)
        clear hx
        generalize zs.getD k 0 = v at *
        generalize zeros (zs.take k) = t at *
        generalize zs.length = n at *
        by_cases hv : v = 0
        · subst hv
          go_wp2_with fail
          go_round
          case rel => exact ⟨k + 1, by omega, by go_num, by rw [HQ.out, if_pos rfl]; go_num⟩
          case measure => simp [intOf]; omega
        · have hb2 : (v == 0) = false := by simpa using hv
          have HV := Lib.hid hv
          clear hv
          go_wp2_with fail
          go_round
          case rel => exact ⟨k + 1, by omega, by go_num, by rw [HQ.out, if_neg HV.out]; rfl⟩
          case measure => simp [intOf]; omega
      · obtain rfl : k = zs.length := by omega
        clear hx
        go_wp2_with fail
        go_ret
        exact ⟨rfl, hb⟩
  · have h' : isStrip s.data.toList = false := by simpa using h
    rw [show freePart s.data.toList = -1 from if_neg h]
    rw [h'] at hst
    clear h h'
    go_enter Try.func70, Try.ntmps70
    go_wp2_with fail
    refine (hst _).mono ?_
    rintro e w1 ⟨rfl, rfl⟩
    go_wp2_with fail
    go_ret
    exact ⟨rfl, (by repeat' (first | exact Below.refl _ _ | assumption | (refine Below.drew ?_) | (refine below_drewN ?_ _) | (refine below_thru ?_ (by assumption)) | (refine below_alloc ?_ _) | (refine Below.setCell ?_ (by first | omega | (simp; done) | (simp; omega)) _) | (refine Below.alloc ?_ (by first | omega | (simp; done) | (simp; omega)) _)))⟩

theorem fnExactFreePart_walk (s : ByteArray) (w : World) (_ : s.size ≤ maxLen) :
    Calls Try.prog 20 #[.string s] w fun e w' => e = .returned (.bool true) ∧ Below w.heap.size w w' := by
  by_cases hls : s.size ≤ 1048576
  case neg =>
    have hs2 : (1048576 : Int) < (s.size : Int) := by omega
    go_enter Try.func20, Try.ntmps20
    go_wp2_with fail
    go_ret
    exact ⟨rfl, (by repeat' (first | exact Below.refl _ _ | assumption | (refine Below.drew ?_) | (refine below_drewN ?_ _) | (refine below_thru ?_ (by assumption)) | (refine below_alloc ?_ _) | (refine Below.setCell ?_ (by first | omega | (simp; done) | (simp; omega)) _) | (refine Below.alloc ?_ (by first | omega | (simp; done) | (simp; omega)) _)))⟩
  have hss : s.size ≤ 4294967296 := by omega
  have his : (s.size : Int) ≤ 1048576 := by omega
  have hc1 := fun w => specFreePart_any s w hss
  have hc2 := fun w => implFreePart_any s w hss
  generalize freePart s.data.toList = zs at *
  have H1 := Lib.hid hc1
  have H2 := Lib.hid hc2
  clear hc1 hc2
  go_enter Try.func20, Try.ntmps20
  go_wp2_with fail
  refine (H1.out _).mono ?_
  rintro e w1 ⟨rfl, b1⟩
  go_wp2_with fail
  refine (H2.out _).mono ?_
  rintro e w2 ⟨rfl, b2⟩
  go_wp2_with fail
  go_ret
  exact ⟨rfl, (by repeat' (first | exact Below.refl _ _ | assumption | (refine Below.drew ?_) | (refine below_drewN ?_ _) | (refine below_thru ?_ (by assumption)) | (refine below_alloc ?_ _) | (refine Below.setCell ?_ (by first | omega | (simp; done) | (simp; omega)) _) | (refine Below.alloc ?_ (by first | omega | (simp; done) | (simp; omega)) _)))⟩

theorem fnExactLayersOf_walk (s : ByteArray) (w : World) (_ : s.size ≤ maxLen) :
    Calls Try.prog 21 #[.string s] w fun e w' => e = .returned (.bool true) ∧ Below w.heap.size w w' := by
  by_cases hls : s.size ≤ 1048576
  case neg =>
    have hs2 : (1048576 : Int) < (s.size : Int) := by omega
    go_enter Try.func21, Try.ntmps21
    go_wp2_with fail
    go_ret
    exact ⟨rfl, (by repeat' (first | exact Below.refl _ _ | assumption | (refine Below.drew ?_) | (refine below_drewN ?_ _) | (refine below_thru ?_ (by assumption)) | (refine below_alloc ?_ _) | (refine Below.setCell ?_ (by first | omega | (simp; done) | (simp; omega)) _) | (refine Below.alloc ?_ (by first | omega | (simp; done) | (simp; omega)) _)))⟩
  have hss : s.size ≤ 4294967296 := by omega
  have his : (s.size : Int) ≤ 1048576 := by omega
  have hc1 := fun w => specLayersOf_any s w hss
  have hc2 := fun w => implLayersOf_any s w hss
  have hzl : (layers s.data.toList).length ≤ 4294967296 := by have := layers_len s.data.toList; rw [size_list] at this; omega
  generalize layers s.data.toList = zs at *
  have H1 := Lib.hid hc1
  have H2 := Lib.hid hc2
  clear hc1 hc2
  go_enter Try.func21, Try.ntmps21
  go_wp2_with fail
  refine (H1.out _).mono ?_
  rintro e w1 ⟨A1, c1, rfl, o1, b1⟩
  go_wp2_with fail
  refine (H2.out _).mono ?_
  rintro e w2 ⟨A2, c2, rfl, o2, b2⟩
  have r1 := (IRow.of_own o1).below b2
  have hz1 := b1.size
  have hz2 := b2.size
  have O2 := Lib.hid o2
  have R1 := Lib.hid r1
  have B1 := Lib.hid b1
  have B2 := Lib.hid b2
  clear o1 o2 r1 b1 b2
  go_wp2_with fail
  refine (eqIntS_any A2 A1 c2 c1 zs zs w2 (IRow.of_own O2.out) (R1.out.more hz2)).mono ?_
  rw [decide_eq_true rfl]
  rintro e w3 ⟨rfl, q3, rfl⟩
  go_wp2_with fail
  refine (markIntS_any A2 c2 1 zs.length w1.heap.size _ _ (own_drewN O2.out q3) (by decide) hzl).mono ?_
  rintro e w4 ⟨rfl, o4, g4⟩
  have hr : ∀ g, (Value.slice A2 zs.length c2).ownBlock = some g → w1.heap.size ≤ g := fun g hg => (O2.out.lt g hg).1
  have R4 := Lib.hid (R1.out.grown (drewN_grown g4) hz2 hr)
  have B4 := Lib.hid (Below.grown (below_thru B1.out B2.out) (drewN_grown g4) (by omega) (fun g hg => Nat.le_trans hz1 (hr g hg)))
  have M4 := Lib.hid (irow_marks o4)
  have hz4 : w2.heap.size ≤ w4.heap.size := (drewN_grown g4).size
  clear o4 g4 hr
  go_wp2_with fail
  refine (heldIntS_any A2 c2 1 zs.length w4 M4.out (by decide) hzl).mono ?_
  rintro e w5 ⟨rfl, q5, rfl⟩
  go_wp2_with fail
  refine (H2.out _).mono ?_
  rintro e w6 ⟨A3, c3, rfl, o3, b3⟩
  have b36 : Below w4.heap.size w4 w6 := ⟨b3.os, b3.tape, b3.output, b3.size, b3.block⟩
  have r16 := (R4.out.more (by omega)).on b36
  have m6 := M4.out.on b36
  have B6 := Lib.hid (below_thru B4.out (b36.mono (by omega)))
  have R6 := Lib.hid r16
  have M6 := Lib.hid m6
  have O3 := Lib.hid (IRow.of_own o3)
  clear r16 m6 b36 b3 o3
  go_wp2_with fail
  refine (eqIntS_any A3 A1 c3 c1 zs zs w6 O3.out R6.out).mono ?_
  rw [decide_eq_true rfl]
  rintro e w7 ⟨rfl, q7, rfl⟩
  go_wp2_with fail
  refine (heldIntS_any A2 c2 1 zs.length (w6.drewN q7) (M6.out.drewN q7) (by decide) hzl).mono ?_
  rintro e w8 ⟨rfl, q8, rfl⟩
  go_wp2_with fail
  go_ret
  exact ⟨rfl, below_drewN B6.out _⟩

end Go.Proofs.Ytjkicfagphielaa
