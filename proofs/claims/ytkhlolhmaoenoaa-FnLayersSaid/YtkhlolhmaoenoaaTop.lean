
/-
  Contracts of ThickestOf on both sides and the walk of its law; no condition beyond the length of the text.
-/
import Derived.Test.YtkhlolhmaoenoaaLayers
import Derived.Test.YtkhlolhmaoenoaaShelf
namespace Go.Proofs.Ytkhlolhmaoenoaa
open Go.ChangeShapes Go.WideShapes Go.ChangeAt Go.RowKit Go.Deep Go.BigFrame
set_option linter.unusedVariables false

/-- the greatest of the first k numbers, -1 for none -/
def topP (zs : List Int) (k : Nat) : Int := if k = 0 then -1 else Lib.maxOf (zs.take k)
theorem topP_succ (zs : List Int) (hz : ∀ z ∈ zs, 0 ≤ z) (k : Nat) (hk : k < zs.length) : topP zs (k + 1) = max (topP zs k) (zs.getD k 0) := by
  unfold topP
  rw [if_neg (by omega)]
  by_cases h : k = 0
  · subst h
    rw [if_pos rfl, Lib.maxOf_one]
    have : 0 ≤ zs.getD 0 0 := by
      rw [List.getD_eq_getElem?_getD, List.getElem?_eq_getElem hk]
      exact hz _ (List.getElem_mem _)
    omega
  · rw [if_neg h, Lib.maxOf_step zs k (by omega) hk]
def thick (l : List UInt8) : Int := if isStrip l = true then topP (layP l l.length) l.length else -1

theorem implThickestOf_any (s : ByteArray) (w : World) (hs : s.size ≤ 4294967296) : Calls Try.prog 46 #[.string s] w fun e w' => e = .returned (.int .i64 (thick s.data.toList)) ∧ Below w.heap.size w w' := by
  have hst := fun w => implIsStrip_any s w hs
  by_cases h : isStrip s.data.toList = true
  · have hh := fun w => implLayersOf_any s w hs
    rw [layers_yes h] at hh
    have hp := isStrip_parts h
    rw [size_list] at hp
    rw [show thick s.data.toList = Lib.maxOf (layP s.data.toList s.data.toList.length) by
      unfold thick
      rw [if_pos h]
      unfold topP
      rw [if_neg (by rw [size_list]; omega), List.take_of_length_le (by rw [layP_len]; exact Nat.le_refl _)]]
    have hln := layP_len s.data.toList s.data.toList.length
    rw [h] at hst
    rw [size_list] at hln hh ⊢
    generalize layP s.data.toList s.size = zs at *
    have HL := Lib.hid hln
    have HH := Lib.hid hh
    have HST := Lib.hid hst
    have hn : 0 < zs.length := by omega
    clear h hh hst hln
    go_enter Try.func46, Try.ntmps46
    go_wp2_with fail
    refine (HST.out _).mono ?_
    rintro e w1 ⟨rfl, rfl⟩
    go_wp2_with fail
    refine (HH.out _).mono ?_
    rintro e w1 ⟨A, c, rfl, ho, hb⟩
    have hx := IRow.of_own ho
    obtain ⟨b, off, rfl, hbl, hcc⟩ := hx.2.2 hn
    have hm := Try.slices_Max_int b off zs.length c zs w1 hn (Nat.le_refl _) (by rw [HL.out]; omega) (fun j hj => by
      rw [hcc j (by omega), List.getElem?_map, List.getD_eq_getElem?_getD, List.getElem?_eq_getElem hj]
      rfl)
    rw [List.take_length] at hm
    have HM := Lib.hid hm
    clear hm hcc hx ho
    go_wp2_with fail
    refine (HM.out).mono ?_
    rintro e w2 ⟨rfl, hw⟩
    subst hw
    go_wp2_with fail
    go_ret
    exact ⟨rfl, hb⟩
  · have h' : isStrip s.data.toList = false := by simpa using h
    rw [show thick s.data.toList = -1 from if_neg h]
    rw [h'] at hst
    clear h h'
    go_enter Try.func46, Try.ntmps46
    go_wp2_with fail
    refine (hst _).mono ?_
    rintro e w1 ⟨rfl, rfl⟩
    go_wp2_with fail
    go_ret
    exact ⟨rfl, (by repeat' (first | exact Below.refl _ _ | assumption | (refine Below.drew ?_) | (refine below_drewN ?_ _) | (refine below_thru ?_ (by assumption)) | (refine below_alloc ?_ _) | (refine Below.setCell ?_ (by first | omega | (simp; done) | (simp; omega)) _) | (refine Below.alloc ?_ (by first | omega | (simp; done) | (simp; omega)) _)))⟩

end Go.Proofs.Ytkhlolhmaoenoaa
