
/-
  Contracts of ThickestOf on both sides and the walk of its law; no condition beyond the length of the text.
-/
import Derived.Test.YtjdelolfbnaiaaaLayers
import Derived.Test.YtjdelolfbnaiaaaShelf
namespace Go.Proofs.Ytjdelolfbnaiaaa
open Go.ChangeShapes Go.WideShapes Go.ChangeAt Go.RowKit Go.Deep Go.BigFrame
set_option linter.unusedVariables false

/-- the greatest of the first k numbers, -1 for none -/
def topP (zs : List Int) (k : Nat) : Int := if k = 0 then -1 else Lib.maxOf (zs.take k)
theorem topP_succ (zs : List Int) (hz : ∀ z ∈ zs, 0 ≤ z) (k : Nat) (hk : k < zs.length) : topP zs (k + 1) = max (topP zs k) (zs.getD k 0) := by
  unfold topP
  rw [if_neg (by omega)]
  by_cases h : k = 0
  · subst h
    rw [if_pos rfl, Lib.maxOf_one]
    have : 0 ≤ zs.getD 0 0 := by
      rw [List.getD_eq_getElem?_getD, List.getElem?_eq_getElem hk]
      exact hz _ (List.getElem_mem _)
    omega
  · rw [if_neg h, Lib.maxOf_step zs k (by omega) hk]
def thick (l : List UInt8) : Int := if isStrip l = true then topP (layP l l.length) l.length else -1

theorem specThickestOf_any (s : ByteArray) (w : World) (hs : s.size ≤ 4294967296) : Calls Try.prog 58 #[.string s] w fun e w' => e = .returned (.int .i64 (thick s.data.toList)) ∧ Below w.heap.size w w' := by
  have hh := fun w => specLayersOf_any s w hs
  obtain ⟨zs, hzs, hz, hlz⟩ : ∃ zs : List Int, layers s.data.toList = zs ∧ (∀ z ∈ zs, 0 ≤ z) ∧ zs.length ≤ s.size := ⟨_, rfl, by
    intro z hz
    by_cases h : isStrip s.data.toList = true
    · rw [layers_yes h] at hz
      exact (layP_small _ _ z hz).1
    · rw [layers_no (by simpa using h)] at hz
      exact absurd hz (by simp), by have := layers_len s.data.toList; rw [size_list] at this; exact this⟩
  have htop : thick s.data.toList = topP zs zs.length := by
    unfold thick
    by_cases h : isStrip s.data.toList = true
    · rw [if_pos h, ← hzs, layers_yes h, layP_len]
    · rw [if_neg h, ← hzs, layers_no (by simpa using h)]
      rfl
  rw [htop]
  rw [hzs] at hh
  have HT := Lib.hid (topP_succ zs hz)
  have HH := Lib.hid hh
  clear hh hzs htop hz
  go_enter Try.func58, Try.ntmps58
  go_wp2_with fail
  refine (HH.out _).mono ?_
  rintro e w1 ⟨A, c, rfl, ho, hb⟩
  have hx := IRow.of_own ho
  clear ho
  go_wp2_with fail
  go_loop [3, 5] (fun n i => ∃ k : Nat, k ≤ zs.length ∧ i = .int .i64 k ∧ n = .int .i64 (topP zs k)) (fun _ i => zs.length - (intOf i).toNat)
  case atStart => exact ⟨0, Nat.zero_le _, rfl, rfl⟩
  case round =>
    obtain ⟨k, hk, rfl, rfl⟩ := hrel
    have hzl : zs.length ≤ 4294967296 := by omega
    by_cases hlt : k < zs.length
    · obtain ⟨b1, o1, rfl, hb1, hc1⟩ := hx.at_ (k := k) hlt
      have HQ := Lib.hid (HT.out k hlt)
      clear hx
      generalize zs.getD k 0 = v at *
      generalize topP zs k = t at *
      generalize zs.length = n at *
      go_wp2_with fail
      go_round
      case rel => exact ⟨k + 1, by omega, by go_num, by rw [HQ.out]⟩
      case measure => simp [intOf]; omega
    · obtain rfl : k = zs.length := by omega
      clear hx
      go_wp2_with fail
      go_ret
      exact ⟨rfl, hb⟩

theorem implThickestOf_any (s : ByteArray) (w : World) (hs : s.size ≤ 4294967296) : Calls Try.prog 59 #[.string s] w fun e w' => e = .returned (.int .i64 (thick s.data.toList)) ∧ Below w.heap.size w w' := by
  have hst := fun w => implIsStrip_any s w hs
  by_cases h : isStrip s.data.toList = true
  · have hh := fun w => implLayersOf_any s w hs
    rw [layers_yes h] at hh
    have hp := isStrip_parts h
    rw [size_list] at hp
    rw [show thick s.data.toList = Lib.maxOf (layP s.data.toList s.data.toList.length) by
      unfold thick
      rw [if_pos h]
      unfold topP
      rw [if_neg (by rw [size_list]; omega), List.take_of_length_le (by rw [layP_len]; exact Nat.le_refl _)]]
    have hln := layP_len s.data.toList s.data.toList.length
    rw [h] at hst
    rw [size_list] at hln hh ⊢
    generalize layP s.data.toList s.size = zs at *
    have HL := Lib.hid hln
    have HH := Lib.hid hh
    have HST := Lib.hid hst
    have hn : 0 < zs.length := by omega
    clear h hh hst hln
    go_enter Try.func59, Try.ntmps59
    go_wp2_with fail
    refine (HST.out _).mono ?_
    rintro e w1 ⟨rfl, rfl⟩
    go_wp2_with fail
    refine (HH.out _).mono ?_
    rintro e w1 ⟨A, c, rfl, ho, hb⟩
    have hx := IRow.of_own ho
    obtain ⟨b, off, rfl, hbl, hcc⟩ := hx.2.2 hn
    have hm := Try.slices_Max_int b off zs.length c zs w1 hn (Nat.le_refl _) (by rw [HL.out]; omega) (fun j hj => by
      rw [hcc j (by omega), List.getElem?_map, List.getD_eq_getElem?_getD, List.getElem?_eq_getElem hj]
      rfl)
    rw [List.take_length] at hm
    have HM := Lib.hid hm
    clear hm hcc hx ho
    go_wp2_with fail
    refine (HM.out).mono ?_
    rintro e w2 ⟨rfl, hw⟩
    subst hw
    go_wp2_with fail
    go_ret
    exact ⟨rfl, hb⟩
  · have h' : isStrip s.data.toList = false := by simpa using h
    rw [show thick s.data.toList = -1 from if_neg h]
    rw [h'] at hst
    clear h h'
    go_enter Try.func59, Try.ntmps59
    go_wp2_with fail
    refine (hst _).mono ?_
    rintro e w1 ⟨rfl, rfl⟩
    go_wp2_with fail
    go_ret
    exact ⟨rfl, (by repeat' (first | exact Below.refl _ _ | assumption | (refine Below.drew ?_) | (refine below_drewN ?_ _) | (refine below_thru ?_ (by assumption)) | (refine below_alloc ?_ _) | (refine Below.setCell ?_ (by first | omega | (simp; done) | (simp; omega)) _) | (refine Below.alloc ?_ (by first | omega | (simp; done) | (simp; omega)) _)))⟩

end Go.Proofs.Ytjdelolfbnaiaaa
