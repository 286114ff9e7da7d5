
/-
  Contracts of AreaBetween on both sides and the walk of its law; no condition beyond the length of the texts.
-/
import Derived.Test.YtpeopfkechbelaaRoom
import Derived.Test.YtpeopfkechbelaaFrame
import Derived.BigRegion
namespace Go.Proofs.Ytpeopfkechbelaa
open Go.ChangeShapes Go.WideShapes Go.ChangeAt Go.RowKit Go.Deep Go.BigFrame
set_option linter.unusedVariables false

theorem hP_count (l : List UInt8) : ∀ j, j ≤ l.length → (hP l j).length = fw (l.take j) := by
  intro j
  induction j with
  | zero => intro _; rfl
  | succ j ih =>
    intro h
    rw [fw_take l j (by omega)]
    by_cases h1 : at_ l j = 102
    · rw [hP_yes h1, if_pos h1, List.length_append, ih (by omega)]
      rfl
    · rw [hP_no h1, if_neg h1, ih (by omega)]
      rfl
theorem hP_all (l : List UInt8) : (hP l l.length).length = fw l := by
  rw [hP_count l _ (Nat.le_refl _), List.take_length]

/-- the area between the first k heights -/
def aP (xs ys : List Int) (k : Nat) : Int := ((List.range k).map fun i : Nat => max (xs.getD i 0 - ys.getD i 0) (ys.getD i 0 - xs.getD i 0)).sum
theorem aP_succ (xs ys : List Int) (k : Nat) : aP xs ys (k + 1) = aP xs ys k + max (xs.getD k 0 - ys.getD k 0) (ys.getD k 0 - xs.getD k 0) := by
  unfold aP
  rw [List.range_succ, List.map_append, List.sum_append]
  simp
theorem getD_small {zs : List Int} (hz : ∀ z ∈ zs, -16 ≤ z ∧ z ≤ 16) (k : Nat) : -16 ≤ zs.getD k 0 ∧ zs.getD k 0 ≤ 16 := by
  by_cases h : k < zs.length
  · have := hz _ (List.getElem_mem h)
    simpa [List.getD, h] using this
  · simp [List.getD, h]
theorem aP_small {xs ys : List Int} (hx : ∀ z ∈ xs, -16 ≤ z ∧ z ≤ 16) (hy : ∀ z ∈ ys, -16 ≤ z ∧ z ≤ 16) : ∀ k : Nat, 0 ≤ aP xs ys k ∧ aP xs ys k ≤ 32 * (k : Int) := by
  intro k
  induction k with
  | zero => simp [aP]
  | succ k ih =>
    have h1 := getD_small hx k
    have h2 := getD_small hy k
    rw [aP_succ]
    omega

def areaOf (l m : List UInt8) : Int := if sameFrame l m = true then aP (hP l l.length) (hP m m.length) (fw l) else -1

theorem specAreaBetween_any (s t : ByteArray) (w : World) (hs : s.size ≤ 4294967296) (ht : t.size ≤ 4294967296) : Calls Try.prog 17 #[.string s, .string t] w fun e w' => e = .returned (.int .i64 (areaOf s.data.toList t.data.toList)) ∧ Below w.heap.size w w' := by
  have hst := fun w => specSameFrame_any s t w hs ht
  by_cases h : sameFrame s.data.toList t.data.toList = true
  · obtain ⟨p1, p2, p3, p4⟩ := sameFrame_parts h
    have hh := fun w => l07Heights_any s w hs
    have hg := fun w => l07Heights_any t w ht
    rw [show areaOf s.data.toList t.data.toList = aP (hP s.data.toList s.data.toList.length) (hP t.data.toList t.data.toList.length) (fw s.data.toList) from if_pos h]
    have hsm := hP_small p1
    have htm := hP_small p2
    have hfl := (isStrip_parts p1).2.2.2.2
    have hln := hP_all s.data.toList
    have hlm := hP_all t.data.toList
    rw [← p4] at hlm
    rw [size_list] at hsm htm hln hlm ⊢
    rw [size_list]
    rw [h] at hst
    generalize hP s.data.toList s.size = xs at *
    generalize hP t.data.toList t.size = ys at *
    generalize fw s.data.toList = n at *
    have HS := Lib.hid (aP_small hsm htm)
    have HX := Lib.hid (getD_small hsm)
    have HY := Lib.hid (getD_small htm)
    have HL := Lib.hid hln
    have HM := Lib.hid hlm
    have HH := Lib.hid hh
    have HG := Lib.hid hg
    have HST := Lib.hid hst
    clear h hh hg hsm htm hst p1 p2 p3 p4 hln hlm
    go_enter Try.func17, Try.ntmps17
    go_wp2_with fail
    refine (HST.out _).mono ?_
    rintro e w1 ⟨rfl, rfl⟩
    go_wp2_with fail
    refine (HH.out _).mono ?_
    rintro e w1 ⟨A, c, rfl, ho, hb⟩
    go_wp2_with fail
    refine (HG.out _).mono ?_
    rintro e w2 ⟨B, d, rfl, ho2, hb2⟩
    have hx := (IRow.of_own ho).on hb2
    have hy := IRow.of_own ho2
    have hbb := below_thru hb hb2
    rw [HL.out, HM.out]
    clear ho ho2 hb hb2
    go_wp2_with fail
    go_loopw [7, 8] (fun a i wr => ∃ k : Nat, ∃ q, k ≤ n ∧ i = .int .i64 k ∧ a = .int .i64 (aP xs ys k) ∧ wr = w2.drewN q) (fun _ i _ => n - (intOf i).toNat)
    case atStart => exact ⟨0, 0, Nat.zero_le _, rfl, rfl, rfl⟩
    case round =>
      obtain ⟨k, q, hk, rfl, rfl, rfl⟩ := hrel
      obtain ⟨q1, q2⟩ := HS.out k
      by_cases hlt : k < n
      · obtain ⟨b1, o1, rfl, hb1, hc1⟩ := hx.at_ (k := k) (by rw [HL.out]; exact hlt)
        obtain ⟨b2, o2, rfl, hb2, hc2⟩ := hy.at_ (k := k) (by rw [HM.out]; exact hlt)
        have hs3 := aP_succ xs ys k
        obtain ⟨x1, x2⟩ := HX.out k
        obtain ⟨y1, y2⟩ := HY.out k
        have HQ := Lib.hid hs3
        clear hs3 hx hy
        generalize xs.getD k 0 = x at *
        generalize ys.getD k 0 = y at *
        generalize aP xs ys k = t at *
        have hi : (k : Int) < (n : Int) := by omega
        have HB := Lib.hid hbb
        clear hbb
        go_wp2_with fail
        go_region
        go_wp2_with fail
        go_roundw
        case rel => exact ⟨k + 1, _, by omega, by go_num, by rw [HQ.out], rfl⟩
        case measure => simp [intOf]; omega
      · obtain rfl : k = n := by omega
        clear hx hy
        go_wp2_with fail
        go_ret
        exact ⟨rfl, below_drewN hbb _⟩
  · have h' : sameFrame s.data.toList t.data.toList = false := by simpa using h
    rw [show areaOf s.data.toList t.data.toList = -1 from if_neg h]
    rw [h'] at hst
    clear h h'
    go_enter Try.func17, Try.ntmps17
    go_wp2_with fail
    refine (hst _).mono ?_
    rintro e w1 ⟨rfl, rfl⟩
    go_wp2_with fail
    go_ret
    exact ⟨rfl, (by repeat' (first | exact Below.refl _ _ | assumption | (refine Below.drew ?_) | (refine below_drewN ?_ _) | (refine below_thru ?_ (by assumption)) | (refine below_alloc ?_ _) | (refine Below.setCell ?_ (by first | omega | (simp; done) | (simp; omega)) _) | (refine Below.alloc ?_ (by first | omega | (simp; done) | (simp; omega)) _)))⟩

theorem implAreaBetween_any (s t : ByteArray) (w : World) (hs : s.size ≤ 4294967296) (ht : t.size ≤ 4294967296) : Calls Try.prog 43 #[.string s, .string t] w fun e w' => e = .returned (.int .i64 (areaOf s.data.toList t.data.toList)) ∧ Below w.heap.size w w' := by
  have hst := fun w => implSameFrame_any s t w hs ht
  by_cases h : sameFrame s.data.toList t.data.toList = true
  · obtain ⟨p1, p2, p3, p4⟩ := sameFrame_parts h
    have hh := fun w => implHeightsOf_any s w hs
    have hg := fun w => implHeightsOf_any t w ht
    rw [heights_yes p1, size_list] at hh
    rw [heights_yes p2, size_list] at hg
    rw [show areaOf s.data.toList t.data.toList = aP (hP s.data.toList s.data.toList.length) (hP t.data.toList t.data.toList.length) (fw s.data.toList) from if_pos h]
    have hsm := hP_small p1
    have htm := hP_small p2
    have hfl := (isStrip_parts p1).2.2.2.2
    have hln := hP_all s.data.toList
    have hlm := hP_all t.data.toList
    rw [← p4] at hlm
    rw [size_list] at hsm htm hln hlm ⊢
    rw [size_list]
    rw [h] at hst
    generalize hP s.data.toList s.size = xs at *
    generalize hP t.data.toList t.size = ys at *
    generalize fw s.data.toList = n at *
    have HS := Lib.hid (aP_small hsm htm)
    have HX := Lib.hid (getD_small hsm)
    have HY := Lib.hid (getD_small htm)
    have HL := Lib.hid hln
    have HM := Lib.hid hlm
    have HH := Lib.hid hh
    have HG := Lib.hid hg
    have HST := Lib.hid hst
    clear h hh hg hsm htm hst p1 p2 p3 p4 hln hlm
    go_enter Try.func43, Try.ntmps43
    go_wp2_with fail
    refine (HST.out _).mono ?_
    rintro e w1 ⟨rfl, rfl⟩
    go_wp2_with fail
    refine (HG.out _).mono ?_
    rintro e w1 ⟨B, d, rfl, ho, hb⟩
    go_wp2_with fail
    refine (HH.out _).mono ?_
    rintro e w2 ⟨A, c, rfl, ho2, hb2⟩
    have hy := (IRow.of_own ho).on hb2
    have hx := IRow.of_own ho2
    have hbb := below_thru hb hb2
    rw [HL.out, HM.out]
    clear ho ho2 hb hb2
    go_wp2_with fail
    go_loopw [5, 18] (fun a i wr => ∃ k : Nat, ∃ q, k ≤ n ∧ i = .int .i64 k ∧ a = .int .i64 (aP xs ys k) ∧ wr = w2.drewN q) (fun _ i _ => n - (intOf i).toNat)
    case atStart => exact ⟨0, 0, Nat.zero_le _, rfl, rfl, rfl⟩
    case round =>
      obtain ⟨k, q, hk, rfl, rfl, rfl⟩ := hrel
      obtain ⟨q1, q2⟩ := HS.out k
      by_cases hlt : k < n
      · obtain ⟨b1, o1, rfl, hb1, hc1⟩ := hx.at_ (k := k) (by rw [HL.out]; exact hlt)
        obtain ⟨b2, o2, rfl, hb2, hc2⟩ := hy.at_ (k := k) (by rw [HM.out]; exact hlt)
        have hs3 := aP_succ xs ys k
        obtain ⟨x1, x2⟩ := HX.out k
        obtain ⟨y1, y2⟩ := HY.out k
        have HQ := Lib.hid hs3
        clear hs3 hx hy
        generalize xs.getD k 0 = x at *
        generalize ys.getD k 0 = y at *
        generalize aP xs ys k = t at *
        have hi : (k : Int) < (n : Int) := by omega
        have HB := Lib.hid hbb
        clear hbb
        go_wp2_with fail
        go_region
        go_wp2_with fail
        go_roundw
        case rel => exact ⟨k + 1, _, by omega, by go_num, by rw [HQ.out], rfl⟩
        case measure => simp [intOf]; omega
      · obtain rfl : k = n := by omega
        clear hx hy
        go_wp2_with fail
        go_ret
        exact ⟨rfl, below_drewN hbb _⟩
  · have h' : sameFrame s.data.toList t.data.toList = false := by simpa using h
    rw [show areaOf s.data.toList t.data.toList = -1 from if_neg h]
    rw [h'] at hst
    clear h h'
    go_enter Try.func43, Try.ntmps43
    go_wp2_with fail
    refine (hst _).mono ?_
    rintro e w1 ⟨rfl, rfl⟩
    go_wp2_with fail
    go_ret
    exact ⟨rfl, (by repeat' (first | exact Below.refl _ _ | assumption | (refine Below.drew ?_) | (refine below_drewN ?_ _) | (refine below_thru ?_ (by assumption)) | (refine below_alloc ?_ _) | (refine Below.setCell ?_ (by first | omega | (simp; done) | (simp; omega)) _) | (refine Below.alloc ?_ (by first | omega | (simp; done) | (simp; omega)) _)))⟩

end Go.Proofs.Ytpeopfkechbelaa
