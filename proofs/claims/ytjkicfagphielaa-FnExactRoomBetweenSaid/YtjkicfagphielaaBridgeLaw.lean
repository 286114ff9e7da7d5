/-
  The walks of the laws on one bridge; no condition beyond the length of the texts.
-/
import Derived.Test.YtjkicfagphielaaBridge3
namespace Go.Proofs.Ytjkicfagphielaa
open Go.ChangeShapes Go.WideShapes Go.ChangeAt Go.RowKit Go.Deep Go.BigFrame
set_option linter.unusedVariables false

theorem fnExactBridgeOk_walk (s : ByteArray) (fr to : Int) (st : ByteArray) (w : World) (_ : s.size ≤ maxLen) (h0 : st.size ≤ maxLen) (_ : -9223372036854775808 ≤ fr ∧ fr ≤ 9223372036854775807) (_ : -9223372036854775808 ≤ to ∧ to ≤ 9223372036854775807) :
    Calls Try.prog 13 #[.string s, .agg #[.int .i64 fr, .int .i64 to, .string st]] w fun e w' => e = .returned (.bool true) ∧ Below w.heap.size w w' := by
  by_cases hls : s.size ≤ 1048576
  case neg =>
    have hs2 : (1048576 : Int) < (s.size : Int) := by omega
    go_enter Try.func13, Try.ntmps13
    go_wp2_with fail
    go_ret
    exact ⟨rfl, (by repeat' (first | exact Below.refl _ _ | assumption | (refine Below.drew ?_) | (refine below_drewN ?_ _) | (refine below_thru ?_ (by assumption)) | (refine below_alloc ?_ _) | (refine Below.setCell ?_ (by first | omega | (simp; done) | (simp; omega)) _) | (refine Below.alloc ?_ (by first | omega | (simp; done) | (simp; omega)) _)))⟩
  have hi : (s.size : Int) ≤ 1048576 := by omega
  have HZ := Lib.hid (fun w => szBridge_any fr to st w h0)
  by_cases hlt : (st.size : Int) ≤ 1048576
  case neg =>
    rw [if_neg hlt] at HZ
    go_enter Try.func13, Try.ntmps13
    go_wp2_with fail
    refine (HZ.out _).mono ?_
    rintro e w1 ⟨rfl, hb⟩
    go_wp2_with fail
    go_ret
    exact ⟨rfl, (by repeat' (first | exact Below.refl _ _ | assumption | (refine Below.drew ?_) | (refine below_drewN ?_ _) | (refine below_thru ?_ (by assumption)) | (refine below_alloc ?_ _) | (refine Below.setCell ?_ (by first | omega | (simp; done) | (simp; omega)) _) | (refine Below.alloc ?_ (by first | omega | (simp; done) | (simp; omega)) _)))⟩
  rw [if_pos hlt] at HZ
  have hst : 0 ≤ (st.size : Int) := by omega
  have hc1 := fun w => specBridgeOk_any s st fr to w (by omega) (by omega)
  have hc2 := fun w => implBridgeOk_any s st fr to w (by omega) (by omega)
  have HT := Lib.hid (fun w => toBridge_any fr to st w)
  generalize bridgeOk s.data.toList fr to st.data.toList = zs at *
  have H1 := Lib.hid hc1
  have H2 := Lib.hid hc2
  clear hc1 hc2
  go_enter Try.func13, Try.ntmps13
  go_wp2_with fail
  refine (HZ.out _).mono ?_
  rintro e w1 ⟨rfl, b1⟩
  obtain ⟨hc1, hf1⟩ := bcell b1
  have hz1 : w.heap.size < w1.heap.size := (by have hsz_ := b1.size; first | omega | (simp at hsz_; omega))
  go_wp2_with fail
  refine (HT.out _).mono ?_
  rintro e w2 ⟨rfl, b2⟩
  obtain ⟨hc2, hf2⟩ := bcell b2
  have hz2 : w.heap.size < w2.heap.size := (by have hsz_ := b2.size; first | omega | (simp at hsz_; omega))
  go_wp2_with fail
  refine (H1.out _).mono ?_
  rintro e w3 ⟨rfl, b3⟩
  obtain ⟨hc3, hf3⟩ := bcell b3
  have hz3 : w.heap.size < w3.heap.size := (by have hsz_ := b3.size; first | omega | (simp at hsz_; omega))
  go_wp2_with fail
  refine (HT.out _).mono ?_
  rintro e w4 ⟨rfl, b4⟩
  obtain ⟨hc4, hf4⟩ := bcell b4
  have hz4 : w.heap.size < w4.heap.size := (by have hsz_ := b4.size; first | omega | (simp at hsz_; omega))
  go_wp2_with fail
  refine (H2.out _).mono ?_
  rintro e w5 ⟨rfl, b5⟩
  go_wp2_with fail
  go_ret
  exact ⟨rfl, (by repeat' (first | exact Below.refl _ _ | assumption | (refine Below.drew ?_) | (refine below_drewN ?_ _) | (refine below_thru ?_ (by assumption)) | (refine below_alloc ?_ _) | (refine Below.setCell ?_ (by first | omega | (simp; done) | (simp; omega)) _) | (refine Below.alloc ?_ (by first | omega | (simp; done) | (simp; omega)) _)))⟩

theorem fnExactBridgedStrip_walk (s : ByteArray) (fr to : Int) (st : ByteArray) (w : World) (_ : s.size ≤ maxLen) (h0 : st.size ≤ maxLen) (_ : -9223372036854775808 ≤ fr ∧ fr ≤ 9223372036854775807) (_ : -9223372036854775808 ≤ to ∧ to ≤ 9223372036854775807) :
    Calls Try.prog 15 #[.string s, .agg #[.int .i64 fr, .int .i64 to, .string st]] w fun e w' => e = .returned (.bool true) ∧ Below w.heap.size w w' := by
  by_cases hls : s.size ≤ 1048576
  case neg =>
    have hs2 : (1048576 : Int) < (s.size : Int) := by omega
    go_enter Try.func15, Try.ntmps15
    go_wp2_with fail
    go_ret
    exact ⟨rfl, (by repeat' (first | exact Below.refl _ _ | assumption | (refine Below.drew ?_) | (refine below_drewN ?_ _) | (refine below_thru ?_ (by assumption)) | (refine below_alloc ?_ _) | (refine Below.setCell ?_ (by first | omega | (simp; done) | (simp; omega)) _) | (refine Below.alloc ?_ (by first | omega | (simp; done) | (simp; omega)) _)))⟩
  have hi : (s.size : Int) ≤ 1048576 := by omega
  have HZ := Lib.hid (fun w => szBridge_any fr to st w h0)
  by_cases hlt : (st.size : Int) ≤ 1048576
  case neg =>
    rw [if_neg hlt] at HZ
    go_enter Try.func15, Try.ntmps15
    go_wp2_with fail
    refine (HZ.out _).mono ?_
    rintro e w1 ⟨rfl, hb⟩
    go_wp2_with fail
    go_ret
    exact ⟨rfl, (by repeat' (first | exact Below.refl _ _ | assumption | (refine Below.drew ?_) | (refine below_drewN ?_ _) | (refine below_thru ?_ (by assumption)) | (refine below_alloc ?_ _) | (refine Below.setCell ?_ (by first | omega | (simp; done) | (simp; omega)) _) | (refine Below.alloc ?_ (by first | omega | (simp; done) | (simp; omega)) _)))⟩
  rw [if_pos hlt] at HZ
  have hst : 0 ≤ (st.size : Int) := by omega
  have hc1 := fun w => specBridgedStrip_any s st fr to w (by omega) (by omega)
  have hc2 := fun w => implBridgedStrip_any s st fr to w (by omega) (by omega)
  have HT := Lib.hid (fun w => toBridge_any fr to st w)
  generalize bridgedB s fr to st = zs at *
  have H1 := Lib.hid hc1
  have H2 := Lib.hid hc2
  clear hc1 hc2
  go_enter Try.func15, Try.ntmps15
  go_wp2_with fail
  refine (HZ.out _).mono ?_
  rintro e w1 ⟨rfl, b1⟩
  obtain ⟨hc1, hf1⟩ := bcell b1
  have hz1 : w.heap.size < w1.heap.size := (by have hsz_ := b1.size; first | omega | (simp at hsz_; omega))
  go_wp2_with fail
  refine (HT.out _).mono ?_
  rintro e w2 ⟨rfl, b2⟩
  obtain ⟨hc2, hf2⟩ := bcell b2
  have hz2 : w.heap.size < w2.heap.size := (by have hsz_ := b2.size; first | omega | (simp at hsz_; omega))
  go_wp2_with fail
  refine (H1.out _).mono ?_
  rintro e w3 ⟨rfl, b3⟩
  obtain ⟨hc3, hf3⟩ := bcell b3
  have hz3 : w.heap.size < w3.heap.size := (by have hsz_ := b3.size; first | omega | (simp at hsz_; omega))
  go_wp2_with fail
  refine (HT.out _).mono ?_
  rintro e w4 ⟨rfl, b4⟩
  obtain ⟨hc4, hf4⟩ := bcell b4
  have hz4 : w.heap.size < w4.heap.size := (by have hsz_ := b4.size; first | omega | (simp at hsz_; omega))
  go_wp2_with fail
  refine (H2.out _).mono ?_
  rintro e w5 ⟨rfl, b5⟩
  go_wp2_with fail
  go_ret
  exact ⟨rfl, (by repeat' (first | exact Below.refl _ _ | assumption | (refine Below.drew ?_) | (refine below_drewN ?_ _) | (refine below_thru ?_ (by assumption)) | (refine below_alloc ?_ _) | (refine Below.setCell ?_ (by first | omega | (simp; done) | (simp; omega)) _) | (refine Below.alloc ?_ (by first | omega | (simp; done) | (simp; omega)) _)))⟩

theorem fnExactIsLoose_walk (s : ByteArray) (fr to : Int) (st : ByteArray) (w : World) (_ : s.size ≤ maxLen) (h0 : st.size ≤ maxLen) (_ : -9223372036854775808 ≤ fr ∧ fr ≤ 9223372036854775807) (_ : -9223372036854775808 ≤ to ∧ to ≤ 9223372036854775807) :
    Calls Try.prog 18 #[.string s, .agg #[.int .i64 fr, .int .i64 to, .string st]] w fun e w' => e = .returned (.bool true) ∧ Below w.heap.size w w' := by
  by_cases hls : s.size ≤ 1048576
  case neg =>
    have hs2 : (1048576 : Int) < (s.size : Int) := by omega
    go_enter Try.func18, Try.ntmps18
    go_wp2_with fail
    go_ret
    exact ⟨rfl, (by repeat' (first | exact Below.refl _ _ | assumption | (refine Below.drew ?_) | (refine below_drewN ?_ _) | (refine below_thru ?_ (by assumption)) | (refine below_alloc ?_ _) | (refine Below.setCell ?_ (by first | omega | (simp; done) | (simp; omega)) _) | (refine Below.alloc ?_ (by first | omega | (simp; done) | (simp; omega)) _)))⟩
  have hi : (s.size : Int) ≤ 1048576 := by omega
  have HZ := Lib.hid (fun w => szBridge_any fr to st w h0)
  by_cases hlt : (st.size : Int) ≤ 1048576
  case neg =>
    rw [if_neg hlt] at HZ
    go_enter Try.func18, Try.ntmps18
    go_wp2_with fail
    refine (HZ.out _).mono ?_
    rintro e w1 ⟨rfl, hb⟩
    go_wp2_with fail
    go_ret
    exact ⟨rfl, (by repeat' (first | exact Below.refl _ _ | assumption | (refine Below.drew ?_) | (refine below_drewN ?_ _) | (refine below_thru ?_ (by assumption)) | (refine below_alloc ?_ _) | (refine Below.setCell ?_ (by first | omega | (simp; done) | (simp; omega)) _) | (refine Below.alloc ?_ (by first | omega | (simp; done) | (simp; omega)) _)))⟩
  rw [if_pos hlt] at HZ
  have hst : 0 ≤ (st.size : Int) := by omega
  have hc1 := fun w => specIsLoose_any s st fr to w (by omega) (by omega)
  have hc2 := fun w => implIsLoose_any s st fr to w (by omega) (by omega)
  have HT := Lib.hid (fun w => toBridge_any fr to st w)
  generalize looseB s.data.toList fr to st.data.toList = zs at *
  have H1 := Lib.hid hc1
  have H2 := Lib.hid hc2
  clear hc1 hc2
  go_enter Try.func18, Try.ntmps18
  go_wp2_with fail
  refine (HZ.out _).mono ?_
  rintro e w1 ⟨rfl, b1⟩
  obtain ⟨hc1, hf1⟩ := bcell b1
  have hz1 : w.heap.size < w1.heap.size := (by have hsz_ := b1.size; first | omega | (simp at hsz_; omega))
  go_wp2_with fail
  refine (HT.out _).mono ?_
  rintro e w2 ⟨rfl, b2⟩
  obtain ⟨hc2, hf2⟩ := bcell b2
  have hz2 : w.heap.size < w2.heap.size := (by have hsz_ := b2.size; first | omega | (simp at hsz_; omega))
  go_wp2_with fail
  refine (H1.out _).mono ?_
  rintro e w3 ⟨rfl, b3⟩
  obtain ⟨hc3, hf3⟩ := bcell b3
  have hz3 : w.heap.size < w3.heap.size := (by have hsz_ := b3.size; first | omega | (simp at hsz_; omega))
  go_wp2_with fail
  refine (HT.out _).mono ?_
  rintro e w4 ⟨rfl, b4⟩
  obtain ⟨hc4, hf4⟩ := bcell b4
  have hz4 : w.heap.size < w4.heap.size := (by have hsz_ := b4.size; first | omega | (simp at hsz_; omega))
  go_wp2_with fail
  refine (H2.out _).mono ?_
  rintro e w5 ⟨rfl, b5⟩
  go_wp2_with fail
  go_ret
  exact ⟨rfl, (by repeat' (first | exact Below.refl _ _ | assumption | (refine Below.drew ?_) | (refine below_drewN ?_ _) | (refine below_thru ?_ (by assumption)) | (refine below_alloc ?_ _) | (refine Below.setCell ?_ (by first | omega | (simp; done) | (simp; omega)) _) | (refine Below.alloc ?_ (by first | omega | (simp; done) | (simp; omega)) _)))⟩

theorem fnExactRoomBetween_walk (s : ByteArray) (fr to : Int) (st : ByteArray) (w : World) (_ : s.size ≤ maxLen) (h0 : st.size ≤ maxLen) (_ : -9223372036854775808 ≤ fr ∧ fr ≤ 9223372036854775807) (_ : -9223372036854775808 ≤ to ∧ to ≤ 9223372036854775807) :
    Calls Try.prog 23 #[.string s, .agg #[.int .i64 fr, .int .i64 to, .string st]] w fun e w' => e = .returned (.bool true) ∧ Below w.heap.size w w' := by
  by_cases hls : s.size ≤ 1048576
  case neg =>
    have hs2 : (1048576 : Int) < (s.size : Int) := by omega
    go_enter Try.func23, Try.ntmps23
    go_wp2_with fail
    go_ret
    exact ⟨rfl, (by repeat' (first | exact Below.refl _ _ | assumption | (refine Below.drew ?_) | (refine below_drewN ?_ _) | (refine below_thru ?_ (by assumption)) | (refine below_alloc ?_ _) | (refine Below.setCell ?_ (by first | omega | (simp; done) | (simp; omega)) _) | (refine Below.alloc ?_ (by first | omega | (simp; done) | (simp; omega)) _)))⟩
  have hi : (s.size : Int) ≤ 1048576 := by omega
  have HZ := Lib.hid (fun w => szBridge_any fr to st w h0)
  by_cases hlt : (st.size : Int) ≤ 1048576
  case neg =>
    rw [if_neg hlt] at HZ
    go_enter Try.func23, Try.ntmps23
    go_wp2_with fail
    refine (HZ.out _).mono ?_
    rintro e w1 ⟨rfl, hb⟩
    go_wp2_with fail
    go_ret
    exact ⟨rfl, (by repeat' (first | exact Below.refl _ _ | assumption | (refine Below.drew ?_) | (refine below_drewN ?_ _) | (refine below_thru ?_ (by assumption)) | (refine below_alloc ?_ _) | (refine Below.setCell ?_ (by first | omega | (simp; done) | (simp; omega)) _) | (refine Below.alloc ?_ (by first | omega | (simp; done) | (simp; omega)) _)))⟩
  rw [if_pos hlt] at HZ
  have hst : 0 ≤ (st.size : Int) := by omega
  have hc1 := fun w => specRoomBetween_any s st fr to w (by omega) (by omega)
  have hc2 := fun w => implRoomBetween_any s st fr to w (by omega) (by omega)
  have HT := Lib.hid (fun w => toBridge_any fr to st w)
  generalize roomBetween s fr to st = zs at *
  have H1 := Lib.hid hc1
  have H2 := Lib.hid hc2
  clear hc1 hc2
  go_enter Try.func23, Try.ntmps23
  go_wp2_with fail
  refine (HZ.out _).mono ?_
  rintro e w1 ⟨rfl, b1⟩
  obtain ⟨hc1, hf1⟩ := bcell b1
  have hz1 : w.heap.size < w1.heap.size := (by have hsz_ := b1.size; first | omega | (simp at hsz_; omega))
  go_wp2_with fail
  refine (HT.out _).mono ?_
  rintro e w2 ⟨rfl, b2⟩
  obtain ⟨hc2, hf2⟩ := bcell b2
  have hz2 : w.heap.size < w2.heap.size := (by have hsz_ := b2.size; first | omega | (simp at hsz_; omega))
  go_wp2_with fail
  refine (H1.out _).mono ?_
  rintro e w3 ⟨rfl, b3⟩
  obtain ⟨hc3, hf3⟩ := bcell b3
  have hz3 : w.heap.size < w3.heap.size := (by have hsz_ := b3.size; first | omega | (simp at hsz_; omega))
  go_wp2_with fail
  refine (HT.out _).mono ?_
  rintro e w4 ⟨rfl, b4⟩
  obtain ⟨hc4, hf4⟩ := bcell b4
  have hz4 : w.heap.size < w4.heap.size := (by have hsz_ := b4.size; first | omega | (simp at hsz_; omega))
  go_wp2_with fail
  refine (H2.out _).mono ?_
  rintro e w5 ⟨rfl, b5⟩
  go_wp2_with fail
  go_ret
  exact ⟨rfl, (by repeat' (first | exact Below.refl _ _ | assumption | (refine Below.drew ?_) | (refine below_drewN ?_ _) | (refine below_thru ?_ (by assumption)) | (refine below_alloc ?_ _) | (refine Below.setCell ?_ (by first | omega | (simp; done) | (simp; omega)) _) | (refine Below.alloc ?_ (by first | omega | (simp; done) | (simp; omega)) _)))⟩

end Go.Proofs.Ytjkicfagphielaa
