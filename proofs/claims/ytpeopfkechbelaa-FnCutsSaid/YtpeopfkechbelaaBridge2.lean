
/-
  The contract of the reference's BridgeOk, and of BridgedStrip on both sides; no condition beyond the length of the texts.
-/
import Derived.Test.YtpeopfkechbelaaBridge
namespace Go.Proofs.Ytpeopfkechbelaa
open Go.ChangeShapes Go.WideShapes Go.ChangeAt Go.RowKit Go.Deep Go.BigFrame
set_option linter.unusedVariables false
set_option linter.unusedSimpArgs false

theorem specBridgeOk_any (s st : ByteArray) (fr to : Int) (w : World) (hs : s.size ≤ 4294967296) (ht : st.size ≤ 4294967296) : Calls Try.prog 24 #[.string s, .agg #[.int .i64 fr, .int .i64 to, .string st]] w fun e w' => e = .returned (.bool (bridgeOk s.data.toList fr to st.data.toList)) ∧ Below w.heap.size w w' := by
  have hst := fun w => specIsStrip_any s w hs
  by_cases h : isStrip s.data.toList = true
  case neg =>
    have h' : isStrip s.data.toList = false := by simpa using h
    rw [show bridgeOk s.data.toList fr to st.data.toList = false by unfold bridgeOk glued; rw [h']; rfl]
    rw [h'] at hst
    clear h h'
    go_enter Try.func24, Try.ntmps24
    go_wp2_with fail
    refine (hst _).mono ?_
    rintro e w1 ⟨rfl, rfl⟩
    go_wp2_with fail
    go_ret
    exact ⟨rfl, (by repeat' (first | exact Below.refl _ _ | assumption | (refine Below.drew ?_) | (refine below_drewN ?_ _) | (refine below_thru ?_ (by assumption)) | (refine below_alloc ?_ _) | (refine Below.setCell ?_ (by first | omega | (simp; done) | (simp; omega)) _) | (refine Below.alloc ?_ (by first | omega | (simp; done) | (simp; omega)) _)))⟩
  rw [h] at hst
  have HST := Lib.hid hst
  by_cases h1 : inB to 1 s.size = true
  case neg =>
    have h1' : inB to 1 s.size = false := by simpa using h1
    have HA := Lib.hid (fun w => l01In_is h1' w)
    have hng : glued s.data.toList fr to = false := by
      cases e : glued s.data.toList fr to with
      | false => rfl
      | true =>
        exfalso
        have := glued_parts e
        rw [size_list] at this
        exact h1 (inB_iff.2 ⟨by omega, by omega⟩)
    rw [show bridgeOk s.data.toList fr to st.data.toList = false by unfold bridgeOk; rw [hng]; rfl]
    clear h hst h1 h1' hng
    go_enter Try.func24, Try.ntmps24
    go_wp2_with fail
    refine (HST.out _).mono ?_
    rintro e w1 ⟨rfl, rfl⟩
    go_wp2_with fail
    refine (HA.out _).mono ?_
    rintro e w1 ⟨rfl, rfl⟩
    go_wp2_with fail
    go_ret
    exact ⟨rfl, (by repeat' (first | exact Below.refl _ _ | assumption | (refine Below.drew ?_) | (refine below_drewN ?_ _) | (refine below_thru ?_ (by assumption)) | (refine below_alloc ?_ _) | (refine Below.setCell ?_ (by first | omega | (simp; done) | (simp; omega)) _) | (refine Below.alloc ?_ (by first | omega | (simp; done) | (simp; omega)) _)))⟩
  have HA := Lib.hid (fun w => l01In_is h1 w)
  obtain ⟨q1, q2⟩ := inB_iff.1 h1
  by_cases h2 : inB fr 0 (to - 1) = true
  case neg =>
    have h2' : inB fr 0 (to - 1) = false := by simpa using h2
    have hng : glued s.data.toList fr to = false := by
      cases e : glued s.data.toList fr to with
      | false => rfl
      | true =>
        exfalso
        have := glued_parts e
        exact h2 (inB_iff.2 ⟨by omega, by omega⟩)
    rw [show bridgeOk s.data.toList fr to st.data.toList = false by unfold bridgeOk; rw [hng]; rfl]
    have HB := Lib.hid (fun w => l01In_is h2' w)
    clear h hst h1 h2 h2' hng
    go_enter Try.func24, Try.ntmps24
    go_wp2_with fail
    refine (HST.out _).mono ?_
    rintro e w1 ⟨rfl, rfl⟩
    go_wp2_with fail
    refine (HA.out _).mono ?_
    rintro e w1 ⟨rfl, rfl⟩
    go_wp2_with fail
    refine (HB.out _).mono ?_
    rintro e w1 ⟨rfl, rfl⟩
    go_wp2_with fail
    go_ret
    exact ⟨rfl, (by repeat' (first | exact Below.refl _ _ | assumption | (refine Below.drew ?_) | (refine below_drewN ?_ _) | (refine below_thru ?_ (by assumption)) | (refine below_alloc ?_ _) | (refine Below.setCell ?_ (by first | omega | (simp; done) | (simp; omega)) _) | (refine Below.alloc ?_ (by first | omega | (simp; done) | (simp; omega)) _)))⟩
  have HB := Lib.hid (fun w => l01In_is h2 w)
  obtain ⟨q3, q4⟩ := inB_iff.1 h2
  have g : glued s.data.toList fr to = true := by
    simp only [glued, h, Bool.true_and, Bool.and_eq_true, decide_eq_true_eq]
    rw [size_list]
    omega
  rw [show bridgeOk s.data.toList fr to st.data.toList = fits st.data.toList (cutL s.data.toList fr.toNat to.toNat) by unfold bridgeOk; rw [g]; rfl]
  obtain ⟨a, rfl⟩ := Int.eq_ofNat_of_zero_le q3
  obtain ⟨b, rfl⟩ := Int.eq_ofNat_of_zero_le (show 0 ≤ to by omega)
  rw [Int.toNat_natCast, Int.toNat_natCast]
  have hsl := run_sl s a b a b rfl rfl (by omega) (by omega)
  have hps : (s.extract a b).size = b - a := extract_size' (by omega) (by omega)
  have hpz : (s.extract a b).size ≤ 4294967296 := by omega
  have hpi : (b : Int) - (a : Int) = ((s.extract a b).size : Int) := by omega
  rw [← extract_list]
  generalize s.extract a b = p at *
  clear hst h g hps h1 h2
  have hcf1 := fun w => l02Count_any st 102 w ht
  have hcf2 := fun w => l02Count_any p 102 w hpz
  have hcd1 := fun w => l02Count_any st 100 w ht
  have hcd2 := fun w => l02Count_any p 100 w hpz
  rw [cn_fw] at hcf1 hcf2
  rw [cn_dn] at hcd1 hcd2
  have f1 := Nat.le_trans (fw_le st.data.toList) (Nat.le_of_eq (size_list st))
  have f2 := Nat.le_trans (fw_le p.data.toList) (Nat.le_of_eq (size_list p))
  have f3 := Nat.le_trans (dn_le st.data.toList) (Nat.le_of_eq (size_list st))
  have f4 := Nat.le_trans (dn_le p.data.toList) (Nat.le_of_eq (size_list p))
  have n1 := fits_len (st := st.data.toList) (own := p.data.toList)
  have n2 := fits_fw (st := st.data.toList) (own := p.data.toList)
  have n3 := fits_dn (st := st.data.toList) (own := p.data.toList)
  have n4 := fits_yes (st := st.data.toList) (own := p.data.toList)
  rw [size_list, size_list] at n1 n4
  have hab := fun w h => l16Above_any st p w ht h
  generalize st.data.toList = l at *
  generalize p.data.toList = m at *
  have H1 := Lib.hid hcf1
  have H2 := Lib.hid hcf2
  have H3 := Lib.hid hcd1
  have H4 := Lib.hid hcd2
  have N1 := Lib.hid n1
  have N2 := Lib.hid n2
  have N3 := Lib.hid n3
  have N4 := Lib.hid n4
  have AB := Lib.hid hab
  clear hcf1 hcf2 hcd1 hcd2 n1 n2 n3 n4 hab
  by_cases c1 : st.size = p.size
  case neg =>
    have b1 : ((st.size : Int) != (b : Int) - (a : Int)) = true := by rw [hpi]; exact int_ne_t c1
    rw [N1.out c1]
    clear c1 hpi
    go_enter Try.func24, Try.ntmps24
    go_wp2_with fail
    refine (HST.out _).mono ?_
    rintro e w1 ⟨rfl, rfl⟩
    go_wp2_with fail
    refine (HA.out _).mono ?_
    rintro e w1 ⟨rfl, rfl⟩
    go_wp2_with fail
    refine (HB.out _).mono ?_
    rintro e w1 ⟨rfl, rfl⟩
    go_wp2_with fail
    go_ret
    exact ⟨rfl, (by repeat' (first | exact Below.refl _ _ | assumption | (refine Below.drew ?_) | (refine below_drewN ?_ _) | (refine below_thru ?_ (by assumption)) | (refine below_alloc ?_ _) | (refine Below.setCell ?_ (by first | omega | (simp; done) | (simp; omega)) _) | (refine Below.alloc ?_ (by first | omega | (simp; done) | (simp; omega)) _)))⟩
  have b1 : ((st.size : Int) != (b : Int) - (a : Int)) = false := by rw [hpi]; exact int_ne_f c1
  by_cases c3 : dn l = dn m
  case neg =>
    have b3 := int_ne_t c3
    rw [N3.out c3]
    clear c1 c3 hpi
    go_enter Try.func24, Try.ntmps24
    go_wp2_with fail
    refine (HST.out _).mono ?_
    rintro e w1 ⟨rfl, rfl⟩
    go_wp2_with fail
    refine (HA.out _).mono ?_
    rintro e w1 ⟨rfl, rfl⟩
    go_wp2_with fail
    refine (HB.out _).mono ?_
    rintro e w1 ⟨rfl, rfl⟩
    go_wp2_with fail
    refine (H3.out _).mono ?_
    rintro e w1 ⟨rfl, rfl⟩
    go_wp2_with fail
    refine (H4.out _).mono ?_
    rintro e w1 ⟨rfl, rfl⟩
    go_wp2_with fail
    go_ret
    exact ⟨rfl, (by repeat' (first | exact Below.refl _ _ | assumption | (refine Below.drew ?_) | (refine below_drewN ?_ _) | (refine below_thru ?_ (by assumption)) | (refine below_alloc ?_ _) | (refine Below.setCell ?_ (by first | omega | (simp; done) | (simp; omega)) _) | (refine Below.alloc ?_ (by first | omega | (simp; done) | (simp; omega)) _)))⟩
  have b3 := int_ne_f c3
  by_cases c2 : fw l = fw m
  case neg =>
    have b2 := int_ne_t c2
    rw [N2.out c2]
    clear c1 c2 c3 hpi
    go_enter Try.func24, Try.ntmps24
    go_wp2_with fail
    refine (HST.out _).mono ?_
    rintro e w1 ⟨rfl, rfl⟩
    go_wp2_with fail
    refine (HA.out _).mono ?_
    rintro e w1 ⟨rfl, rfl⟩
    go_wp2_with fail
    refine (HB.out _).mono ?_
    rintro e w1 ⟨rfl, rfl⟩
    go_wp2_with fail
    refine (H3.out _).mono ?_
    rintro e w1 ⟨rfl, rfl⟩
    go_wp2_with fail
    refine (H4.out _).mono ?_
    rintro e w1 ⟨rfl, rfl⟩
    go_wp2_with fail
    refine (H1.out _).mono ?_
    rintro e w1 ⟨rfl, rfl⟩
    go_wp2_with fail
    refine (H2.out _).mono ?_
    rintro e w1 ⟨rfl, rfl⟩
    go_wp2_with fail
    go_ret
    exact ⟨rfl, (by repeat' (first | exact Below.refl _ _ | assumption | (refine Below.drew ?_) | (refine below_drewN ?_ _) | (refine below_thru ?_ (by assumption)) | (refine below_alloc ?_ _) | (refine Below.setCell ?_ (by first | omega | (simp; done) | (simp; omega)) _) | (refine Below.alloc ?_ (by first | omega | (simp; done) | (simp; omega)) _)))⟩
  have b2 := int_ne_f c2
  rw [N4.out c1 c2 c3]
  have AC := Lib.hid (fun w => AB.out w c1)
  clear c1 c2 c3 hpi
  go_enter Try.func24, Try.ntmps24
  go_wp2_with fail
  refine (HST.out _).mono ?_
  rintro e w1 ⟨rfl, rfl⟩
  go_wp2_with fail
  refine (HA.out _).mono ?_
  rintro e w1 ⟨rfl, rfl⟩
  go_wp2_with fail
  refine (HB.out _).mono ?_
  rintro e w1 ⟨rfl, rfl⟩
  go_wp2_with fail
  refine (H3.out _).mono ?_
  rintro e w1 ⟨rfl, rfl⟩
  go_wp2_with fail
  refine (H4.out _).mono ?_
  rintro e w1 ⟨rfl, rfl⟩
  go_wp2_with fail
  refine (H1.out _).mono ?_
  rintro e w1 ⟨rfl, rfl⟩
  go_wp2_with fail
  refine (H2.out _).mono ?_
  rintro e w1 ⟨rfl, rfl⟩
  go_wp2_with fail
  refine (AC.out _).mono ?_
  rintro e w1 ⟨rfl, rfl⟩
  go_wp2_with fail
  go_ret
  exact ⟨rfl, (by repeat' (first | exact Below.refl _ _ | assumption | (refine Below.drew ?_) | (refine below_drewN ?_ _) | (refine below_thru ?_ (by assumption)) | (refine below_alloc ?_ _) | (refine Below.setCell ?_ (by first | omega | (simp; done) | (simp; omega)) _) | (refine Below.alloc ?_ (by first | omega | (simp; done) | (simp; omega)) _)))⟩

/-- the strip with the bridge, as a text -/
def bridgedB (s : ByteArray) (fr to : Int) (st : ByteArray) : ByteArray := if bridgeOk s.data.toList fr to st.data.toList = true then s.extract 0 fr.toNat ++ st ++ s.extract to.toNat s.size else .empty
theorem bridgedB_size {s st : ByteArray} {fr to : Int} (hs : s.size ≤ 4294967296) : (bridgedB s fr to st).size ≤ 4294967296 := by
  unfold bridgedB
  by_cases h : bridgeOk s.data.toList fr to st.data.toList = true
  · rw [if_pos h]
    simp only [bridgeOk, Bool.and_eq_true] at h
    obtain ⟨g, f⟩ := h
    obtain ⟨_, g1, g2, g3⟩ := glued_parts g
    rw [size_list] at g3
    have hl : st.data.toList.length = (cutL s.data.toList fr.toNat to.toNat).length := by
      simp only [fits, Bool.and_eq_true, decide_eq_true_eq] at f
      exact f.1
    rw [size_list, cutL_len (by omega) (by rw [size_list]; omega)] at hl
    rw [ByteArray.size_append, ByteArray.size_append, extract_size' (by omega) (by omega), extract_size' (by omega) (by omega)]
    omega
  · rw [if_neg h]
    exact Nat.zero_le _

theorem implBridgedStrip_any (s st : ByteArray) (fr to : Int) (w : World) (hs : s.size ≤ 4294967296) (ht : st.size ≤ 4294967296) : Calls Try.prog 21 #[.string s, .agg #[.int .i64 fr, .int .i64 to, .string st]] w fun e w' => e = .returned (.string (bridgedB s fr to st)) ∧ Below w.heap.size w w' := by
  have hok := fun w => implBridgeOk_any s st fr to w hs ht
  by_cases g : bridgeOk s.data.toList fr to st.data.toList = true
  · rw [show bridgedB s fr to st = s.extract 0 fr.toNat ++ st ++ s.extract to.toNat s.size from if_pos g]
    rw [g] at hok
    have HO := Lib.hid hok
    simp only [bridgeOk, Bool.and_eq_true] at g
    obtain ⟨_, g1, g2, g3⟩ := glued_parts g.1
    rw [size_list] at g3
    obtain ⟨a, rfl⟩ := Int.eq_ofNat_of_zero_le g1
    obtain ⟨b, rfl⟩ := Int.eq_ofNat_of_zero_le (show 0 ≤ to by omega)
    rw [Int.toNat_natCast, Int.toNat_natCast]
    clear hok g
    go_enter Try.func21, Try.ntmps21
    go_wp2_with fail
    refine (HO.out _).mono ?_
    rintro e w1 ⟨rfl, hb⟩
    obtain ⟨hc, hf⟩ := bcell hb
    have hz : w.heap.size < w1.heap.size := (by have hsz_ := hb.size; first | omega | (simp at hsz_; omega))
    go_wp2_with fail
    go_quiet (fail)
    go_wp2_with fail
    go_ret
    exact ⟨rfl, (by repeat' (first | exact Below.refl _ _ | assumption | (refine Below.drew ?_) | (refine below_drewN ?_ _) | (refine below_thru ?_ (by assumption)) | (refine below_alloc ?_ _) | (refine Below.setCell ?_ (by first | omega | (simp; done) | (simp; omega)) _) | (refine Below.alloc ?_ (by first | omega | (simp; done) | (simp; omega)) _)))⟩
  · have g' : bridgeOk s.data.toList fr to st.data.toList = false := by simpa using g
    rw [show bridgedB s fr to st = .empty from if_neg g]
    rw [g'] at hok
    clear g g'
    go_enter Try.func21, Try.ntmps21
    go_wp2_with fail
    refine (hok _).mono ?_
    rintro e w1 ⟨rfl, hb⟩
    go_wp2_with fail
    go_ret
    exact ⟨rfl, (by repeat' (first | exact Below.refl _ _ | assumption | (refine Below.drew ?_) | (refine below_drewN ?_ _) | (refine below_thru ?_ (by assumption)) | (refine below_alloc ?_ _) | (refine Below.setCell ?_ (by first | omega | (simp; done) | (simp; omega)) _) | (refine Below.alloc ?_ (by first | omega | (simp; done) | (simp; omega)) _)))⟩

end Go.Proofs.Ytpeopfkechbelaa
