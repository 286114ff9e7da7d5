
/-
  The contracts of BridgeOk on both sides; no condition beyond the length of the texts.
-/
import Derived.Test.YtpeopfkechbelaaBCount2
import Derived.Test.YtpeopfkechbelaaAbove2
namespace Go.Proofs.Ytpeopfkechbelaa
open Go.ChangeShapes Go.WideShapes Go.ChangeAt Go.RowKit Go.Deep Go.BigFrame
set_option linter.unusedVariables false
set_option linter.unusedSimpArgs false

theorem int_ne_t {a b : Nat} (h : ¬ a = b) : ((a : Int) != (b : Int)) = true := by simp; omega
theorem int_ne_f {a b : Nat} (h : a = b) : ((a : Int) != (b : Int)) = false := by simp; omega

theorem implBridgeOk_any (s st : ByteArray) (fr to : Int) (w : World) (hs : s.size ≤ 4294967296) (ht : st.size ≤ 4294967296) : Calls Try.prog 20 #[.string s, .agg #[.int .i64 fr, .int .i64 to, .string st]] w fun e w' => e = .returned (.bool (bridgeOk s.data.toList fr to st.data.toList)) ∧ Below w.heap.size w w' := by
  have hg := fun w => isGlued_any s fr to w hs
  by_cases g : glued s.data.toList fr to = true
  case neg =>
    have g' : glued s.data.toList fr to = false := by simpa using g
    rw [show bridgeOk s.data.toList fr to st.data.toList = false by unfold bridgeOk; rw [g']; rfl]
    rw [g'] at hg
    clear g g'
    go_enter Try.func20, Try.ntmps20
    go_wp2_with fail
    refine (hg _).mono ?_
    rintro e w1 ⟨rfl, rfl⟩
    go_wp2_with fail
    go_ret
    exact ⟨rfl, (by repeat' (first | exact Below.refl _ _ | assumption | (refine Below.drew ?_) | (refine below_drewN ?_ _) | (refine below_thru ?_ (by assumption)) | (refine below_alloc ?_ _) | (refine Below.setCell ?_ (by first | omega | (simp; done) | (simp; omega)) _) | (refine Below.alloc ?_ (by first | omega | (simp; done) | (simp; omega)) _)))⟩
  rw [show bridgeOk s.data.toList fr to st.data.toList = fits st.data.toList (cutL s.data.toList fr.toNat to.toNat) by unfold bridgeOk; rw [g]; rfl]
  rw [g] at hg
  obtain ⟨h, g1, g2, g3⟩ := glued_parts g
  rw [size_list] at g3
  obtain ⟨a, rfl⟩ := Int.eq_ofNat_of_zero_le g1
  obtain ⟨b, rfl⟩ := Int.eq_ofNat_of_zero_le (show 0 ≤ to by omega)
  rw [Int.toNat_natCast, Int.toNat_natCast]
  have hsl := run_sl s a b a b rfl rfl (by omega) (by omega)
  have hps : (s.extract a b).size = b - a := extract_size' (by omega) (by omega)
  have hpz : (s.extract a b).size ≤ 4294967296 := by omega
  rw [← extract_list]
  have HG := Lib.hid hg
  generalize s.extract a b = p at *
  clear hg h g hps
  have hcf1 := fun w => Try.strings_Count_one st 102 w
  have hcf2 := fun w => Try.strings_Count_one p 102 w
  have hcd1 := fun w => Try.strings_Count_one st 100 w
  have hcd2 := fun w => Try.strings_Count_one p 100 w
  rw [show Lib.countByte st.data.toList 102 = fw st.data.toList from rfl] at hcf1
  rw [show Lib.countByte p.data.toList 102 = fw p.data.toList from rfl] at hcf2
  rw [show Lib.countByte st.data.toList 100 = dn st.data.toList from rfl] at hcd1
  rw [show Lib.countByte p.data.toList 100 = dn p.data.toList from rfl] at hcd2
  have f1 := Nat.le_trans (fw_le st.data.toList) (Nat.le_of_eq (size_list st))
  have f2 := Nat.le_trans (fw_le p.data.toList) (Nat.le_of_eq (size_list p))
  have f3 := Nat.le_trans (dn_le st.data.toList) (Nat.le_of_eq (size_list st))
  have f4 := Nat.le_trans (dn_le p.data.toList) (Nat.le_of_eq (size_list p))
  have n1 := fits_len (st := st.data.toList) (own := p.data.toList)
  have n2 := fits_fw (st := st.data.toList) (own := p.data.toList)
  have n3 := fits_dn (st := st.data.toList) (own := p.data.toList)
  have n4 := fits_yes (st := st.data.toList) (own := p.data.toList)
  rw [size_list, size_list] at n1 n4
  have hw1 := fun k w (hk : k ≤ st.size) => forwards_any st k w ht hk
  have hw2 := fun k w (hk : k ≤ p.size) => forwards_any p k w hpz hk
  have hlz := size_list st
  have hmz := size_list p
  generalize st.data.toList = l at *
  generalize p.data.toList = m at *
  have H1 := Lib.hid hcf1
  have H2 := Lib.hid hcf2
  have H3 := Lib.hid hcd1
  have H4 := Lib.hid hcd2
  have N1 := Lib.hid n1
  have N2 := Lib.hid n2
  have N3 := Lib.hid n3
  have N4 := Lib.hid n4
  have W1 := Lib.hid hw1
  have W2 := Lib.hid hw2
  have LZ := Lib.hid hlz
  have MZ := Lib.hid hmz
  clear hcf1 hcf2 hcd1 hcd2 n1 n2 n3 n4 hw1 hw2 hlz hmz
  by_cases c1 : st.size = p.size
  case neg =>
    have b1 := int_ne_t c1
    rw [N1.out c1]
    clear c1
    go_enter Try.func20, Try.ntmps20
    go_wp2_with fail
    refine (HG.out _).mono ?_
    rintro e w1 ⟨rfl, rfl⟩
    go_wp2_with fail
    go_ret
    exact ⟨rfl, (by repeat' (first | exact Below.refl _ _ | assumption | (refine Below.drew ?_) | (refine below_drewN ?_ _) | (refine below_thru ?_ (by assumption)) | (refine below_alloc ?_ _) | (refine Below.setCell ?_ (by first | omega | (simp; done) | (simp; omega)) _) | (refine Below.alloc ?_ (by first | omega | (simp; done) | (simp; omega)) _)))⟩
  have b1 := int_ne_f c1
  by_cases c2 : fw l = fw m
  case neg =>
    have b2 := int_ne_t c2
    rw [N2.out c2]
    clear c1 c2
    go_enter Try.func20, Try.ntmps20
    go_wp2_with fail
    refine (HG.out _).mono ?_
    rintro e w1 ⟨rfl, rfl⟩
    go_wp2_with fail
    refine (H1.out _).mono ?_
    rintro e w1 ⟨rfl, hw⟩
    subst hw
    go_wp2_with fail
    refine (H2.out _).mono ?_
    rintro e w2 ⟨rfl, hw⟩
    subst hw
    go_wp2_with fail
    go_ret
    exact ⟨rfl, (by repeat' (first | exact Below.refl _ _ | assumption | (refine Below.drew ?_) | (refine below_drewN ?_ _) | (refine below_thru ?_ (by assumption)) | (refine below_alloc ?_ _) | (refine Below.setCell ?_ (by first | omega | (simp; done) | (simp; omega)) _) | (refine Below.alloc ?_ (by first | omega | (simp; done) | (simp; omega)) _)))⟩
  have b2 := int_ne_f c2
  by_cases c3 : dn l = dn m
  case neg =>
    have b3 := int_ne_t c3
    rw [N3.out c3]
    clear c1 c2 c3
    go_enter Try.func20, Try.ntmps20
    go_wp2_with fail
    refine (HG.out _).mono ?_
    rintro e w1 ⟨rfl, rfl⟩
    go_wp2_with fail
    refine (H1.out _).mono ?_
    rintro e w1 ⟨rfl, hw⟩
    subst hw
    go_wp2_with fail
    refine (H2.out _).mono ?_
    rintro e w2 ⟨rfl, hw⟩
    subst hw
    go_wp2_with fail
    refine (H3.out _).mono ?_
    rintro e w2 ⟨rfl, hw⟩
    subst hw
    go_wp2_with fail
    refine (H4.out _).mono ?_
    rintro e w2 ⟨rfl, hw⟩
    subst hw
    go_wp2_with fail
    go_ret
    exact ⟨rfl, (by repeat' (first | exact Below.refl _ _ | assumption | (refine Below.drew ?_) | (refine below_drewN ?_ _) | (refine below_thru ?_ (by assumption)) | (refine below_alloc ?_ _) | (refine Below.setCell ?_ (by first | omega | (simp; done) | (simp; omega)) _) | (refine Below.alloc ?_ (by first | omega | (simp; done) | (simp; omega)) _)))⟩
  have b3 := int_ne_f c3
  rw [N4.out c1 c2 c3]
  have C1 := Lib.hid c1
  have C2 := Lib.hid c2
  have hle : p.size ≤ st.size := by omega
  clear c1 c2 c3
  go_enter Try.func20, Try.ntmps20
  go_wp2_with fail
  refine (HG.out _).mono ?_
  rintro e w1 ⟨rfl, rfl⟩
  go_wp2_with fail
  refine (H1.out _).mono ?_
  rintro e w1 ⟨rfl, hw⟩
  have hw2 := hw.symm
  subst hw2
  go_wp2_with fail
  refine (H2.out _).mono ?_
  rintro e w2 ⟨rfl, hw⟩
  have hw2 := hw.symm
  subst hw2
  go_wp2_with fail
  refine (H3.out _).mono ?_
  rintro e w2 ⟨rfl, hw⟩
  have hw2 := hw.symm
  subst hw2
  go_wp2_with fail
  refine (H4.out _).mono ?_
  rintro e w2 ⟨rfl, hw⟩
  have hw2 := hw.symm
  subst hw2
  go_wp2_with fail
  go_loop [44] (fun i => ∃ k : Nat, k ≤ p.size ∧ i = .int .i64 k ∧ ∀ j, j < k → fw (m.take j) ≤ fw (l.take j)) (fun i => p.size - (intOf i).toNat)
  case atStart => exact ⟨0, Nat.zero_le _, rfl, fun j hj => by omega⟩
  case round =>
    obtain ⟨k, hk, rfl, hall⟩ := hrel
    have HA := Lib.hid hall
    clear hall
    by_cases hlt : k < p.size
    · have hno := aboveB_no (l := l) (m := m) (n := st.size) (k := k) LZ.out (by omega)
      have hyes : fw (m.take k) ≤ fw (l.take k) → ∀ j, j < k + 1 → fw (m.take j) ≤ fw (l.take j) := fun h j hj => by
        by_cases q : j < k
        · exact HA.out j q
        · obtain rfl : j = k := by omega
          exact h
      have HC1 := Lib.hid (fun w => W1.out k w (by omega))
      have HC2 := Lib.hid (fun w => W2.out k w hk)
      generalize fw (l.take k) = a at *
      generalize fw (m.take k) = b at *
      have HN := Lib.hid hno
      have HY := Lib.hid hyes
      clear hno hyes
      have hi : (k : Int) < (p.size : Int) := by omega
      by_cases hab : (a : Int) < (b : Int)
      · go_wp2_with fail
        refine (HC1.out _).mono ?_
        rintro e w1 ⟨rfl, rfl⟩
        go_wp2_with fail
        refine (HC2.out _).mono ?_
        rintro e w1 ⟨rfl, rfl⟩
        go_wp2_with fail
        go_ret
        exact ⟨by rw [HN.out (by omega)]; rfl, (by repeat' (first | exact Below.refl _ _ | assumption | (refine Below.drew ?_) | (refine below_drewN ?_ _) | (refine below_thru ?_ (by assumption)) | (refine below_alloc ?_ _) | (refine Below.setCell ?_ (by first | omega | (simp; done) | (simp; omega)) _) | (refine Below.alloc ?_ (by first | omega | (simp; done) | (simp; omega)) _)))⟩
      · go_wp2_with fail
        refine (HC1.out _).mono ?_
        rintro e w1 ⟨rfl, rfl⟩
        go_wp2_with fail
        refine (HC2.out _).mono ?_
        rintro e w1 ⟨rfl, rfl⟩
        go_wp2_with fail
        go_round
        case rel => exact ⟨k + 1, by omega, by go_num, HY.out (by omega)⟩
        case measure => simp [intOf]; omega
    · obtain rfl : k = p.size := by omega
      have HE := Lib.hid (aboveB_yes (n := p.size) (by rw [LZ.out, C1.out]) MZ.out fun j hj => by
        by_cases q : j < p.size
        · exact HA.out j q
        · obtain rfl : j = p.size := by omega
          have e1 := List.take_of_length_le (l := l) (i := p.size) (by rw [LZ.out, C1.out]; exact Nat.le_refl _)
          have e2 := List.take_of_length_le (l := m) (i := p.size) (by rw [MZ.out]; exact Nat.le_refl _)
          rw [e1, e2, C2.out]
          exact Nat.le_refl _)
      go_wp2_with fail
      go_ret
      exact ⟨by rw [HE.out]; rfl, (by repeat' (first | exact Below.refl _ _ | assumption | (refine Below.drew ?_) | (refine below_drewN ?_ _) | (refine below_thru ?_ (by assumption)) | (refine below_alloc ?_ _) | (refine Below.setCell ?_ (by first | omega | (simp; done) | (simp; omega)) _) | (refine Below.alloc ?_ (by first | omega | (simp; done) | (simp; omega)) _)))⟩

end Go.Proofs.Ytpeopfkechbelaa
