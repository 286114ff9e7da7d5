
/-
  The walk of the law FnViews; no condition.
-/
import Derived.Test.YtkhlolhmaoenoaaDrawC
import Derived.Test.YtkhlolhmaoenoaaLawB
import Derived.Test.YtkhlolhmaoenoaaViewsP
import Derived.Test.YtkhlolhmaoenoaaSteps
import Derived.Test.YtkhlolhmaoenoaaFromH
import Derived.Test.YtkhlolhmaoenoaaRoom
import Derived.BigRegion
namespace Go.Proofs.Ytkhlolhmaoenoaa
open Go.ChangeShapes Go.WideShapes Go.ChangeAt Go.RowKit Go.Deep Go.BigFrame
set_option linter.unusedVariables false
set_option linter.unusedSimpArgs false

theorem dP_in (l : List UInt8) : ∀ j, j ≤ l.length → ∀ z ∈ dP l j, 0 ≤ z ∧ z ≤ (fw l : Int) := by
  intro j
  induction j with
  | zero => intro _ z hz; simp [dP] at hz
  | succ j ih =>
    intro hj z hz
    by_cases a : at_ l j = 100
    · rw [dP_yes a] at hz
      rcases List.mem_append.1 hz with h | h
      · exact ih (by omega) z h
      · rw [List.mem_singleton.1 h]
        have : fw (l.take j) ≤ fw l := (List.take_sublist j l).count_le _
        omega
    · rw [dP_no a] at hz
      exact ih (by omega) z hz

theorem dr_more {w wr : World} (h : ∃ q, wr = w.drewN q) (n : Nat) : ∃ q, wr.drewN n = w.drewN q := by
  obtain ⟨q, rfl⟩ := h
  exact ⟨q + n, World.drewN_drewN w q n⟩
theorem btoi_quiet (b : Bool) (v : Int) (hv : ((if b = true then 1 else 0 : Nat) : Int) = v) (w : World) (n : Nat) : Calls Try.prog 43 #[.bool b] (w.drewN n) fun e w'' => e = .returned (.int .i64 v) ∧ ∃ m, w'' = w.drewN m :=
  (btoi_any b (w.drewN n)).mono fun e w' h => ⟨by rw [h.1, hv], n, h.2⟩

/-- what the law asks of one strip -/
theorem one_views {s : ByteArray} {d f : Nat} (h : StripOf d f s.data.toList) (hd : 1 ≤ d ∧ d ≤ 8) (hf : 1 ≤ f ∧ f ≤ 8) :
    ∃ X Y : List Int, heights s.data.toList = X ∧ depths s.data.toList = Y ∧ X.length = f ∧ Y.length = d ∧ roomOf s.data.toList = sumI (X.take f) ∧ sumI (Y.take d) = sumI (X.take f) ∧ bs (fromHeights d X) = s ∧
      (∀ i, i + 1 < f → X.getD (i + 1) 0 ≤ X.getD i 0) ∧ (∀ z ∈ X, -16 ≤ z ∧ z ≤ 16) ∧ (∀ z ∈ Y, -16 ≤ z ∧ z ≤ 16) := by
  have hs := h.strip hd hf
  obtain ⟨a1, a2, a3, a4, a5, a6⟩ := views_law hs
  rw [h.2.1] at a1
  rw [h.1] at a2 a5
  refine ⟨_, _, rfl, rfl, a1, a2, ?_, ?_, ?_, fun i hi => a6 i (by omega), fun z hz => ?_, fun z hz => ?_⟩
  · rw [List.take_of_length_le (by omega)]; exact a3.symm
  · rw [List.take_of_length_le (by omega), List.take_of_length_le (by omega), a3, a4]
  · rw [a5, bs_of]
  · rw [heights_yes hs, hts_all hs] at hz
    have := hts_in _ z hz
    rw [h.1] at this
    omega
  · rw [depths_yes hs] at hz
    have := dP_in _ _ (Nat.le_refl _) z hz
    rw [h.2.1] at this
    omega

/-- the steps up to a place of row k -/
def stepAt (V : List (List Int)) (k i : Nat) : Nat := stepsP V k + if k = 0 then 0 else diffP (V.getD (k - 1) []) (V.getD k []) i
theorem stepAt_zero (V : List (List Int)) (k : Nat) : stepAt V k 0 = stepsP V k := by
  unfold stepAt
  by_cases h : k = 0
  · rw [if_pos h]; rfl
  · rw [if_neg h]; rfl
theorem stepAt_end {V : List (List Int)} {k m : Nat} (h : (V.getD k []).length = m) : stepAt V k m = stepsP V (k + 1) := by
  subst h
  rfl
theorem stepAt_first (V : List (List Int)) (i : Nat) : stepAt V 0 (i + 1) = stepAt V 0 i := rfl
theorem stepAt_same {V : List (List Int)} {k i : Nat} (h : ¬ k = 0) (h2 : (V.getD (k - 1) []).getD i 0 = (V.getD k []).getD i 0) : stepAt V k (i + 1) = stepAt V k i := by
  unfold stepAt
  rw [if_neg h, if_neg h, diffP_same h2]
theorem stepAt_not {V : List (List Int)} {k i : Nat} (h : ¬ k = 0) (h2 : ¬ (V.getD (k - 1) []).getD i 0 = (V.getD k []).getD i 0) : stepAt V k (i + 1) = stepAt V k i + 1 := by
  unfold stepAt
  rw [if_neg h, if_neg h, diffP_not h2]
  rfl
theorem stepAt_le (V : List (List Int)) (k i : Nat) (h : stepsP V k ≤ 160) : stepAt V k i ≤ 160 + i := by
  unfold stepAt
  have := diffP_le (V.getD (k - 1) []) (V.getD k []) i
  by_cases h : k = 0
  · rw [if_pos h]; omega
  · rw [if_neg h]; omega

set_option maxHeartbeats 2000000 in
set_option maxRecDepth 100000 in
theorem fnViews_walk (A : Option Addr) (c : Nat) (cs : List UInt8) (w : World) (h : BRow w w.heap.size A cs) :
    Calls Try.prog 11 #[.slice A cs.length c] w fun e w' => e = .returned (.bool true) ∧ Below w.heap.size w w' := by
  by_cases hbig : 1048576 < cs.length
  · have HB := Lib.hid (fun w => big_any A c cs w)
    rw [decide_eq_true hbig] at HB
    go_enter Try.func11, Try.ntmps11
    go_wp2_with fail
    refine (HB.out _).mono ?_
    rintro e w1 ⟨rfl, rfl⟩
    go_wp2_with fail
    go_ret
    exact ⟨rfl, Below.refl _ _⟩
  have HB := Lib.hid (fun w => big_any A c cs w)
  rw [decide_eq_false hbig] at HB
  have HBR := Lib.hid h
  clear h hbig
  go_enter Try.func11, Try.ntmps11
  go_wp2_with fail
  refine (HB.out _).mono ?_
  rintro e w0 ⟨rfl, rfl⟩
  go_wp2_with fail
  refine (DrawCard_any A c cs _ HBR.out).mono ?_
  rintro e w1 ⟨d, f, ss, A', c', hd, hf, hl, hss, rfl, ho, hb⟩
  obtain ⟨hok, hsm⟩ := drawn_ok hd hf hl hss
  have HS := Lib.hid (fun (k : Nat) (hk : k < ss.length) => one_views (hss _ (mem_getD hk)) (by omega) (by omega))
  have HM := Lib.hid (show ∀ s ∈ ss, s.size ≤ 4294967296 from fun s h => Nat.le_trans (hsm s h) (by decide))
  have HBW := Lib.hid hb
  have HA := Lib.hid (CardAt.start (d := d) (f := f) (c := c') (SRow.of_own ho))
  have HVG := Lib.hid (fun (k : Nat) (hk : k < ss.length) => show (viewsOf heights d f ss).getD k [] = heights (ss.getD k .empty).data.toList by rw [viewsOf_yes hok, views_get _ _ _ hk])
  have HUG := Lib.hid (fun (k : Nat) (hk : k < ss.length) => show (viewsOf depths d f ss).getD k [] = depths (ss.getD k .empty).data.toList by rw [viewsOf_yes hok, views_get _ _ _ hk])
  have HVN := Lib.hid (show (viewsOf heights d f ss).length = ss.length by rw [viewsOf_yes hok, List.length_map])
  have HUN := Lib.hid (show (viewsOf depths d f ss).length = ss.length by rw [viewsOf_yes hok, List.length_map])
  obtain ⟨m, hm8, _, hrow, hsb⟩ := steps_facts hok
  have HSB := Lib.hid hsb
  have HTV := Lib.hid (fun (w : World) hx => implTopView_any d f A' c' ss w hx HM.out)
  have HFV := Lib.hid (fun (w : World) hx => implFrontView_any d f A' c' ss w hx HM.out)
  have HCS := Lib.hid (fun (w : World) hx => implCountSteps_any d f A' c' ss w hx HM.out (by omega) (by omega))
  rw [show countSteps d f ss = (stepsP (viewsOf heights d f ss) ss.length : Int) from if_pos hok] at HCS
  clear hb ho hss hok hsm hrow hsb hm8 m
  go_upto_region 4 with (fail)
  generalize w1.alloc (.cells #[.int .i64 d, .int .i64 f, .slice A' ss.length c'] 26) = w2 at *
  generalize viewsOf heights d f ss = V at *
  generalize viewsOf depths d f ss = U at *
  obtain ⟨p0, p1, p2, prow, pb, plt⟩ := HA.out
  clear prow pb
  go_wp2_with fail
  refine (HTV.out _ HA.out.full).mono ?_
  rintro e w3 ⟨A3, c3, rfl, ht3, hb3⟩
  have HA3 := Lib.hid (HA.out.on hb3)
  obtain ⟨us, hl3⟩ := Tab.lrow ht3
  have HL3 := Lib.hid hl3
  clear hb3 ht3 hl3 HA p0 p1 p2 plt
  rw [HVN.out]
  obtain ⟨p0, p1, p2, prow, pb, plt⟩ := HA3.out
  clear prow pb
  go_wp2_with fail
  refine (HFV.out _ HA3.out.full).mono ?_
  rintro e w4 ⟨A4, c4, rfl, ht4, hb4⟩
  have HA4 := Lib.hid (HA3.out.on hb4)
  have HL4 := Lib.hid (HL3.out.on hb4)
  obtain ⟨vs, hl4⟩ := Tab.lrow ht4
  have HK4 := Lib.hid hl4
  clear hb4 ht4 hl4 HA3 HL3 p0 p1 p2 plt
  rw [HUN.out]
  have hne : ((ss.length : Int) != (ss.length : Int)) = false := by simp
  obtain ⟨p0, p1, p2, prow, pb, plt⟩ := HA4.out
  clear prow pb p0 p1
  go_wp2_with fail
  clear p2 plt
  go_loopw [6, 7] (fun tv kv wr => ∃ k : Nat, k ≤ ss.length ∧ kv = .int .i64 k ∧ tv = .int .i64 (stepsP V k : Nat) ∧ CardAt w1 wr d f A' c' ss ∧ LRow wr wr.heap.size A3 us V ∧ LRow wr wr.heap.size A4 vs U) (fun _ kv _ => ss.length - (intOf kv).toNat)
  case atStart => exact ⟨0, Nat.zero_le _, rfl, rfl, HA4.out, HL4.out, HK4.out⟩
  case round =>
    obtain ⟨k, hk, rfl, rfl, hca, hlr, hlk⟩ := hrel
    obtain ⟨wo, hwo⟩ : ∃ wo, wo = wr := ⟨_, rfl⟩
    subst hwo
    have HA := Lib.hid hca
    have HL := Lib.hid hlr
    have HK := Lib.hid hlk
    clear HA4 HL4 HK4 hlr hlk
    obtain ⟨p0, p1, p2, prow, pb, plt⟩ := hca
    clear prow pb plt
    have hsk := HSB.out k hk
    by_cases hlt : k < ss.length
    · have hi : (k : Int) < (ss.length : Int) := by omega
      obtain ⟨X, Y, hX, hY, hXl, hYl, hroom, hsum, hfrom, hmono, hXb, hYb⟩ := HS.out k hlt
      have HVK := Lib.hid ((HVG.out k hlt).trans hX)
      have HUK := Lib.hid ((HUG.out k hlt).trans hY)
      have hmk := HM.out _ (mem_getD hlt)
      have HHE := Lib.hid (fun w => implHeightsOf_any (ss.getD k .empty) w hmk)
      have HDE := Lib.hid (fun w => implDepthsOf_any (ss.getD k .empty) w hmk)
      have HRO := Lib.hid (fun w => specRoomUnder_any (ss.getD k .empty) w hmk)
      rw [hX] at HHE
      rw [hY] at HDE
      rw [hroom] at HRO
      obtain ⟨b1, o1, rfl, hb1, hc1⟩ := HA.out.at_ hlt
      have HPL := Lib.hid (fun (h : 0 < k) => show (V.getD (k - 1) []).length = f by
        obtain ⟨X', Y', hX', _, hXl', _⟩ := HS.out (k - 1) (by omega)
        rw [HVG.out (k - 1) (by omega), hX']
        exact hXl')
      have HS0 := Lib.hid (stepAt_zero V k)
      have HSE := Lib.hid (stepAt_end (V := V) (k := k) (m := f) (by rw [HVK.out]; exact hXl))
      have HSS := Lib.hid (fun i => @stepAt_same V k i)
      have HSN := Lib.hid (fun i => @stepAt_not V k i)
      have HSF := Lib.hid (fun (h : k = 0) (i : Nat) => show stepAt V k (i + 1) = stepAt V k i by rw [h]; rfl)
      have HSL := Lib.hid (fun i => stepAt_le V k i hsk)
      have HXS := Lib.hid (sum_small X hXb)
      have HYS := Lib.hid (sum_small Y hYb)
      have HXT := Lib.hid (sum_take X)
      have HYT := Lib.hid (sum_take Y)
      rw [HVK.out] at HSS HSN
      generalize stepAt V k = E at *
      generalize ss.getD k .empty = s at *
      have HXL := Lib.hid hXl
      have HYL := Lib.hid hYl
      have HSUM := Lib.hid hsum
      have HFR := Lib.hid hfrom
      have HMO := Lib.hid hmono
      clear hX hY hXl hYl hroom hsum hfrom hmono hXb hYb hmk p0 p1
      rw [← HS0.out]
      go_wp2_with fail
      refine (HHE.out _).mono ?_
      rintro e w5 ⟨A5, c5, rfl, ho5, hb5⟩
      have HA5 := Lib.hid (HA.out.on hb5)
      have HL5 := Lib.hid (HL.out.on hb5)
      have HK5 := Lib.hid (HK.out.on hb5)
      have HX5 := Lib.hid (IRow.of_own ho5)
      clear ho5 hb5 HA HL HK p2 hc1
      rw [HXL.out]
      go_wp2_with fail
      refine (HDE.out _).mono ?_
      rintro e w6 ⟨A6, c6, rfl, ho6, hb6⟩
      have HA6 := Lib.hid (HA5.out.on hb6)
      have HL6 := Lib.hid (HL5.out.on hb6)
      have HK6 := Lib.hid (HK5.out.on hb6)
      have HX6 := Lib.hid (HX5.out.on hb6)
      have HY6 := Lib.hid (IRow.of_own ho6)
      clear ho6 hb6 HA5 HL5 HK5 HX5
      rw [HYL.out]
      go_wp2_with fail
      go_loopw [6, 11, 12] (fun tv sv iv wr => ∃ i : Nat, i ≤ f ∧ iv = .int .i64 i ∧ tv = .int .i64 (E i : Nat) ∧ sv = .int .i64 (sumI (X.take i)) ∧ ∃ q, wr = w6.drewN q) (fun _ _ iv _ => f - (intOf iv).toNat)
      case atStart => exact ⟨0, Nat.zero_le _, rfl, rfl, rfl, 0, rfl⟩
      case round =>
        obtain ⟨i, hi2, rfl, rfl, rfl, hqe⟩ := hrel
        have HQ := Lib.hid hqe
        obtain ⟨q, hq⟩ := hqe
        have hel := HSL.out i
        by_cases hlt2 : i < f
        · have hii : (i : Int) < (f : Int) := by omega
          obtain ⟨b5, o5, rfl, hb5, hc5⟩ := HX6.out.at_ (k := i) (by rw [HXL.out]; exact hlt2)
          have hc5 : wr.cell? ⟨b5, o5 + i, none⟩ = some (.int .i64 (X.getD i 0)) := by rw [hq]; exact hc5
          have hs1 := HXS.out i
          have hs2 := HXS.out (i + 1)
          have HSK := Lib.hid (HXT.out i (by rw [HXL.out]; exact hlt2))
          rw [HSK.out] at hs2
          have HSSI := Lib.hid (HSS.out i)
          have HSNI := Lib.hid (HSN.out i)
          have HSFI := Lib.hid (fun h => HSF.out h i)
          have HPREV := Lib.hid (fun (h : 0 < i) => show wr.cell? ⟨b5, o5 + (i - 1), none⟩ = some (.int .i64 (X.getD (i - 1) 0)) ∧ X.getD i 0 ≤ X.getD (i - 1) 0 from by
            obtain ⟨b6, o6, e6, _, h6⟩ := HX6.out.at_ (k := i - 1) (by rw [HXL.out]; omega)
            obtain ⟨rfl, rfl⟩ : b5 = b6 ∧ o5 = o6 := by simpa using e6
            have hm := HMO.out (i - 1) (by omega)
            rw [show i - 1 + 1 = i by omega] at hm
            exact ⟨by rw [hq]; exact h6, hm⟩)
          have HROW := Lib.hid (fun (h : 0 < k) => show ∃ b9 o9 A9 c9, A3 = some ⟨b9, o9, none⟩ ∧ wr.cell? ⟨b9, o9 + (k - 1), none⟩ = some (.slice A9 f c9) ∧ ∃ b8 o8, A9 = some ⟨b8, o8, none⟩ ∧ wr.cell? ⟨b8, o8 + i, none⟩ = some (.int .i64 ((V.getD (k - 1) []).getD i 0)) from by
            obtain ⟨b9, o9, A9, c9, e9, hb9, hc9, hr9⟩ := LRow.at_ HL6.out (k := k - 1) (by rw [HVN.out]; omega)
            rw [HPL.out h] at hc9
            obtain ⟨b8, o8, e8, hb8, hc8⟩ := hr9.at_ (k := i) (by rw [HPL.out h]; exact hlt2)
            exact ⟨b9, o9, A9, c9, e9, by rw [hq]; exact hc9, b8, o8, e8, by rw [hq]; exact hc8⟩)
          generalize X.getD i 0 = x at *
          generalize (V.getD (k - 1) []).getD i 0 = pv at *
          generalize X.getD (i - 1) 0 = xp at *
          generalize sumI (X.take i) = sm at *
          clear hq
          by_cases i0 : i = 0
          · have hin : ¬ 0 < i := by omega
            have hin' : decide (0 < i) = false := by simp; omega
            clear i0 HPREV
            go_wp2_with fail
            go_quiet (fail)
            by_cases k0 : k = 0
            · have hkn : ¬ 0 < k := by omega
              have hki : ¬ (0 : Int) < (k : Int) := by omega
              have HE := Lib.hid (HSFI.out k0)
              clear k0 HROW
              go_wp2_with fail
              go_roundw
              case rel => exact ⟨i + 1, by omega, by go_num, by rw [HE.out], by rw [HSK.out], dr_more HQ.out _⟩
              case measure => simp [intOf]; omega
            · have hkn : 0 < k := by omega
              have hki : (0 : Int) < (k : Int) := by omega
              obtain ⟨b9, o9, A9, c9, rfl, hc9, b8, o8, rfl, hc8⟩ := HROW.out hkn
              have hkm : (k : Int) - 1 = ((k - 1 : Nat) : Int) := by omega
              have hk1 : ((k - 1 : Nat) : Int) < (ss.length : Int) := by omega
              obtain ⟨k', hk'⟩ : ∃ k', k' = k - 1 := ⟨_, rfl⟩
              rw [← hk'] at hkm hk1 hc9
              clear hk' HROW
              by_cases he : pv = x
              · have hne : (pv != x) = false := by rw [he]; simp
                have HE := Lib.hid (HSSI.out k0 he)
                have HBT := Lib.hid (fun w => show Calls Try.prog 43 #[.bool false] w (fun e w' => e = .returned (.int .i64 0) ∧ w' = w) from btoi_any false w)
                clear he k0
                go_wp2_with fail
                go_quiet ((go_at_call 43; refine (HBT.out _).mono ?_; rintro e w' ⟨rfl, rfl⟩; exact ⟨rfl, _, rfl⟩))
                go_wp2_with fail
                go_roundw
                case rel => exact ⟨i + 1, by omega, by go_num, by rw [HE.out], by rw [HSK.out], dr_more HQ.out _⟩
                case measure => simp [intOf]; omega
              · have hne : (pv != x) = true := by simpa using he
                have HE := Lib.hid (HSNI.out k0 he)
                have HBT := Lib.hid (fun w => show Calls Try.prog 43 #[.bool true] w (fun e w' => e = .returned (.int .i64 1) ∧ w' = w) from btoi_any true w)
                clear he k0
                go_wp2_with fail
                go_quiet ((go_at_call 43; refine (HBT.out _).mono ?_; rintro e w' ⟨rfl, rfl⟩; exact ⟨rfl, _, rfl⟩))
                go_wp2_with fail
                go_roundw
                case rel => exact ⟨i + 1, by omega, by go_num, by rw [HE.out]; go_num, by rw [HSK.out], dr_more HQ.out _⟩
                case measure => simp [intOf]; omega
          · have hin : 0 < i := by omega
            have hin' : decide (0 < i) = true := by simp; omega
            obtain ⟨hcp, hmo⟩ := HPREV.out hin
            have him : (i : Int) - 1 = ((i - 1 : Nat) : Int) := by omega
            have hi1 : ((i - 1 : Nat) : Int) < (f : Int) := by omega
            have hgt : ¬ xp < x := by omega
            have hgt' : decide (xp < x) = false := by simp; omega
            obtain ⟨i', hi'⟩ : ∃ i', i' = i - 1 := ⟨_, rfl⟩
            rw [← hi'] at hcp him hi1
            clear hi' HPREV hmo i0
            go_wp2_with fail
            go_quiet (fail)
            clear hgt hgt' hcp
            by_cases k0 : k = 0
            · have hkn : ¬ 0 < k := by omega
              have hki : ¬ (0 : Int) < (k : Int) := by omega
              have HE := Lib.hid (HSFI.out k0)
              clear k0 HROW
              go_wp2_with fail
              go_roundw
              case rel => exact ⟨i + 1, by omega, by go_num, by rw [HE.out], by rw [HSK.out], dr_more HQ.out _⟩
              case measure => simp [intOf]; omega
            · have hkn : 0 < k := by omega
              have hki : (0 : Int) < (k : Int) := by omega
              obtain ⟨b9, o9, A9, c9, rfl, hc9, b8, o8, rfl, hc8⟩ := HROW.out hkn
              have hkm : (k : Int) - 1 = ((k - 1 : Nat) : Int) := by omega
              have hk1 : ((k - 1 : Nat) : Int) < (ss.length : Int) := by omega
              obtain ⟨k', hk'⟩ : ∃ k', k' = k - 1 := ⟨_, rfl⟩
              rw [← hk'] at hkm hk1 hc9
              clear hk' HROW
              by_cases he : pv = x
              · have hne : (pv != x) = false := by rw [he]; simp
                have HE := Lib.hid (HSSI.out k0 he)
                have HBT := Lib.hid (fun w => show Calls Try.prog 43 #[.bool false] w (fun e w' => e = .returned (.int .i64 0) ∧ w' = w) from btoi_any false w)
                clear he k0
                go_wp2_with fail
                go_quiet ((go_at_call 43; refine (HBT.out _).mono ?_; rintro e w' ⟨rfl, rfl⟩; exact ⟨rfl, _, rfl⟩))
                go_wp2_with fail
                go_roundw
                case rel => exact ⟨i + 1, by omega, by go_num, by rw [HE.out], by rw [HSK.out], dr_more HQ.out _⟩
                case measure => simp [intOf]; omega
              · have hne : (pv != x) = true := by simpa using he
                have HE := Lib.hid (HSNI.out k0 he)
                have HBT := Lib.hid (fun w => show Calls Try.prog 43 #[.bool true] w (fun e w' => e = .returned (.int .i64 1) ∧ w' = w) from btoi_any true w)
                clear he k0
                go_wp2_with fail
                go_quiet ((go_at_call 43; refine (HBT.out _).mono ?_; rintro e w' ⟨rfl, rfl⟩; exact ⟨rfl, _, rfl⟩))
                go_wp2_with fail
                go_roundw
                case rel => exact ⟨i + 1, by omega, by go_num, by rw [HE.out]; go_num, by rw [HSK.out], dr_more HQ.out _⟩
                case measure => simp [intOf]; omega
        · obtain rfl : i = f := by omega
          have b7 : Below w6.heap.size w6 wr := by rw [hq]; exact below_drewN (Below.refl _ _) _
          have HA7 := Lib.hid (HA6.out.on b7)
          have HL7 := Lib.hid (HL6.out.on b7)
          have HK7 := Lib.hid (HK6.out.on b7)
          have HX7 := Lib.hid (HX6.out.on b7)
          have HY7 := Lib.hid (HY6.out.on b7)
          obtain ⟨w7, hw7⟩ : ∃ w7, w7 = wr := ⟨_, rfl⟩
          subst hw7
          clear hq b7 HA6 HL6 HK6 HX6 HY6 HQ
          rw [HSE.out]
          go_wp2_with fail
          go_loopw [13, 14] (fun rv jv wr => ∃ j : Nat, j ≤ d ∧ jv = .int .i64 j ∧ rv = .int .i64 (sumI (Y.take j)) ∧ wr = w7) (fun _ jv _ => d - (intOf jv).toNat)
          case atStart => exact ⟨0, Nat.zero_le _, rfl, rfl, rfl⟩
          case round =>
            obtain ⟨j, hj2, rfl, rfl, hwq⟩ := hrel
            subst hwq
            by_cases hlt3 : j < d
            · have hji : (j : Int) < (d : Int) := by omega
              obtain ⟨b5, o5, rfl, hb5, hc5⟩ := HY7.out.at_ (k := j) (by rw [HYL.out]; exact hlt3)
              have hs1 := HYS.out j
              have hs2 := HYS.out (j + 1)
              have HSK := Lib.hid (HYT.out j (by rw [HYL.out]; exact hlt3))
              rw [HSK.out] at hs2
              generalize Y.getD j 0 = y at *
              generalize sumI (Y.take j) = sm at *
              go_wp2_with fail
              go_roundw
              case rel => exact ⟨j + 1, by omega, by go_num, by rw [HSK.out], by first | rfl | trivial⟩
              case measure => simp [intOf]; omega
            · obtain rfl : j = d := by omega
              rw [HSUM.out]
              obtain ⟨b9, o9, A9, c9, rfl, hb9, hc9, hr9⟩ := LRow.at_ HL7.out (k := k) (by rw [HVN.out]; exact hlt)
              obtain ⟨b8, o8, A8, c8, rfl, hb8, hc8, hr8⟩ := LRow.at_ HK7.out (k := k) (by rw [HUN.out]; exact hlt)
              rw [HVK.out] at hc9 hr9
              rw [HUK.out] at hc8 hr8
              rw [HXL.out] at hc9
              rw [HYL.out] at hc8
              have HR9 := Lib.hid hr9
              have HR8 := Lib.hid hr8
              have HSX := Lib.hid (fun (A B : Option Addr) (c d : Nat) (w : World) (hx : IRow w w.heap.size A X) (hy : IRow w w.heap.size B X) => show Calls Try.prog 44 #[.slice A i c, .slice B i d] w (fun e w' => e = .returned (.bool true) ∧ ∃ k, w' = w.drewN k) from by
                have h0 := sameInts_any A B c d X X w hx hy
                rw [HXL.out, decide_eq_true rfl] at h0
                exact h0)
              have HSY := Lib.hid (fun (A B : Option Addr) (c d : Nat) (w : World) (hx : IRow w w.heap.size A Y) (hy : IRow w w.heap.size B Y) => show Calls Try.prog 44 #[.slice A j c, .slice B j d] w (fun e w' => e = .returned (.bool true) ∧ ∃ k, w' = w.drewN k) from by
                have h0 := sameInts_any A B c d Y Y w hx hy
                rw [HYL.out, decide_eq_true rfl] at h0
                exact h0)
              have HFH := Lib.hid (fun (A : Option Addr) (c : Nat) (w : World) (hx : IRow w w.heap.size A X) => show Calls Try.prog 64 #[.int .i64 j, .slice A i c] w (fun e w' => e = .returned (.string s) ∧ Below w.heap.size w w') from by
                have h0 := implFromHeights_any j A c X w hx (by rw [HXL.out]; omega)
                rw [HXL.out, HFR.out] at h0
                exact h0)
              generalize sumI (X.take i) = S at *
              have e1 : ((i : Int) != (i : Int)) = false := by simp
              have e2 : ((j : Int) != (j : Int)) = false := by simp
              have e3 : (S != S) = false := by simp
              obtain ⟨p0, p1, p2, prow, pb, plt⟩ := HA7.out
              clear hr9 hr8 prow pb plt p2
              go_wp2_with fail
              refine (HSX.out A5 A9 c5 c9 _ HX7.out HR9.out).mono ?_
              rintro e w8 ⟨rfl, q8, hw8⟩
              have b8' : Below wr.heap.size wr w8 := by rw [hw8]; exact below_drewN (Below.refl _ _) _
              have HA8 := Lib.hid (HA7.out.on b8')
              have HL8 := Lib.hid (HL7.out.on b8')
              have HK8 := Lib.hid (HK7.out.on b8')
              have HX8 := Lib.hid (HX7.out.on b8')
              have HY8 := Lib.hid (HY7.out.on b8')
              have HZ8 := Lib.hid (HR8.out.on b8')
              have hd8 : w8.cell? ⟨b8, o8 + k, none⟩ = some (.slice A8 j c8) := by rw [hw8]; exact hc8
              clear hw8 b8' hc9 hc8 HA7 HL7 HK7 HX7 HY7 HR9 HR8 p0 p1
              obtain ⟨p0, p1, p2, prow, pb, plt⟩ := HA8.out
              clear prow pb plt p2
              go_wp2_with fail
              refine (HSY.out A6 A8 c6 c8 _ HY8.out HZ8.out).mono ?_
              rintro e w9 ⟨rfl, q9, hw9⟩
              have b9' : Below w8.heap.size w8 w9 := by rw [hw9]; exact below_drewN (Below.refl _ _) _
              have HA9 := Lib.hid (HA8.out.on b9')
              have HL9 := Lib.hid (HL8.out.on b9')
              have HK9 := Lib.hid (HK8.out.on b9')
              have HX9 := Lib.hid (HX8.out.on b9')
              clear hw9 b9' hd8 HA8 HL8 HK8 HX8 HY8 HZ8 p0 p1
              obtain ⟨p0, p1, p2, prow, pb, plt⟩ := HA9.out
              clear prow pb plt p2
              go_wp2_with fail
              refine (HRO.out _).mono ?_
              rintro e w10 ⟨rfl, hb10⟩
              have HA10 := Lib.hid (HA9.out.on hb10)
              have HL10 := Lib.hid (HL9.out.on hb10)
              have HK10 := Lib.hid (HK9.out.on hb10)
              have HX10 := Lib.hid (HX9.out.on hb10)
              clear hb10 HA9 HL9 HK9 HX9 p0 p1
              obtain ⟨p0, p1, p2, prow, pb, plt⟩ := HA10.out
              clear prow pb plt p2
              go_wp2_with fail
              refine (HFH.out A5 c5 _ HX10.out).mono ?_
              rintro e w11 ⟨rfl, hb11⟩
              have HA11 := Lib.hid (HA10.out.on hb11)
              have HL11 := Lib.hid (HL10.out.on hb11)
              have HK11 := Lib.hid (HK10.out.on hb11)
              clear hb11 HA10 HL10 HK10 HX10 p0 p1
              go_wp2_with fail
              go_roundw
              case rel => exact ⟨k + 1, by omega, by go_num, rfl, HA11.out, HL11.out, HK11.out⟩
              case measure => simp [intOf]; omega
    · obtain rfl : k = ss.length := by omega
      generalize stepsP V ss.length = st at *
      obtain ⟨p0', p1', p2', _, _, _⟩ := HA.out
      go_wp2_with fail
      refine (HCS.out _ HA.out.full).mono ?_
      rintro e w9 ⟨rfl, hb9⟩
      have HBB := Lib.hid (below_thru HBW.out (below_thru HA.out.below hb9))
      have e9 : ((st : Int) == (st : Int)) = true := by simp
      clear hb9
      go_wp2_with fail
      go_ret
      exact ⟨rfl, HBB.out⟩

end Go.Proofs.Ytkhlolhmaoenoaa
