
/-
  The contract of the program's ReadCreases; no condition beyond the length of the text.
-/
import Derived.Test.YtkhlolhmaoenoaaRead
namespace Go.Proofs.Ytkhlolhmaoenoaa
open Go.ChangeShapes Go.WideShapes Go.ChangeAt Go.RowKit Go.Deep Go.BigFrame
set_option linter.unusedVariables false
set_option linter.unusedSimpArgs false

/-- the letter ahead of a place -/
def pv (T : List UInt8) : Nat → Bool
  | 0 => lt_ T 0
  | j + 1 => lt_ T j
theorem ex_lb (b : Bool) : bs ((bs [lb b]).data.toList.map ex) = bs [lb (!b)] := by
  rw [bs_list]
  cases b <;> rfl

theorem srow_one {W : World} {B g : Nat} {S : ByteArray} (hg : g < B) (hc : W.cell? ⟨g, 0, none⟩ = some (.string S)) : SRow W B (some ⟨g, 0, none⟩) [S] := by
  refine ⟨rfl, ?_, fun _ => ⟨g, 0, rfl, hg, fun j hj => ?_⟩⟩
  · show 1 ≤ maxLen
    unfold maxLen
    decide
  · have e : j = 0 := by simpa using hj
    subst e
    simpa using hc

theorem implReadCreases_any (t : ByteArray) (d f : Int) (w : World) (ht : t.size ≤ 1048576)
    (bd : -9223372036854775808 ≤ d ∧ d ≤ 9223372036854775807) (bf : -9223372036854775808 ≤ f ∧ f ≤ 9223372036854775807) :
    Calls Try.prog 39 #[.string t, .int .i64 d, .int .i64 f] w fun e w' => e = .returned (.string (readCr t d f)) ∧ Below w.heap.size w w' := by
  have HS1 := Lib.hid (fun w => isSteps_any d w)
  have HS2 := Lib.hid (fun w => isSteps_any f w)
  cases g1 : inB d 1 8
  · rw [g1] at HS1
    rw [show readCr t d f = .empty from if_neg (by rw [g1]; simp)]
    clear g1
    go_enter Try.func39, Try.ntmps39
    go_wp2_with fail
    refine (HS1.out _).mono ?_
    rintro e w1 ⟨rfl, rfl⟩
    go_wp2_with fail
    go_ret
    exact ⟨rfl, (by repeat' (first | exact Below.refl _ _ | assumption | (refine Below.drew ?_) | (refine below_drewN ?_ _) | (refine below_thru ?_ (by assumption)) | (refine below_alloc ?_ _) | (refine Below.setCell ?_ (by first | omega | (simp; done) | (simp; omega)) _) | (refine Below.alloc ?_ (by first | omega | (simp; done) | (simp; omega)) _)))⟩
  rw [g1] at HS1
  cases g2 : inB f 1 8
  · rw [g2] at HS2
    rw [show readCr t d f = .empty from if_neg (by rw [g2]; simp)]
    clear g1 g2
    go_enter Try.func39, Try.ntmps39
    go_wp2_with fail
    refine (HS1.out _).mono ?_
    rintro e w1 ⟨rfl, rfl⟩
    go_wp2_with fail
    refine (HS2.out _).mono ?_
    rintro e w1 ⟨rfl, rfl⟩
    go_wp2_with fail
    go_ret
    exact ⟨rfl, (by repeat' (first | exact Below.refl _ _ | assumption | (refine Below.drew ?_) | (refine below_drewN ?_ _) | (refine below_thru ?_ (by assumption)) | (refine below_alloc ?_ _) | (refine Below.setCell ?_ (by first | omega | (simp; done) | (simp; omega)) _) | (refine Below.alloc ?_ (by first | omega | (simp; done) | (simp; omega)) _)))⟩
  rw [g2] at HS2
  have i1 := inB_iff.1 g1
  have i2 := inB_iff.1 g2
  by_cases hl : (t.size : Int) = d + f + 1
  case neg =>
    have hb := int_bne_t hl
    rw [show readCr t d f = .empty from if_neg (by simp [hl])]
    clear g1 g2 hl
    go_enter Try.func39, Try.ntmps39
    go_wp2_with fail
    refine (HS1.out _).mono ?_
    rintro e w1 ⟨rfl, rfl⟩
    go_wp2_with fail
    refine (HS2.out _).mono ?_
    rintro e w1 ⟨rfl, rfl⟩
    go_wp2_with fail
    go_ret
    exact ⟨rfl, (by repeat' (first | exact Below.refl _ _ | assumption | (refine Below.drew ?_) | (refine below_drewN ?_ _) | (refine below_thru ?_ (by assumption)) | (refine below_alloc ?_ _) | (refine Below.setCell ?_ (by first | omega | (simp; done) | (simp; omega)) _) | (refine Below.alloc ?_ (by first | omega | (simp; done) | (simp; omega)) _)))⟩
  have hb := int_bne_f hl
  obtain ⟨n, hn⟩ : ∃ n, n = t.size - 1 := ⟨_, rfl⟩
  have hn1 : (n : Int) = d + f := by omega
  have hn16 : n ≤ 16 ∧ 2 ≤ n := by omega
  have hni : (t.size : Int) - 1 = (n : Int) := by omega
  have hnt : t.size = n + 1 := by omega
  rw [show readCr t d f = if (inFrame d f (bs (outP t.data.toList n)) && decide (bs (ctext (outP t.data.toList n)) = t)) = true then bs (outP t.data.toList n) else .empty by
    unfold readCr
    rw [g1, g2, decide_eq_true hl, ← hn]; rfl]
  have HAT := Lib.hid (fun k (hk : k < t.size) => at_get t k hk)
  have hz0 : (bs (outP t.data.toList n)).size = n := by rw [bs_size, outP_len]
  obtain ⟨T, hT⟩ : ∃ T, T = t.data.toList := ⟨_, rfl⟩
  rw [← hT] at HAT hz0 ⊢
  obtain ⟨S, hS⟩ : ∃ S, S = bs (outP T n) := ⟨_, rfl⟩
  obtain ⟨CT, hCT⟩ : ∃ CT, CT = bs (creaseText d f [S] 0) := ⟨_, rfl⟩
  obtain ⟨R, hR⟩ : ∃ R, R = (if (inFrame d f (bs (outP T n)) && decide (bs (ctext (outP T n)) = t)) = true then bs (outP T n) else .empty) := ⟨_, rfl⟩
  rw [← hR]
  have hhs : hasStrip d f [S] 0 = inFrame d f S := by
    unfold hasStrip cardOk
    rw [g1, g2]
    simp [inB]
  have hctx : hasStrip d f [S] 0 = true → CT = bs (ctext (outP T n)) := fun h => by
    rw [hCT]
    unfold creaseText
    rw [if_pos h]
    show bs (ctext S.data.toList) = _
    rw [hS, bs_list]
  have R3 := Lib.hid (show CT = t → R = S from fun h => by
    cases hf : inFrame d f S with
    | false =>
      exfalso
      rw [hCT] at h
      unfold creaseText at h
      rw [if_neg (by rw [hhs, hf]; decide)] at h
      have := congrArg ByteArray.size h
      rw [bs_size, hnt] at this
      simp at this
    | true =>
      rw [hctx (by rw [hhs, hf])] at h
      rw [hR, ← hS, hf, decide_eq_true h]
      rfl)
  have R4 := Lib.hid (show ¬ CT = t → R = .empty from fun h => by
    cases hf : inFrame d f S with
    | false => rw [hR, ← hS, hf]; rfl
    | true =>
      rw [hctx (by rw [hhs, hf])] at h
      rw [hR, ← hS, hf, decide_eq_false h]
      rfl)
  have HCT := Lib.hid (fun A c w hx => hCT ▸ implCreaseText_any d f A c [S] 0 w hx (fun s hs => by rw [List.mem_singleton.1 hs, hS, hz0]; omega) bd bf ⟨by decide, by decide⟩)
  have HSZ : S.size ≤ 16 := by rw [hS, hz0]; omega
  have HS := Lib.hid hS
  have hnti : n < t.size := by omega
  clear g1 g2 hl hT hz0 hn hnt hR hhs hctx hCT hS
  have hg0 := HAT.out 0 (by omega)
  have hlt0 : lt_ T 0 = decide (at_ T 0 = 118) := rfl
  have hb0 : (((at_ T 0).toNat : Int) == 118) = lt_ T 0 := by rw [hlt0, show (118 : Int) = ((118 : UInt8).toNat : Int) from rfl, u8_eq]
  generalize at_ T 0 = c0 at *
  clear hlt0
  cases h0 : lt_ T 0
  · rw [h0] at hb0
    have H0 := Lib.hid h0
    clear h0
    go_enter Try.func39, Try.ntmps39
    go_wp2_with fail
    refine (HS1.out _).mono ?_
    rintro e w1 ⟨rfl, rfl⟩
    go_wp2_with fail
    refine (HS2.out _).mono ?_
    rintro e w1 ⟨rfl, rfl⟩
    go_wp2_with fail
    clear hg0 hb0
    go_loopw [7, 8, 34] (fun lv ov iv wr => ∃ j : Nat, j ≤ n ∧ iv = .int .i64 j ∧ ov = .string (bs (outP T j)) ∧ lv = .string (bs [lb (pv T j)]) ∧ Below w.heap.size w wr) (fun _ _ iv _ => n - (intOf iv).toNat)
    case atStart => exact ⟨0, Nat.zero_le _, rfl, rfl, by show _ = Value.string (bs [lb (lt_ T 0)]); rw [H0.out]; rfl, Below.refl _ _⟩
    case round =>
      obtain ⟨j, hj, rfl, rfl, rfl, hbr⟩ := hrel
      have HB := Lib.hid hbr
      clear hbr
      by_cases hlt : j < n
      · have hji : (j : Int) < (n : Int) := by omega
        have HO := Lib.hid (outP_succ T j)
        have hbz : (bs (outP T j)).size ≤ 4294967295 := by rw [bs_size, outP_len]; omega
        have hlz := lb_size (pv T j)
        have hlz2 : (bs [lb (pv T j)]).size ≤ 1 := by omega
        by_cases hj0 : 0 < j
        · have hj0i : (0 : Int) < (j : Int) := by omega
          have e1 : lt_ T j = if at_ T j = 46 then pv T j else !pv T j := by
            obtain ⟨i, hi⟩ : ∃ i, j = i + 1 := ⟨j - 1, by omega⟩
            rw [hi]; rfl
          have E1 := Lib.hid e1
          have hgj := HAT.out j (by omega)
          by_cases hd : at_ T j = 46
          · have bd1 : (((at_ T j).toNat : Int) != 46) = false := by unfold bne; rw [show (46 : Int) = ((46 : UInt8).toNat : Int) from rfl, u8_eq]; simp [hd]
            have E2 := Lib.hid (show lt_ T j = pv T j by rw [E1.out, if_pos hd])
            clear hd E1 e1
            generalize at_ T j = c at *
            obtain ⟨u, hu⟩ : ∃ u, u = bs [lb (pv T j)] := ⟨_, rfl⟩
            rw [← hu] at hlz2 ⊢
            have HU := Lib.hid hu
            clear hu hlz
            go_wp2_with fail
            go_roundw
            case rel => exact ⟨j + 1, by omega, by go_num, by rw [HO.out, E2.out, ← bs_snoc, ← HU.out], by show _ = Value.string (bs [lb (lt_ T j)]); rw [E2.out, HU.out], HB.out⟩
            case measure => simp [intOf]; omega
          · have bd1 : (((at_ T j).toNat : Int) != 46) = true := by unfold bne; rw [show (46 : Int) = ((46 : UInt8).toNat : Int) from rfl, u8_eq]; simp [hd]
            have E2 := Lib.hid (show lt_ T j = !pv T j by rw [E1.out, if_neg hd])
            have HEX := Lib.hid (fun w => ex_lb (pv T j) ▸ exchanged_any (bs [lb (pv T j)]) w (by omega))
            clear hd E1 e1
            generalize at_ T j = c at *
            obtain ⟨u, hu⟩ : ∃ u, u = bs [lb (pv T j)] := ⟨_, rfl⟩
            obtain ⟨v, hv⟩ : ∃ v, v = bs [lb (!pv T j)] := ⟨_, rfl⟩
            have hvz : v.size ≤ 1 := by rw [hv, lb_size]; exact Nat.le_refl _
            rw [← hu] at hlz2 HEX ⊢
            rw [← hv] at HEX
            have HV := Lib.hid hv
            clear hu hv hlz
            go_wp2_with fail
            refine (HEX.out _).mono ?_
            rintro e w2 ⟨rfl, hb2⟩
            have HB2 := Lib.hid (below_thru HB.out hb2)
            clear hb2
            go_wp2_with fail
            go_roundw
            case rel => exact ⟨j + 1, by omega, by go_num, by rw [HO.out, E2.out, ← bs_snoc, ← HV.out], by show _ = Value.string (bs [lb (lt_ T j)]); rw [E2.out, HV.out], HB2.out⟩
            case measure => simp [intOf]; omega
        · have hj0i : ¬ (0 : Int) < (j : Int) := by omega
          obtain rfl : j = 0 := by omega
          have E2 := Lib.hid (show lt_ T 0 = pv T 0 from rfl)
          obtain ⟨u, hu⟩ : ∃ u, u = bs [lb (pv T 0)] := ⟨_, rfl⟩
          rw [← hu] at hlz2 ⊢
          have HU := Lib.hid hu
          clear hu hlz
          go_wp2_with fail
          go_roundw
          case rel => exact ⟨1, by omega, by go_num, by rw [HO.out, E2.out, ← bs_snoc, ← HU.out], by show _ = Value.string (bs [lb (lt_ T 0)]); rw [E2.out, HU.out], HB.out⟩
          case measure => simp [intOf]; omega
      · have hjn : j = n := by omega
        have hji : ¬ (j : Int) < (n : Int) := by omega
        subst hjn
        rw [← HS.out]
        by_cases hc : CT = t
        · have RR := Lib.hid (R3.out hc)
          subst hc
          go_wp2_with fail
          refine (HCT.out _ _ _ ?hx).mono ?_
          case hx => exact srow_one (by simp; omega) (by go_simp)
          rintro e w2 ⟨rfl, hb2⟩
          go_wp2_with fail
          go_ret
          exact ⟨by rw [RR.out]; rfl, (by repeat' (first | exact Below.refl _ _ | assumption | (refine Below.drew ?_) | (refine below_drewN ?_ _) | (refine below_thru ?_ (by assumption)) | (refine below_alloc ?_ _) | (refine Below.setCell ?_ (by first | omega | (simp; done) | (simp; omega)) _) | (refine Below.alloc ?_ (by first | omega | (simp; done) | (simp; omega)) _)))⟩
        · have RR := Lib.hid (R4.out hc)
          have hne := txt_ne hc
          clear hc
          go_wp2_with fail
          refine (HCT.out _ _ _ ?hx).mono ?_
          case hx => exact srow_one (by simp; omega) (by go_simp)
          rintro e w2 ⟨rfl, hb2⟩
          go_wp2_with fail
          go_ret
          exact ⟨by rw [RR.out]; rfl, (by repeat' (first | exact Below.refl _ _ | assumption | (refine Below.drew ?_) | (refine below_drewN ?_ _) | (refine below_thru ?_ (by assumption)) | (refine below_alloc ?_ _) | (refine Below.setCell ?_ (by first | omega | (simp; done) | (simp; omega)) _) | (refine Below.alloc ?_ (by first | omega | (simp; done) | (simp; omega)) _)))⟩
  · rw [h0] at hb0
    have H0 := Lib.hid h0
    clear h0
    go_enter Try.func39, Try.ntmps39
    go_wp2_with fail
    refine (HS1.out _).mono ?_
    rintro e w1 ⟨rfl, rfl⟩
    go_wp2_with fail
    refine (HS2.out _).mono ?_
    rintro e w1 ⟨rfl, rfl⟩
    go_wp2_with fail
    clear hg0 hb0
    go_loopw [7, 8, 34] (fun lv ov iv wr => ∃ j : Nat, j ≤ n ∧ iv = .int .i64 j ∧ ov = .string (bs (outP T j)) ∧ lv = .string (bs [lb (pv T j)]) ∧ Below w.heap.size w wr) (fun _ _ iv _ => n - (intOf iv).toNat)
    case atStart => exact ⟨0, Nat.zero_le _, rfl, rfl, by show _ = Value.string (bs [lb (lt_ T 0)]); rw [H0.out]; rfl, Below.refl _ _⟩
    case round =>
      obtain ⟨j, hj, rfl, rfl, rfl, hbr⟩ := hrel
      have HB := Lib.hid hbr
      clear hbr
      by_cases hlt : j < n
      · have hji : (j : Int) < (n : Int) := by omega
        have HO := Lib.hid (outP_succ T j)
        have hbz : (bs (outP T j)).size ≤ 4294967295 := by rw [bs_size, outP_len]; omega
        have hlz := lb_size (pv T j)
        have hlz2 : (bs [lb (pv T j)]).size ≤ 1 := by omega
        by_cases hj0 : 0 < j
        · have hj0i : (0 : Int) < (j : Int) := by omega
          have e1 : lt_ T j = if at_ T j = 46 then pv T j else !pv T j := by
            obtain ⟨i, hi⟩ : ∃ i, j = i + 1 := ⟨j - 1, by omega⟩
            rw [hi]; rfl
          have E1 := Lib.hid e1
          have hgj := HAT.out j (by omega)
          by_cases hd : at_ T j = 46
          · have bd1 : (((at_ T j).toNat : Int) != 46) = false := by unfold bne; rw [show (46 : Int) = ((46 : UInt8).toNat : Int) from rfl, u8_eq]; simp [hd]
            have E2 := Lib.hid (show lt_ T j = pv T j by rw [E1.out, if_pos hd])
            clear hd E1 e1
            generalize at_ T j = c at *
            obtain ⟨u, hu⟩ : ∃ u, u = bs [lb (pv T j)] := ⟨_, rfl⟩
            rw [← hu] at hlz2 ⊢
            have HU := Lib.hid hu
            clear hu hlz
            go_wp2_with fail
            go_roundw
            case rel => exact ⟨j + 1, by omega, by go_num, by rw [HO.out, E2.out, ← bs_snoc, ← HU.out], by show _ = Value.string (bs [lb (lt_ T j)]); rw [E2.out, HU.out], HB.out⟩
            case measure => simp [intOf]; omega
          · have bd1 : (((at_ T j).toNat : Int) != 46) = true := by unfold bne; rw [show (46 : Int) = ((46 : UInt8).toNat : Int) from rfl, u8_eq]; simp [hd]
            have E2 := Lib.hid (show lt_ T j = !pv T j by rw [E1.out, if_neg hd])
            have HEX := Lib.hid (fun w => ex_lb (pv T j) ▸ exchanged_any (bs [lb (pv T j)]) w (by omega))
            clear hd E1 e1
            generalize at_ T j = c at *
            obtain ⟨u, hu⟩ : ∃ u, u = bs [lb (pv T j)] := ⟨_, rfl⟩
            obtain ⟨v, hv⟩ : ∃ v, v = bs [lb (!pv T j)] := ⟨_, rfl⟩
            have hvz : v.size ≤ 1 := by rw [hv, lb_size]; exact Nat.le_refl _
            rw [← hu] at hlz2 HEX ⊢
            rw [← hv] at HEX
            have HV := Lib.hid hv
            clear hu hv hlz
            go_wp2_with fail
            refine (HEX.out _).mono ?_
            rintro e w2 ⟨rfl, hb2⟩
            have HB2 := Lib.hid (below_thru HB.out hb2)
            clear hb2
            go_wp2_with fail
            go_roundw
            case rel => exact ⟨j + 1, by omega, by go_num, by rw [HO.out, E2.out, ← bs_snoc, ← HV.out], by show _ = Value.string (bs [lb (lt_ T j)]); rw [E2.out, HV.out], HB2.out⟩
            case measure => simp [intOf]; omega
        · have hj0i : ¬ (0 : Int) < (j : Int) := by omega
          obtain rfl : j = 0 := by omega
          have E2 := Lib.hid (show lt_ T 0 = pv T 0 from rfl)
          obtain ⟨u, hu⟩ : ∃ u, u = bs [lb (pv T 0)] := ⟨_, rfl⟩
          rw [← hu] at hlz2 ⊢
          have HU := Lib.hid hu
          clear hu hlz
          go_wp2_with fail
          go_roundw
          case rel => exact ⟨1, by omega, by go_num, by rw [HO.out, E2.out, ← bs_snoc, ← HU.out], by show _ = Value.string (bs [lb (lt_ T 0)]); rw [E2.out, HU.out], HB.out⟩
          case measure => simp [intOf]; omega
      · have hjn : j = n := by omega
        have hji : ¬ (j : Int) < (n : Int) := by omega
        subst hjn
        rw [← HS.out]
        by_cases hc : CT = t
        · have RR := Lib.hid (R3.out hc)
          subst hc
          go_wp2_with fail
          refine (HCT.out _ _ _ ?hx).mono ?_
          case hx => exact srow_one (by simp; omega) (by go_simp)
          rintro e w2 ⟨rfl, hb2⟩
          go_wp2_with fail
          go_ret
          exact ⟨by rw [RR.out]; rfl, (by repeat' (first | exact Below.refl _ _ | assumption | (refine Below.drew ?_) | (refine below_drewN ?_ _) | (refine below_thru ?_ (by assumption)) | (refine below_alloc ?_ _) | (refine Below.setCell ?_ (by first | omega | (simp; done) | (simp; omega)) _) | (refine Below.alloc ?_ (by first | omega | (simp; done) | (simp; omega)) _)))⟩
        · have RR := Lib.hid (R4.out hc)
          have hne := txt_ne hc
          clear hc
          go_wp2_with fail
          refine (HCT.out _ _ _ ?hx).mono ?_
          case hx => exact srow_one (by simp; omega) (by go_simp)
          rintro e w2 ⟨rfl, hb2⟩
          go_wp2_with fail
          go_ret
          exact ⟨by rw [RR.out]; rfl, (by repeat' (first | exact Below.refl _ _ | assumption | (refine Below.drew ?_) | (refine below_drewN ?_ _) | (refine below_thru ?_ (by assumption)) | (refine below_alloc ?_ _) | (refine Below.setCell ?_ (by first | omega | (simp; done) | (simp; omega)) _) | (refine Below.alloc ?_ (by first | omega | (simp; done) | (simp; omega)) _)))⟩

end Go.Proofs.Ytkhlolhmaoenoaa
