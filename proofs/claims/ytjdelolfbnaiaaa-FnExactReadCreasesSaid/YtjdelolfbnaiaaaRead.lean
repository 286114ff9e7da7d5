
/-
  The contracts of ReadCreases on both sides; no condition beyond the length of the text.
-/
import Derived.Test.YtjdelolfbnaiaaaCText
import Derived.Test.YtjdelolfbnaiaaaTurn
namespace Go.Proofs.Ytjdelolfbnaiaaa
open Go.ChangeShapes Go.WideShapes Go.ChangeAt Go.RowKit Go.Deep Go.BigFrame
set_option linter.unusedVariables false
set_option linter.unusedSimpArgs false

/-- is the step at a place a step forward -/
def lt_ (T : List UInt8) : Nat → Bool
  | 0 => decide (at_ T 0 = 118)
  | i + 1 => if at_ T (i + 1) = 46 then lt_ T i else !lt_ T i
def lb (b : Bool) : UInt8 := if b = true then 102 else 100
def outP (T : List UInt8) (j : Nat) : List UInt8 := (List.range j).map fun i => lb (lt_ T i)
theorem outP_succ (T : List UInt8) (j : Nat) : outP T (j + 1) = outP T j ++ [lb (lt_ T j)] := by
  unfold outP
  rw [List.range_succ, List.map_append]
  rfl
theorem outP_len (T : List UInt8) (j : Nat) : (outP T j).length = j := by simp [outP]
def readCr (t : ByteArray) (d f : Int) : ByteArray :=
  if (inB d 1 8 && (inB f 1 8 && (decide ((t.size : Int) = d + f + 1) && (inFrame d f (bs (outP t.data.toList (t.size - 1))) && decide (bs (ctext (outP t.data.toList (t.size - 1))) = t))))) = true then bs (outP t.data.toList (t.size - 1)) else .empty

theorem lb_size (b : Bool) : (bs [lb b]).size = 1 := bs_size _
theorem lb_d : (bs [lb false]) = ⟨#[100]⟩ := rfl
theorem lb_f : (bs [lb true]) = ⟨#[102]⟩ := rfl

theorem specReadCreases_any (t : ByteArray) (d f : Int) (w : World) (ht : t.size ≤ 1048576)
    (bd : -9223372036854775808 ≤ d ∧ d ≤ 9223372036854775807) (bf : -9223372036854775808 ≤ f ∧ f ≤ 9223372036854775807) :
    Calls Try.prog 17 #[.string t, .int .i64 d, .int .i64 f] w fun e w' => e = .returned (.string (readCr t d f)) ∧ ∃ q, w' = w.drewN q := by
  have hF := fun w => l02Frame_any d f w
  cases g1 : (inB d 1 8 && inB f 1 8)
  · rw [g1] at hF
    rw [show readCr t d f = .empty from if_neg (by rw [← Bool.and_assoc, g1]; simp)]
    clear g1
    go_enter Try.func17, Try.ntmps17
    go_wp2_with fail
    refine (hF _).mono ?_
    rintro e w1 ⟨rfl, rfl⟩
    go_wp2_with fail
    go_ret
    exact ⟨rfl, 0, rfl⟩
  rw [g1] at hF
  have HF := Lib.hid hF
  have g1' := g1
  simp only [Bool.and_eq_true] at g1'
  have i1 := inB_iff.1 g1'.1
  have i2 := inB_iff.1 g1'.2
  by_cases hl : (t.size : Int) = d + f + 1
  case neg =>
    have hb := int_bne_t hl
    rw [show readCr t d f = .empty from if_neg (by simp [hl])]
    clear g1 g1' hF hl
    go_enter Try.func17, Try.ntmps17
    go_wp2_with fail
    refine (HF.out _).mono ?_
    rintro e w1 ⟨rfl, rfl⟩
    go_wp2_with fail
    go_ret
    exact ⟨rfl, 0, rfl⟩
  have hb := int_bne_f hl
  obtain ⟨n, hn⟩ : ∃ n, n = t.size - 1 := ⟨_, rfl⟩
  have hn1 : (n : Int) = d + f := by omega
  have hn16 : n ≤ 16 ∧ 2 ≤ n := by omega
  have hni : (t.size : Int) - 1 = (n : Int) := by omega
  have hnt : t.size = n + 1 := by omega
  rw [show readCr t d f = if (inFrame d f (bs (outP t.data.toList n)) && decide (bs (ctext (outP t.data.toList n)) = t)) = true then bs (outP t.data.toList n) else .empty by
    unfold readCr
    rw [← Bool.and_assoc, g1, decide_eq_true hl, ← hn]; rfl]
  have HAT := Lib.hid (fun k (hk : k < t.size) => at_get t k hk)
  have hz0 : (bs (outP t.data.toList n)).size = n := by rw [bs_size, outP_len]
  have HD := Lib.hid (fun w => specDownOf_any (bs (outP t.data.toList n)) w (by omega))
  have HW := Lib.hid (fun w => specForwardOf_any (bs (outP t.data.toList n)) w (by omega))
  have HT := Lib.hid (fun w => l15Text_any (bs (outP t.data.toList n)) w (by omega) (by omega))
  have y0 := fun h1 h2 => inFrame_yes (d := d) (f := f) (s := bs (outP t.data.toList n)) h1 h2
  have n1 := fun h => inFrame_no1 (d := d) (f := f) (s := bs (outP t.data.toList n)) h
  have n2 := fun h => inFrame_no2 (d := d) (f := f) (s := bs (outP t.data.toList n)) h
  rw [bs_list] at HD HW HT y0 n1 n2
  obtain ⟨T, hT⟩ : ∃ T, T = t.data.toList := ⟨_, rfl⟩
  rw [← hT] at HAT HD HW HT y0 n1 n2 hz0 ⊢
  obtain ⟨R, hR⟩ : ∃ R, R = (if (inFrame d f (bs (outP T n)) && decide (bs (ctext (outP T n)) = t)) = true then bs (outP T n) else .empty) := ⟨_, rfl⟩
  rw [← hR]
  have R1 := Lib.hid (show ¬ (downOf (outP T n) : Int) = d → R = .empty from fun h => by rw [hR, if_neg (by rw [n1 h]; simp)])
  have R2 := Lib.hid (show ¬ (forwardOf (outP T n) : Int) = f → R = .empty from fun h => by rw [hR, if_neg (by rw [n2 h]; simp)])
  have R3 := Lib.hid (show (downOf (outP T n) : Int) = d → (forwardOf (outP T n) : Int) = f → bs (ctext (outP T n)) = t → R = bs (outP T n) from fun h1 h2 h3 => by rw [hR, if_pos (by rw [y0 h1 h2, decide_eq_true h3]; rfl)])
  have R4 := Lib.hid (show ¬ bs (ctext (outP T n)) = t → R = .empty from fun h => by rw [hR, if_neg (by simp [h])])
  have HZ0 := Lib.hid hz0
  have hnti : n < t.size := by omega
  have HNT := Lib.hid hnt
  clear g1 g1' hF hl hT y0 n1 n2 hz0 hn hnt hR
  have hg0 := HAT.out 0 (by omega)
  have hlt0 : lt_ T 0 = decide (at_ T 0 = 118) := rfl
  have hb0 : (((at_ T 0).toNat : Int) == 118) = lt_ T 0 := by rw [hlt0, show (118 : Int) = ((118 : UInt8).toNat : Int) from rfl, u8_eq]
  generalize at_ T 0 = c0 at *
  clear hlt0
  have key : ∀ (W : World) (L : Bool), True := fun _ _ => trivial
  cases h0 : lt_ T 0
  · rw [h0] at hb0
    have H0 := Lib.hid h0
    clear h0 key
    go_enter Try.func17, Try.ntmps17
    go_wp2_with fail
    refine (HF.out _).mono ?_
    rintro e w1 ⟨rfl, rfl⟩
    go_wp2_with fail
    clear hg0 hb0
    go_loop [7, 8, 9] (fun lv ov iv => ∃ j : Nat, j ≤ n ∧ iv = .int .i64 (j + 1 : Nat) ∧ ov = .string (bs (outP T j)) ∧ (j < n → lv = .string (bs [lb (lt_ T j)]))) (fun _ _ iv => n + 1 - (intOf iv).toNat)
    case atStart => exact ⟨0, Nat.zero_le _, rfl, rfl, fun _ => by rw [H0.out]; rfl⟩
    case round =>
      obtain ⟨j, hj, rfl, rfl, hlv⟩ := hrel
      by_cases hlt : j < n
      · obtain rfl := hlv hlt
        have hji : (j : Int) + 1 < (t.size : Int) := by omega
        have HO := Lib.hid (outP_succ T j)
        have hbz : (bs (outP T j)).size ≤ 4294967295 := by rw [bs_size, outP_len]; omega
        have hlz := lb_size (lt_ T j)
        have hlz2 : (bs [lb (lt_ T j)]).size ≤ 1 := by omega
        obtain ⟨u, hu⟩ : ∃ u, u = bs [lb (lt_ T j)] := ⟨_, rfl⟩
        have hl0 : lt_ T j = false → u = ⟨#[100]⟩ := fun h => by rw [hu, h]; rfl
        have hl1 : lt_ T j = true → u = ⟨#[102]⟩ := fun h => by rw [hu, h]; rfl
        have hHO2 : bs (outP T j) ++ u = bs (outP T (j + 1)) := by rw [HO.out, ← bs_snoc, hu]
        have HO2 := Lib.hid hHO2
        rw [← hu] at hlz2 ⊢
        clear hlv hHO2 hu hlz
        by_cases hjn : j + 1 < n
        · have hjm : (j : Int) + 1 < (n : Int) := by omega
          have hgj := HAT.out (j + 1) (by omega)
          have e1 : lt_ T (j + 1) = if at_ T (j + 1) = 46 then lt_ T j else !lt_ T j := rfl
          have E1 := Lib.hid e1
          by_cases hd : at_ T (j + 1) = 46
          · have bd1 : (((at_ T (j + 1)).toNat : Int) != 46) = false := by unfold bne; rw [show (46 : Int) = ((46 : UInt8).toNat : Int) from rfl, u8_eq]; simp [hd]
            have E2 := Lib.hid (show lt_ T (j + 1) = lt_ T j by rw [E1.out, if_pos hd])
            clear hd E1 e1
            generalize at_ T (j + 1) = c at *
            have HL0 := Lib.hid hl0
            have HL1 := Lib.hid hl1
            clear hl0 hl1
            go_wp2_with fail
            go_round
            case rel => exact ⟨j + 1, by omega, by go_num, by rw [← HO2.out], fun _ => by
              rw [E2.out]
              cases h : lt_ T j with
              | false => rw [HL0.out h]; rfl
              | true => rw [HL1.out h]; rfl⟩
            case measure => simp [intOf]; omega
          · have bd1 : (((at_ T (j + 1)).toNat : Int) != 46) = true := by unfold bne; rw [show (46 : Int) = ((46 : UInt8).toNat : Int) from rfl, u8_eq]; simp [hd]
            have E2 := Lib.hid (show lt_ T (j + 1) = !lt_ T j by rw [E1.out, if_neg hd])
            clear hd E1 e1
            generalize at_ T (j + 1) = c at *
            cases hL : lt_ T j
            · have E3 := Lib.hid (show lt_ T (j + 1) = true by rw [E2.out, hL]; rfl)
              obtain rfl := hl0 hL
              clear hL hl0 hl1
              go_wp2_with fail
              go_round
              case rel => exact ⟨j + 1, by omega, by go_num, by rw [← HO2.out], fun _ => by rw [E3.out]; rfl⟩
              case measure => simp [intOf]; omega
            · have E3 := Lib.hid (show lt_ T (j + 1) = false by rw [E2.out, hL]; rfl)
              obtain rfl := hl1 hL
              clear hL hl0 hl1
              go_wp2_with fail
              go_round
              case rel => exact ⟨j + 1, by omega, by go_num, by rw [← HO2.out], fun _ => by rw [E3.out]; rfl⟩
              case measure => simp [intOf]; omega
        · have hjm : ¬ (j : Int) + 1 < (n : Int) := by omega
          have HL0 := Lib.hid hl0
          have HL1 := Lib.hid hl1
          clear hl0 hl1
          go_wp2_with fail
          go_round
          case rel => exact ⟨j + 1, by omega, by go_num, by rw [← HO2.out], fun h => absurd h hjn⟩
          case measure => simp [intOf]; omega
      · have hjn : j = n := by omega
        have hji : ¬ (j : Int) + 1 < (t.size : Int) := by omega
        subst hjn
        have hOz := HZ0.out
        clear hlv
        obtain ⟨S, hS⟩ : ∃ S, S = bs (outP T j) := ⟨_, rfl⟩
        rw [← hS] at HD HW HT R3 hOz ⊢
        obtain ⟨CT, hCT⟩ : ∃ CT, CT = bs (ctext (outP T j)) := ⟨_, rfl⟩
        rw [← hCT] at HT R3 R4
        clear hS hCT HZ0
        generalize downOf (outP T j) = x at *
        generalize forwardOf (outP T j) = y at *
        by_cases hx : (x : Int) = d
        case neg =>
          have bx := int_bne_t hx
          have RR := Lib.hid (R1.out hx)
          clear hx
          go_wp2_with fail
          refine (HD.out _).mono ?_
          rintro e w1 ⟨rfl, rfl⟩
          go_wp2_with fail
          go_ret
          exact ⟨by rw [RR.out]; rfl, 0, rfl⟩
        have bx := int_bne_f hx
        by_cases hy : (y : Int) = f
        case neg =>
          have by_ := int_bne_t hy
          have RR := Lib.hid (R2.out hy)
          clear hx hy
          go_wp2_with fail
          refine (HD.out _).mono ?_
          rintro e w1 ⟨rfl, rfl⟩
          go_wp2_with fail
          refine (HW.out _).mono ?_
          rintro e w1 ⟨rfl, rfl⟩
          go_wp2_with fail
          go_ret
          exact ⟨by rw [RR.out]; rfl, 0, rfl⟩
        have by_ := int_bne_f hy
        by_cases hc : CT = t
        · have RR := Lib.hid (R3.out hx hy hc)
          subst hc
          clear hx hy
          go_wp2_with fail
          refine (HD.out _).mono ?_
          rintro e w1 ⟨rfl, rfl⟩
          go_wp2_with fail
          refine (HW.out _).mono ?_
          rintro e w1 ⟨rfl, rfl⟩
          go_wp2_with fail
          refine (HT.out _).mono ?_
          rintro e w1 ⟨rfl, q, rfl⟩
          go_wp2_with fail
          go_ret
          exact ⟨by rw [RR.out]; rfl, q, rfl⟩
        · have hne := txt_ne hc
          have RR := Lib.hid (R4.out hc)
          clear hx hy hc
          go_wp2_with fail
          refine (HD.out _).mono ?_
          rintro e w1 ⟨rfl, rfl⟩
          go_wp2_with fail
          refine (HW.out _).mono ?_
          rintro e w1 ⟨rfl, rfl⟩
          go_wp2_with fail
          refine (HT.out _).mono ?_
          rintro e w1 ⟨rfl, q, rfl⟩
          go_wp2_with fail
          go_ret
          exact ⟨by rw [RR.out]; rfl, q, rfl⟩
  · rw [h0] at hb0
    have H0 := Lib.hid h0
    clear h0 key
    go_enter Try.func17, Try.ntmps17
    go_wp2_with fail
    refine (HF.out _).mono ?_
    rintro e w1 ⟨rfl, rfl⟩
    go_wp2_with fail
    clear hg0 hb0
    go_loop [7, 8, 9] (fun lv ov iv => ∃ j : Nat, j ≤ n ∧ iv = .int .i64 (j + 1 : Nat) ∧ ov = .string (bs (outP T j)) ∧ (j < n → lv = .string (bs [lb (lt_ T j)]))) (fun _ _ iv => n + 1 - (intOf iv).toNat)
    case atStart => exact ⟨0, Nat.zero_le _, rfl, rfl, fun _ => by rw [H0.out]; rfl⟩
    case round =>
      obtain ⟨j, hj, rfl, rfl, hlv⟩ := hrel
      by_cases hlt : j < n
      · obtain rfl := hlv hlt
        have hji : (j : Int) + 1 < (t.size : Int) := by omega
        have HO := Lib.hid (outP_succ T j)
        have hbz : (bs (outP T j)).size ≤ 4294967295 := by rw [bs_size, outP_len]; omega
        have hlz := lb_size (lt_ T j)
        have hlz2 : (bs [lb (lt_ T j)]).size ≤ 1 := by omega
        obtain ⟨u, hu⟩ : ∃ u, u = bs [lb (lt_ T j)] := ⟨_, rfl⟩
        have hl0 : lt_ T j = false → u = ⟨#[100]⟩ := fun h => by rw [hu, h]; rfl
        have hl1 : lt_ T j = true → u = ⟨#[102]⟩ := fun h => by rw [hu, h]; rfl
        have hHO2 : bs (outP T j) ++ u = bs (outP T (j + 1)) := by rw [HO.out, ← bs_snoc, hu]
        have HO2 := Lib.hid hHO2
        rw [← hu] at hlz2 ⊢
        clear hlv hHO2 hu hlz
        by_cases hjn : j + 1 < n
        · have hjm : (j : Int) + 1 < (n : Int) := by omega
          have hgj := HAT.out (j + 1) (by omega)
          have e1 : lt_ T (j + 1) = if at_ T (j + 1) = 46 then lt_ T j else !lt_ T j := rfl
          have E1 := Lib.hid e1
          by_cases hd : at_ T (j + 1) = 46
          · have bd1 : (((at_ T (j + 1)).toNat : Int) != 46) = false := by unfold bne; rw [show (46 : Int) = ((46 : UInt8).toNat : Int) from rfl, u8_eq]; simp [hd]
            have E2 := Lib.hid (show lt_ T (j + 1) = lt_ T j by rw [E1.out, if_pos hd])
            clear hd E1 e1
            generalize at_ T (j + 1) = c at *
            have HL0 := Lib.hid hl0
            have HL1 := Lib.hid hl1
            clear hl0 hl1
            go_wp2_with fail
            go_round
            case rel => exact ⟨j + 1, by omega, by go_num, by rw [← HO2.out], fun _ => by
              rw [E2.out]
              cases h : lt_ T j with
              | false => rw [HL0.out h]; rfl
              | true => rw [HL1.out h]; rfl⟩
            case measure => simp [intOf]; omega
          · have bd1 : (((at_ T (j + 1)).toNat : Int) != 46) = true := by unfold bne; rw [show (46 : Int) = ((46 : UInt8).toNat : Int) from rfl, u8_eq]; simp [hd]
            have E2 := Lib.hid (show lt_ T (j + 1) = !lt_ T j by rw [E1.out, if_neg hd])
            clear hd E1 e1
            generalize at_ T (j + 1) = c at *
            cases hL : lt_ T j
            · have E3 := Lib.hid (show lt_ T (j + 1) = true by rw [E2.out, hL]; rfl)
              obtain rfl := hl0 hL
              clear hL hl0 hl1
              go_wp2_with fail
              go_round
              case rel => exact ⟨j + 1, by omega, by go_num, by rw [← HO2.out], fun _ => by rw [E3.out]; rfl⟩
              case measure => simp [intOf]; omega
            · have E3 := Lib.hid (show lt_ T (j + 1) = false by rw [E2.out, hL]; rfl)
              obtain rfl := hl1 hL
              clear hL hl0 hl1
              go_wp2_with fail
              go_round
              case rel => exact ⟨j + 1, by omega, by go_num, by rw [← HO2.out], fun _ => by rw [E3.out]; rfl⟩
              case measure => simp [intOf]; omega
        · have hjm : ¬ (j : Int) + 1 < (n : Int) := by omega
          have HL0 := Lib.hid hl0
          have HL1 := Lib.hid hl1
          clear hl0 hl1
          go_wp2_with fail
          go_round
          case rel => exact ⟨j + 1, by omega, by go_num, by rw [← HO2.out], fun h => absurd h hjn⟩
          case measure => simp [intOf]; omega
      · have hjn : j = n := by omega
        have hji : ¬ (j : Int) + 1 < (t.size : Int) := by omega
        subst hjn
        have hOz := HZ0.out
        clear hlv
        obtain ⟨S, hS⟩ : ∃ S, S = bs (outP T j) := ⟨_, rfl⟩
        rw [← hS] at HD HW HT R3 hOz ⊢
        obtain ⟨CT, hCT⟩ : ∃ CT, CT = bs (ctext (outP T j)) := ⟨_, rfl⟩
        rw [← hCT] at HT R3 R4
        clear hS hCT HZ0
        generalize downOf (outP T j) = x at *
        generalize forwardOf (outP T j) = y at *
        by_cases hx : (x : Int) = d
        case neg =>
          have bx := int_bne_t hx
          have RR := Lib.hid (R1.out hx)
          clear hx
          go_wp2_with fail
          refine (HD.out _).mono ?_
          rintro e w1 ⟨rfl, rfl⟩
          go_wp2_with fail
          go_ret
          exact ⟨by rw [RR.out]; rfl, 0, rfl⟩
        have bx := int_bne_f hx
        by_cases hy : (y : Int) = f
        case neg =>
          have by_ := int_bne_t hy
          have RR := Lib.hid (R2.out hy)
          clear hx hy
          go_wp2_with fail
          refine (HD.out _).mono ?_
          rintro e w1 ⟨rfl, rfl⟩
          go_wp2_with fail
          refine (HW.out _).mono ?_
          rintro e w1 ⟨rfl, rfl⟩
          go_wp2_with fail
          go_ret
          exact ⟨by rw [RR.out]; rfl, 0, rfl⟩
        have by_ := int_bne_f hy
        by_cases hc : CT = t
        · have RR := Lib.hid (R3.out hx hy hc)
          subst hc
          clear hx hy
          go_wp2_with fail
          refine (HD.out _).mono ?_
          rintro e w1 ⟨rfl, rfl⟩
          go_wp2_with fail
          refine (HW.out _).mono ?_
          rintro e w1 ⟨rfl, rfl⟩
          go_wp2_with fail
          refine (HT.out _).mono ?_
          rintro e w1 ⟨rfl, q, rfl⟩
          go_wp2_with fail
          go_ret
          exact ⟨by rw [RR.out]; rfl, q, rfl⟩
        · have hne := txt_ne hc
          have RR := Lib.hid (R4.out hc)
          clear hx hy hc
          go_wp2_with fail
          refine (HD.out _).mono ?_
          rintro e w1 ⟨rfl, rfl⟩
          go_wp2_with fail
          refine (HW.out _).mono ?_
          rintro e w1 ⟨rfl, rfl⟩
          go_wp2_with fail
          refine (HT.out _).mono ?_
          rintro e w1 ⟨rfl, q, rfl⟩
          go_wp2_with fail
          go_ret
          exact ⟨by rw [RR.out]; rfl, q, rfl⟩

end Go.Proofs.Ytjdelolfbnaiaaa
