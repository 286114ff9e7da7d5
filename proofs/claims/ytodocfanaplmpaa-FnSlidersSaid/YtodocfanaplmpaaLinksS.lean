
/-
  The contract of the reference's LinksOk; no condition.
-/
import Derived.Test.YtodocfanaplmpaaLinksR
import Derived.Test.YtodocfanaplmpaaLinksW
import Derived.Test.YtodocfanaplmpaaRooms
import Derived.IntWalk
namespace Go.Proofs.Ytodocfanaplmpaa
open Go.ChangeShapes Go.WideShapes Go.ChangeAt Go.RowKit Go.Deep Go.BigFrame
set_option linter.unusedVariables false
set_option linter.unusedSimpArgs false

theorem wrap_pow (b : Nat) (h : b < 8) : wrap64 ((2 : Int) ^ b) = ((2 ^ b : Nat) : Int) := by
  rcases (by omega : b = 0 ∨ b = 1 ∨ b = 2 ∨ b = 3 ∨ b = 4 ∨ b = 5 ∨ b = 6 ∨ b = 7) with rfl | rfl | rfl | rfl | rfl | rfl | rfl | rfl <;> first | kernel_rfl | (simp [wrap64]; done) | (simp [wrap64]; omega)
def msV (ms : List Nat) : List Value := ms.map fun n => .int .i64 (n : Nat)
theorem msV_at (ms : List Nat) (i : Nat) (h : i < ms.length) : (msV ms)[i]? = some (.int .i64 (ms.getD i 0 : Nat)) := by simp [msV, List.getD, h]
theorem bit_test (a j : Nat) (h : a < 256) : (bits .and .i64 ((a : Int) / 2 ^ j) 1 == 1) = a.testBit j := by
  have e : ((a : Int) / 2 ^ j) = ((a / 2 ^ j : Nat) : Int) := by
    rw [Int.natCast_ediv, Int.natCast_pow]
    rfl
  have h2 : a / 2 ^ j < 256 := Nat.lt_of_le_of_lt (Nat.div_le_self _ _) h
  rw [e, bits_and_one _ h2, bit_mod, Bool.eq_iff_iff]
  simp only [beq_iff_eq, decide_eq_true_eq]
  omega
theorem ms_in {ms : List Nat} (h : ∀ a ∈ ms, a < 256) (i : Nat) (hi : i < ms.length) : ms.getD i 0 < 256 := h _ (by simp [List.getD, hi])

set_option maxHeartbeats 1000000 in
set_option maxRecDepth 100000 in
theorem specLinksOk_any (n : Int) (A : Option Addr) (c : Nat) (ls : List (Int × Int × Int)) (w : World) (hx : TRow w w.heap.size A ls) :
    Calls Try.prog 13 #[.int .i64 n, .slice A ls.length c] w fun e w' => e = .returned (.bool (linksOk n ls)) ∧ Below w.heap.size w w' := by
  have HW := Lib.hid (fun w => l01In_any n 1 8 w)
  by_cases hn : inB n 1 8 = true
  case neg =>
    have hn' : inB n 1 8 = false := by simpa using hn
    rw [show linksOk n ls = false from by unfold linksOk; rw [hn']; rfl]
    rw [hn'] at HW
    clear hn hn' hx
    go_enter Try.func13, Try.ntmps13
    go_wp2_with fail
    refine (HW.out _).mono ?_
    rintro e w1 ⟨rfl, rfl⟩
    go_wp2_with fail
    go_ret
    exact ⟨rfl, (by repeat' (first | exact Below.refl _ _ | assumption | (refine Below.drew ?_) | (refine below_drewN ?_ _) | (refine below_thru ?_ (by assumption)) | (refine below_alloc ?_ _) | (refine Below.setCell ?_ (by first | omega | (simp; done) | (simp; omega)) _) | (refine Below.alloc ?_ (by first | omega | (simp; done) | (simp; omega)) _)))⟩
  rw [hn] at HW
  by_cases hl : ls.length ≤ 12
  case neg =>
    rw [show linksOk n ls = false from by unfold linksOk; rw [decide_eq_false hl, Bool.false_and, Bool.and_false]]
    have hli : (12 : Int) < (ls.length : Int) := by omega
    clear hn hx
    go_enter Try.func13, Try.ntmps13
    go_wp2_with fail
    refine (HW.out _).mono ?_
    rintro e w1 ⟨rfl, rfl⟩
    go_wp2_with fail
    go_ret
    exact ⟨rfl, (by repeat' (first | exact Below.refl _ _ | assumption | (refine Below.drew ?_) | (refine below_drewN ?_ _) | (refine below_thru ?_ (by assumption)) | (refine below_alloc ?_ _) | (refine Below.setCell ?_ (by first | omega | (simp; done) | (simp; omega)) _) | (refine Below.alloc ?_ (by first | omega | (simp; done) | (simp; omega)) _)))⟩
  have hli : ¬ (12 : Int) < (ls.length : Int) := by omega
  obtain ⟨m, hm0, hm8, rfl⟩ : ∃ m : Nat, 1 ≤ m ∧ m ≤ 8 ∧ n = (m : Int) := by
    have h := hn
    unfold inB at h
    simp at h
    exact ⟨n.toNat, by omega, by omega, by omega⟩
  have HLF := Lib.hid (show ls.all (linkIn (m : Int)) = false → linksOk (m : Int) ls = false from fun h => by unfold linksOk; rw [h, Bool.false_and, Bool.and_false, Bool.and_false])
  have HLT := Lib.hid (show ls.all (linkIn (m : Int)) = true → linksOk (m : Int) ls = acyc (edge ls) m from fun h => by unfold linksOk; rw [h, hn, decide_eq_true hl, Int.toNat_natCast]; simp)
  generalize linksOk (m : Int) ls = RES at *
  have HX := Lib.hid hx
  have HWI := Lib.hid (fun v w => l01In_any v 0 ((m : Int) - 1) w)
  clear hx hn hl
  obtain ⟨j0, hj0, jz0, jz1, jz2⟩ := info_parts intInfo
  go_enter Try.func13, Try.ntmps13
  go_wp2_with fail
  refine (HW.out _).mono ?_
  rintro e w1 ⟨rfl, rfl⟩
  go_wp2_with (at_make; refine wpList_make_full _ rfl (.tmp 20) (.tmp 20) 22 rfl w.heap.size 3 j0 (.int .i64 0) 1 Try.underlying22 hj0 jz0 jz1 .i64 .i64 _ _ m rfl rfl rfl rfl (by rw [jz2]; omega) (by unfold maxLen; omega) (Nat.le_refl _) ?_)
  intro w2 hown hgr
  have hown2 : w2.ownsRow w.heap.size 3 1 (.slice (some ⟨w.heap.size, 0, none⟩) m m) m (msV (List.replicate m 0)) := by
    rw [made_list'] at hown
    simpa [msV] using hown
  have hb2 : Below w.heap.size w w2 := (Below.refl _ _).grown hgr (Nat.le_refl _) (by simp)
  have HO := Lib.hid hown2
  have HB := Lib.hid hb2
  have HZ := Lib.hid (show tb (List.replicate m 0) = edge [] from by
    funext a b
    unfold tb
    by_cases e : a < m <;> simp [List.getD, e, edge])
  clear hown hown2 hb2 hgr
  go_wp2_with fail
  go_loopw [6] (fun iv wx => ∃ (p : Nat) (ms : List Nat), p ≤ ls.length ∧ iv = .int .i64 p ∧ (ls.take p).all (linkIn (m : Int)) = true ∧ wx.ownsRow w.heap.size 3 1 (.slice (some ⟨w.heap.size, 0, none⟩) m m) m (msV ms) ∧ ms.length = m ∧ (∀ a ∈ ms, a < 256) ∧ tb ms = edge (ls.take p) ∧ Below w.heap.size w wx) (fun iv _ => ls.length - (intOf iv).toNat)
  case atStart => exact ⟨0, List.replicate m 0, Nat.zero_le _, rfl, rfl, HO.out, List.length_replicate, fun a ha => by rw [(List.mem_replicate.1 ha).2]; decide, HZ.out, HB.out⟩
  case round =>
    obtain ⟨p, ms, hp, rfl, hall, hown, hml, hms, htb, hbx⟩ := hrel
    have HBX := Lib.hid hbx
    have HAL := Lib.hid hall
    have HOW := Lib.hid hown
    have HML := Lib.hid hml
    have HMS := Lib.hid hms
    have HTB := Lib.hid htb
    clear HO HB HZ hbx hall hown hml hms htb
    by_cases hlt : p < ls.length
    · have hpi : (p : Int) < (ls.length : Int) := by omega
      obtain ⟨bA, oA, rfl, hbA, c1, c2, c3⟩ := HX.out.at_ hlt
      have d1 := cell_on HBX.out c1
      have d2 := cell_on HBX.out c2
      have d3 := cell_on HBX.out c3
      have hsn := all_snoc' (linkIn (m : Int)) ls p (0, 0, 0) hlt HAL.out
      have hfl := all_false' (linkIn (m : Int)) ls p (0, 0, 0) hlt
      have hed := fun i j => edge_take hlt i j
      generalize hv : ls.getD p (0, 0, 0) = v at *
      obtain ⟨v1, v2, v3⟩ := v
      dsimp only at d1 d2 d3 hed
      have HSN := Lib.hid hsn
      have HFL := Lib.hid hfl
      have HED := Lib.hid hed
      clear hv c1 c2 c3 hsn hfl hed
      have W1 := HWI.out v1
      have W2 := HWI.out v2
      by_cases h1 : inB v1 0 ((m : Int) - 1) = true
      case neg =>
        have h1' : inB v1 0 ((m : Int) - 1) = false := by simpa using h1
        have HR := Lib.hid (HLF.out (HFL.out (by unfold linkIn; simp [h1'])))
        rw [h1'] at W1
        have W1 := Lib.hid W1
        clear W2 h1 h1'
        go_wp2_with fail
        refine (W1.out _).mono ?_
        rintro e w1 ⟨rfl, rfl⟩
        go_wp2_with fail
        go_ret
        exact ⟨by rw [HR.out]; rfl, below_alloc HBX.out _⟩
      by_cases h2 : inB v2 0 ((m : Int) - 1) = true
      case neg =>
        have h2' : inB v2 0 ((m : Int) - 1) = false := by simpa using h2
        have HR := Lib.hid (HLF.out (HFL.out (by unfold linkIn; simp [h2'])))
        rw [h1] at W1
        rw [h2'] at W2
        have W1 := Lib.hid W1
        have W2 := Lib.hid W2
        clear h1 h2 h2'
        go_wp2_with fail
        refine (W1.out _).mono ?_
        rintro e w1 ⟨rfl, rfl⟩
        go_wp2_with fail
        refine (W2.out _).mono ?_
        rintro e w1 ⟨rfl, rfl⟩
        go_wp2_with fail
        go_ret
        exact ⟨by rw [HR.out]; rfl, below_alloc HBX.out _⟩
      have HLN := Lib.hid (show ¬ v1 = v2 → (v3 = 1 ∨ v3 = -1) → linkIn (m : Int) (v1, v2, v3) = true from fun e1 e2 => by unfold linkIn; rw [h1, h2]; simpa [e1] using e2)
      rw [h1] at W1
      rw [h2] at W2
      have W1 := Lib.hid W1
      have W2 := Lib.hid W2
      obtain ⟨a, ha, rfl⟩ : ∃ a : Nat, a < m ∧ v1 = (a : Int) := by
        have h := h1
        unfold inB at h
        simp at h
        exact ⟨v1.toNat, by omega, by omega⟩
      obtain ⟨b, hb, rfl⟩ : ∃ b : Nat, b < m ∧ v2 = (b : Int) := by
        have h := h2
        unfold inB at h
        simp at h
        exact ⟨v2.toNat, by omega, by omega⟩
      clear h1 h2
      by_cases h3 : (a : Int) = (b : Int)
      · have HR := Lib.hid (HLF.out (HFL.out (by unfold linkIn; simp [h3])))
        have HAB := Lib.hid h3
        have hab : a = b := by omega
        subst hab
        clear h3
        go_wp2_with fail
        refine (W1.out _).mono ?_
        rintro e w1 ⟨rfl, rfl⟩
        go_wp2_with fail
        refine (W2.out _).mono ?_
        rintro e w1 ⟨rfl, rfl⟩
        go_wp2_with fail
        go_ret
        exact ⟨by rw [HR.out]; rfl, below_alloc HBX.out _⟩
      have h3b := h3
      have ca := (HOW.out.alloc (.cells #[.int .i64 (a : Int), .int .i64 (b : Int), .int .i64 v3] 45)).cellAt a (by omega)
      have hma : ms.getD a 0 < 256 := HMS.out _ (by
        have h1 : a < ms.length := by rw [HML.out]; exact ha
        simp [List.getD, h1])
      rw [show (msV ms)[a]? = some (.int .i64 (ms.getD a 0 : Nat)) from by
        have h1 : a < ms.length := by rw [HML.out]; exact ha
        simp [msV, List.getD, h1]] at ca
      have fa := (HOW.out.alloc (.cells #[.int .i64 (a : Int), .int .i64 (b : Int), .int .i64 v3] 45)).frozenAt a
      have ham : (a : Int) < (m : Int) := by omega
      have hal : a < ms.length := by rw [HML.out]; exact ha
      have HVAL := Lib.hid (show bits .or .i64 ((ms[a]?.getD 0 : Nat) : Int) (wrap64 ((2 : Int) ^ b)) = ((ms.getD a 0 ||| 2 ^ b : Nat) : Int) from by
        rw [wrap_pow b (by omega), ← List.getD_eq_getElem?_getD]
        exact bits_or_mask _ _ hma (two_pow_lt (by omega)))
      have hst := ((HOW.out.alloc (.cells #[.int .i64 (a : Int), .int .i64 (b : Int), .int .i64 v3] 45)).stored a (.int .i64 (ms.getD a 0 ||| 2 ^ b : Nat))).1.drew
      rw [show (msV ms).set a (.int .i64 (ms.getD a 0 ||| 2 ^ b : Nat)) = msV (ms.set a (ms.getD a 0 ||| 2 ^ b)) from by unfold msV; rw [List.map_set]] at hst
      have HST := Lib.hid hst
      have HBP := Lib.hid (((below_alloc HBX.out (.cells #[.int .i64 (a : Int), .int .i64 (b : Int), .int .i64 v3] 45)).setCell (p := ⟨w.heap.size, a, none⟩) (Nat.le_refl _) (.int .i64 (ms.getD a 0 ||| 2 ^ b : Nat))).drew)
      have HM2 := Lib.hid (show ∀ x ∈ ms.set a (ms.getD a 0 ||| 2 ^ b), x < 256 from fun x hx => by
        rcases List.mem_or_eq_of_mem_set hx with h | h
        · exact HMS.out x h
        · rw [h]; exact or_mask_lt hma (two_pow_lt (by omega)))
      have HTE := Lib.hid (show tb (ms.set a (ms.getD a 0 ||| 2 ^ b)) = edge (ls.take (p + 1)) from by
        rw [tb_link ms a b hal, HTB.out]
        funext i j
        rw [HED.out]
        unfold put1
        by_cases e : i = a ∧ j = b
        · rw [if_pos e, e.1, e.2]; simp
        · rw [if_neg e, show (decide ((a : Int) = (i : Int)) && decide ((b : Int) = (j : Int))) = false from by
            simp only [Bool.and_eq_false_iff, decide_eq_false_iff_not]
            by_cases e1 : i = a
            · exact .inr (fun h => e ⟨e1, by omega⟩)
            · exact .inl (fun h => e1 (by omega)), Bool.or_false])
      clear hst hal
      by_cases h4 : v3 = 1
      · have HLI := Lib.hid (HLN.out h3 (.inl h4))
        subst h4
        go_wp2_with fail
        refine (W1.out _).mono ?_
        rintro e w1 ⟨rfl, rfl⟩
        go_wp2_with fail
        refine (W2.out _).mono ?_
        rintro e w1 ⟨rfl, rfl⟩
        go_wp2_with fail
        go_region
        rw [HVAL.out]
        generalize (((wr.alloc (.cells #[.int .i64 (a : Int), .int .i64 (b : Int), .int .i64 1] 45)).setCell ⟨w.heap.size, a, none⟩ (.int .i64 (ms.getD a 0 ||| 2 ^ b : Nat)))).drew = wy at *
        clear ca fa
        go_wp2_with fail
        go_roundw
        case rel => exact ⟨p + 1, _, by omega, by go_num, HSN.out.trans HLI.out, HST.out, by rw [List.length_set]; exact HML.out, HM2.out, HTE.out, HBP.out⟩
        case measure => simp [intOf]; omega
      · by_cases h5 : v3 = -1
        · have HLI := Lib.hid (HLN.out h3 (.inr h5))
          subst h5
          go_wp2_with fail
          refine (W1.out _).mono ?_
          rintro e w1 ⟨rfl, rfl⟩
          go_wp2_with fail
          refine (W2.out _).mono ?_
          rintro e w1 ⟨rfl, rfl⟩
          go_wp2_with fail
          go_region
          rw [HVAL.out]
          generalize (((wr.alloc (.cells #[.int .i64 (a : Int), .int .i64 (b : Int), .int .i64 (-1)] 45)).setCell ⟨w.heap.size, a, none⟩ (.int .i64 (ms.getD a 0 ||| 2 ^ b : Nat)))).drew = wy at *
          clear ca fa
          go_wp2_with fail
          go_roundw
          case rel => exact ⟨p + 1, _, by omega, by go_num, HSN.out.trans HLI.out, HST.out, by rw [List.length_set]; exact HML.out, HM2.out, HTE.out, HBP.out⟩
          case measure => simp [intOf]; omega
        · have HR := Lib.hid (HLF.out (HFL.out (by unfold linkIn; simp [h4, h5])))
          have q1 : (v3 != 1) = true := by simp [h4]
          have q2 : (v3 != -1) = true := by simp [h5]
          go_wp2_with fail
          refine (W1.out _).mono ?_
          rintro e w1 ⟨rfl, rfl⟩
          go_wp2_with fail
          refine (W2.out _).mono ?_
          rintro e w1 ⟨rfl, rfl⟩
          go_wp2_with fail
          go_ret
          exact ⟨by rw [HR.out]; rfl, below_alloc HBX.out _⟩
    · have hpe : p = ls.length := by omega
      have hpi : ¬ (p : Int) < (ls.length : Int) := by omega
      rw [hpe, List.take_length] at HTB HAL
      have HR := Lib.hid (HLT.out HAL.out)
      obtain ⟨E, hE⟩ : ∃ E, E = edge ls := ⟨_, rfl⟩
      rw [← hE] at HTB HR
      have HBD := Lib.hid (Bnd.start (E := E) (R := tb ms) (n := m) (fun a b _ _ => by rw [HTB.out]))
      clear HAL hpe hE HLF HLT HTB
      go_wp2_with fail
      go_loopw [8] (fun kv wx => ∃ (k : Nat) (ms : List Nat), k ≤ m ∧ kv = .int .i64 k ∧ wx.ownsRow w.heap.size 3 1 (.slice (some ⟨w.heap.size, 0, none⟩) m m) m (msV ms) ∧ ms.length = m ∧ (∀ a ∈ ms, a < 256) ∧ Bnd E (tb ms) m k 0 (fun _ => False) ∧ Below w.heap.size w wx) (fun kv _ => m - (intOf kv).toNat)
      case atStart => exact ⟨0, ms, Nat.zero_le _, rfl, HOW.out, HML.out, HMS.out, HBD.out, HBX.out⟩
      case round =>
        obtain ⟨k, ms1, hk, rfl, hown, hml, hms, hbd, hbk⟩ := hrel
        have HO1 := Lib.hid hown
        have HL1 := Lib.hid hml
        have HS1 := Lib.hid hms
        have HD1 := Lib.hid hbd
        have HB1 := Lib.hid hbk
        clear HOW HML HMS HBD HBX hown hml hms hbd hbk
        by_cases hkm : k < m
        · have hki : (k : Int) < (m : Int) := by omega
          go_wp2_with fail
          go_loopw [9] (fun iv wx => ∃ (i : Nat) (ms : List Nat), i ≤ m ∧ iv = .int .i64 i ∧ wx.ownsRow w.heap.size 3 1 (.slice (some ⟨w.heap.size, 0, none⟩) m m) m (msV ms) ∧ ms.length = m ∧ (∀ a ∈ ms, a < 256) ∧ Bnd E (tb ms) m k i (fun _ => False) ∧ Below w.heap.size w wx) (fun iv _ => m - (intOf iv).toNat)
          case atStart => exact ⟨0, ms1, Nat.zero_le _, rfl, HO1.out, HL1.out, HS1.out, HD1.out, HB1.out⟩
          case round =>
            obtain ⟨i, ms2, hi, rfl, hown, hml, hms, hbd, hbi⟩ := hrel
            have HO2 := Lib.hid hown
            have HL2 := Lib.hid hml
            have HS2 := Lib.hid hms
            have HD2 := Lib.hid hbd
            have HB2 := Lib.hid hbi
            clear HO1 HL1 HS1 HD1 HB1 hown hml hms hbd hbi
            by_cases him : i < m
            · have hii : (i : Int) < (m : Int) := by omega
              go_wp2_with fail
              go_loopw [10] (fun jv wx => ∃ (j : Nat) (ms : List Nat), j ≤ m ∧ jv = .int .i64 j ∧ wx.ownsRow w.heap.size 3 1 (.slice (some ⟨w.heap.size, 0, none⟩) m m) m (msV ms) ∧ ms.length = m ∧ (∀ a ∈ ms, a < 256) ∧ Bnd E (tb ms) m k i (fun _ => k < j) ∧ Below w.heap.size w wx) (fun jv _ => m - (intOf jv).toNat)
              case atStart => exact ⟨0, ms2, Nat.zero_le _, rfl, HO2.out, HL2.out, HS2.out, HD2.out.weaken (fun b h => absurd h (by omega)), HB2.out⟩
              case round =>
                obtain ⟨j, ms3, hj, rfl, hown, hml, hms, hbd, hbj⟩ := hrel
                by_cases hjm : j < m
                · have hji : (j : Int) < (m : Int) := by omega
                  obtain ⟨A3, hA3⟩ : ∃ x, x = ms3.getD i 0 := ⟨_, rfl⟩
                  obtain ⟨B3, hB3⟩ : ∃ x, x = ms3.getD j 0 := ⟨_, rfl⟩
                  have ci := hown.cellAt i (by omega)
                  have cj := hown.cellAt j (by omega)
                  rw [msV_at ms3 i (by omega), ← hA3] at ci
                  rw [msV_at ms3 j (by omega), ← hB3] at cj
                  have hA : A3 < 256 := by rw [hA3]; exact ms_in hms i (by omega)
                  have hB : B3 < 256 := by rw [hB3]; exact ms_in hms j (by omega)
                  have fi := hown.frozenAt i
                  have hil : i < ms3.length := by omega
                  have hbt := bit_test A3 j hA
                  rw [hA3] at hbt
                  have HST := Lib.hid ((hown.stored i (.int .i64 ((A3 ||| B3 : Nat) : Int))).1.drew)
                  have HSS := Lib.hid (show (msV ms3).set i (.int .i64 ((A3 ||| B3 : Nat) : Int)) = msV (ms3.set i (A3 ||| B3)) from by unfold msV; rw [List.map_set])
                  have HBP := Lib.hid ((hbj.setCell (p := ⟨w.heap.size, i, none⟩) (Nat.le_refl _) (.int .i64 ((A3 ||| B3 : Nat) : Int))).drew)
                  have HVAL := Lib.hid (bits_or_mask A3 B3 hA hB)
                  have HM2 := Lib.hid (show ∀ x ∈ ms3.set i (A3 ||| B3), x < 256 from fun x hx => by
                    rcases List.mem_or_eq_of_mem_set hx with h | h
                    · exact hms x h
                    · rw [h]; exact or_mask_lt hA hB)
                  have HTO := Lib.hid (show tb (ms3.set i (A3 ||| B3)) = putRow (tb ms3) i (fun b => tb ms3 i b || tb ms3 j b) from by rw [hA3, hB3]; exact tb_or ms3 i j hil)
                  have HO3 := Lib.hid hown
                  have HL3 := Lib.hid hml
                  have HS3 := Lib.hid hms
                  have HD3 := Lib.hid hbd
                  have HBJ := Lib.hid hbj
                  cases hbit : tb ms3 i j with
                  | true =>
                    have HDN := Lib.hid (Bnd.row1 hkm him hjm hbd hbit)
                    have hcnd : (bits .and .i64 ((A3 : Int) / 2 ^ j) 1 == 1) = true := by rw [hA3, hbt]; exact hbit
                    clear HO2 HL2 HS2 HD2 HB2 hown hml hms hbd hbj hbt hbit hA hB hA3 hB3 hil
                    go_wp2_with fail
                    go_region
                    rw [HVAL.out]
                    generalize (wr.setCell ⟨w.heap.size, i, none⟩ (.int .i64 ((A3 ||| B3 : Nat) : Int))).drew = wy at *
                    clear ci cj fi
                    go_wp2_with fail
                    go_roundw
                    case rel => exact ⟨j + 1, _, by omega, by go_num, (by rw [← HSS.out]; exact HST.out), by rw [List.length_set]; exact HL3.out, HM2.out, by rw [HTO.out]; exact HDN.out, HBP.out⟩
                    case measure => simp [intOf]; omega
                  | false =>
                    have HDN := Lib.hid (Bnd.row0 hkm him hjm hbd hbit)
                    have hcnd : (bits .and .i64 ((A3 : Int) / 2 ^ j) 1 == 1) = false := by rw [hA3, hbt]; exact hbit
                    clear HO2 HL2 HS2 HD2 HB2 hown hml hms hbd hbj hbt hbit hA hB hA3 hB3 hil
                    go_wp2_with fail
                    go_roundw
                    case rel => exact ⟨j + 1, ms3, by omega, by go_num, HO3.out, HL3.out, HS3.out, HDN.out, HBJ.out⟩
                    case measure => simp [intOf]; omega
                · have hje : j = m := by omega
                  have hji : ¬ (j : Int) < (m : Int) := by omega
                  have HO3 := Lib.hid hown
                  have HL3 := Lib.hid hml
                  have HS3 := Lib.hid hms
                  have HD3 := Lib.hid (hbd.nextRow (fun b hb => by omega))
                  have HB3 := Lib.hid hbj
                  clear HO2 HL2 HS2 HD2 HB2 hown hml hms hbd hbj hje
                  go_wp2_with fail
                  go_roundw
                  case rel => exact ⟨i + 1, ms3, by omega, by go_num, HO3.out, HL3.out, HS3.out, HD3.out, HB3.out⟩
                  case measure => simp [intOf]; omega
            · have hie : i = m := by omega
              have hii : ¬ (i : Int) < (m : Int) := by omega
              rw [hie] at HD2
              have HD3 := Lib.hid HD2.out.nextStep
              clear hie HD2
              go_wp2_with fail
              go_roundw
              case rel => exact ⟨k + 1, ms2, by omega, by go_num, HO2.out, HL2.out, HS2.out, HD3.out, HB2.out⟩
              case measure => simp [intOf]; omega
        · have hke : k = m := by omega
          have hki : ¬ (k : Int) < (m : Int) := by omega
          rw [hke] at HD1
          clear hke
          go_wp2_with fail
          go_loopw [11] (fun iv wx => ∃ i : Nat, i ≤ m ∧ iv = .int .i64 i ∧ (∀ a, a < i → tb ms1 a a = false) ∧ wx.ownsRow w.heap.size 3 1 (.slice (some ⟨w.heap.size, 0, none⟩) m m) m (msV ms1) ∧ Below w.heap.size w wx) (fun iv _ => m - (intOf iv).toNat)
          case atStart => exact ⟨0, Nat.zero_le _, rfl, fun a ha => absurd ha (by omega), HO1.out, HB1.out⟩
          case round =>
            obtain ⟨i, hi, rfl, hno, hown, hbi⟩ := hrel
            have HNO := Lib.hid hno
            have HOi := Lib.hid hown
            have HBi := Lib.hid hbi
            clear HO1 HB1 hno hown hbi
            by_cases him : i < m
            · have hii : (i : Int) < (m : Int) := by omega
              obtain ⟨A3, hA3⟩ : ∃ x, x = ms1.getD i 0 := ⟨_, rfl⟩
              have hml := HL1.out
              have ci := HOi.out.cellAt i (by omega)
              rw [msV_at ms1 i (by omega), ← hA3] at ci
              have hA : A3 < 256 := by rw [hA3]; exact ms_in HS1.out i (by omega)
              have hbt := bit_test A3 i hA
              cases hbit : tb ms1 i i with
              | true =>
                have hcnd : (bits .and .i64 ((A3 : Int) / 2 ^ i) 1 == 1) = true := by rw [hbt, hA3]; exact hbit
                have HRR := Lib.hid (HR.out.trans (show acyc E m = false from all_range_no him (by rw [← HD1.out.done him, hbit]; rfl)))
                clear hbt hbit hA hA3 hml
                go_wp2_with fail
                go_ret
                exact ⟨by rw [HRR.out]; rfl, HBi.out⟩
              | false =>
                have hcnd : (bits .and .i64 ((A3 : Int) / 2 ^ i) 1 == 1) = false := by rw [hbt, hA3]; exact hbit
                have HNO2 := Lib.hid (show ∀ a, a < i + 1 → tb ms1 a a = false from fun a ha => by
                  by_cases e : a = i
                  · rw [e]; exact hbit
                  · exact HNO.out a (by omega))
                clear hbt hbit hA hA3 hml
                go_wp2_with fail
                go_roundw
                case rel => exact ⟨i + 1, by omega, by go_num, HNO2.out, HOi.out, HBi.out⟩
                case measure => simp [intOf]; omega
            · have hie : i = m := by omega
              have hii : ¬ (i : Int) < (m : Int) := by omega
              have HRR := Lib.hid (HR.out.trans (show acyc E m = true from all_range_yes (fun a ha => by rw [← HD1.out.done ha, HNO.out a (by omega)]; rfl)))
              clear hie
              go_wp2_with fail
              go_ret
              exact ⟨by rw [HRR.out]; rfl, HBi.out⟩

end Go.Proofs.Ytodocfanaplmpaa
