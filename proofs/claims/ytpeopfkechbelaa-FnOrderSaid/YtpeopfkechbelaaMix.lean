
/-
  Contracts of the reference's l08Mix, UpperOf and LowerOf; no condition beyond the length of the texts.
-/
import Derived.Test.YtpeopfkechbelaaOrderP
import Derived.Test.YtpeopfkechbelaaTurn
namespace Go.Proofs.Ytpeopfkechbelaa
open Go.ChangeShapes Go.WideShapes Go.ChangeAt Go.RowKit Go.Deep Go.BigFrame
set_option linter.unusedVariables false
set_option linter.unusedSimpArgs false

theorem fk_le (l : List UInt8) (j : Nat) : fk l j ≤ j := Nat.le_trans (fw_le _) (List.length_take_le _ _)
theorem fk_one (l : List UInt8) (j : Nat) (h : j < l.length) : fk l (j + 1) = fk l j + if decide (at_ l j = 102) = true then 1 else 0 := by
  unfold fk
  rw [fw_take l j h]
  by_cases a : at_ l j = 102
  · rw [if_pos a, if_pos (decide_eq_true a)]
  · rw [if_neg a, if_neg (by simp [a])]

set_option maxRecDepth 8000 in
set_option maxHeartbeats 1000000 in
theorem l08Mix_any (s t : ByteArray) (up : Bool) (w : World) (hs : s.size ≤ 4294967296) (ht : t.size ≤ 4294967296) :
    Calls Try.prog 107 #[.string s, .string t, .bool up] w fun e w' => e = .returned (.string (bs (mix up s.data.toList t.data.toList))) ∧ w = w' := by
  have HF := Lib.hid (fun w => specSameFrame_any s t w hs ht)
  cases h : sameFrame s.data.toList t.data.toList
  · rw [show mix up s.data.toList t.data.toList = [] from if_neg (by rw [h]; simp)]
    rw [h] at HF
    clear h
    go_enter Try.func107, Try.ntmps107
    go_wp2_with fail
    refine (HF.out _).mono ?_
    rintro e w1 ⟨rfl, rfl⟩
    go_wp2_with fail
    go_ret
    exact ⟨rfl, rfl⟩
  rw [mix_yes h, size_list]
  rw [h] at HF
  have hlen := sameFrame_len h
  rw [size_list, size_list] at hlen
  have hp := isStrip_parts (sameFrame_parts h).1
  rw [size_list] at hp
  have hs16 : s.size ≤ 16 := by omega
  have hgs := fun j (h : j < s.size) => at_get s j h
  have hgt := fun j (h : j < t.size) => at_get t j h
  have HGS := Lib.hid hgs
  have HGT := Lib.hid hgt
  have HS := Lib.hid (fun j (h : j < s.size) => fk_one s.data.toList j (by rw [size_list]; exact h))
  have HT := Lib.hid (fun j (h : j < s.size) => fk_one t.data.toList j (by rw [size_list]; omega))
  have HSL := Lib.hid (fk_le s.data.toList)
  have HTL := Lib.hid (fk_le t.data.toList)
  have HM := Lib.hid (mixL_succ (mixF up s.data.toList t.data.toList))
  have HML := Lib.hid (mixL_len (mixF up s.data.toList t.data.toList))
  have HFU := Lib.hid (fun (hu : up = true) j => show mixF up s.data.toList t.data.toList j = max (fk s.data.toList j) (fk t.data.toList j) by rw [hu]; rfl)
  have HFD := Lib.hid (fun (hu : up = false) j => show mixF up s.data.toList t.data.toList j = min (fk s.data.toList j) (fk t.data.toList j) by rw [hu]; rfl)
  have HF0 := Lib.hid (mixF_zero up s.data.toList t.data.toList)
  have HS0 := Lib.hid (fk_zero s.data.toList)
  have HT0 := Lib.hid (fk_zero t.data.toList)
  generalize mixF up s.data.toList t.data.toList = F at *
  generalize hls : s.data.toList = ls at *
  generalize hlt : t.data.toList = lt at *
  generalize fk ls = fs at *
  generalize fk lt = ft at *
  clear h hgs hgt hp hls hlt
  go_enter Try.func107, Try.ntmps107
  go_wp2_with fail
  refine (HF.out _).mono ?_
  rintro e w1 ⟨rfl, rfl⟩
  go_wp2_with fail
  go_loop [7, 8, 9, 10, 11] (fun ov lv fv gv kv => ∃ j : Nat, j ≤ s.size ∧ kv = .int .i64 j ∧ ov = .string (bs (mixL F j)) ∧ lv = .int .i64 (F j : Nat) ∧ fv = .int .i64 (fs j : Nat) ∧ gv = .int .i64 (ft j : Nat)) (fun _ _ _ _ kv => s.size - (intOf kv).toNat)
  case atStart => exact ⟨0, Nat.zero_le _, rfl, rfl, by rw [HF0.out]; rfl, by rw [HS0.out]; rfl, by rw [HT0.out]; rfl⟩
  case round =>
    obtain ⟨j, hj, rfl, rfl, rfl, rfl, rfl⟩ := hrel
    by_cases hlt : j < s.size
    · have hi : (j : Int) < (s.size : Int) := by omega
      have hjt : j < t.size := by omega
      have hit : (j : Int) < (t.size : Int) := by omega
      have hbz : (bs (mixL F j)).size ≤ 100 := by rw [bs_size, HML.out]; omega
      have h1 := HSL.out j
      have h2 := HTL.out j
      have h1' := HSL.out (j + 1)
      have h2' := HTL.out (j + 1)
      have e1 := HS.out j hlt
      have e2 := HT.out j hlt
      have HMJ := Lib.hid (HM.out j)
      have HFUJ := Lib.hid (fun h => HFU.out h (j + 1))
      have HFDJ := Lib.hid (fun h => HFD.out h (j + 1))
      have HFU0 := Lib.hid (fun h => HFU.out h j)
      have HFD0 := Lib.hid (fun h => HFD.out h j)
      have hg1 := HGS.out j hlt
      have hg2 := HGT.out j hjt
      have hx := u8_eq (at_ ls j) 102
      have hy := u8_eq (at_ lt j) 102
      have hx' : (((at_ ls j).toNat : Int) == 102) = decide (at_ ls j = 102) := hx
      have hy' : (((at_ lt j).toNat : Int) == 102) = decide (at_ lt j = 102) := hy
      clear hx hy
      generalize decide (at_ ls j = 102) = bx at *
      generalize decide (at_ lt j = 102) = by_ at *
      generalize at_ ls j = x at *
      generalize at_ lt j = y at *
      generalize hou : bs (mixL F j) = ou at *
      have HOU := Lib.hid hou
      have HFJ1 : ∃ F1, F1 = F (j + 1) := ⟨_, rfl⟩
      have HFJ0 : ∃ F0, F0 = F j := ⟨_, rfl⟩
      obtain ⟨F1, hF1⟩ := HFJ1
      obtain ⟨F0, hF0⟩ := HFJ0
      rw [← hF1] at HMJ HFUJ HFDJ
      rw [← hF0] at HMJ HFU0 HFD0 ⊢
      have HF1 := Lib.hid hF1
      obtain ⟨f1, hf1⟩ : ∃ f1, f1 = fs (j + 1) := ⟨_, rfl⟩
      obtain ⟨g1, hg1'⟩ : ∃ g1, g1 = ft (j + 1) := ⟨_, rfl⟩
      rw [← hf1] at e1 h1' HFUJ HFDJ
      rw [← hg1'] at e2 h2' HFUJ HFDJ
      have HF1' := Lib.hid hf1
      have HG1' := Lib.hid hg1'
      generalize fs j = f0 at *
      generalize ft j = g0 at *
      clear hF1 hF0 hf1 hg1' hou
      have hF0b : F0 ≤ 100 := by
        cases up
        · have := HFD0.out rfl; omega
        · have := HFU0.out rfl; omega
      have em : min (f1 : Int) (g1 : Int) = ((min f1 g1 : Nat) : Int) := by omega
      have ex : max (f1 : Int) (g1 : Int) = ((max f1 g1 : Nat) : Int) := by omega
      have HUP := Lib.hid (show up = true → F1 = max f1 g1 from HFUJ.out)
      have HDN := Lib.hid (show up = false → F1 = min f1 g1 from HFDJ.out)
      obtain ⟨mn, hmn⟩ : ∃ mn, mn = min f1 g1 := ⟨_, rfl⟩
      obtain ⟨mx, hmx⟩ : ∃ mx, mx = max f1 g1 := ⟨_, rfl⟩
      rw [← hmn] at em HDN
      rw [← hmx] at ex HUP
      clear hmn hmx
      cases up with
      | true =>
        have hF1v := HUP.out (by first | rfl | trivial)
        rw [← hF1v] at ex
        clear hF1v
        cases bx with
        | true =>
          have q1 : (f0 : Int) + 1 = (f1 : Int) := by simp at e1; omega
          cases by_ with
          | true =>
            have q2 : (g0 : Int) + 1 = (g1 : Int) := by simp at e2; omega
            clear e1 e2
            by_cases hc : F0 < F1
            · rw [if_pos hc] at HMJ
              have hci : (F0 : Int) < (F1 : Int) := by omega
              clear hc
              go_wp2_with fail
              go_round
              case rel => exact ⟨j + 1, by omega, by go_num, by rw [HMJ.out, ← bs_app, HOU.out]; rfl, by rw [← HF1.out], by rw [← HF1'.out], by rw [← HG1'.out]⟩
              case measure => simp [intOf]; omega
            · rw [if_neg hc] at HMJ
              have hci : ¬ (F0 : Int) < (F1 : Int) := by omega
              clear hc
              go_wp2_with fail
              go_round
              case rel => exact ⟨j + 1, by omega, by go_num, by rw [HMJ.out, ← bs_app, HOU.out]; rfl, by rw [← HF1.out], by rw [← HF1'.out], by rw [← HG1'.out]⟩
              case measure => simp [intOf]; omega
          | false =>
            have q2 : g1 = g0 := by simp at e2; omega
            subst q2
            clear e1 e2
            by_cases hc : F0 < F1
            · rw [if_pos hc] at HMJ
              have hci : (F0 : Int) < (F1 : Int) := by omega
              clear hc
              go_wp2_with fail
              go_round
              case rel => exact ⟨j + 1, by omega, by go_num, by rw [HMJ.out, ← bs_app, HOU.out]; rfl, by rw [← HF1.out], by rw [← HF1'.out], by rw [← HG1'.out]⟩
              case measure => simp [intOf]; omega
            · rw [if_neg hc] at HMJ
              have hci : ¬ (F0 : Int) < (F1 : Int) := by omega
              clear hc
              go_wp2_with fail
              go_round
              case rel => exact ⟨j + 1, by omega, by go_num, by rw [HMJ.out, ← bs_app, HOU.out]; rfl, by rw [← HF1.out], by rw [← HF1'.out], by rw [← HG1'.out]⟩
              case measure => simp [intOf]; omega
        | false =>
          have q1 : f1 = f0 := by simp at e1; omega
          subst q1
          cases by_ with
          | true =>
            have q2 : (g0 : Int) + 1 = (g1 : Int) := by simp at e2; omega
            clear e1 e2
            by_cases hc : F0 < F1
            · rw [if_pos hc] at HMJ
              have hci : (F0 : Int) < (F1 : Int) := by omega
              clear hc
              go_wp2_with fail
              go_round
              case rel => exact ⟨j + 1, by omega, by go_num, by rw [HMJ.out, ← bs_app, HOU.out]; rfl, by rw [← HF1.out], by rw [← HF1'.out], by rw [← HG1'.out]⟩
              case measure => simp [intOf]; omega
            · rw [if_neg hc] at HMJ
              have hci : ¬ (F0 : Int) < (F1 : Int) := by omega
              clear hc
              go_wp2_with fail
              go_round
              case rel => exact ⟨j + 1, by omega, by go_num, by rw [HMJ.out, ← bs_app, HOU.out]; rfl, by rw [← HF1.out], by rw [← HF1'.out], by rw [← HG1'.out]⟩
              case measure => simp [intOf]; omega
          | false =>
            have q2 : g1 = g0 := by simp at e2; omega
            subst q2
            clear e1 e2
            by_cases hc : F0 < F1
            · rw [if_pos hc] at HMJ
              have hci : (F0 : Int) < (F1 : Int) := by omega
              clear hc
              go_wp2_with fail
              go_round
              case rel => exact ⟨j + 1, by omega, by go_num, by rw [HMJ.out, ← bs_app, HOU.out]; rfl, by rw [← HF1.out], by rw [← HF1'.out], by rw [← HG1'.out]⟩
              case measure => simp [intOf]; omega
            · rw [if_neg hc] at HMJ
              have hci : ¬ (F0 : Int) < (F1 : Int) := by omega
              clear hc
              go_wp2_with fail
              go_round
              case rel => exact ⟨j + 1, by omega, by go_num, by rw [HMJ.out, ← bs_app, HOU.out]; rfl, by rw [← HF1.out], by rw [← HF1'.out], by rw [← HG1'.out]⟩
              case measure => simp [intOf]; omega
      | false =>
        have hF1v := HDN.out (by first | rfl | trivial)
        rw [← hF1v] at em
        clear hF1v
        cases bx with
        | true =>
          have q1 : (f0 : Int) + 1 = (f1 : Int) := by simp at e1; omega
          cases by_ with
          | true =>
            have q2 : (g0 : Int) + 1 = (g1 : Int) := by simp at e2; omega
            clear e1 e2
            by_cases hc : F0 < F1
            · rw [if_pos hc] at HMJ
              have hci : (F0 : Int) < (F1 : Int) := by omega
              clear hc
              go_wp2_with fail
              go_round
              case rel => exact ⟨j + 1, by omega, by go_num, by rw [HMJ.out, ← bs_app, HOU.out]; rfl, by rw [← HF1.out], by rw [← HF1'.out], by rw [← HG1'.out]⟩
              case measure => simp [intOf]; omega
            · rw [if_neg hc] at HMJ
              have hci : ¬ (F0 : Int) < (F1 : Int) := by omega
              clear hc
              go_wp2_with fail
              go_round
              case rel => exact ⟨j + 1, by omega, by go_num, by rw [HMJ.out, ← bs_app, HOU.out]; rfl, by rw [← HF1.out], by rw [← HF1'.out], by rw [← HG1'.out]⟩
              case measure => simp [intOf]; omega
          | false =>
            have q2 : g1 = g0 := by simp at e2; omega
            subst q2
            clear e1 e2
            by_cases hc : F0 < F1
            · rw [if_pos hc] at HMJ
              have hci : (F0 : Int) < (F1 : Int) := by omega
              clear hc
              go_wp2_with fail
              go_round
              case rel => exact ⟨j + 1, by omega, by go_num, by rw [HMJ.out, ← bs_app, HOU.out]; rfl, by rw [← HF1.out], by rw [← HF1'.out], by rw [← HG1'.out]⟩
              case measure => simp [intOf]; omega
            · rw [if_neg hc] at HMJ
              have hci : ¬ (F0 : Int) < (F1 : Int) := by omega
              clear hc
              go_wp2_with fail
              go_round
              case rel => exact ⟨j + 1, by omega, by go_num, by rw [HMJ.out, ← bs_app, HOU.out]; rfl, by rw [← HF1.out], by rw [← HF1'.out], by rw [← HG1'.out]⟩
              case measure => simp [intOf]; omega
        | false =>
          have q1 : f1 = f0 := by simp at e1; omega
          subst q1
          cases by_ with
          | true =>
            have q2 : (g0 : Int) + 1 = (g1 : Int) := by simp at e2; omega
            clear e1 e2
            by_cases hc : F0 < F1
            · rw [if_pos hc] at HMJ
              have hci : (F0 : Int) < (F1 : Int) := by omega
              clear hc
              go_wp2_with fail
              go_round
              case rel => exact ⟨j + 1, by omega, by go_num, by rw [HMJ.out, ← bs_app, HOU.out]; rfl, by rw [← HF1.out], by rw [← HF1'.out], by rw [← HG1'.out]⟩
              case measure => simp [intOf]; omega
            · rw [if_neg hc] at HMJ
              have hci : ¬ (F0 : Int) < (F1 : Int) := by omega
              clear hc
              go_wp2_with fail
              go_round
              case rel => exact ⟨j + 1, by omega, by go_num, by rw [HMJ.out, ← bs_app, HOU.out]; rfl, by rw [← HF1.out], by rw [← HF1'.out], by rw [← HG1'.out]⟩
              case measure => simp [intOf]; omega
          | false =>
            have q2 : g1 = g0 := by simp at e2; omega
            subst q2
            clear e1 e2
            by_cases hc : F0 < F1
            · rw [if_pos hc] at HMJ
              have hci : (F0 : Int) < (F1 : Int) := by omega
              clear hc
              go_wp2_with fail
              go_round
              case rel => exact ⟨j + 1, by omega, by go_num, by rw [HMJ.out, ← bs_app, HOU.out]; rfl, by rw [← HF1.out], by rw [← HF1'.out], by rw [← HG1'.out]⟩
              case measure => simp [intOf]; omega
            · rw [if_neg hc] at HMJ
              have hci : ¬ (F0 : Int) < (F1 : Int) := by omega
              clear hc
              go_wp2_with fail
              go_round
              case rel => exact ⟨j + 1, by omega, by go_num, by rw [HMJ.out, ← bs_app, HOU.out]; rfl, by rw [← HF1.out], by rw [← HF1'.out], by rw [← HG1'.out]⟩
              case measure => simp [intOf]; omega
    · obtain rfl : j = s.size := by omega
      go_wp2_with fail
      go_ret
      exact ⟨rfl, rfl⟩

theorem UpperOf_any (s t : ByteArray) (w : World) (hs : s.size ≤ 4294967296) (ht : t.size ≤ 4294967296) :
    Calls Try.prog 99 #[.string s, .string t] w fun e w' => e = .returned (.string (bs (mix true s.data.toList t.data.toList))) ∧ w = w' := by
  go_enter Try.func99, Try.ntmps99
  go_wp2_with fail
  refine (l08Mix_any s t true _ hs ht).mono ?_
  rintro e w1 ⟨rfl, rfl⟩
  go_wp2_with fail
  go_ret
  exact ⟨rfl, rfl⟩
theorem LowerOf_any (s t : ByteArray) (w : World) (hs : s.size ≤ 4294967296) (ht : t.size ≤ 4294967296) :
    Calls Try.prog 98 #[.string s, .string t] w fun e w' => e = .returned (.string (bs (mix false s.data.toList t.data.toList))) ∧ w = w' := by
  go_enter Try.func98, Try.ntmps98
  go_wp2_with fail
  refine (l08Mix_any s t false _ hs ht).mono ?_
  rintro e w1 ⟨rfl, rfl⟩
  go_wp2_with fail
  go_ret
  exact ⟨rfl, rfl⟩

end Go.Proofs.Ytpeopfkechbelaa
