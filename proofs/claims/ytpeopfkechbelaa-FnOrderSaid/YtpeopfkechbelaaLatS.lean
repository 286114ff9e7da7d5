
/-
  Contracts of the program's UpperOf, LowerOf and AreComparable; no condition beyond the length of the texts. (printed by wip/gen_lats.py)
-/
import Derived.Test.YtpeopfkechbelaaMix
import Derived.Test.YtpeopfkechbelaaAbove2
import Derived.Test.YtpeopfkechbelaaLatP
namespace Go.Proofs.Ytpeopfkechbelaa
open Go.ChangeShapes Go.WideShapes Go.ChangeAt Go.RowKit Go.Deep Go.BigFrame
set_option linter.unusedVariables false
set_option linter.unusedSimpArgs false

theorem mixF_le (up : Bool) (s t : List UInt8) (j : Nat) : mixF up s t j ≤ j := by
  have a := fk_le s j
  have b := fk_le t j
  cases up
  · rw [loF]; omega
  · rw [upF]; omega

theorem up1_any (a b : Nat) (w : World) (ha : a ≤ 1000) (hb : b ≤ 1000) : Calls Try.prog 53 #[.int .i64 a, .int .i64 b] w fun e w' => e = .returned (.int .i64 ((max a b : Nat) : Int)) ∧ w = w' := by
  go_enter Try.func53, Try.ntmps53
  go_wp2_with fail
  go_ret
  exact ⟨congrArg (fun z => Ending.returned (Value.int .i64 z)) (show max (a : Int) (b : Int) = ((max a b : Nat) : Int) by omega), rfl⟩

set_option maxHeartbeats 1000000 in
theorem betweenU_any (s t : ByteArray) (w : World) (hs : s.size ≤ 4294967296) (ht : t.size ≤ 4294967296) :
    Calls Try.prog 52 #[.string s, .string t, .func (.func 53) #[] #[]] w fun e w' => e = .returned (.string (bs (mix true s.data.toList t.data.toList))) ∧ w = w' := by
  have HF := Lib.hid (fun w => implSameFrame_any s t w hs ht)
  cases h : sameFrame s.data.toList t.data.toList
  · rw [show mix true s.data.toList t.data.toList = [] from if_neg (by rw [h]; simp)]
    rw [h] at HF
    clear h
    go_enter Try.func52, Try.ntmps52
    go_wp2_with fail
    refine (HF.out _).mono ?_
    rintro e w1 ⟨rfl, rfl⟩
    go_wp2_with fail
    go_ret
    exact ⟨rfl, rfl⟩
  rw [mix_yes h, size_list]
  rw [h] at HF
  have hlen := sameFrame_len h
  rw [size_list, size_list] at hlen
  have hp := isStrip_parts (sameFrame_parts h).1
  rw [size_list] at hp
  have hs16 : s.size ≤ 16 := by omega
  have HFS := Lib.hid (fun (k : Nat) w (hk : k ≤ s.size) => forwards_any s k w hs hk)
  have HFT := Lib.hid (fun (k : Nat) w (hk : k ≤ s.size) => forwards_any t k w ht (by omega))
  have HSL := Lib.hid (fk_le s.data.toList)
  have HTL := Lib.hid (fk_le t.data.toList)
  have HM := Lib.hid (mixL_succ (mixF true s.data.toList t.data.toList))
  have HML := Lib.hid (mixL_len (mixF true s.data.toList t.data.toList))
  have HFL := Lib.hid (mixF_le true s.data.toList t.data.toList)
  have HFV := Lib.hid (fun j => show mixF true s.data.toList t.data.toList j = max (fk s.data.toList j) (fk t.data.toList j) from rfl)
  have HF0 := Lib.hid (mixF_zero true s.data.toList t.data.toList)
  generalize mixF true s.data.toList t.data.toList = F at *
  clear h hp
  go_enter Try.func52, Try.ntmps52
  go_wp2_with fail
  refine (HF.out _).mono ?_
  rintro e w1 ⟨rfl, rfl⟩
  go_wp2_with fail
  go_loop [7, 8, 17] (fun ov lv kv => ∃ j : Nat, j ≤ s.size ∧ kv = .int .i64 j ∧ ov = .string (bs (mixL F j)) ∧ lv = .int .i64 (F j : Nat)) (fun _ _ kv => s.size - (intOf kv).toNat)
  case atStart => exact ⟨0, Nat.zero_le _, rfl, rfl, by rw [HF0.out]; rfl⟩
  case round =>
    obtain ⟨j, hj, rfl, rfl, rfl⟩ := hrel
    by_cases hlt : j < s.size
    · have hi : (j : Int) < (s.size : Int) := by omega
      have hbz : (bs (mixL F j)).size ≤ 100 := by rw [bs_size, HML.out]; omega
      have ej : ((j + 1 : Nat) : Int) = (j : Int) + 1 := by omega
      have HX := Lib.hid (fun w => show Calls Try.prog 56 #[.string s, .int .i64 ((j : Int) + 1)] w (fun e w' => e = .returned (.int .i64 ((fk s.data.toList (j + 1) : Nat) : Int)) ∧ w = w') from by rw [← ej]; exact HFS.out (j + 1) w (by omega))
      have HY := Lib.hid (fun w => show Calls Try.prog 56 #[.string t, .int .i64 ((j : Int) + 1)] w (fun e w' => e = .returned (.int .i64 ((fk t.data.toList (j + 1) : Nat) : Int)) ∧ w = w') from by rw [← ej]; exact HFT.out (j + 1) w (by omega))
      have h1' := HSL.out (j + 1)
      have h2' := HTL.out (j + 1)
      have HU := Lib.hid (fun w => up1_any (fk s.data.toList (j + 1)) (fk t.data.toList (j + 1)) w (by omega) (by omega))
      have hfv := HFV.out (j + 1)
      rw [← hfv] at HU
      have HMJ := Lib.hid (HM.out j)
      have hF0 := HFL.out j
      have hF1 := HFL.out (j + 1)
      clear hfv ej
      generalize fk s.data.toList (j + 1) = f1 at *
      generalize fk t.data.toList (j + 1) = g1 at *
      generalize hou : bs (mixL F j) = ou at *
      have HOU := Lib.hid hou
      clear hou
      obtain ⟨F1, e1⟩ : ∃ F1, F1 = F (j + 1) := ⟨_, rfl⟩
      obtain ⟨F0, e0⟩ : ∃ F0, F0 = F j := ⟨_, rfl⟩
      rw [← e1] at HMJ HU hF1
      rw [← e0] at HMJ hF0 ⊢
      have HE1 := Lib.hid e1
      clear e1 e0
      by_cases hc : F0 < F1
      · rw [if_pos hc] at HMJ
        have hci : (F0 : Int) < (F1 : Int) := by omega
        clear hc
        go_wp2_with fail
        refine (HX.out _).mono ?_
        rintro e w2 ⟨rfl, rfl⟩
        go_wp2_with fail
        refine (HY.out _).mono ?_
        rintro e w2 ⟨rfl, rfl⟩
        go_wp2_with fail
        refine (HU.out _).mono ?_
        rintro e w2 ⟨rfl, rfl⟩
        go_wp2_with fail
        go_round
        case rel => exact ⟨j + 1, by omega, by go_num, by rw [HMJ.out, ← bs_app, HOU.out]; rfl, by rw [← HE1.out]⟩
        case measure => simp [intOf]; omega
      · rw [if_neg hc] at HMJ
        have hci : ¬ (F0 : Int) < (F1 : Int) := by omega
        clear hc
        go_wp2_with fail
        refine (HX.out _).mono ?_
        rintro e w2 ⟨rfl, rfl⟩
        go_wp2_with fail
        refine (HY.out _).mono ?_
        rintro e w2 ⟨rfl, rfl⟩
        go_wp2_with fail
        refine (HU.out _).mono ?_
        rintro e w2 ⟨rfl, rfl⟩
        go_wp2_with fail
        go_round
        case rel => exact ⟨j + 1, by omega, by go_num, by rw [HMJ.out, ← bs_app, HOU.out]; rfl, by rw [← HE1.out]⟩
        case measure => simp [intOf]; omega
    · obtain rfl : j = s.size := by omega
      go_wp2_with fail
      go_ret
      exact ⟨rfl, rfl⟩

theorem implUpperOf_any (s t : ByteArray) (w : World) (hs : s.size ≤ 4294967296) (ht : t.size ≤ 4294967296) :
    Calls Try.prog 9 #[.string s, .string t] w fun e w' => e = .returned (.string (bs (mix true s.data.toList t.data.toList))) ∧ w = w' := by
  go_enter Try.func9, Try.ntmps9
  go_wp2_with fail
  refine (betweenU_any s t _ hs ht).mono ?_
  rintro e w1 ⟨rfl, rfl⟩
  go_wp2_with fail
  go_ret
  exact ⟨rfl, rfl⟩

theorem lo1_any (a b : Nat) (w : World) (ha : a ≤ 1000) (hb : b ≤ 1000) : Calls Try.prog 54 #[.int .i64 a, .int .i64 b] w fun e w' => e = .returned (.int .i64 ((min a b : Nat) : Int)) ∧ w = w' := by
  go_enter Try.func54, Try.ntmps54
  go_wp2_with fail
  go_ret
  exact ⟨congrArg (fun z => Ending.returned (Value.int .i64 z)) (show min (a : Int) (b : Int) = ((min a b : Nat) : Int) by omega), rfl⟩

set_option maxHeartbeats 1000000 in
theorem betweenD_any (s t : ByteArray) (w : World) (hs : s.size ≤ 4294967296) (ht : t.size ≤ 4294967296) :
    Calls Try.prog 52 #[.string s, .string t, .func (.func 54) #[] #[]] w fun e w' => e = .returned (.string (bs (mix false s.data.toList t.data.toList))) ∧ w = w' := by
  have HF := Lib.hid (fun w => implSameFrame_any s t w hs ht)
  cases h : sameFrame s.data.toList t.data.toList
  · rw [show mix false s.data.toList t.data.toList = [] from if_neg (by rw [h]; simp)]
    rw [h] at HF
    clear h
    go_enter Try.func52, Try.ntmps52
    go_wp2_with fail
    refine (HF.out _).mono ?_
    rintro e w1 ⟨rfl, rfl⟩
    go_wp2_with fail
    go_ret
    exact ⟨rfl, rfl⟩
  rw [mix_yes h, size_list]
  rw [h] at HF
  have hlen := sameFrame_len h
  rw [size_list, size_list] at hlen
  have hp := isStrip_parts (sameFrame_parts h).1
  rw [size_list] at hp
  have hs16 : s.size ≤ 16 := by omega
  have HFS := Lib.hid (fun (k : Nat) w (hk : k ≤ s.size) => forwards_any s k w hs hk)
  have HFT := Lib.hid (fun (k : Nat) w (hk : k ≤ s.size) => forwards_any t k w ht (by omega))
  have HSL := Lib.hid (fk_le s.data.toList)
  have HTL := Lib.hid (fk_le t.data.toList)
  have HM := Lib.hid (mixL_succ (mixF false s.data.toList t.data.toList))
  have HML := Lib.hid (mixL_len (mixF false s.data.toList t.data.toList))
  have HFL := Lib.hid (mixF_le false s.data.toList t.data.toList)
  have HFV := Lib.hid (fun j => show mixF false s.data.toList t.data.toList j = min (fk s.data.toList j) (fk t.data.toList j) from rfl)
  have HF0 := Lib.hid (mixF_zero false s.data.toList t.data.toList)
  generalize mixF false s.data.toList t.data.toList = F at *
  clear h hp
  go_enter Try.func52, Try.ntmps52
  go_wp2_with fail
  refine (HF.out _).mono ?_
  rintro e w1 ⟨rfl, rfl⟩
  go_wp2_with fail
  go_loop [7, 8, 17] (fun ov lv kv => ∃ j : Nat, j ≤ s.size ∧ kv = .int .i64 j ∧ ov = .string (bs (mixL F j)) ∧ lv = .int .i64 (F j : Nat)) (fun _ _ kv => s.size - (intOf kv).toNat)
  case atStart => exact ⟨0, Nat.zero_le _, rfl, rfl, by rw [HF0.out]; rfl⟩
  case round =>
    obtain ⟨j, hj, rfl, rfl, rfl⟩ := hrel
    by_cases hlt : j < s.size
    · have hi : (j : Int) < (s.size : Int) := by omega
      have hbz : (bs (mixL F j)).size ≤ 100 := by rw [bs_size, HML.out]; omega
      have ej : ((j + 1 : Nat) : Int) = (j : Int) + 1 := by omega
      have HX := Lib.hid (fun w => show Calls Try.prog 56 #[.string s, .int .i64 ((j : Int) + 1)] w (fun e w' => e = .returned (.int .i64 ((fk s.data.toList (j + 1) : Nat) : Int)) ∧ w = w') from by rw [← ej]; exact HFS.out (j + 1) w (by omega))
      have HY := Lib.hid (fun w => show Calls Try.prog 56 #[.string t, .int .i64 ((j : Int) + 1)] w (fun e w' => e = .returned (.int .i64 ((fk t.data.toList (j + 1) : Nat) : Int)) ∧ w = w') from by rw [← ej]; exact HFT.out (j + 1) w (by omega))
      have h1' := HSL.out (j + 1)
      have h2' := HTL.out (j + 1)
      have HU := Lib.hid (fun w => lo1_any (fk s.data.toList (j + 1)) (fk t.data.toList (j + 1)) w (by omega) (by omega))
      have hfv := HFV.out (j + 1)
      rw [← hfv] at HU
      have HMJ := Lib.hid (HM.out j)
      have hF0 := HFL.out j
      have hF1 := HFL.out (j + 1)
      clear hfv ej
      generalize fk s.data.toList (j + 1) = f1 at *
      generalize fk t.data.toList (j + 1) = g1 at *
      generalize hou : bs (mixL F j) = ou at *
      have HOU := Lib.hid hou
      clear hou
      obtain ⟨F1, e1⟩ : ∃ F1, F1 = F (j + 1) := ⟨_, rfl⟩
      obtain ⟨F0, e0⟩ : ∃ F0, F0 = F j := ⟨_, rfl⟩
      rw [← e1] at HMJ HU hF1
      rw [← e0] at HMJ hF0 ⊢
      have HE1 := Lib.hid e1
      clear e1 e0
      by_cases hc : F0 < F1
      · rw [if_pos hc] at HMJ
        have hci : (F0 : Int) < (F1 : Int) := by omega
        clear hc
        go_wp2_with fail
        refine (HX.out _).mono ?_
        rintro e w2 ⟨rfl, rfl⟩
        go_wp2_with fail
        refine (HY.out _).mono ?_
        rintro e w2 ⟨rfl, rfl⟩
        go_wp2_with fail
        refine (HU.out _).mono ?_
        rintro e w2 ⟨rfl, rfl⟩
        go_wp2_with fail
        go_round
        case rel => exact ⟨j + 1, by omega, by go_num, by rw [HMJ.out, ← bs_app, HOU.out]; rfl, by rw [← HE1.out]⟩
        case measure => simp [intOf]; omega
      · rw [if_neg hc] at HMJ
        have hci : ¬ (F0 : Int) < (F1 : Int) := by omega
        clear hc
        go_wp2_with fail
        refine (HX.out _).mono ?_
        rintro e w2 ⟨rfl, rfl⟩
        go_wp2_with fail
        refine (HY.out _).mono ?_
        rintro e w2 ⟨rfl, rfl⟩
        go_wp2_with fail
        refine (HU.out _).mono ?_
        rintro e w2 ⟨rfl, rfl⟩
        go_wp2_with fail
        go_round
        case rel => exact ⟨j + 1, by omega, by go_num, by rw [HMJ.out, ← bs_app, HOU.out]; rfl, by rw [← HE1.out]⟩
        case measure => simp [intOf]; omega
    · obtain rfl : j = s.size := by omega
      go_wp2_with fail
      go_ret
      exact ⟨rfl, rfl⟩

theorem implLowerOf_any (s t : ByteArray) (w : World) (hs : s.size ≤ 4294967296) (ht : t.size ≤ 4294967296) :
    Calls Try.prog 10 #[.string s, .string t] w fun e w' => e = .returned (.string (bs (mix false s.data.toList t.data.toList))) ∧ w = w' := by
  go_enter Try.func10, Try.ntmps10
  go_wp2_with fail
  refine (betweenD_any s t _ hs ht).mono ?_
  rintro e w1 ⟨rfl, rfl⟩
  go_wp2_with fail
  go_ret
  exact ⟨rfl, rfl⟩

theorem implAreComparable_any (s t : ByteArray) (w : World) (hs : s.size ≤ 4294967296) (ht : t.size ≤ 4294967296) :
    Calls Try.prog 18 #[.string s, .string t] w fun e w' => e = .returned (.bool (isAbove s.data.toList t.data.toList || isAbove t.data.toList s.data.toList)) ∧ w = w' := by
  have H1 := Lib.hid (fun w => implIsAbove_any s t w hs ht)
  have H2 := Lib.hid (fun w => implIsAbove_any t s w ht hs)
  cases h1 : isAbove s.data.toList t.data.toList
  · rw [h1] at H1
    cases h2 : isAbove t.data.toList s.data.toList
    all_goals
      rw [h2] at H2
      clear h1 h2
      go_enter Try.func18, Try.ntmps18
      go_wp2_with fail
      refine (H1.out _).mono ?_
      rintro e w1 ⟨rfl, rfl⟩
      go_wp2_with fail
      refine (H2.out _).mono ?_
      rintro e w1 ⟨rfl, rfl⟩
      go_wp2_with fail
      go_ret
      exact ⟨rfl, rfl⟩
  · rw [h1] at H1
    clear h1
    go_enter Try.func18, Try.ntmps18
    go_wp2_with fail
    refine (H1.out _).mono ?_
    rintro e w1 ⟨rfl, rfl⟩
    go_wp2_with fail
    go_ret
    exact ⟨rfl, rfl⟩

end Go.Proofs.Ytpeopfkechbelaa
