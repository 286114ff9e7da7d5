
/-
  The contracts of IsAbove on both sides, and of the reference's look at two paths; no condition beyond the length of the texts.
-/
import Derived.Test.YtpeopfkechbelaaAbove
namespace Go.Proofs.Ytpeopfkechbelaa
open Go.ChangeShapes Go.WideShapes Go.ChangeAt Go.RowKit Go.Deep Go.BigFrame
set_option linter.unusedVariables false

theorem l16Above_any (s t : ByteArray) (w : World) (hs : s.size ≤ 4294967296) (hst : s.size = t.size) : Calls Try.prog 71 #[.string s, .string t] w fun e w' => e = .returned (.bool (aboveB s.data.toList t.data.toList)) ∧ w = w' := by
  obtain ⟨l, hl⟩ : ∃ l, l = s.data.toList := ⟨_, rfl⟩
  obtain ⟨m, hm⟩ : ∃ m, m = t.data.toList := ⟨_, rfl⟩
  have hlz : l.length = s.size := by rw [hl, size_list]
  have hmz : m.length = s.size := by rw [hm, size_list, hst]
  rw [← hl, ← hm]
  have hts : s.size ≤ t.size := by omega
  have HL := Lib.hid hl
  have HM := Lib.hid hm
  have HLZ := Lib.hid hlz
  have HMZ := Lib.hid hmz
  clear hl hm hlz hmz hst
  go_enter Try.func71, Try.ntmps71
  go_wp2_with fail
  go_loop [5, 6] (fun a i => ∃ k : Nat, k ≤ s.size ∧ i = .int .i64 k ∧ a = .int .i64 ((fw (l.take k) : Int) - fw (m.take k)) ∧ ∀ j, j ≤ k → fw (m.take j) ≤ fw (l.take j)) (fun _ i => s.size - (intOf i).toNat)
  case atStart => exact ⟨0, Nat.zero_le _, rfl, by simp [fw], fun j hj => by obtain rfl : j = 0 := by omega
                                                                             simp [fw]⟩
  case round =>
    obtain ⟨k, hk, rfl, rfl, hall⟩ := hrel
    have hf1 := Nat.le_trans (fw_le (l.take k)) (List.length_take_le _ _)
    have hf2 := Nat.le_trans (fw_le (m.take k)) (List.length_take_le _ _)
    have hge := hall k (Nat.le_refl _)
    have HA := Lib.hid hall
    clear hall
    by_cases hlt : k < s.size
    · have hkl : k < l.length := by rw [HLZ.out]; exact hlt
      have hkm : k < m.length := by rw [HMZ.out]; exact hlt
      have hkt : k < t.size := by omega
      have hg := at_get s k hlt
      have hg2 := at_get t k hkt
      rw [← HL.out] at hg
      rw [← HM.out] at hg2
      have e1 := fw_take l k hkl
      have e2 := fw_take m k hkm
      have hno := aboveB_no (l := l) (m := m) (n := s.size) (k := k + 1) HLZ.out (by omega)
      have hyes : fw (m.take (k + 1)) ≤ fw (l.take (k + 1)) → ∀ j, j ≤ k + 1 → fw (m.take j) ≤ fw (l.take j) := fun h j hj => by
        by_cases q : j ≤ k
        · exact HA.out j q
        · obtain rfl : j = k + 1 := by omega
          exact h
      obtain ⟨a1, hA1⟩ : ∃ a1, a1 = fw (l.take (k + 1)) := ⟨_, rfl⟩
      obtain ⟨b1, hB1⟩ : ∃ b1, b1 = fw (m.take (k + 1)) := ⟨_, rfl⟩
      rw [← hA1] at e1
      rw [← hB1] at e2
      rw [← hA1, ← hB1] at hno hyes
      have HA1 := Lib.hid hA1
      have HB1 := Lib.hid hB1
      clear hA1 hB1
      generalize fw (l.take k) = a at *
      generalize fw (m.take k) = b at *
      generalize at_ l k = c at *
      generalize at_ m k = d at *
      have hcn : ∀ x : UInt8, ¬ x = 102 → ((x.toNat : Int) == 102) = false := fun x h => by rw [show (102 : Int) = ((102 : UInt8).toNat : Int) from rfl, u8_eq]; simp [h]
      have HN := Lib.hid hno
      have HY := Lib.hid hyes
      clear hno hyes
      by_cases h1 : c = 102
      · have hb : ((c.toNat : Int) == 102) = true := by rw [h1]; rfl
        rw [if_pos h1] at e1
        by_cases h2 : d = 102
        · have hb2 : ((d.toNat : Int) == 102) = true := by rw [h2]; rfl
          rw [if_pos h2] at e2
          have ha1 : (a1 : Int) - b1 = a + 1 - b - 1 := by omega
          have hle : b1 ≤ a1 := by omega
          have HE := Lib.hid ha1
          clear hcn h1 h2 e1 e2 ha1
          go_wp2_with fail
          go_round
          case rel => exact ⟨k + 1, by omega, by go_num, by rw [← HA1.out, ← HB1.out]; exact congrArg (Value.int .i64) (by have := HE.out; omega), HY.out hle⟩
          case measure => simp [intOf]; omega
        · have hb2 : ((d.toNat : Int) == 102) = false := hcn d h2
          rw [if_neg h2] at e2
          have ha1 : (a1 : Int) - b1 = a + 1 - b := by omega
          have hle : b1 ≤ a1 := by omega
          have HE := Lib.hid ha1
          clear hcn h1 h2 e1 e2 ha1
          go_wp2_with fail
          go_round
          case rel => exact ⟨k + 1, by omega, by go_num, by rw [← HA1.out, ← HB1.out]; exact congrArg (Value.int .i64) (by have := HE.out; omega), HY.out hle⟩
          case measure => simp [intOf]; omega
      · have hb : ((c.toNat : Int) == 102) = false := hcn c h1
        rw [if_neg h1] at e1
        by_cases h2 : d = 102
        · have hb2 : ((d.toNat : Int) == 102) = true := by rw [h2]; rfl
          rw [if_pos h2] at e2
          by_cases h3 : a = b
          · have HE := Lib.hid (HN.out (by omega))
            clear hcn h1 h2 e1 e2
            go_wp2_with fail
            go_ret
            exact ⟨by rw [HE.out]; rfl, rfl⟩
          · have ha1 : (a1 : Int) - b1 = a - b - 1 := by omega
            have hle : b1 ≤ a1 := by omega
            have hlt2 : b < a := by omega
            have HE := Lib.hid ha1
            clear hcn h1 h2 h3 e1 e2 ha1
            go_wp2_with fail
            go_round
            case rel => exact ⟨k + 1, by omega, by go_num, by rw [← HA1.out, ← HB1.out]; exact congrArg (Value.int .i64) (by have := HE.out; omega), HY.out hle⟩
            case measure => simp [intOf]; omega
        · have hb2 : ((d.toNat : Int) == 102) = false := hcn d h2
          rw [if_neg h2] at e2
          have ha1 : (a1 : Int) - b1 = a - b := by omega
          have hle : b1 ≤ a1 := by omega
          have HE := Lib.hid ha1
          clear hcn h1 h2 e1 e2 ha1
          go_wp2_with fail
          go_round
          case rel => exact ⟨k + 1, by omega, by go_num, by rw [← HA1.out, ← HB1.out]; exact congrArg (Value.int .i64) (by have := HE.out; omega), HY.out hle⟩
          case measure => simp [intOf]; omega
    · obtain rfl : k = s.size := by omega
      have HE := Lib.hid (aboveB_yes HLZ.out HMZ.out HA.out)
      go_wp2_with fail
      go_ret
      exact ⟨by rw [HE.out]; rfl, rfl⟩

theorem specIsAbove_any (s t : ByteArray) (w : World) (hs : s.size ≤ 4294967296) (ht : t.size ≤ 4294967296) : Calls Try.prog 27 #[.string s, .string t] w fun e w' => e = .returned (.bool (isAbove s.data.toList t.data.toList)) ∧ w = w' := by
  have hst := fun w => specSameFrame_any s t w hs ht
  by_cases hfr : sameFrame s.data.toList t.data.toList = true
  case neg =>
    have h' : sameFrame s.data.toList t.data.toList = false := by simpa using hfr
    rw [show isAbove s.data.toList t.data.toList = false by unfold isAbove; rw [h']; rfl]
    rw [h'] at hst
    clear hfr h'
    go_enter Try.func27, Try.ntmps27
    go_wp2_with fail
    refine (hst _).mono ?_
    rintro e w1 ⟨rfl, rfl⟩
    go_wp2_with fail
    go_ret
    exact ⟨rfl, rfl⟩
  have hlen := sameFrame_len hfr
  rw [size_list, size_list] at hlen
  rw [show isAbove s.data.toList t.data.toList = aboveB s.data.toList t.data.toList by unfold isAbove; rw [hfr]; rfl]
  rw [hfr] at hst
  have HST := Lib.hid hst
  clear hst hfr
  obtain ⟨l, hl⟩ : ∃ l, l = s.data.toList := ⟨_, rfl⟩
  obtain ⟨m, hm⟩ : ∃ m, m = t.data.toList := ⟨_, rfl⟩
  have hlz : l.length = s.size := by rw [hl, size_list]
  have hmz : m.length = s.size := by rw [hm, size_list, hlen]
  rw [← hl, ← hm]
  have hts : s.size ≤ t.size := by omega
  have HL := Lib.hid hl
  have HM := Lib.hid hm
  have HLZ := Lib.hid hlz
  have HMZ := Lib.hid hmz
  clear hl hm hlz hmz hlen
  go_enter Try.func27, Try.ntmps27
  go_wp2_with fail
  refine (HST.out _).mono ?_
  rintro e w1 ⟨rfl, rfl⟩
  go_wp2_with fail
  go_loop [5, 6] (fun a i => ∃ k : Nat, k ≤ s.size ∧ i = .int .i64 k ∧ a = .int .i64 ((fw (l.take k) : Int) - fw (m.take k)) ∧ ∀ j, j ≤ k → fw (m.take j) ≤ fw (l.take j)) (fun _ i => s.size - (intOf i).toNat)
  case atStart => exact ⟨0, Nat.zero_le _, rfl, by simp [fw], fun j hj => by obtain rfl : j = 0 := by omega
                                                                             simp [fw]⟩
  case round =>
    obtain ⟨k, hk, rfl, rfl, hall⟩ := hrel
    have hf1 := Nat.le_trans (fw_le (l.take k)) (List.length_take_le _ _)
    have hf2 := Nat.le_trans (fw_le (m.take k)) (List.length_take_le _ _)
    have hge := hall k (Nat.le_refl _)
    have HA := Lib.hid hall
    clear hall
    by_cases hlt : k < s.size
    · have hkl : k < l.length := by rw [HLZ.out]; exact hlt
      have hkm : k < m.length := by rw [HMZ.out]; exact hlt
      have hkt : k < t.size := by omega
      have hg := at_get s k hlt
      have hg2 := at_get t k hkt
      rw [← HL.out] at hg
      rw [← HM.out] at hg2
      have e1 := fw_take l k hkl
      have e2 := fw_take m k hkm
      have hno := aboveB_no (l := l) (m := m) (n := s.size) (k := k + 1) HLZ.out (by omega)
      have hyes : fw (m.take (k + 1)) ≤ fw (l.take (k + 1)) → ∀ j, j ≤ k + 1 → fw (m.take j) ≤ fw (l.take j) := fun h j hj => by
        by_cases q : j ≤ k
        · exact HA.out j q
        · obtain rfl : j = k + 1 := by omega
          exact h
      obtain ⟨a1, hA1⟩ : ∃ a1, a1 = fw (l.take (k + 1)) := ⟨_, rfl⟩
      obtain ⟨b1, hB1⟩ : ∃ b1, b1 = fw (m.take (k + 1)) := ⟨_, rfl⟩
      rw [← hA1] at e1
      rw [← hB1] at e2
      rw [← hA1, ← hB1] at hno hyes
      have HA1 := Lib.hid hA1
      have HB1 := Lib.hid hB1
      clear hA1 hB1
      generalize fw (l.take k) = a at *
      generalize fw (m.take k) = b at *
      generalize at_ l k = c at *
      generalize at_ m k = d at *
      have hcn : ∀ x : UInt8, ¬ x = 102 → ((x.toNat : Int) == 102) = false := fun x h => by rw [show (102 : Int) = ((102 : UInt8).toNat : Int) from rfl, u8_eq]; simp [h]
      have HN := Lib.hid hno
      have HY := Lib.hid hyes
      clear hno hyes
      by_cases h1 : c = 102
      · have hb : ((c.toNat : Int) == 102) = true := by rw [h1]; rfl
        rw [if_pos h1] at e1
        by_cases h2 : d = 102
        · have hb2 : ((d.toNat : Int) == 102) = true := by rw [h2]; rfl
          rw [if_pos h2] at e2
          have ha1 : (a1 : Int) - b1 = a + 1 - b - 1 := by omega
          have hle : b1 ≤ a1 := by omega
          have HE := Lib.hid ha1
          clear hcn h1 h2 e1 e2 ha1
          go_wp2_with fail
          go_round
          case rel => exact ⟨k + 1, by omega, by go_num, by rw [← HA1.out, ← HB1.out]; exact congrArg (Value.int .i64) (by have := HE.out; omega), HY.out hle⟩
          case measure => simp [intOf]; omega
        · have hb2 : ((d.toNat : Int) == 102) = false := hcn d h2
          rw [if_neg h2] at e2
          have ha1 : (a1 : Int) - b1 = a + 1 - b := by omega
          have hle : b1 ≤ a1 := by omega
          have HE := Lib.hid ha1
          clear hcn h1 h2 e1 e2 ha1
          go_wp2_with fail
          go_round
          case rel => exact ⟨k + 1, by omega, by go_num, by rw [← HA1.out, ← HB1.out]; exact congrArg (Value.int .i64) (by have := HE.out; omega), HY.out hle⟩
          case measure => simp [intOf]; omega
      · have hb : ((c.toNat : Int) == 102) = false := hcn c h1
        rw [if_neg h1] at e1
        by_cases h2 : d = 102
        · have hb2 : ((d.toNat : Int) == 102) = true := by rw [h2]; rfl
          rw [if_pos h2] at e2
          by_cases h3 : a = b
          · have HE := Lib.hid (HN.out (by omega))
            clear hcn h1 h2 e1 e2
            go_wp2_with fail
            go_ret
            exact ⟨by rw [HE.out]; rfl, rfl⟩
          · have ha1 : (a1 : Int) - b1 = a - b - 1 := by omega
            have hle : b1 ≤ a1 := by omega
            have hlt2 : b < a := by omega
            have HE := Lib.hid ha1
            clear hcn h1 h2 h3 e1 e2 ha1
            go_wp2_with fail
            go_round
            case rel => exact ⟨k + 1, by omega, by go_num, by rw [← HA1.out, ← HB1.out]; exact congrArg (Value.int .i64) (by have := HE.out; omega), HY.out hle⟩
            case measure => simp [intOf]; omega
        · have hb2 : ((d.toNat : Int) == 102) = false := hcn d h2
          rw [if_neg h2] at e2
          have ha1 : (a1 : Int) - b1 = a - b := by omega
          have hle : b1 ≤ a1 := by omega
          have HE := Lib.hid ha1
          clear hcn h1 h2 e1 e2 ha1
          go_wp2_with fail
          go_round
          case rel => exact ⟨k + 1, by omega, by go_num, by rw [← HA1.out, ← HB1.out]; exact congrArg (Value.int .i64) (by have := HE.out; omega), HY.out hle⟩
          case measure => simp [intOf]; omega
    · obtain rfl : k = s.size := by omega
      have HE := Lib.hid (aboveB_yes HLZ.out HMZ.out HA.out)
      go_wp2_with fail
      go_ret
      exact ⟨by rw [HE.out]; rfl, rfl⟩

theorem implIsAbove_any (s t : ByteArray) (w : World) (hs : s.size ≤ 4294967296) (ht : t.size ≤ 4294967296) : Calls Try.prog 11 #[.string s, .string t] w fun e w' => e = .returned (.bool (isAbove s.data.toList t.data.toList)) ∧ w = w' := by
  have hst := fun w => implSameFrame_any s t w hs ht
  by_cases hfr : sameFrame s.data.toList t.data.toList = true
  case neg =>
    have h' : sameFrame s.data.toList t.data.toList = false := by simpa using hfr
    rw [show isAbove s.data.toList t.data.toList = false by unfold isAbove; rw [h']; rfl]
    rw [h'] at hst
    clear hfr h'
    go_enter Try.func11, Try.ntmps11
    go_wp2_with fail
    refine (hst _).mono ?_
    rintro e w1 ⟨rfl, rfl⟩
    go_wp2_with fail
    go_ret
    exact ⟨rfl, rfl⟩
  have hlen := sameFrame_len hfr
  have hfw := (sameFrame_parts hfr).2.2.2
  rw [size_list, size_list] at hlen
  rw [show isAbove s.data.toList t.data.toList = aboveB s.data.toList t.data.toList by unfold isAbove; rw [hfr]; rfl]
  rw [hfr] at hst
  have HST := Lib.hid hst
  clear hst hfr
  have hf1 := fun k w (hk : k ≤ s.size) => forwards_any s k w hs hk
  have hf2 := fun k w (hk : k ≤ s.size) => forwards_any t k w ht (by omega)
  obtain ⟨l, hl⟩ : ∃ l, l = s.data.toList := ⟨_, rfl⟩
  obtain ⟨m, hm⟩ : ∃ m, m = t.data.toList := ⟨_, rfl⟩
  have hlz : l.length = s.size := by rw [hl, size_list]
  have hmz : m.length = s.size := by rw [hm, size_list, hlen]
  rw [← hl] at hf1 hfw ⊢
  rw [← hm] at hf2 hfw ⊢
  have HLZ := Lib.hid hlz
  have HMZ := Lib.hid hmz
  have HF1 := Lib.hid hf1
  have HF2 := Lib.hid hf2
  have HFW := Lib.hid hfw
  clear hl hm hlz hmz hlen hf1 hf2 hfw
  go_enter Try.func11, Try.ntmps11
  go_wp2_with fail
  refine (HST.out _).mono ?_
  rintro e w1 ⟨rfl, rfl⟩
  go_wp2_with fail
  go_loop [12] (fun i => ∃ k : Nat, k ≤ s.size ∧ i = .int .i64 k ∧ ∀ j, j < k → fw (m.take j) ≤ fw (l.take j)) (fun i => s.size - (intOf i).toNat)
  case atStart => exact ⟨0, Nat.zero_le _, rfl, fun j hj => by omega⟩
  case round =>
    obtain ⟨k, hk, rfl, hall⟩ := hrel
    have HA := Lib.hid hall
    clear hall
    by_cases hlt : k < s.size
    · have hno := aboveB_no (l := l) (m := m) (n := s.size) (k := k) HLZ.out (by omega)
      have hyes : fw (m.take k) ≤ fw (l.take k) → ∀ j, j < k + 1 → fw (m.take j) ≤ fw (l.take j) := fun h j hj => by
        by_cases q : j < k
        · exact HA.out j q
        · obtain rfl : j = k := by omega
          exact h
      have HC1 := Lib.hid (fun w => HF1.out k w hk)
      have HC2 := Lib.hid (fun w => HF2.out k w hk)
      generalize fw (l.take k) = a at *
      generalize fw (m.take k) = b at *
      have HN := Lib.hid hno
      have HY := Lib.hid hyes
      clear hno hyes
      have hi : (k : Int) < (s.size : Int) := by omega
      by_cases hab : (a : Int) < (b : Int)
      · go_wp2_with fail
        refine (HC1.out _).mono ?_
        rintro e w1 ⟨rfl, rfl⟩
        go_wp2_with fail
        refine (HC2.out _).mono ?_
        rintro e w1 ⟨rfl, rfl⟩
        go_wp2_with fail
        go_ret
        exact ⟨by rw [HN.out (by omega)]; rfl, rfl⟩
      · go_wp2_with fail
        refine (HC1.out _).mono ?_
        rintro e w1 ⟨rfl, rfl⟩
        go_wp2_with fail
        refine (HC2.out _).mono ?_
        rintro e w1 ⟨rfl, rfl⟩
        go_wp2_with fail
        go_round
        case rel => exact ⟨k + 1, by omega, by go_num, HY.out (by omega)⟩
        case measure => simp [intOf]; omega
    · obtain rfl : k = s.size := by omega
      have HE := Lib.hid (aboveB_yes HLZ.out HMZ.out fun j hj => by
        by_cases q : j < s.size
        · exact HA.out j q
        · obtain rfl : j = s.size := by omega
          have e1 := List.take_of_length_le (l := l) (i := s.size) (by rw [HLZ.out]; exact Nat.le_refl _)
          have e2 := List.take_of_length_le (l := m) (i := s.size) (by rw [HMZ.out]; exact Nat.le_refl _)
          rw [e1, e2, HFW.out]
          exact Nat.le_refl _)
      go_wp2_with fail
      go_ret
      exact ⟨by rw [HE.out]; rfl, rfl⟩

end Go.Proofs.Ytpeopfkechbelaa
