
/-
  Contracts of the functions that tell what a strip is; no condition beyond the length of the text.
-/
import Derived.Test.YtpeopfkechbelaaNum
import Derived.Test.YtpeopfkechbelaaShelfC
namespace Go.Proofs.Ytpeopfkechbelaa
open Go.ChangeShapes Go.WideShapes Go.ChangeAt Go.RowKit Go.Deep Go.BigFrame
set_option linter.unusedVariables false

/-- the text of these bytes -/
def bs (l : List UInt8) : ByteArray := ⟨l.toArray⟩
theorem bs_list (l : List UInt8) : (bs l).data.toList = l := by simp [bs]
theorem bs_size (l : List UInt8) : (bs l).size = l.length := by
  show l.toArray.size = l.length
  simp
theorem bs_of (s : ByteArray) : bs s.data.toList = s := by simp [bs]
theorem size_list (s : ByteArray) : s.data.toList.length = s.size := by rw [Array.length_toList]; rfl

/-- how many letters d and f -/
def dn (l : List UInt8) : Nat := l.count 100
def fw (l : List UInt8) : Nat := l.count 102
def isStrip (l : List UInt8) : Bool := decide (dn l + fw l = l.length) && (inB (dn l) 1 8 && inB (fw l) 1 8)

theorem dn_le (l : List UInt8) : dn l ≤ l.length := List.count_le_length
theorem fw_le (l : List UInt8) : fw l ≤ l.length := List.count_le_length

theorem isStrip_parts {l : List UInt8} (h : isStrip l = true) : dn l + fw l = l.length ∧ 1 ≤ dn l ∧ dn l ≤ 8 ∧ 1 ≤ fw l ∧ fw l ≤ 8 := by
  simp only [isStrip, inB, Bool.and_eq_true, decide_eq_true_eq] at h
  omega

theorem implIsStrip_any (s : ByteArray) (w : World) (hs : s.size ≤ 4294967296) : Calls Try.prog 86 #[.string s] w fun e w' => e = .returned (.bool (isStrip s.data.toList)) ∧ w = w' := by
  have hd := dn_le s.data.toList
  have hf := fw_le s.data.toList
  rw [size_list] at hd hf
  have hcd := fun w => Try.strings_Count_one s 100 w
  have hcf := fun w => Try.strings_Count_one s 102 w
  rw [show Lib.countByte s.data.toList 100 = dn s.data.toList from rfl] at hcd
  rw [show Lib.countByte s.data.toList 102 = fw s.data.toList from rfl] at hcf
  have HC := Lib.hid hcd
  have HF := Lib.hid hcf
  clear hcd hcf
  have hdef : isStrip s.data.toList = (decide (dn s.data.toList + fw s.data.toList = s.size) && (inB (dn s.data.toList) 1 8 && inB (fw s.data.toList) 1 8)) := by
    unfold isStrip; rw [size_list]
  rw [hdef]
  generalize dn s.data.toList = d at *
  generalize fw s.data.toList = f at *
  by_cases h1 : d + f = s.size
  · have h1' : ((d : Int) + (f : Int) == (s.size : Int)) = true := by simp; omega
    rw [decide_eq_true h1]
    have H1 := Lib.hid h1
    clear h1 hdef
    by_cases h2 : inB d 1 8 = true
    · go_enter Try.func86, Try.ntmps86
      go_wp2_with fail
      refine (HC.out _).mono ?_
      rintro e w' ⟨rfl, hw⟩
      subst hw
      go_wp2_with fail
      refine (HF.out _).mono ?_
      rintro e w' ⟨rfl, hw⟩
      subst hw
      go_wp2_with (go_at_call 104; refine (within_any _ _ _ _).mono ?_; rintro e w' ⟨rfl, rfl⟩)
      go_ret
      exact ⟨by rw [h2]; rfl, rfl⟩
    · have h2' : inB d 1 8 = false := by simpa using h2
      clear h2
      go_enter Try.func86, Try.ntmps86
      go_wp2_with fail
      refine (HC.out _).mono ?_
      rintro e w' ⟨rfl, hw⟩
      subst hw
      go_wp2_with fail
      refine (HF.out _).mono ?_
      rintro e w' ⟨rfl, hw⟩
      subst hw
      go_wp2_with (go_at_call 104; refine (within_any _ _ _ _).mono ?_; rintro e w' ⟨rfl, rfl⟩)
      go_ret
      exact ⟨by rw [h2']; rfl, rfl⟩
  · have h1' : ((d : Int) + (f : Int) == (s.size : Int)) = false := by simp; omega
    rw [decide_eq_false h1]
    clear h1 hdef
    go_enter Try.func86, Try.ntmps86
    go_wp2_with fail
    refine (HC.out _).mono ?_
    rintro e w' ⟨rfl, hw⟩
    subst hw
    go_wp2_with fail
    refine (HF.out _).mono ?_
    rintro e w' ⟨rfl, hw⟩
    subst hw
    go_wp2_with (go_at_call 104; refine (within_any _ _ _ _).mono ?_; rintro e w' ⟨rfl, rfl⟩)
    go_ret
    exact ⟨rfl, rfl⟩

theorem both_le (l : List UInt8) : dn l + fw l ≤ l.length := by
  induction l with
  | nil => simp [dn, fw]
  | cons c l ih =>
    simp only [dn, fw, List.count_cons, List.length_cons] at ih ⊢
    by_cases h : c = 100
    · subst h; simp; omega
    · by_cases h2 : c = 102
      · subst h2; simp; omega
      · simp [h, h2]; omega

/-- the byte at a place, 0 behind the end -/
def at_ (l : List UInt8) (k : Nat) : UInt8 := l.getD k 0
theorem at_get (s : ByteArray) (k : Nat) (h : k < s.size) : s[k] = at_ s.data.toList k := by
  have h2 : k < s.data.toList.length := by rw [size_list]; exact h
  unfold at_
  simp only [List.getD, List.getElem?_eq_getElem h2, Option.getD_some]
  rfl

theorem split_at (l : List UInt8) (k : Nat) (h : k < l.length) : l = l.take k ++ (at_ l k :: l.drop (k + 1)) := by
  unfold at_
  simp only [List.getD, List.getElem?_eq_getElem h, Option.getD_some]
  rw [← List.drop_eq_getElem_cons h, List.take_append_drop]

theorem dn_app (a b : List UInt8) : dn (a ++ b) = dn a + dn b := List.count_append
theorem fw_app (a b : List UInt8) : fw (a ++ b) = fw a + fw b := List.count_append
theorem dn_one (c : UInt8) : dn [c] = if c = 100 then 1 else 0 := by simp [dn, List.count_cons]
theorem fw_one (c : UInt8) : fw [c] = if c = 102 then 1 else 0 := by simp [fw, List.count_cons]

theorem take_at (l : List UInt8) (k : Nat) (h : k < l.length) : l.take (k + 1) = l.take k ++ [at_ l k] := by
  unfold at_
  rw [List.take_succ_eq_append_getElem h]
  simp [List.getD, h]
theorem dn_take (l : List UInt8) (k : Nat) (h : k < l.length) : dn (l.take (k + 1)) = dn (l.take k) + if at_ l k = 100 then 1 else 0 := by rw [take_at l k h, dn_app, dn_one]
theorem fw_take (l : List UInt8) (k : Nat) (h : k < l.length) : fw (l.take (k + 1)) = fw (l.take k) + if at_ l k = 102 then 1 else 0 := by rw [take_at l k h, fw_app, fw_one]

theorem other_letter (l : List UInt8) (k : Nat) (h : k < l.length) (h1 : ¬ at_ l k = 100) (h2 : ¬ at_ l k = 102) : isStrip l = false := by
  have e := split_at l k h
  have e2 : l = l.take k ++ ([at_ l k] ++ l.drop (k + 1)) := e
  have a := both_le (l.take k)
  have b := both_le (l.drop (k + 1))
  have hd : dn l = dn (l.take k) + (0 + dn (l.drop (k + 1))) := by
    conv => lhs; rw [e2]
    rw [dn_app, dn_app, dn_one, if_neg h1]
  have hf : fw l = fw (l.take k) + (0 + fw (l.drop (k + 1))) := by
    conv => lhs; rw [e2]
    rw [fw_app, fw_app, fw_one, if_neg h2]
  have hl1 : (l.take k).length = k := by rw [List.length_take]; omega
  have hl2 : (l.drop (k + 1)).length = l.length - (k + 1) := List.length_drop
  have : ¬ dn l + fw l = l.length := by omega
  simp [isStrip, this]

theorem u8_eq (c d : UInt8) : ((c.toNat : Int) == (d.toNat : Int)) = decide (c = d) := by
  rw [Bool.eq_iff_iff]
  simp only [beq_iff_eq, decide_eq_true_eq]
  constructor
  · intro h
    exact UInt8.toNat_inj.1 (by omega)
  · intro h
    rw [h]

theorem specIsStrip_any (s : ByteArray) (w : World) (hs : s.size ≤ 4294967296) : Calls Try.prog 62 #[.string s] w fun e w' => e = .returned (.bool (isStrip s.data.toList)) ∧ w = w' := by
  obtain ⟨l, hl⟩ : ∃ l, l = s.data.toList := ⟨_, rfl⟩
  have hsz : l.length = s.size := by rw [hl, size_list]
  rw [← hl]
  have HL := Lib.hid hl
  have HZ := Lib.hid hsz
  clear hl hsz
  go_enter Try.func62, Try.ntmps62
  go_wp2_with fail
  go_loop [3, 4, 5] (fun d f i => ∃ k : Nat, k ≤ s.size ∧ i = .int .i64 k ∧ d = .int .i64 (dn (l.take k)) ∧ f = .int .i64 (fw (l.take k)) ∧ dn (l.take k) + fw (l.take k) = k) (fun _ _ i => s.size - (intOf i).toNat)
  case atStart => exact ⟨0, Nat.zero_le _, rfl, rfl, rfl, rfl⟩
  case round =>
    obtain ⟨k, hk, rfl, rfl, rfl, hsum⟩ := hrel
    have hdk : dn (l.take k) ≤ k := by omega
    have hfk : fw (l.take k) ≤ k := by omega
    by_cases hlt : k < s.size
    · have hkl : k < l.length := by rw [HZ.out]; exact hlt
      have hg := at_get s k hlt
      rw [← HL.out] at hg
      have HD := Lib.hid (dn_take l k hkl)
      have HF := Lib.hid (fw_take l k hkl)
      have HO := Lib.hid (other_letter l k hkl)
      have HS := Lib.hid hsum
      clear hsum
      generalize dn (l.take k) = d at *
      generalize fw (l.take k) = f at *
      generalize hc : at_ l k = c at *
      clear hc
      have hcn : ∀ d : UInt8, ¬ c = d → ((c.toNat : Int) == (d.toNat : Int)) = false := fun d h => by rw [u8_eq]; simp [h]
      by_cases h1 : c = 100
      · have hb : ((c.toNat : Int) == 100) = true := by rw [h1]; rfl
        have H1 := Lib.hid h1
        clear hcn h1
        go_wp2_with fail
        go_round
        case rel =>
          rw [H1.out] at HD HF
          refine ⟨k + 1, by omega, by go_num, ?_, ?_, ?_⟩
          · rw [HD.out]; go_num
          · rw [HF.out]; go_num
          · rw [HD.out, HF.out]; have := HS.out; simp; omega
        case measure => simp [intOf]; omega
      · have hb : ((c.toNat : Int) == 100) = false := hcn 100 h1
        by_cases h2 : c = 102
        · have hb2 : ((c.toNat : Int) == 102) = true := by rw [h2]; rfl
          have H1 := Lib.hid h1
          have H2 := Lib.hid h2
          clear hcn h1 h2
          go_wp2_with fail
          go_round
          case rel =>
            rw [H2.out] at HD HF
            refine ⟨k + 1, by omega, by go_num, ?_, ?_, ?_⟩
            · rw [HD.out]; go_num
            · rw [HF.out]; go_num
            · rw [HD.out, HF.out]; have := HS.out; simp; omega
          case measure => simp [intOf]; omega
        · have hb2 : ((c.toNat : Int) == 102) = false := hcn 102 h2
          have H1 := Lib.hid (HO.out h1 h2)
          clear hcn h1 h2
          go_wp2_with fail
          go_ret
          exact ⟨by rw [H1.out]; rfl, rfl⟩
    · obtain rfl : k = s.size := by omega
      have e1 : l.take s.size = l := List.take_of_length_le (by rw [HZ.out]; exact Nat.le_refl _)
      rw [e1] at hsum hdk hfk ⊢
      have hdef : isStrip l = (inB (dn l) 1 8 && inB (fw l) 1 8) := by
        unfold isStrip
        rw [HZ.out, decide_eq_true hsum]
        rfl
      have HD := Lib.hid hdef
      clear hdef hsum e1
      by_cases h2 : inB (dn l) 1 8 = true
      · go_wp2_with (go_at_call 69; refine (l01In_any _ _ _ _).mono ?_; rintro e w' ⟨rfl, rfl⟩)
        go_ret
        exact ⟨by rw [HD.out, h2]; rfl, rfl⟩
      · have h2' : inB (dn l) 1 8 = false := by simpa using h2
        clear h2
        go_wp2_with (go_at_call 69; refine (l01In_any _ _ _ _).mono ?_; rintro e w' ⟨rfl, rfl⟩)
        go_ret
        exact ⟨by rw [HD.out, h2']; rfl, rfl⟩

/-- how often a letter stands in a text -/
def cn (c : UInt8) (l : List UInt8) : Nat := l.count c
theorem cn_dn (l : List UInt8) : cn 100 l = dn l := rfl
theorem cn_fw (l : List UInt8) : cn 102 l = fw l := rfl

theorem l02Count_any (s : ByteArray) (c : UInt8) (w : World) (hs : s.size ≤ 4294967296) : Calls Try.prog 70 #[.string s, .int .u8 c.toNat] w fun e w' => e = .returned (.int .i64 (cn c s.data.toList : Nat)) ∧ w = w' := by
  obtain ⟨l, hl⟩ : ∃ l, l = s.data.toList := ⟨_, rfl⟩
  have hsz : l.length = s.size := by rw [hl, size_list]
  rw [← hl]
  have HL := Lib.hid hl
  have HZ := Lib.hid hsz
  clear hl hsz
  go_enter Try.func70, Try.ntmps70
  go_wp2_with fail
  go_loop [5, 6] (fun d i => ∃ k : Nat, k ≤ s.size ∧ i = .int .i64 k ∧ d = .int .i64 (cn c (l.take k) : Nat)) (fun _ i => s.size - (intOf i).toNat)
  case atStart => exact ⟨0, Nat.zero_le _, rfl, rfl⟩
  case round =>
    obtain ⟨k, hk, rfl, rfl⟩ := hrel
    have hck : cn c (l.take k) ≤ k := Nat.le_trans List.count_le_length (List.length_take_le _ _)
    by_cases hlt : k < s.size
    · have hkl : k < l.length := by rw [HZ.out]; exact hlt
      have hg := at_get s k hlt
      rw [← HL.out] at hg
      have HD := Lib.hid (show cn c (l.take (k + 1)) = cn c (l.take k) + if at_ l k = c then 1 else 0 by unfold cn; rw [take_at l k hkl, List.count_append]; simp [List.count_cons])
      generalize cn c (l.take k) = d at *
      generalize hx : at_ l k = x at *
      clear hx
      by_cases h1 : x = c
      · have hb : ((x.toNat : Int) == (c.toNat : Int)) = true := by rw [h1]; simp
        have H1 := Lib.hid h1
        clear h1
        go_wp2_with fail
        go_round
        case rel =>
          refine ⟨k + 1, by omega, by go_num, ?_⟩
          rw [HD.out, if_pos H1.out]
          go_num
        case measure => simp [intOf]; omega
      · have hb : ((x.toNat : Int) == (c.toNat : Int)) = false := by rw [u8_eq]; simp [h1]
        have H1 := Lib.hid h1
        clear h1
        go_wp2_with fail
        go_round
        case rel =>
          refine ⟨k + 1, by omega, by go_num, ?_⟩
          rw [HD.out, if_neg H1.out]
          rfl
        case measure => simp [intOf]; omega
    · obtain rfl : k = s.size := by omega
      have e1 : l.take s.size = l := List.take_of_length_le (by rw [HZ.out]; exact Nat.le_refl _)
      go_wp2_with fail
      go_ret
      exact ⟨by rw [← e1]; rfl, rfl⟩

end Go.Proofs.Ytpeopfkechbelaa
