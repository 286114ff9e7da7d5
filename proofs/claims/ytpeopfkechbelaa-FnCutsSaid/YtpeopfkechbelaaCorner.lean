
/-
  Contracts of the functions on steps and corners of one strip; no condition beyond the length of the text.
-/
import Derived.Test.YtpeopfkechbelaaStrip
namespace Go.Proofs.Ytpeopfkechbelaa
open Go.ChangeShapes Go.WideShapes Go.ChangeAt Go.RowKit Go.Deep Go.BigFrame
set_option linter.unusedVariables false

def downOf (l : List UInt8) : Nat := if isStrip l = true then dn l else 0
def forwardOf (l : List UInt8) : Nat := if isStrip l = true then fw l else 0
theorem downOf_yes {l : List UInt8} (h : isStrip l = true) : downOf l = dn l := if_pos h
theorem downOf_no {l : List UInt8} (h : isStrip l = false) : downOf l = 0 := if_neg (by rw [h]; simp)
theorem forwardOf_yes {l : List UInt8} (h : isStrip l = true) : forwardOf l = fw l := if_pos h
theorem forwardOf_no {l : List UInt8} (h : isStrip l = false) : forwardOf l = 0 := if_neg (by rw [h]; simp)

theorem implDownOf_any (s : ByteArray) (w : World) (hs : s.size ≤ 4294967296) : Calls Try.prog 87 #[.string s] w fun e w' => e = .returned (.int .i64 (downOf s.data.toList : Nat)) ∧ w = w' := by
  have HC := Lib.hid (fun w => Try.strings_Count_one s 100 w)
  by_cases h : isStrip s.data.toList = true
  · rw [downOf_yes h]
    go_enter Try.func87, Try.ntmps87
    go_wp2_with fail
    refine (implIsStrip_any _ _ hs).mono ?_
    rw [h]
    rintro e w1 ⟨rfl, rfl⟩
    go_wp2_with fail
    refine (HC.out _).mono ?_
    rintro e w' ⟨rfl, hw⟩
    subst hw
    go_wp2_with fail
    go_ret
    exact ⟨rfl, rfl⟩
  · have h' : isStrip s.data.toList = false := by simpa using h
    rw [downOf_no h']
    go_enter Try.func87, Try.ntmps87
    go_wp2_with fail
    refine (implIsStrip_any _ _ hs).mono ?_
    rw [h']
    rintro e w1 ⟨rfl, rfl⟩
    go_wp2_with fail
    go_ret
    exact ⟨rfl, rfl⟩

theorem implForwardOf_any (s : ByteArray) (w : World) (hs : s.size ≤ 4294967296) : Calls Try.prog 102 #[.string s] w fun e w' => e = .returned (.int .i64 (forwardOf s.data.toList : Nat)) ∧ w = w' := by
  have HC := Lib.hid (fun w => Try.strings_Count_one s 102 w)
  by_cases h : isStrip s.data.toList = true
  · rw [forwardOf_yes h]
    go_enter Try.func102, Try.ntmps102
    go_wp2_with fail
    refine (implIsStrip_any _ _ hs).mono ?_
    rw [h]
    rintro e w1 ⟨rfl, rfl⟩
    go_wp2_with fail
    refine (HC.out _).mono ?_
    rintro e w' ⟨rfl, hw⟩
    subst hw
    go_wp2_with fail
    go_ret
    exact ⟨rfl, rfl⟩
  · have h' : isStrip s.data.toList = false := by simpa using h
    rw [forwardOf_no h']
    go_enter Try.func102, Try.ntmps102
    go_wp2_with fail
    refine (implIsStrip_any _ _ hs).mono ?_
    rw [h']
    rintro e w1 ⟨rfl, rfl⟩
    go_wp2_with fail
    go_ret
    exact ⟨rfl, rfl⟩

theorem specDownOf_any (s : ByteArray) (w : World) (hs : s.size ≤ 4294967296) : Calls Try.prog 29 #[.string s] w fun e w' => e = .returned (.int .i64 (downOf s.data.toList : Nat)) ∧ w = w' := by
  by_cases h : isStrip s.data.toList = true
  · rw [downOf_yes h]
    go_enter Try.func29, Try.ntmps29
    go_wp2_with fail
    refine (specIsStrip_any _ _ hs).mono ?_
    rw [h]
    rintro e w1 ⟨rfl, rfl⟩
    go_wp2_with fail
    refine (l02Count_any s 100 _ hs).mono ?_
    rw [cn_dn]
    rintro e w' ⟨rfl, rfl⟩
    go_wp2_with fail
    go_ret
    exact ⟨rfl, rfl⟩
  · have h' : isStrip s.data.toList = false := by simpa using h
    rw [downOf_no h']
    go_enter Try.func29, Try.ntmps29
    go_wp2_with fail
    refine (specIsStrip_any _ _ hs).mono ?_
    rw [h']
    rintro e w1 ⟨rfl, rfl⟩
    go_wp2_with fail
    go_ret
    exact ⟨rfl, rfl⟩

theorem specForwardOf_any (s : ByteArray) (w : World) (hs : s.size ≤ 4294967296) : Calls Try.prog 30 #[.string s] w fun e w' => e = .returned (.int .i64 (forwardOf s.data.toList : Nat)) ∧ w = w' := by
  by_cases h : isStrip s.data.toList = true
  · rw [forwardOf_yes h]
    go_enter Try.func30, Try.ntmps30
    go_wp2_with fail
    refine (specIsStrip_any _ _ hs).mono ?_
    rw [h]
    rintro e w1 ⟨rfl, rfl⟩
    go_wp2_with fail
    refine (l02Count_any s 102 _ hs).mono ?_
    rw [cn_fw]
    rintro e w' ⟨rfl, rfl⟩
    go_wp2_with fail
    go_ret
    exact ⟨rfl, rfl⟩
  · have h' : isStrip s.data.toList = false := by simpa using h
    rw [forwardOf_no h']
    go_enter Try.func30, Try.ntmps30
    go_wp2_with fail
    refine (specIsStrip_any _ _ hs).mono ?_
    rw [h']
    rintro e w1 ⟨rfl, rfl⟩
    go_wp2_with fail
    go_ret
    exact ⟨rfl, rfl⟩

theorem forwards_any (s : ByteArray) (k : Nat) (w : World) (hs : s.size ≤ 4294967296) (hk : k ≤ s.size) : Calls Try.prog 56 #[.string s, .int .i64 k] w fun e w' => e = .returned (.int .i64 (fw (s.data.toList.take k) : Nat)) ∧ w = w' := by
  have HC := Lib.hid (fun w => Try.strings_Count_one (s.extract 0 k) 102 w)
  have hk' : (k : Int) ≤ (s.size : Int) := by omega
  have he : (s.extract 0 k).data.toList = s.data.toList.take k := by simp
  go_enter Try.func56, Try.ntmps56
  go_wp2_with fail
  refine (HC.out _).mono ?_
  rw [he]
  rintro e w' ⟨rfl, hw⟩
  subst hw
  go_wp2_with fail
  go_ret
  exact ⟨rfl, rfl⟩

/-- there is a fold behind the first k steps -/
def corner (l : List UInt8) (k : Nat) : Bool := decide (1 ≤ k) && (decide (k + 1 ≤ l.length) && !decide (at_ l (k - 1) = at_ l k))
def foldAt (c : UInt8) (l : List UInt8) (k : Int) : Bool := isStrip l && (decide (0 ≤ k) && (corner l k.toNat && decide (at_ l (k.toNat - 1) = c)))

theorem u8_ne (x y : UInt8) : ((x.toNat : Int) != (y.toNat : Int)) = !decide (x = y) := by
  unfold bne
  rw [u8_eq]

theorem corner_in {l : List UInt8} {n : Nat} {len : Nat} (hl : l.length = len) (h1 : 1 ≤ n) (h2 : n + 1 ≤ len) : corner l n = !decide (at_ l (n - 1) = at_ l n) := by
  unfold corner
  rw [hl, decide_eq_true h1, decide_eq_true h2]
  rfl
theorem corner_out {l : List UInt8} {k : Int} {len : Nat} (hl : l.length = len) (h : inB k 1 ((len : Int) - 1) = false) : (decide (0 ≤ k) && corner l k.toNat) = false := by
  have h' := inB_not.1 h
  by_cases h0 : 0 ≤ k
  · rw [decide_eq_true h0]
    unfold corner
    rw [hl]
    by_cases h1 : 1 ≤ k.toNat
    · have h2 : ¬ k.toNat + 1 ≤ len := by omega
      simp [h2]
    · simp [h1]
  · simp [h0]

theorem isCorner_any (s : ByteArray) (k : Int) (w : World) (hs : s.size ≤ 4294967296) : Calls Try.prog 100 #[.string s, .int .i64 k] w fun e w' => e = .returned (.bool (decide (0 ≤ k) && corner s.data.toList k.toNat)) ∧ ∃ q, w' = w.drewN q := by
  by_cases h : inB k 1 ((s.size : Int) - 1) = true
  · obtain ⟨h1, h2⟩ := inB_iff.1 h
    obtain ⟨n, rfl⟩ := Int.eq_ofNat_of_zero_le (show 0 ≤ k by omega)
    have hn : n < s.size := by omega
    have hn1 : n - 1 < s.size := by omega
    have hg := at_get s n hn
    have hg1 := at_get s (n - 1) hn1
    have hdef : (decide (0 ≤ (n : Int)) && corner s.data.toList (n : Int).toNat) = (((at_ s.data.toList (n - 1)).toNat : Int) != ((at_ s.data.toList n).toNat : Int)) := by
      rw [Int.toNat_natCast, u8_ne, corner_in (size_list s) (by omega) (by omega)]
      simp
    rw [hdef]
    clear hdef
    generalize at_ s.data.toList (n - 1) = x at *
    generalize at_ s.data.toList n = y at *
    go_enter Try.func100, Try.ntmps100
    go_wp2_with fail
    go_quiet ((go_at_call 104; exact quiet_left (within_is h _)))
    go_wp2_with fail
    go_ret
    exact ⟨rfl, _, rfl⟩
  · have h' : inB k 1 ((s.size : Int) - 1) = false := by simpa using h
    rw [corner_out (size_list s) h']
    clear h
    go_enter Try.func100, Try.ntmps100
    go_wp2_with fail
    go_quiet ((go_at_call 104; exact quiet_left (within_is h' _)))
    go_wp2_with fail
    go_ret
    exact ⟨rfl, _, rfl⟩

theorem foldAt_strip {c : UInt8} {l : List UInt8} {k : Int} (h : isStrip l = false) : foldAt c l k = false := by simp [foldAt, h]
theorem foldAt_corner {c : UInt8} {l : List UInt8} {k : Int} (h : (decide (0 ≤ k) && corner l k.toNat) = false) : foldAt c l k = false := by
  unfold foldAt
  rw [← Bool.and_assoc (decide (0 ≤ k)), h]
  simp
theorem foldAt_yes {c : UInt8} {l : List UInt8} {k : Int} (h : isStrip l = true) (h2 : (decide (0 ≤ k) && corner l k.toNat) = true) : foldAt c l k = decide (at_ l (k.toNat - 1) = c) := by
  unfold foldAt
  rw [← Bool.and_assoc (decide (0 ≤ k)), h2, h]
  simp

theorem specCorner_any (s : ByteArray) (k : Int) (c : UInt8) (w : World) (hs : s.size ≤ 4294967296) : Calls Try.prog 101 #[.string s, .int .i64 k, .int .u8 c.toNat] w fun e w' => e = .returned (.bool (foldAt c s.data.toList k)) ∧ ∃ q, w' = w.drewN q := by
  by_cases h0 : isStrip s.data.toList = true
  · have h0c : ∀ w, Calls Try.prog 62 #[.string s] w fun e w' => e = .returned (.bool true) ∧ w = w' := fun w => h0 ▸ specIsStrip_any s w hs
    have H0 := Lib.hid h0c
    clear h0c
    by_cases h : inB k 1 ((s.size : Int) - 1) = true
    · obtain ⟨h1, h2⟩ := inB_iff.1 h
      obtain ⟨n, rfl⟩ := Int.eq_ofNat_of_zero_le (show 0 ≤ k by omega)
      have hn : n < s.size := by omega
      have hn1 : n - 1 < s.size := by omega
      have hg := at_get s n hn
      have hg1 := at_get s (n - 1) hn1
      have hcor : (decide (0 ≤ (n : Int)) && corner s.data.toList (n : Int).toNat) = !decide (at_ s.data.toList (n - 1) = at_ s.data.toList n) := by
        rw [Int.toNat_natCast, corner_in (size_list s) (by omega) (by omega)]
        simp
      by_cases hxy : at_ s.data.toList n = at_ s.data.toList (n - 1)
      · rw [foldAt_corner (by rw [hcor, hxy]; simp)]
        rw [hxy] at hg
        clear hcor hxy
        generalize at_ s.data.toList (n - 1) = x at *
        go_enter Try.func101, Try.ntmps101
        go_wp2_with fail
        go_quiet ((first | (go_at_call 62; exact quiet_left (H0.out _)) | (go_at_call 69; exact quiet_left (l01In_is h _))))
        go_wp2_with fail
        go_ret
        exact ⟨rfl, _, rfl⟩
      · rw [foldAt_yes h0 (by rw [hcor]; simp; exact fun e => hxy e.symm), Int.toNat_natCast, ← u8_eq]
        have hb : (((at_ s.data.toList n).toNat : Int) != ((at_ s.data.toList (n - 1)).toNat : Int)) = true := by rw [u8_ne]; simp [hxy]
        clear hcor hxy
        generalize at_ s.data.toList (n - 1) = x at *
        generalize at_ s.data.toList n = y at *
        go_enter Try.func101, Try.ntmps101
        go_wp2_with fail
        go_quiet ((first | (go_at_call 62; exact quiet_left (H0.out _)) | (go_at_call 69; exact quiet_left (l01In_is h _))))
        go_wp2_with fail
        go_ret
        exact ⟨rfl, _, rfl⟩
    · have h' : inB k 1 ((s.size : Int) - 1) = false := by simpa using h
      rw [foldAt_corner (corner_out (size_list s) h')]
      clear h
      go_enter Try.func101, Try.ntmps101
      go_wp2_with fail
      go_quiet ((first | (go_at_call 62; exact quiet_left (H0.out _)) | (go_at_call 69; exact quiet_left (l01In_is h' _))))
      go_wp2_with fail
      go_ret
      exact ⟨rfl, _, rfl⟩
  · have h0' : isStrip s.data.toList = false := by simpa using h0
    have h0c : ∀ w, Calls Try.prog 62 #[.string s] w fun e w' => e = .returned (.bool false) ∧ w = w' := fun w => h0' ▸ specIsStrip_any s w hs
    have H0 := Lib.hid h0c
    rw [foldAt_strip h0']
    clear h0c h0 h0'
    go_enter Try.func101, Try.ntmps101
    go_wp2_with fail
    go_quiet (((go_at_call 62; exact quiet_left (H0.out _))))
    go_wp2_with fail
    go_ret
    exact ⟨rfl, _, rfl⟩

theorem implIsValley_any (s : ByteArray) (k : Int) (w : World) (hs : s.size ≤ 4294967296) : Calls Try.prog 77 #[.string s, .int .i64 k] w fun e w' => e = .returned (.bool (foldAt 100 s.data.toList k)) ∧ ∃ q, w' = w.drewN q := by
  by_cases h0 : isStrip s.data.toList = true
  · by_cases h1 : (decide (0 ≤ k) && corner s.data.toList k.toNat) = true
    · rw [foldAt_yes h0 h1]
      have h2 : 0 ≤ k ∧ 1 ≤ k.toNat ∧ k.toNat + 1 ≤ s.size := by
        have e := size_list s
        simp only [corner, Bool.and_eq_true, decide_eq_true_eq] at h1
        omega
      obtain ⟨n, rfl⟩ := Int.eq_ofNat_of_zero_le h2.1
      rw [Int.toNat_natCast] at h2 ⊢
      have hn1 : n - 1 < s.size := by omega
      have hg1 := at_get s (n - 1) hn1
      have hb : ((at_ s.data.toList (n - 1)).toNat : Int) = ((at_ s.data.toList (n - 1)).toNat : Int) := rfl
      have hu := u8_eq (at_ s.data.toList (n - 1)) 100
      rw [← hu]
      clear hu hb
      have a1 : 1 ≤ (n : Int) := by omega
      have a2 : (n : Int) < (s.size : Int) := by omega
      generalize at_ s.data.toList (n - 1) = x at *
      go_enter Try.func77, Try.ntmps77
      go_wp2_with fail
      refine (implIsStrip_any _ _ hs).mono ?_
      rw [h0]
      rintro e w1 ⟨rfl, rfl⟩
      go_wp2_with fail
      refine (isCorner_any _ _ _ hs).mono ?_
      rw [h1]
      rintro e w1 ⟨rfl, q, rfl⟩
      clear h1
      go_wp2_with fail
      go_ret
      exact ⟨rfl, q, rfl⟩
    · have h1' : (decide (0 ≤ k) && corner s.data.toList k.toNat) = false := by simpa using h1
      rw [foldAt_corner h1']
      clear h1
      go_enter Try.func77, Try.ntmps77
      go_wp2_with fail
      refine (implIsStrip_any _ _ hs).mono ?_
      rw [h0]
      rintro e w1 ⟨rfl, rfl⟩
      go_wp2_with fail
      refine (isCorner_any _ _ _ hs).mono ?_
      rw [h1']
      rintro e w1 ⟨rfl, q, rfl⟩
      clear h1'
      go_wp2_with fail
      go_ret
      exact ⟨rfl, q, rfl⟩
  · have h0' : isStrip s.data.toList = false := by simpa using h0
    rw [foldAt_strip h0']
    go_enter Try.func77, Try.ntmps77
    go_wp2_with fail
    refine (implIsStrip_any _ _ hs).mono ?_
    rw [h0']
    rintro e w1 ⟨rfl, rfl⟩
    go_wp2_with fail
    go_ret
    exact ⟨rfl, 0, rfl⟩

theorem specIsMountain_any (s : ByteArray) (k : Int) (w : World) (hs : s.size ≤ 4294967296) : Calls Try.prog 81 #[.string s, .int .i64 k] w fun e w' => e = .returned (.bool (foldAt 102 s.data.toList k)) ∧ ∃ q, w' = w.drewN q := by
  go_enter Try.func81, Try.ntmps81
  go_wp2_with fail
  refine (specCorner_any s k 102 _ hs).mono ?_
  rintro e w' ⟨rfl, q, rfl⟩
  go_wp2_with fail
  go_ret
  exact ⟨rfl, q, rfl⟩

theorem implIsMountain_any (s : ByteArray) (k : Int) (w : World) (hs : s.size ≤ 4294967296) : Calls Try.prog 78 #[.string s, .int .i64 k] w fun e w' => e = .returned (.bool (foldAt 102 s.data.toList k)) ∧ ∃ q, w' = w.drewN q := by
  by_cases h0 : isStrip s.data.toList = true
  · by_cases h1 : (decide (0 ≤ k) && corner s.data.toList k.toNat) = true
    · rw [foldAt_yes h0 h1]
      have h2 : 0 ≤ k ∧ 1 ≤ k.toNat ∧ k.toNat + 1 ≤ s.size := by
        have e := size_list s
        simp only [corner, Bool.and_eq_true, decide_eq_true_eq] at h1
        omega
      obtain ⟨n, rfl⟩ := Int.eq_ofNat_of_zero_le h2.1
      rw [Int.toNat_natCast] at h2 ⊢
      have hn1 : n - 1 < s.size := by omega
      have hg1 := at_get s (n - 1) hn1
      have hb : ((at_ s.data.toList (n - 1)).toNat : Int) = ((at_ s.data.toList (n - 1)).toNat : Int) := rfl
      have hu := u8_eq (at_ s.data.toList (n - 1)) 102
      rw [← hu]
      clear hu hb
      have a1 : 1 ≤ (n : Int) := by omega
      have a2 : (n : Int) < (s.size : Int) := by omega
      generalize at_ s.data.toList (n - 1) = x at *
      go_enter Try.func78, Try.ntmps78
      go_wp2_with fail
      refine (implIsStrip_any _ _ hs).mono ?_
      rw [h0]
      rintro e w1 ⟨rfl, rfl⟩
      go_wp2_with fail
      refine (isCorner_any _ _ _ hs).mono ?_
      rw [h1]
      rintro e w1 ⟨rfl, q, rfl⟩
      clear h1
      go_wp2_with fail
      go_ret
      exact ⟨rfl, q, rfl⟩
    · have h1' : (decide (0 ≤ k) && corner s.data.toList k.toNat) = false := by simpa using h1
      rw [foldAt_corner h1']
      clear h1
      go_enter Try.func78, Try.ntmps78
      go_wp2_with fail
      refine (implIsStrip_any _ _ hs).mono ?_
      rw [h0]
      rintro e w1 ⟨rfl, rfl⟩
      go_wp2_with fail
      refine (isCorner_any _ _ _ hs).mono ?_
      rw [h1']
      rintro e w1 ⟨rfl, q, rfl⟩
      clear h1'
      go_wp2_with fail
      go_ret
      exact ⟨rfl, q, rfl⟩
  · have h0' : isStrip s.data.toList = false := by simpa using h0
    rw [foldAt_strip h0']
    go_enter Try.func78, Try.ntmps78
    go_wp2_with fail
    refine (implIsStrip_any _ _ hs).mono ?_
    rw [h0']
    rintro e w1 ⟨rfl, rfl⟩
    go_wp2_with fail
    go_ret
    exact ⟨rfl, 0, rfl⟩

end Go.Proofs.Ytpeopfkechbelaa
