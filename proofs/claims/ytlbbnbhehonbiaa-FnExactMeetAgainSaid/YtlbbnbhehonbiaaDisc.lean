/-
  Contracts of the functions on one disc; no condition.
-/
import Derived.Test.YtlbbnbhehonbiaaInts
import Derived.Test.YtlbbnbhehonbiaaSlS
namespace Go.Proofs.Ytlbbnbhehonbiaa
open Go.ChangeShapes Go.WideShapes Go.ChangeAt Go.RowKit Go.Deep Go.BigFrame
set_option linter.unusedVariables false

/-- a disc is valid -/
def dcOk (sec now : Int) (zs : List Int) : Bool := inB sec 2 24 && (inB now 0 (sec - 1) && (decide ((zs.length : Int) = sec) && zs.all fun z => inB z 0 99))

theorem szDisc_any (sec now : Int) (A : Option Addr) (c n : Nat) (left : Int) (w : World) (hn : n ≤ maxLen) (h0 : 0 ≤ left) (h1 : left ≤ 1048576) :
    Calls Try.prog 28 #[.agg #[.int .i64 sec, .int .i64 now, .slice A n c], .int .i64 left] w fun e w' => e = .returned (.int .i64 (if (n : Int) ≤ left then left - n else -1)) ∧ Below w.heap.size w w' := by
  by_cases h : (n : Int) ≤ left
  · have hi : (if (n : Int) ≤ left then left - (n : Int) else -1) = left - (n : Int) := if_pos h
    rw [hi]
    go_enter Try.func28, Try.ntmps28
    go_wp2_with fail
    refine (szIntS_any _ _ _ _ _ hn h0 h1).mono ?_
    rw [hi]
    rintro e w1 ⟨rfl, rfl⟩
    clear hi
    go_wp2_with fail
    go_ret
    exact ⟨rfl, (by repeat' (first | exact Below.refl _ _ | assumption | (refine Below.drew ?_) | (refine below_drewN ?_ _) | (refine below_thru ?_ (by assumption)) | (refine below_alloc ?_ _) | (refine Below.setCell ?_ (by first | omega | (simp; done) | (simp; omega)) _) | (refine Below.alloc ?_ (by first | omega | (simp; done) | (simp; omega)) _)))⟩
  · have hi : (if (n : Int) ≤ left then left - (n : Int) else -1) = -1 := if_neg h
    rw [hi]
    go_enter Try.func28, Try.ntmps28
    go_wp2_with fail
    refine (szIntS_any _ _ _ _ _ hn h0 h1).mono ?_
    rw [hi]
    rintro e w1 ⟨rfl, rfl⟩
    clear hi
    go_wp2_with fail
    go_ret
    exact ⟨rfl, (by repeat' (first | exact Below.refl _ _ | assumption | (refine Below.drew ?_) | (refine below_drewN ?_ _) | (refine below_thru ?_ (by assumption)) | (refine below_alloc ?_ _) | (refine Below.setCell ?_ (by first | omega | (simp; done) | (simp; omega)) _) | (refine Below.alloc ?_ (by first | omega | (simp; done) | (simp; omega)) _)))⟩

/-- a new disc of the call's own -/
def NewDisc (w : World) (sec now : Int) (zs : List Int) (e : Ending) (w' : World) : Prop :=
  ∃ A c, e = .returned (.agg #[.int .i64 sec, .int .i64 now, .slice A zs.length c]) ∧ w'.ownsRow w.heap.size 3 1 (.slice A zs.length c) zs.length (zs.map (Value.int .i64)) ∧ Below w.heap.size w w'

theorem toDisc_any (sec now : Int) (A : Option Addr) (c : Nat) (zs : List Int) (w : World) (hx : IRow w w.heap.size A zs) (hn : zs.length ≤ 1048576) :
    Calls Try.prog 30 #[.agg #[.int .i64 sec, .int .i64 now, .slice A zs.length c]] w (NewDisc w sec now zs) := by
  go_enter Try.func30, Try.ntmps30
  go_wp2_with fail
  refine (toIntS_any _ _ _ _ ?hx hn).mono ?_
  case hx => exact hx.on (by repeat' (first | exact Below.refl _ _ | assumption | (refine Below.drew ?_) | (refine below_drewN ?_ _) | (refine below_thru ?_ (by assumption)) | (refine below_alloc ?_ _) | (refine Below.setCell ?_ (by first | omega | (simp; done) | (simp; omega)) _) | (refine Below.alloc ?_ (by first | omega | (simp; done) | (simp; omega)) _)))
  rintro e w1 ⟨A1, c1, rfl, hown, hb1⟩
  obtain ⟨hc1, hf1⟩ := bcell hb1
  have hz1 : w.heap.size + 2 < w1.heap.size := (by have hsz_ := hb1.size; first | omega | (simp at hsz_; omega))
  have HO := Lib.hid hown
  clear hown
  go_wp2_with fail
  refine bodyPost_ret (v := .agg #[.int .i64 sec, .int .i64 now, .slice A1 zs.length c1]) (by simp [results, Try.results30, go_sem, hc1]) rfl ⟨A1, c1, rfl, ?_, (by repeat' (first | exact Below.refl _ _ | assumption | (refine Below.drew ?_) | (refine below_drewN ?_ _) | (refine below_thru ?_ (by assumption)) | (refine below_alloc ?_ _) | (refine Below.setCell ?_ (by first | omega | (simp; done) | (simp; omega)) _) | (refine Below.alloc ?_ (by first | omega | (simp; done) | (simp; omega)) _)))⟩
  refine own_mono (ownsRow_setCell_below (ownsRow_setCell_below (ownsRow_setCell_below (ownsRow_setCell_below HO.out ?_ _) ?_ _) ?_ _) ?_ _) ?_
  all_goals simp
  all_goals omega

theorem eqDisc_any (s1 n1 s2 n2 : Int) (A B : Option Addr) (c d : Nat) (xs ys : List Int) (w : World) (hx : IRow w w.heap.size A xs) (hy : IRow w w.heap.size B ys) :
    Calls Try.prog 32 #[.agg #[.int .i64 s1, .int .i64 n1, .slice A xs.length c], .agg #[.int .i64 s2, .int .i64 n2, .slice B ys.length d]] w fun e w' => e = .returned (.bool (decide ((s1, n1, xs) = (s2, n2, ys)))) ∧ Below w.heap.size w w' := by
  by_cases h1 : s1 = s2
  · by_cases h2 : n1 = n2
    · subst h1 h2
      have hD : decide ((s1, n1, xs) = (s1, n1, ys)) = decide (xs = ys) := by simp
      rw [hD]
      clear hD
      generalize hD : decide (xs = ys) = D
      have HD := Lib.hid hD
      clear hD
      go_enter Try.func32, Try.ntmps32
      go_wp2_with fail
      refine (eqIntS_any _ _ _ _ _ _ _ (hx.on (by repeat' (first | exact Below.refl _ _ | assumption | (refine Below.drew ?_) | (refine below_drewN ?_ _) | (refine below_thru ?_ (by assumption)) | (refine below_alloc ?_ _) | (refine Below.setCell ?_ (by first | omega | (simp; done) | (simp; omega)) _) | (refine Below.alloc ?_ (by first | omega | (simp; done) | (simp; omega)) _)))) (hy.on (by repeat' (first | exact Below.refl _ _ | assumption | (refine Below.drew ?_) | (refine below_drewN ?_ _) | (refine below_thru ?_ (by assumption)) | (refine below_alloc ?_ _) | (refine Below.setCell ?_ (by first | omega | (simp; done) | (simp; omega)) _) | (refine Below.alloc ?_ (by first | omega | (simp; done) | (simp; omega)) _))))).mono ?_
      rw [HD.out]
      rintro e w1 ⟨rfl, q, rfl⟩
      go_wp2_with fail
      all_goals go_ret
      all_goals refine ⟨?_, (by repeat' (first | exact Below.refl _ _ | assumption | (refine Below.drew ?_) | (refine below_drewN ?_ _) | (refine below_thru ?_ (by assumption)) | (refine below_alloc ?_ _) | (refine Below.setCell ?_ (by first | omega | (simp; done) | (simp; omega)) _) | (refine Below.alloc ?_ (by first | omega | (simp; done) | (simp; omega)) _)))⟩
      all_goals simp_all
    · have hD : decide ((s1, n1, xs) = (s2, n2, ys)) = false := by simp [h2]
      have hb : (n1 != n2) = true := by simp [h2]
      rw [hD]
      subst h1
      clear h2 hD
      go_enter Try.func32, Try.ntmps32
      go_wp2_with fail
      go_ret
      exact ⟨rfl, (by repeat' (first | exact Below.refl _ _ | assumption | (refine Below.drew ?_) | (refine below_drewN ?_ _) | (refine below_thru ?_ (by assumption)) | (refine below_alloc ?_ _) | (refine Below.setCell ?_ (by first | omega | (simp; done) | (simp; omega)) _) | (refine Below.alloc ?_ (by first | omega | (simp; done) | (simp; omega)) _)))⟩
  · have hD : decide ((s1, n1, xs) = (s2, n2, ys)) = false := by simp [h1]
    have hb : (s1 != s2) = true := by simp [h1]
    rw [hD]
    clear h1 hD
    go_enter Try.func32, Try.ntmps32
    go_wp2_with fail
    go_ret
    exact ⟨rfl, (by repeat' (first | exact Below.refl _ _ | assumption | (refine Below.drew ?_) | (refine below_drewN ?_ _) | (refine below_thru ?_ (by assumption)) | (refine below_alloc ?_ _) | (refine Below.setCell ?_ (by first | omega | (simp; done) | (simp; omega)) _) | (refine Below.alloc ?_ (by first | omega | (simp; done) | (simp; omega)) _)))⟩

/-- all pictures are in their range -/
def picOk (z : Int) : Bool := inB z 0 99

theorem dcOk_no {sec now : Int} {zs : List Int} (h : zs.all picOk = false) : dcOk sec now zs = false := by
  have : (zs.all fun z => inB z 0 99) = false := h
  simp [dcOk, this]
theorem dcOk_sec {sec now : Int} {zs : List Int} (h : inB sec 2 24 = false) : dcOk sec now zs = false := by simp [dcOk, h]
theorem dcOk_now {sec now : Int} {zs : List Int} (h : inB now 0 (sec - 1) = false) : dcOk sec now zs = false := by simp [dcOk, h]
theorem dcOk_len {sec now : Int} {zs : List Int} (h : ¬ (zs.length : Int) = sec) : dcOk sec now zs = false := by simp [dcOk, h]
theorem dcOk_yes {sec now : Int} {zs : List Int} (h : zs.all picOk = true) (h1 : inB sec 2 24 = true) (h2 : inB now 0 (sec - 1) = true) : dcOk sec now zs = decide ((zs.length : Int) = sec) := by
  have : (zs.all fun z => inB z 0 99) = true := h
  simp [dcOk, this, h1, h2]

theorem implDiscOk_any (sec now : Int) (A : Option Addr) (c : Nat) (zs : List Int) (w : World) (hx : IRow w w.heap.size A zs) (bs : -9223372036854775808 ≤ sec ∧ sec ≤ 9223372036854775807) :
    Calls Try.prog 31 #[.agg #[.int .i64 sec, .int .i64 now, .slice A zs.length c]] w fun e w' => e = .returned (.bool (dcOk sec now zs)) ∧ Below w.heap.size w w' := by
  have hm := hx.2.1
  unfold maxLen at hm
  generalize hl : zs.length = n at *
  have HL := Lib.hid hl
  clear hl
  go_enter Try.func31, Try.ntmps31
  go_wp2
  go_loopw [8] (fun i wr => ∃ k : Nat, k ≤ n ∧ i = .int .i64 k ∧ (zs.take k).all picOk = true ∧ wr = w.alloc (.cells #[.int .i64 sec, .int .i64 now, .slice A n c] 45)) (fun i _ => n - (intOf i).toNat)
  case atStart => exact ⟨0, Nat.zero_le _, rfl, rfl, rfl⟩
  case round =>
    obtain ⟨k, hk, rfl, ht, rfl⟩ := hrel
    by_cases hlt : k < n
    · obtain ⟨b1, o1, rfl, hb1, hc1⟩ := hx.at_ (k := k) (by rw [HL.out]; exact hlt)
      have hsn := all_snoc picOk zs k 0 (by rw [HL.out]; exact hlt) ht
      have hfl := all_false picOk zs k 0 (by rw [HL.out]; exact hlt)
      generalize hv : zs.getD k 0 = v at *
      have HS := Lib.hid hsn
      have HF := Lib.hid hfl
      clear hv ht hx hsn hfl
      have hi : (k : Int) < (n : Int) := by omega
      have hne : b1 ≠ w.heap.size := by omega
      go_wp2_with (go_at_call 60; refine (within_any _ _ _ _).mono ?_; rintro e w' ⟨rfl, rfl⟩)
      · have h9 : (!inB v 0 99) = true := by assumption
        have h8 : picOk v = false := by simpa [picOk] using h9
        go_ret
        exact ⟨by rw [dcOk_no (HF.out h8)]; rfl, (by repeat' (first | exact Below.refl _ _ | assumption | (refine Below.drew ?_) | (refine below_drewN ?_ _) | (refine below_thru ?_ (by assumption)) | (refine below_alloc ?_ _) | (refine Below.setCell ?_ (by first | omega | (simp; done) | (simp; omega)) _) | (refine Below.alloc ?_ (by first | omega | (simp; done) | (simp; omega)) _)))⟩
      · have h9 : (!inB v 0 99) = false := by assumption
        have h8 : picOk v = true := by simpa [picOk] using h9
        go_roundw
        case rel => exact ⟨k + 1, by omega, by go_num, by rw [HS.out]; exact h8, trivial⟩
        case measure => simp [intOf]; omega
    · obtain rfl : k = n := by omega
      have e1 := List.take_of_length_le (l := zs) (i := k) (by rw [HL.out]; exact Nat.le_refl _)
      rw [e1] at ht
      have HT := Lib.hid ht
      clear ht e1 hx
      have hl : zs.length = k := HL.out
      by_cases h1 : inB sec 2 24 = true
      · obtain ⟨q1, q2⟩ := inB_iff.1 h1
        go_wp2_with (go_at_call 60; refine (within_any _ _ _ _).mono ?_; rintro e w' ⟨rfl, rfl⟩)
        all_goals go_ret
        all_goals refine ⟨?_, (by repeat' (first | exact Below.refl _ _ | assumption | (refine Below.drew ?_) | (refine below_drewN ?_ _) | (refine below_thru ?_ (by assumption)) | (refine below_alloc ?_ _) | (refine Below.setCell ?_ (by first | omega | (simp; done) | (simp; omega)) _) | (refine Below.alloc ?_ (by first | omega | (simp; done) | (simp; omega)) _)))⟩
        · have h2 : inB now 0 (sec - 1) = true := by assumption
          rw [dcOk_yes HT.out h1 h2, hl]
          simp
          rfl
        · have h2 : ¬ inB now 0 (sec - 1) = true := by assumption
          rw [dcOk_now (by simpa using h2)]
          simp
      · have h1' : inB sec 2 24 = false := by simpa using h1
        clear h1
        go_wp2_with (go_at_call 60; refine (within_any _ _ _ _).mono ?_; rintro e w' ⟨rfl, rfl⟩)
        go_ret
        exact ⟨by rw [dcOk_sec h1']; rfl, (by repeat' (first | exact Below.refl _ _ | assumption | (refine Below.drew ?_) | (refine below_drewN ?_ _) | (refine below_thru ?_ (by assumption)) | (refine below_alloc ?_ _) | (refine Below.setCell ?_ (by first | omega | (simp; done) | (simp; omega)) _) | (refine Below.alloc ?_ (by first | omega | (simp; done) | (simp; omega)) _)))⟩

theorem specDiscOk_any (sec now : Int) (A : Option Addr) (c : Nat) (zs : List Int) (w : World) (hx : IRow w w.heap.size A zs) (bs : -9223372036854775808 ≤ sec ∧ sec ≤ 9223372036854775807) :
    Calls Try.prog 29 #[.agg #[.int .i64 sec, .int .i64 now, .slice A zs.length c]] w fun e w' => e = .returned (.bool (dcOk sec now zs)) ∧ Below w.heap.size w w' := by
  have hm := hx.2.1
  unfold maxLen at hm
  by_cases h1 : inB sec 2 24 = true
  · obtain ⟨q1, q2⟩ := inB_iff.1 h1
    by_cases h2 : inB now 0 (sec - 1) = true
    · by_cases h3 : (zs.length : Int) = sec
      · have h3' : ((zs.length : Int) != sec) = false := by simp [h3]
        have H3 := Lib.hid h3
        clear h3
        generalize hl : zs.length = n at *
        have HL := Lib.hid hl
        clear hl
        go_enter Try.func29, Try.ntmps29
        go_wp2_with (go_at_call 58; refine (l01In_any _ _ _ _).mono ?_; rintro e w' ⟨rfl, rfl⟩)
        go_loopw [3] (fun i wr => ∃ k : Nat, k ≤ n ∧ i = .int .i64 k ∧ (zs.take k).all picOk = true ∧ wr = w.alloc (.cells #[.int .i64 sec, .int .i64 now, .slice A n c] 45)) (fun i _ => n - (intOf i).toNat)
        case atStart => exact ⟨0, Nat.zero_le _, rfl, rfl, rfl⟩
        case round =>
          obtain ⟨k, hk, rfl, ht, rfl⟩ := hrel
          by_cases hlt : k < n
          · obtain ⟨b1, o1, rfl, hb1, hc1⟩ := hx.at_ (k := k) (by rw [HL.out]; exact hlt)
            have hsn := all_snoc picOk zs k 0 (by rw [HL.out]; exact hlt) ht
            have hfl := all_false picOk zs k 0 (by rw [HL.out]; exact hlt)
            generalize hv : zs.getD k 0 = v at *
            have HS := Lib.hid hsn
            have HF := Lib.hid hfl
            clear hv ht hx hsn hfl
            have hi : (k : Int) < (n : Int) := by omega
            have hne : b1 ≠ w.heap.size := by omega
            go_wp2_with (go_at_call 58; refine (l01In_any _ _ _ _).mono ?_; rintro e w' ⟨rfl, rfl⟩)
            · have h9 : (!inB v 0 99) = true := by assumption
              have h8 : picOk v = false := by simpa [picOk] using h9
              go_ret
              exact ⟨by rw [dcOk_no (HF.out h8)]; rfl, (by repeat' (first | exact Below.refl _ _ | assumption | (refine Below.drew ?_) | (refine below_drewN ?_ _) | (refine below_thru ?_ (by assumption)) | (refine below_alloc ?_ _) | (refine Below.setCell ?_ (by first | omega | (simp; done) | (simp; omega)) _) | (refine Below.alloc ?_ (by first | omega | (simp; done) | (simp; omega)) _)))⟩
            · have h9 : (!inB v 0 99) = false := by assumption
              have h8 : picOk v = true := by simpa [picOk] using h9
              go_roundw
              case rel => exact ⟨k + 1, by omega, by go_num, by rw [HS.out]; exact h8, trivial⟩
              case measure => simp [intOf]; omega
          · obtain rfl : k = n := by omega
            have e1 := List.take_of_length_le (l := zs) (i := k) (by rw [HL.out]; exact Nat.le_refl _)
            rw [e1] at ht
            have HT := Lib.hid ht
            clear ht e1 hx
            go_wp2_with fail
            go_ret
            refine ⟨?_, (by repeat' (first | exact Below.refl _ _ | assumption | (refine Below.drew ?_) | (refine below_drewN ?_ _) | (refine below_thru ?_ (by assumption)) | (refine below_alloc ?_ _) | (refine Below.setCell ?_ (by first | omega | (simp; done) | (simp; omega)) _) | (refine Below.alloc ?_ (by first | omega | (simp; done) | (simp; omega)) _)))⟩
            rw [dcOk_yes HT.out h1 h2, HL.out, decide_eq_true H3.out]
            rfl
      · have h3' : ((zs.length : Int) != sec) = true := by simp [h3]
        rw [dcOk_len h3]
        clear h3
        go_enter Try.func29, Try.ntmps29
        go_wp2_with (go_at_call 58; refine (l01In_any _ _ _ _).mono ?_; rintro e w' ⟨rfl, rfl⟩)
        go_ret
        exact ⟨rfl, (by repeat' (first | exact Below.refl _ _ | assumption | (refine Below.drew ?_) | (refine below_drewN ?_ _) | (refine below_thru ?_ (by assumption)) | (refine below_alloc ?_ _) | (refine Below.setCell ?_ (by first | omega | (simp; done) | (simp; omega)) _) | (refine Below.alloc ?_ (by first | omega | (simp; done) | (simp; omega)) _)))⟩
    · have h2' : inB now 0 (sec - 1) = false := by simpa using h2
      rw [dcOk_now h2']
      clear h2
      go_enter Try.func29, Try.ntmps29
      go_wp2_with (go_at_call 58; refine (l01In_any _ _ _ _).mono ?_; rintro e w' ⟨rfl, rfl⟩)
      go_ret
      exact ⟨rfl, (by repeat' (first | exact Below.refl _ _ | assumption | (refine Below.drew ?_) | (refine below_drewN ?_ _) | (refine below_thru ?_ (by assumption)) | (refine below_alloc ?_ _) | (refine Below.setCell ?_ (by first | omega | (simp; done) | (simp; omega)) _) | (refine Below.alloc ?_ (by first | omega | (simp; done) | (simp; omega)) _)))⟩
  · have h1' : inB sec 2 24 = false := by simpa using h1
    rw [dcOk_sec h1']
    clear h1
    go_enter Try.func29, Try.ntmps29
    go_wp2_with (go_at_call 58; refine (l01In_any _ _ _ _).mono ?_; rintro e w' ⟨rfl, rfl⟩)
    go_ret
    exact ⟨rfl, (by repeat' (first | exact Below.refl _ _ | assumption | (refine Below.drew ?_) | (refine below_drewN ?_ _) | (refine below_thru ?_ (by assumption)) | (refine below_alloc ?_ _) | (refine Below.setCell ?_ (by first | omega | (simp; done) | (simp; omega)) _) | (refine Below.alloc ?_ (by first | omega | (simp; done) | (simp; omega)) _)))⟩

end Go.Proofs.Ytlbbnbhehonbiaa
