
/-
  Contracts of what a valid card is, on the reference's side, and of its strips; no condition beyond the size of its texts.
-/
import Derived.Test.YtpeopfkechbelaaCard
namespace Go.Proofs.Ytpeopfkechbelaa
open Go.ChangeShapes Go.WideShapes Go.ChangeAt Go.RowKit Go.Deep Go.BigFrame
set_option linter.unusedVariables false
set_option linter.unusedSimpArgs false

theorem cardOk_frame {d f : Int} {ss : List ByteArray} (h : (inB d 1 8 && inB f 1 8) = false) : cardOk d f ss = false := by
  unfold cardOk
  rw [← Bool.and_assoc, h]
  rfl
theorem cardOk_len {d f : Int} {ss : List ByteArray} (h : inB (ss.length : Int) 1 10 = false) : cardOk d f ss = false := by
  unfold cardOk
  rw [h]
  simp

theorem specCardOk_any (d f : Int) (A : Option Addr) (c : Nat) (ss : List ByteArray) (w : World) (hx : SRow w w.heap.size A ss) (hm : ∀ s ∈ ss, s.size ≤ 4294967296) :
    Calls Try.prog 61 #[.agg #[.int .i64 d, .int .i64 f, .slice A ss.length c]] w fun e w' => e = .returned (.bool (cardOk d f ss)) ∧ Below w.heap.size w w' := by
  have hmx := hx.2.1
  unfold maxLen at hmx
  have hF := fun w => l02Frame_any d f w
  cases g1 : (inB d 1 8 && inB f 1 8)
  · rw [g1] at hF
    rw [cardOk_frame g1]
    clear g1
    go_enter Try.func61, Try.ntmps61
    go_wp2_with fail
    refine (hF _).mono ?_
    rintro e w1 ⟨rfl, rfl⟩
    go_wp2_with fail
    go_ret
    exact ⟨rfl, (by repeat' (first | exact Below.refl _ _ | assumption | (refine Below.drew ?_) | (refine below_drewN ?_ _) | (refine below_thru ?_ (by assumption)) | (refine below_alloc ?_ _) | (refine Below.setCell ?_ (by first | omega | (simp; done) | (simp; omega)) _) | (refine Below.alloc ?_ (by first | omega | (simp; done) | (simp; omega)) _)))⟩
  rw [g1] at hF
  have HFR := Lib.hid hF
  cases g2 : inB (ss.length : Int) 1 10
  · rw [cardOk_len g2]
    have HL := Lib.hid (fun w => l01In_is g2 w)
    clear g1 g2 hF
    go_enter Try.func61, Try.ntmps61
    go_wp2_with fail
    refine (HFR.out _).mono ?_
    rintro e w1 ⟨rfl, rfl⟩
    go_wp2_with fail
    refine (HL.out _).mono ?_
    rintro e w1 ⟨rfl, rfl⟩
    go_wp2_with fail
    go_ret
    exact ⟨rfl, (by repeat' (first | exact Below.refl _ _ | assumption | (refine Below.drew ?_) | (refine below_drewN ?_ _) | (refine below_thru ?_ (by assumption)) | (refine below_alloc ?_ _) | (refine Below.setCell ?_ (by first | omega | (simp; done) | (simp; omega)) _) | (refine Below.alloc ?_ (by first | omega | (simp; done) | (simp; omega)) _)))⟩
  have HLN := Lib.hid (fun w => l01In_is g2 w)
  have hdef : cardOk d f ss = ss.all (inFrame d f) := by unfold cardOk; rw [← Bool.and_assoc, g1, g2]; rfl
  have HDEF := Lib.hid hdef
  clear g1 g2 hF hdef
  generalize hl : ss.length = n at *
  have HL := Lib.hid hl
  clear hl
  go_enter Try.func61, Try.ntmps61
  go_wp2_with fail
  refine (HFR.out _).mono ?_
  rintro e w1 ⟨rfl, rfl⟩
  go_wp2_with fail
  refine (HLN.out _).mono ?_
  rintro e w1 ⟨rfl, rfl⟩
  go_wp2_with fail
  go_loopw [3] (fun i wr => ∃ k : Nat, k ≤ n ∧ i = .int .i64 k ∧ (ss.take k).all (inFrame d f) = true ∧ wr.cell? ⟨w.heap.size, 0, none⟩ = some (.int .i64 d) ∧ wr.cell? ⟨w.heap.size, 1, none⟩ = some (.int .i64 f) ∧ wr.cell? ⟨w.heap.size, 2, none⟩ = some (.slice A n c) ∧ Below w.heap.size w wr) (fun i _ => n - (intOf i).toNat)
  case atStart => exact ⟨0, Nat.zero_le _, rfl, rfl, by go_simp, by go_simp, by go_simp, (by repeat' (first | exact Below.refl _ _ | assumption | (refine Below.drew ?_) | (refine below_drewN ?_ _) | (refine below_thru ?_ (by assumption)) | (refine below_alloc ?_ _) | (refine Below.setCell ?_ (by first | omega | (simp; done) | (simp; omega)) _) | (refine Below.alloc ?_ (by first | omega | (simp; done) | (simp; omega)) _)))⟩
  case round =>
    obtain ⟨k, hk, rfl, ht, q0, q1, q2, hbr⟩ := hrel
    by_cases hlt : k < n
    · have hkl : k < ss.length := by rw [HL.out]; exact hlt
      obtain ⟨b1, o1, rfl, hb1, hc1⟩ := (hx.below hbr).at_ (k := k) hkl
      have HB := Lib.hid hbr
      have hsz := hm _ (mem_getD hkl)
      have hD := fun w => specDownOf_any (ss.getD k .empty) w hsz
      have hF := fun w => specForwardOf_any (ss.getD k .empty) w hsz
      have hyes := fun h => all_snocS (inFrame d f) ss k hkl ht h
      have hno := fun h => all_falseS (inFrame d f) ss k hkl h
      have y0 := fun h1 h2 => inFrame_yes (d := d) (f := f) (s := ss.getD k .empty) h1 h2
      have n1 := fun h => inFrame_no1 (d := d) (f := f) (s := ss.getD k .empty) h
      have n2 := fun h => inFrame_no2 (d := d) (f := f) (s := ss.getD k .empty) h
      generalize ss.getD k .empty = v at *
      generalize downOf v.data.toList = x at *
      generalize forwardOf v.data.toList = y at *
      have HD := Lib.hid hD
      have HF := Lib.hid hF
      have HY := Lib.hid hyes
      have HN := Lib.hid hno
      have Y0 := Lib.hid y0
      have N1 := Lib.hid n1
      have N2 := Lib.hid n2
      have hi : (k : Int) < (n : Int) := by omega
      clear hD hF hyes hno y0 n1 n2 ht hm hx hbr
      by_cases h1 : (x : Int) = d
      · have b1 := int_bne_f h1
        by_cases h2 : (y : Int) = f
        · have b2 := int_bne_f h2
          have HE := Lib.hid (HY.out (Y0.out h1 h2))
          clear h1 h2
          go_wp2_with fail
          go_quiet ((first | (go_at_call 29; exact quiet_left (HD.out _)) | (go_at_call 30; exact quiet_left (HF.out _))))
          go_wp2_with fail
          go_roundw
          case rel => exact ⟨k + 1, by omega, by go_num, HE.out, q0, q1, q2, below_drewN HB.out _⟩
          case measure => simp [intOf]; omega
        · have b2 := int_bne_t h2
          have HE := Lib.hid (HN.out (N2.out h2))
          clear h1 h2
          go_wp2_with fail
          go_quiet ((first | (go_at_call 29; exact quiet_left (HD.out _)) | (go_at_call 30; exact quiet_left (HF.out _))))
          go_wp2_with fail
          go_ret
          exact ⟨by rw [HDEF.out, HE.out]; rfl, below_drewN HB.out _⟩
      · have b1 := int_bne_t h1
        have HE := Lib.hid (HN.out (N1.out h1))
        clear h1
        go_wp2_with fail
        go_quiet ((first | (go_at_call 29; exact quiet_left (HD.out _)) | (go_at_call 30; exact quiet_left (HF.out _))))
        go_wp2_with fail
        go_ret
        exact ⟨by rw [HDEF.out, HE.out]; rfl, below_drewN HB.out _⟩
    · obtain rfl : k = n := by omega
      have e1 := List.take_of_length_le (l := ss) (i := k) (by rw [HL.out]; exact Nat.le_refl _)
      rw [e1] at ht
      have HE := Lib.hid (HDEF.out.trans ht)
      have HB := Lib.hid hbr
      clear ht hx hm e1 hbr
      go_wp2_with fail
      go_ret
      exact ⟨by rw [HE.out]; rfl, HB.out⟩

/-- a valid card has a strip at k -/
def hasStrip (d f : Int) (ss : List ByteArray) (k : Int) : Bool := cardOk d f ss && inB k 0 (ss.length - 1)
theorem cardOk_parts {d f : Int} {ss : List ByteArray} (h : cardOk d f ss = true) : (1 ≤ d ∧ d ≤ 8) ∧ (1 ≤ f ∧ f ≤ 8) ∧ (1 ≤ ss.length ∧ ss.length ≤ 10) ∧ ∀ s ∈ ss, (downOf s.data.toList : Int) = d ∧ (forwardOf s.data.toList : Int) = f := by
  simp only [cardOk, Bool.and_eq_true] at h
  obtain ⟨h1, h2, h3, h4⟩ := h
  have a := inB_iff.1 h1
  have b := inB_iff.1 h2
  have c := inB_iff.1 h3
  refine ⟨a, b, by omega, fun s hs => ?_⟩
  rw [List.all_eq_true] at h4
  have := h4 s hs
  simpa [inFrame] using this
theorem cardOk_strip {d f : Int} {ss : List ByteArray} (h : cardOk d f ss = true) {s : ByteArray} (hs : s ∈ ss) : isStrip s.data.toList = true ∧ (dn s.data.toList : Int) = d ∧ (fw s.data.toList : Int) = f := by
  obtain ⟨h1, h2, h3, h4⟩ := cardOk_parts h
  have := h4 s hs
  cases e : isStrip s.data.toList with
  | false => rw [downOf_no e] at this; omega
  | true => rw [downOf_yes e, forwardOf_yes e] at this; exact ⟨rfl, this.1, this.2⟩

end Go.Proofs.Ytpeopfkechbelaa
