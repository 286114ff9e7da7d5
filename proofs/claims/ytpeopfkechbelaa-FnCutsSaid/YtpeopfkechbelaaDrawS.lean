
/-
  Contracts of the draws of a strip: some strip of the frame; no condition.
-/
import Derived.Test.YtpeopfkechbelaaDraw
import Derived.Test.YtpeopfkechbelaaStrip
import Derived.Test.YtpeopfkechbelaaTurn
namespace Go.Proofs.Ytpeopfkechbelaa
open Go.ChangeShapes Go.WideShapes Go.ChangeAt Go.RowKit Go.Deep Go.BigFrame
set_option linter.unusedVariables false
set_option linter.unusedSimpArgs false

/-- d letters d, f letters f and no other -/
def StripOf (d f : Nat) (l : List UInt8) : Prop := dn l = d ∧ fw l = f ∧ l.length = d + f
theorem StripOf.strip {d f : Nat} {l : List UInt8} (h : StripOf d f l) (hd : 1 ≤ d ∧ d ≤ 8) (hf : 1 ≤ f ∧ f ≤ 8) : isStrip l = true := by
  obtain ⟨h1, h2, h3⟩ := h
  simp only [isStrip, Bool.and_eq_true, decide_eq_true_eq, inB_iff]
  omega
theorem StripOf.size {d f : Nat} {l : List UInt8} (h : StripOf d f l) : (bs l).size = d + f := by rw [bs_size]; exact h.2.2

theorem l02Draw_any (g : Nat) (A : Option Addr) (c : Nat) (cs : List UInt8) (d f : Nat) (w : World) (h : Cur w g A c cs) (hd : d ≤ 100) (hf : f ≤ 100) :
    Calls Try.prog 51 #[.pointer (some ⟨g, 0, none⟩), .int .i64 d, .int .i64 f] w fun e w' => ∃ l, StripOf d f l ∧ e = .returned (.string (bs l)) ∧ Drew w w' g A c cs := by
  have H0 := Lib.hid (Drew.refl h)
  clear h
  go_enter Try.func51, Try.ntmps51
  go_wp2_with fail
  go_loopw [1, 2, 7] (fun dv fv sv wr => ∃ (a b : Nat) (l : List UInt8), dv = .int .i64 a ∧ fv = .int .i64 b ∧ sv = .string (bs l) ∧ dn l + a = d ∧ fw l + b = f ∧ l.length + (a + b) = d + f ∧ Drew w wr g A c cs) (fun dv fv _ _ => (intOf dv).toNat + (intOf fv).toNat)
  case atStart => exact ⟨d, f, [], rfl, rfl, rfl, by simp [dn], by simp [fw], by simp, H0.out⟩
  case round =>
    obtain ⟨a, b, l, rfl, rfl, rfl, h1, h2, h3, hdr⟩ := hrel
    have HD := Lib.hid hdr
    have HC := Lib.hid hdr.cur
    clear hdr H0
    have hbz : (bs l).size ≤ 1000 := by rw [bs_size]; omega
    have hbz2 := bs_size l
    by_cases h0 : a + b = 0
    · have ha : a = 0 := by omega
      have hb : b = 0 := by omega
      subst ha hb
      have HS := Lib.hid (show StripOf d f l from ⟨by omega, by omega, by omega⟩)
      clear h1 h2 h3 h0
      go_wp2_with fail
      go_ret
      exact ⟨l, HS.out, rfl, HD.out⟩
    · have hx : (0 : Int) < (a : Int) + (b : Int) := by omega
      have hw : IntKind.i64.wrap ((a : Int) + (b : Int)) = ((a + b : Nat) : Int) := by rw [IntKind.wrap_i64]; omega
      have HB := Lib.hid (fun w h => l01Below_any g A c cs (a + b) w h (by omega) (by omega))
      have H1 := Lib.hid h1
      have H2 := Lib.hid h2
      have H3 := Lib.hid h3
      have hab : a + b ≤ 300 := by omega
      clear h1 h2 h3
      go_wp2_with fail
      refine (HB.out _ HC.out).mono ?_
      rintro e w1 ⟨x, hx2, rfl, hdr2⟩
      have HD1 := Lib.hid (HD.out.trans hdr2)
      clear hdr2 HC HD
      by_cases hlt : x < a
      · have hlt2 : (x : Int) < (a : Int) := by omega
        go_wp2_with fail
        go_roundw
        case rel =>
          have e1 := H1.out
          have e2 := H2.out
          have e3 := H3.out
          refine ⟨a - 1, b, l ++ [100], by congr 1; go_num, rfl, by rw [← bs_app]; rfl, ?_, ?_, ?_, HD1.out⟩
          · rw [dn_app, dn_one, if_pos rfl]; omega
          · rw [fw_app, fw_one, if_neg (by decide)]; omega
          · rw [List.length_append]; simp; omega
        case measure => simp [intOf]; omega
      · have hlt2 : ¬ (x : Int) < (a : Int) := by omega
        go_wp2_with fail
        go_roundw
        case rel =>
          have e1 := H1.out
          have e2 := H2.out
          have e3 := H3.out
          refine ⟨a, b - 1, l ++ [102], rfl, by congr 1; go_num, by rw [← bs_app]; rfl, ?_, ?_, ?_, HD1.out⟩
          · rw [dn_app, dn_one, if_neg (by decide)]; omega
          · rw [fw_app, fw_one, if_pos rfl]; omega
          · rw [List.length_append]; simp; omega
        case measure => simp [intOf]; omega

theorem l02Strip_any (g : Nat) (A : Option Addr) (c : Nat) (cs : List UInt8) (w : World) (h : Cur w g A c cs) :
    Calls Try.prog 50 #[.pointer (some ⟨g, 0, none⟩)] w fun e w' => ∃ d f l, (1 ≤ d ∧ d ≤ 5) ∧ (1 ≤ f ∧ f ≤ 5) ∧ StripOf d f l ∧ e = .returned (.string (bs l)) ∧ Drew w w' g A c cs := by
  have HB := Lib.hid (fun w h => l01Below_any g A c cs 5 w h (by decide) (by decide))
  have H0 := Lib.hid h
  clear h
  go_enter Try.func50, Try.ntmps50
  go_wp2_with fail
  refine (HB.out _ H0.out).mono ?_
  rintro e w1 ⟨x, hx, rfl, hd1⟩
  have HD1 := Lib.hid hd1
  clear hd1
  go_wp2_with fail
  refine (HB.out _ HD1.out.cur).mono ?_
  rintro e w2 ⟨y, hy, rfl, hd2⟩
  have HD2 := Lib.hid (HD1.out.trans hd2)
  clear hd2 HD1
  have e1 : IntKind.i64.wrap (1 + (x : Int)) = ((1 + x : Nat) : Int) := by rw [IntKind.wrap_i64]; omega
  have e2 : IntKind.i64.wrap (1 + (y : Int)) = ((1 + y : Nat) : Int) := by rw [IntKind.wrap_i64]; omega
  have HL := Lib.hid (fun w h => l02Draw_any g A c cs (1 + x) (1 + y) w h (by omega) (by omega))
  go_wp2_with fail
  refine (HL.out _ HD2.out.cur).mono ?_
  rintro e w3 ⟨l, hl, rfl, hd3⟩
  have HL3 := Lib.hid hl
  have HD3 := Lib.hid (HD2.out.trans hd3)
  clear hl hd3
  go_wp2_with fail
  go_ret
  exact ⟨1 + x, 1 + y, l, by omega, by omega, HL3.out, rfl, HD3.out⟩

end Go.Proofs.Ytpeopfkechbelaa
