
/-
  The crease at one place of a strip: plain words, and the contract of the reference's l15Crease; no condition beyond the length of the text.
-/
import Derived.Test.YtjdelolfbnaiaaaCorner
namespace Go.Proofs.Ytjdelolfbnaiaaa
open Go.ChangeShapes Go.WideShapes Go.ChangeAt Go.RowKit Go.Deep Go.BigFrame
set_option linter.unusedVariables false
set_option linter.unusedSimpArgs false

/-- the crease at a place: 1 a mountain, 2 a valley, 0 none -/
def crease (l : List UInt8) (i : Int) : Int :=
  if (i = 0 ∧ at_ l 0 = 102) ∨ (i = l.length ∧ at_ l (l.length - 1) = 100) then 2 else if foldAt 102 l i = true then 1 else if foldAt 100 l i = true then 2 else 0
theorem foldAt_in {c : UInt8} {l : List UInt8} {i : Int} (h : foldAt c l i = true) : 1 ≤ i ∧ i + 1 ≤ l.length := by
  simp only [foldAt, corner, Bool.and_eq_true, decide_eq_true_eq] at h
  omega
theorem foldAt_lo {c : UInt8} {l : List UInt8} {i : Int} (h : i < 1 ∨ (l.length : Int) ≤ i) : foldAt c l i = false := by
  cases e : foldAt c l i with
  | false => rfl
  | true => have := foldAt_in e; omega
theorem crease_first {l : List UInt8} (h : at_ l 0 = 102) : crease l 0 = 2 := if_pos (Or.inl ⟨rfl, h⟩)
theorem crease_last {l : List UInt8} (h : at_ l (l.length - 1) = 100) : crease l l.length = 2 := if_pos (Or.inr ⟨rfl, h⟩)
theorem crease_m {l : List UInt8} {i : Int} (h : foldAt 102 l i = true) : crease l i = 1 := by
  have := foldAt_in h
  unfold crease
  rw [if_neg (by rintro (⟨a, _⟩ | ⟨a, _⟩) <;> omega), if_pos h]
theorem crease_v {l : List UInt8} {i : Int} (h : foldAt 100 l i = true) : crease l i = 2 := by
  have := foldAt_in h
  have hm : foldAt 102 l i = false := by
    cases e : foldAt 102 l i with
    | false => rfl
    | true =>
      simp only [foldAt, Bool.and_eq_true, decide_eq_true_eq] at h e
      have := h.2.2.2.symm.trans e.2.2.2
      exact absurd this (by decide)
  unfold crease
  rw [if_neg (by rintro (⟨a, _⟩ | ⟨a, _⟩) <;> omega), hm, if_neg (by decide), if_pos h]
theorem crease_0 {l : List UInt8} {i : Int} (h1 : ¬ (i = 0 ∧ at_ l 0 = 102)) (h2 : ¬ (i = l.length ∧ at_ l (l.length - 1) = 100)) (h3 : foldAt 102 l i = false) (h4 : foldAt 100 l i = false) : crease l i = 0 := by
  unfold crease
  rw [if_neg (by rintro (h | h); exact h1 h; exact h2 h), h3, if_neg (by decide), h4, if_neg (by decide)]
theorem crease_in (l : List UInt8) (i : Int) : 0 ≤ crease l i ∧ crease l i ≤ 2 := by
  unfold crease
  by_cases h1 : (i = 0 ∧ at_ l 0 = 102) ∨ (i = l.length ∧ at_ l (l.length - 1) = 100)
  · rw [if_pos h1]; decide
  · rw [if_neg h1]
    by_cases h2 : foldAt 102 l i = true
    · rw [if_pos h2]; decide
    · rw [if_neg h2]
      by_cases h3 : foldAt 100 l i = true
      · rw [if_pos h3]; decide
      · rw [if_neg h3]; decide

theorem u8_t {c d : UInt8} (h : c = d) : ((c.toNat : Int) == (d.toNat : Int)) = true := by rw [h]; simp
theorem u8_f {c d : UInt8} (h : ¬ c = d) : ((c.toNat : Int) == (d.toNat : Int)) = false := by rw [u8_eq]; simp [h]

theorem l15Crease_any (s : ByteArray) (i : Int) (w : World) (hs : s.size ≤ 4294967296) (h2 : 2 ≤ s.size) : Calls Try.prog 46 #[.string s, .int .i64 i] w fun e w' => e = .returned (.int .i64 (crease s.data.toList i)) ∧ ∃ q, w' = w.drewN q := by
  have hM := fun w => specIsMountain_any s i w hs
  have hV := fun w => specIsValley_any s i w hs
  have hg0 := at_get s 0 (by omega)
  have hgl := at_get s (s.size - 1) (by omega)
  have hz := size_list s
  obtain ⟨l, hl⟩ : ∃ l, l = s.data.toList := ⟨_, rfl⟩
  rw [← hl] at hM hV hg0 hgl hz ⊢
  have fold : (¬ (i = 0 ∧ at_ l 0 = 102)) → (¬ (i = l.length ∧ at_ l (l.length - 1) = 100)) → (foldAt 102 l i = true ∧ crease l i = 1) ∨ (foldAt 102 l i = false ∧ foldAt 100 l i = true ∧ crease l i = 2) ∨ (foldAt 102 l i = false ∧ foldAt 100 l i = false ∧ crease l i = 0) := fun a b => by
    cases hm : foldAt 102 l i with
    | true => exact Or.inl ⟨rfl, crease_m hm⟩
    | false =>
      cases hv : foldAt 100 l i with
      | true => exact Or.inr (Or.inl ⟨rfl, rfl, crease_v hv⟩)
      | false => exact Or.inr (Or.inr ⟨rfl, rfl, crease_0 a b hm hv⟩)
  have cl := crease_last (l := l)
  rw [hz] at fold cl
  have FO := Lib.hid fold
  have HZ := Lib.hid hz
  have CL := Lib.hid cl
  clear fold hl hz cl
  have hb1 : (s.size : Int) - 1 < (s.size : Int) := by omega
  by_cases h0 : i = 0
  · subst h0
    have bl : ((0 : Int) == (s.size : Int)) = false := by simp; omega
    by_cases h1 : at_ l 0 = 102
    · have b1 : (((at_ l 0).toNat : Int) == 102) = true := u8_t h1
      rw [crease_first h1]
      generalize at_ l 0 = c at *
      clear h1 FO hgl
      go_enter Try.func46, Try.ntmps46
      go_wp2_with fail
      go_ret
      exact ⟨rfl, 0, rfl⟩
    · have b1 : (((at_ l 0).toNat : Int) == 102) = false := u8_f h1
      have F2 := Lib.hid (FO.out (fun h => h1 h.2) (fun h => by have := h.1; omega))
      clear FO hgl h1
      generalize at_ l 0 = c at *
      rcases F2.out with ⟨f1, f2⟩ | ⟨f1, f2, f3⟩ | ⟨f1, f2, f3⟩
      · rw [f1] at hM
        rw [f2]
        clear f1 f2 F2
        go_enter Try.func46, Try.ntmps46
        go_wp2_with fail
        refine (hM _).mono ?_
        rintro e w1 ⟨rfl, q, rfl⟩
        go_wp2_with fail
        go_ret
        exact ⟨rfl, q, rfl⟩
      · rw [f1] at hM
        rw [f2] at hV
        rw [f3]
        clear f1 f2 f3 F2
        go_enter Try.func46, Try.ntmps46
        go_wp2_with fail
        refine (hM _).mono ?_
        rintro e w1 ⟨rfl, q, rfl⟩
        go_wp2_with fail
        refine (hV _).mono ?_
        rintro e w1 ⟨rfl, q2, rfl⟩
        go_wp2_with fail
        go_ret
        exact ⟨rfl, q + q2, by simp⟩
      · rw [f1] at hM
        rw [f2] at hV
        rw [f3]
        clear f1 f2 f3 F2
        go_enter Try.func46, Try.ntmps46
        go_wp2_with fail
        refine (hM _).mono ?_
        rintro e w1 ⟨rfl, q, rfl⟩
        go_wp2_with fail
        refine (hV _).mono ?_
        rintro e w1 ⟨rfl, q2, rfl⟩
        go_wp2_with fail
        go_ret
        exact ⟨rfl, q + q2, by simp⟩
  have b0 : (i == 0) = false := by simp [h0]
  by_cases hn : i = (s.size : Int)
  · subst hn
    by_cases h1 : at_ l (s.size - 1) = 100
    · have b1 : (((at_ l (s.size - 1)).toNat : Int) == 100) = true := u8_t h1
      rw [show crease l (s.size : Int) = 2 from CL.out h1]
      generalize at_ l (s.size - 1) = c at *
      clear h1 FO h0 hg0 CL
      go_enter Try.func46, Try.ntmps46
      go_wp2_with fail
      go_ret
      exact ⟨rfl, 0, rfl⟩
    · have b1 : (((at_ l (s.size - 1)).toNat : Int) == 100) = false := u8_f h1
      have F2 := Lib.hid (FO.out (fun h => h0 h.1) (fun h => h1 h.2))
      clear FO h1 h0 hg0 CL
      generalize at_ l (s.size - 1) = c at *
      rcases F2.out with ⟨f1, f2⟩ | ⟨f1, f2, f3⟩ | ⟨f1, f2, f3⟩
      · rw [f1] at hM
        rw [f2]
        clear f1 f2 F2
        go_enter Try.func46, Try.ntmps46
        go_wp2_with fail
        refine (hM _).mono ?_
        rintro e w1 ⟨rfl, q, rfl⟩
        go_wp2_with fail
        go_ret
        exact ⟨rfl, q, rfl⟩
      · rw [f1] at hM
        rw [f2] at hV
        rw [f3]
        clear f1 f2 f3 F2
        go_enter Try.func46, Try.ntmps46
        go_wp2_with fail
        refine (hM _).mono ?_
        rintro e w1 ⟨rfl, q, rfl⟩
        go_wp2_with fail
        refine (hV _).mono ?_
        rintro e w1 ⟨rfl, q2, rfl⟩
        go_wp2_with fail
        go_ret
        exact ⟨rfl, q + q2, by simp⟩
      · rw [f1] at hM
        rw [f2] at hV
        rw [f3]
        clear f1 f2 f3 F2
        go_enter Try.func46, Try.ntmps46
        go_wp2_with fail
        refine (hM _).mono ?_
        rintro e w1 ⟨rfl, q, rfl⟩
        go_wp2_with fail
        refine (hV _).mono ?_
        rintro e w1 ⟨rfl, q2, rfl⟩
        go_wp2_with fail
        go_ret
        exact ⟨rfl, q + q2, by simp⟩
  have bn : (i == (s.size : Int)) = false := by simp [hn]
  have F2 := Lib.hid (FO.out (fun h => h0 h.1) (fun h => hn h.1))
  clear FO h0 hn hg0 hgl CL
  rcases F2.out with ⟨f1, f2⟩ | ⟨f1, f2, f3⟩ | ⟨f1, f2, f3⟩
  · rw [f1] at hM
    rw [f2]
    clear f1 f2 F2
    go_enter Try.func46, Try.ntmps46
    go_wp2_with fail
    refine (hM _).mono ?_
    rintro e w1 ⟨rfl, q, rfl⟩
    go_wp2_with fail
    go_ret
    exact ⟨rfl, q, rfl⟩
  · rw [f1] at hM
    rw [f2] at hV
    rw [f3]
    clear f1 f2 f3 F2
    go_enter Try.func46, Try.ntmps46
    go_wp2_with fail
    refine (hM _).mono ?_
    rintro e w1 ⟨rfl, q, rfl⟩
    go_wp2_with fail
    refine (hV _).mono ?_
    rintro e w1 ⟨rfl, q2, rfl⟩
    go_wp2_with fail
    go_ret
    exact ⟨rfl, q + q2, by simp⟩
  · rw [f1] at hM
    rw [f2] at hV
    rw [f3]
    clear f1 f2 f3 F2
    go_enter Try.func46, Try.ntmps46
    go_wp2_with fail
    refine (hM _).mono ?_
    rintro e w1 ⟨rfl, q, rfl⟩
    go_wp2_with fail
    refine (hV _).mono ?_
    rintro e w1 ⟨rfl, q2, rfl⟩
    go_wp2_with fail
    go_ret
    exact ⟨rfl, q + q2, by simp⟩

end Go.Proofs.Ytjdelolfbnaiaaa
