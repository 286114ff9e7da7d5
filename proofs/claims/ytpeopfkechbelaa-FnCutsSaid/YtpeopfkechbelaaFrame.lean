
/-
  Contracts of SameFrame on both sides; no condition beyond the length of the texts.
-/
import Derived.Test.YtpeopfkechbelaaCorner
namespace Go.Proofs.Ytpeopfkechbelaa
open Go.ChangeShapes Go.WideShapes Go.ChangeAt Go.RowKit Go.Deep Go.BigFrame
set_option linter.unusedVariables false

def sameFrame (l m : List UInt8) : Bool := isStrip l && (isStrip m && (decide (dn l = dn m) && decide (fw l = fw m)))

theorem sameFrame_parts {l m : List UInt8} (h : sameFrame l m = true) : isStrip l = true ∧ isStrip m = true ∧ dn l = dn m ∧ fw l = fw m := by
  simp only [sameFrame, Bool.and_eq_true, decide_eq_true_eq] at h
  exact h

theorem specSameFrame_any (s t : ByteArray) (w : World) (hs : s.size ≤ 4294967296) (ht : t.size ≤ 4294967296) : Calls Try.prog 64 #[.string s, .string t] w fun e w' => e = .returned (.bool (sameFrame s.data.toList t.data.toList)) ∧ w = w' := by
  have c1 := fun w => specIsStrip_any s w hs
  have c2 := fun w => specIsStrip_any t w ht
  have c3 := fun w => specDownOf_any s w hs
  have c4 := fun w => specDownOf_any t w ht
  have c5 := fun w => specForwardOf_any s w hs
  have c6 := fun w => specForwardOf_any t w ht
  by_cases h1 : isStrip s.data.toList = true
  case neg =>
    have h1' : isStrip s.data.toList = false := by simpa using h1
    unfold sameFrame
    rw [h1'] at c1 ⊢
    have C1 := Lib.hid c1
    clear c1 c2 c3 c4 c5 c6 h1 h1'
    go_enter Try.func64, Try.ntmps64
    go_wp2_with fail
    refine (C1.out _).mono ?_
    rintro e w1 ⟨rfl, rfl⟩
    go_wp2_with fail
    go_ret
    exact ⟨rfl, rfl⟩
  by_cases h2 : isStrip t.data.toList = true
  case neg =>
    have h2' : isStrip t.data.toList = false := by simpa using h2
    unfold sameFrame
    rw [h2'] at c2 ⊢
    rw [h1] at c1 ⊢
    have C1 := Lib.hid c1
    have C2 := Lib.hid c2
    clear c1 c2 c3 c4 c5 c6 h2 h2' h1
    go_enter Try.func64, Try.ntmps64
    go_wp2_with fail
    refine (C1.out _).mono ?_
    rintro e w1 ⟨rfl, rfl⟩
    go_wp2_with fail
    refine (C2.out _).mono ?_
    rintro e w1 ⟨rfl, rfl⟩
    go_wp2_with fail
    go_ret
    exact ⟨rfl, rfl⟩
  unfold sameFrame
  rw [downOf_yes h1] at c3
  rw [downOf_yes h2] at c4
  rw [forwardOf_yes h1] at c5
  rw [forwardOf_yes h2] at c6
  rw [h1] at c1 ⊢
  rw [h2] at c2 ⊢
  clear h1 h2
  generalize dn s.data.toList = d1 at *
  generalize dn t.data.toList = d2 at *
  generalize fw s.data.toList = f1 at *
  generalize fw t.data.toList = f2 at *
  have C1 := Lib.hid c1
  have C2 := Lib.hid c2
  have C3 := Lib.hid c3
  have C4 := Lib.hid c4
  have C5 := Lib.hid c5
  have C6 := Lib.hid c6
  clear c1 c2 c3 c4 c5 c6
  by_cases hd : d1 = d2
  case neg =>
    have hb : ((d1 : Int) == (d2 : Int)) = false := by simp; omega
    rw [decide_eq_false hd]
    clear hd
    go_enter Try.func64, Try.ntmps64
    go_wp2_with fail
    refine (C1.out _).mono ?_
    rintro e w1 ⟨rfl, rfl⟩
    go_wp2_with fail
    refine (C2.out _).mono ?_
    rintro e w1 ⟨rfl, rfl⟩
    go_wp2_with fail
    refine (C3.out _).mono ?_
    rintro e w1 ⟨rfl, rfl⟩
    go_wp2_with fail
    refine (C4.out _).mono ?_
    rintro e w1 ⟨rfl, rfl⟩
    go_wp2_with fail
    go_ret
    exact ⟨rfl, rfl⟩
  subst hd
  by_cases hf : f1 = f2
  case neg =>
    have hb : ((f1 : Int) == (f2 : Int)) = false := by simp; omega
    rw [decide_eq_false hf]
    clear hf
    go_enter Try.func64, Try.ntmps64
    go_wp2_with fail
    refine (C1.out _).mono ?_
    rintro e w1 ⟨rfl, rfl⟩
    go_wp2_with fail
    refine (C2.out _).mono ?_
    rintro e w1 ⟨rfl, rfl⟩
    go_wp2_with fail
    refine (C3.out _).mono ?_
    rintro e w1 ⟨rfl, rfl⟩
    go_wp2_with fail
    refine (C4.out _).mono ?_
    rintro e w1 ⟨rfl, rfl⟩
    go_wp2_with fail
    refine (C5.out _).mono ?_
    rintro e w1 ⟨rfl, rfl⟩
    go_wp2_with fail
    refine (C6.out _).mono ?_
    rintro e w1 ⟨rfl, rfl⟩
    go_wp2_with fail
    go_ret
    exact ⟨by simp, rfl⟩
  subst hf
  go_enter Try.func64, Try.ntmps64
  go_wp2_with fail
  refine (C1.out _).mono ?_
  rintro e w1 ⟨rfl, rfl⟩
  go_wp2_with fail
  refine (C2.out _).mono ?_
  rintro e w1 ⟨rfl, rfl⟩
  go_wp2_with fail
  refine (C3.out _).mono ?_
  rintro e w1 ⟨rfl, rfl⟩
  go_wp2_with fail
  refine (C4.out _).mono ?_
  rintro e w1 ⟨rfl, rfl⟩
  go_wp2_with fail
  refine (C5.out _).mono ?_
  rintro e w1 ⟨rfl, rfl⟩
  go_wp2_with fail
  refine (C6.out _).mono ?_
  rintro e w1 ⟨rfl, rfl⟩
  go_wp2_with fail
  go_ret
  exact ⟨by simp, rfl⟩

theorem implSameFrame_any (s t : ByteArray) (w : World) (hs : s.size ≤ 4294967296) (ht : t.size ≤ 4294967296) : Calls Try.prog 55 #[.string s, .string t] w fun e w' => e = .returned (.bool (sameFrame s.data.toList t.data.toList)) ∧ w = w' := by
  have c1 := fun w => implIsStrip_any s w hs
  have c2 := fun w => implIsStrip_any t w ht
  have c3 := fun w => implDownOf_any s w hs
  have c4 := fun w => implDownOf_any t w ht
  by_cases h1 : isStrip s.data.toList = true
  case neg =>
    have h1' : isStrip s.data.toList = false := by simpa using h1
    unfold sameFrame
    rw [h1'] at c1 ⊢
    have C1 := Lib.hid c1
    clear c1 c2 c3 c4 h1 h1'
    go_enter Try.func55, Try.ntmps55
    go_wp2_with fail
    refine (C1.out _).mono ?_
    rintro e w1 ⟨rfl, rfl⟩
    go_wp2_with fail
    go_ret
    exact ⟨rfl, rfl⟩
  by_cases h2 : isStrip t.data.toList = true
  case neg =>
    have h2' : isStrip t.data.toList = false := by simpa using h2
    unfold sameFrame
    rw [h2'] at c2 ⊢
    rw [h1] at c1 ⊢
    have C1 := Lib.hid c1
    have C2 := Lib.hid c2
    clear c1 c2 c3 c4 h2 h2' h1
    go_enter Try.func55, Try.ntmps55
    go_wp2_with fail
    refine (C1.out _).mono ?_
    rintro e w1 ⟨rfl, rfl⟩
    go_wp2_with fail
    refine (C2.out _).mono ?_
    rintro e w1 ⟨rfl, rfl⟩
    go_wp2_with fail
    go_ret
    exact ⟨rfl, rfl⟩
  unfold sameFrame
  have p1 := (isStrip_parts h1).1
  have p2 := (isStrip_parts h2).1
  rw [size_list] at p1 p2
  rw [downOf_yes h1] at c3
  rw [downOf_yes h2] at c4
  rw [h1] at c1 ⊢
  rw [h2] at c2 ⊢
  clear h1 h2
  generalize dn s.data.toList = d1 at *
  generalize dn t.data.toList = d2 at *
  generalize fw s.data.toList = f1 at *
  generalize fw t.data.toList = f2 at *
  have C1 := Lib.hid c1
  have C2 := Lib.hid c2
  have C3 := Lib.hid c3
  have C4 := Lib.hid c4
  clear c1 c2 c3 c4
  by_cases hl : s.size = t.size
  case neg =>
    have hb : ((s.size : Int) == (t.size : Int)) = false := by simp; omega
    have hr : (decide (d1 = d2) && decide (f1 = f2)) = false := by
      simp only [Bool.and_eq_false_iff, decide_eq_false_iff_not]
      omega
    rw [hr]
    clear hl hr
    go_enter Try.func55, Try.ntmps55
    go_wp2_with fail
    refine (C1.out _).mono ?_
    rintro e w1 ⟨rfl, rfl⟩
    go_wp2_with fail
    refine (C2.out _).mono ?_
    rintro e w1 ⟨rfl, rfl⟩
    go_wp2_with fail
    go_ret
    exact ⟨rfl, rfl⟩
  have hb1 : ((s.size : Int) == (t.size : Int)) = true := by simp; omega
  by_cases hd : d1 = d2
  case neg =>
    have hb : ((d1 : Int) == (d2 : Int)) = false := by simp; omega
    rw [decide_eq_false hd]
    clear hd hl
    go_enter Try.func55, Try.ntmps55
    go_wp2_with fail
    refine (C1.out _).mono ?_
    rintro e w1 ⟨rfl, rfl⟩
    go_wp2_with fail
    refine (C2.out _).mono ?_
    rintro e w1 ⟨rfl, rfl⟩
    go_wp2_with fail
    refine (C3.out _).mono ?_
    rintro e w1 ⟨rfl, rfl⟩
    go_wp2_with fail
    refine (C4.out _).mono ?_
    rintro e w1 ⟨rfl, rfl⟩
    go_wp2_with fail
    go_ret
    exact ⟨rfl, rfl⟩
  have hf : f1 = f2 := by omega
  subst hd
  subst hf
  clear hl
  go_enter Try.func55, Try.ntmps55
  go_wp2_with fail
  refine (C1.out _).mono ?_
  rintro e w1 ⟨rfl, rfl⟩
  go_wp2_with fail
  refine (C2.out _).mono ?_
  rintro e w1 ⟨rfl, rfl⟩
  go_wp2_with fail
  refine (C3.out _).mono ?_
  rintro e w1 ⟨rfl, rfl⟩
  go_wp2_with fail
  refine (C4.out _).mono ?_
  rintro e w1 ⟨rfl, rfl⟩
  go_wp2_with fail
  go_ret
  exact ⟨by simp, rfl⟩

end Go.Proofs.Ytpeopfkechbelaa
