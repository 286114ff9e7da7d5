
/-
  Plain laws of the creases of a strip: peaks, folds, and that a strip can be read from its creases; no condition.
-/
import Derived.Test.YtkhlolhmaoenoaaRead
import Derived.Test.YtkhlolhmaoenoaaCountCr
import Derived.Test.YtkhlolhmaoenoaaLayers
namespace Go.Proofs.Ytkhlolhmaoenoaa
open Go.ChangeShapes Go.WideShapes Go.ChangeAt Go.RowKit Go.Deep
set_option linter.unusedVariables false
set_option linter.unusedSimpArgs false

theorem letter_of {l : List UInt8} (h : isStrip l = true) {k : Nat} (hk : k < l.length) : at_ l k = 100 ∨ at_ l k = 102 := by
  by_cases a : at_ l k = 100
  · exact .inl a
  · by_cases b : at_ l k = 102
    · exact .inr b
    · have := other_letter l k hk a b
      rw [h] at this
      exact absurd this (by simp)
theorem foldAt_nat {c : UInt8} {l : List UInt8} (h : isStrip l = true) {k : Nat} (h1 : 1 ≤ k) (h2 : k < l.length) : foldAt c l (k : Int) = true ↔ at_ l (k - 1) = c ∧ at_ l k ≠ c := by
  simp only [foldAt, corner, h, Bool.and_eq_true, decide_eq_true_eq, Int.toNat_natCast, Bool.not_eq_true', decide_eq_false_iff_not, Bool.true_and]
  constructor
  · rintro ⟨_, ⟨_, _, a⟩, b⟩
    exact ⟨b, fun e => a (b.trans e.symm)⟩
  · rintro ⟨a, b⟩
    exact ⟨by omega, ⟨h1, by omega, fun e => b (e.symm.trans a)⟩, a⟩

/-- how many of the first j places are folds of a kind -/
def cntF (c : UInt8) (l : List UInt8) : Nat → Nat
  | 0 => 0
  | j + 1 => cntF c l j + if foldAt c l (j : Int) = true then 1 else 0
theorem cntF_le (c : UInt8) (l : List UInt8) : ∀ j, cntF c l j ≤ j := by
  intro j
  induction j with
  | zero => exact Nat.le_refl _
  | succ j ih =>
    show cntF c l j + _ ≤ j + 1
    by_cases h : foldAt c l (j : Int) = true
    · rw [if_pos h]; omega
    · rw [if_neg h]; omega
theorem cntF_one (c : UInt8) (l : List UInt8) : cntF c l 1 = 0 := by
  show 0 + _ = 0
  rw [if_neg (by rw [foldAt_lo (.inl (by decide))]; simp)]
theorem cntF_end (c : UInt8) (l : List UInt8) : cntF c l (l.length + 1) = cntF c l l.length := by
  show cntF c l l.length + _ = _
  rw [if_neg (by rw [foldAt_lo (.inr (Int.le_refl _))]; simp)]
  rfl

theorem crease_one (l : List UInt8) (i : Int) (h1 : 1 ≤ l.length) : crease l i = 1 ↔ foldAt 102 l i = true := by
  constructor
  · intro h
    unfold crease at h
    by_cases a : (i = 0 ∧ at_ l 0 = 102) ∨ (i = l.length ∧ at_ l (l.length - 1) = 100)
    · rw [if_pos a] at h; exact absurd h (by decide)
    · rw [if_neg a] at h
      by_cases b : foldAt 102 l i = true
      · exact b
      · rw [if_neg b] at h
        by_cases c : foldAt 100 l i = true
        · rw [if_pos c] at h; exact absurd h (by decide)
        · rw [if_neg c] at h; exact absurd h (by decide)
  · exact crease_m
theorem crease_mid {l : List UInt8} {i : Int} (h : 1 ≤ i) (h2 : i + 1 ≤ l.length) : crease l i = 2 ↔ foldAt 100 l i = true := by
  constructor
  · intro h'
    unfold crease at h'
    rw [if_neg (by rintro (⟨a, _⟩ | ⟨a, _⟩) <;> omega)] at h'
    by_cases b : foldAt 102 l i = true
    · rw [if_pos b] at h'; exact absurd h' (by decide)
    · rw [if_neg b] at h'
      by_cases c : foldAt 100 l i = true
      · exact c
      · rw [if_neg c] at h'; exact absurd h' (by decide)
  · exact crease_v
theorem crease_zero (l : List UInt8) (h1 : 1 ≤ l.length) : crease l 0 = 2 ↔ at_ l 0 = 102 := by
  constructor
  · intro h
    unfold crease at h
    by_cases a : at_ l 0 = 102
    · exact a
    · rw [if_neg (by rintro (⟨_, b⟩ | ⟨b, _⟩); exact a b; omega), foldAt_lo (.inl (by omega)), foldAt_lo (.inl (by omega))] at h
      exact absurd h (by decide)
  · exact crease_first
theorem crease_top (l : List UInt8) (h1 : 1 ≤ l.length) : crease l (l.length : Nat) = 2 ↔ at_ l (l.length - 1) = 100 := by
  constructor
  · intro h
    unfold crease at h
    by_cases a : at_ l (l.length - 1) = 100
    · exact a
    · rw [if_neg (by rintro (⟨b, _⟩ | ⟨_, b⟩); omega; exact a b), foldAt_lo (.inr (Int.le_refl _)), foldAt_lo (.inr (Int.le_refl _))] at h
      exact absurd h (by decide)
  · exact crease_last

theorem cntC_one (l : List UInt8) (h1 : 1 ≤ l.length) : ∀ j, cntC 1 l j = cntF 102 l j := by
  intro j
  induction j with
  | zero => rfl
  | succ j ih =>
    show cntC 1 l j + _ = cntF 102 l j + _
    rw [ih]
    congr 1
    by_cases a : foldAt 102 l (j : Int) = true
    · rw [if_pos a, if_pos (crease_m a)]
    · rw [if_neg a, if_neg (fun e => a ((crease_one l j h1).1 e))]

/-- 1 for yes -/
def b1 (p : Prop) [Decidable p] : Nat := if p then 1 else 0
theorem cntC_two (l : List UInt8) : ∀ j, 1 ≤ j → j ≤ l.length → cntC 2 l j = b1 (at_ l 0 = 102) + cntF 100 l j := by
  intro j
  induction j with
  | zero => intro h; omega
  | succ j ih =>
    intro h1 h2
    show cntC 2 l j + _ = _ + (cntF 100 l j + _)
    by_cases z : j = 0
    · subst z
      rw [if_neg (c := foldAt 100 l ((0 : Nat) : Int) = true) (by rw [foldAt_lo (.inl (by decide))]; simp)]
      show 0 + _ = _
      unfold b1
      by_cases a : at_ l 0 = 102
      · rw [if_pos a, if_pos (show crease l ((0 : Nat) : Int) = 2 from crease_first a)]
        rfl
      · rw [if_neg a, if_neg (show ¬ crease l ((0 : Nat) : Int) = 2 from fun e => a ((crease_zero l (by omega)).1 e))]
        rfl
    · rw [ih (by omega) (by omega), Nat.add_assoc]
      congr 2
      by_cases a : foldAt 100 l (j : Int) = true
      · rw [if_pos a, if_pos (crease_v a)]
      · rw [if_neg a, if_neg (fun e => a ((crease_mid (by omega) (by omega)).1 e))]
theorem cntC_two_all (l : List UInt8) (h1 : 1 ≤ l.length) : cntC 2 l (l.length + 1) = b1 (at_ l 0 = 102) + cntF 100 l l.length + b1 (at_ l (l.length - 1) = 100) := by
  show cntC 2 l l.length + _ = _
  rw [cntC_two l l.length h1 (Nat.le_refl _)]
  congr 1
  unfold b1
  by_cases a : at_ l (l.length - 1) = 100
  · rw [if_pos a, if_pos (crease_last a)]
  · rw [if_neg a, if_neg (fun e => a ((crease_top l h1).1 e))]

/-- mountains and valleys alternate -/
theorem folds_alt {l : List UInt8} (h : isStrip l = true) : ∀ j, 1 ≤ j → j ≤ l.length → b1 (at_ l 0 = 102) + cntF 100 l j = cntF 102 l j + b1 (at_ l (j - 1) = 102) := by
  intro j
  induction j with
  | zero => intro h; omega
  | succ j ih =>
    intro h1 h2
    by_cases z : j = 0
    · subst z
      rw [cntF_one, cntF_one]
      simp
    · have a := ih (by omega) (by omega)
      show _ + (cntF 100 l j + _) = cntF 102 l j + _ + _
      have f1 := foldAt_nat (c := 100) h (k := j) (by omega) (by omega)
      have f2 := foldAt_nat (c := 102) h (k := j) (by omega) (by omega)
      rw [show j + 1 - 1 = j from rfl]
      rcases letter_of h (k := j - 1) (by omega) with c | c <;> rcases letter_of h (k := j) (by omega) with e | e
      · rw [if_neg (fun x => (f1.1 x).2 e), if_neg (fun x => absurd (c.symm.trans (f2.1 x).1) (by decide)), show b1 (at_ l j = 102) = 0 from if_neg (by rw [e]; decide)]
        rw [show b1 (at_ l (j - 1) = 102) = 0 from if_neg (by rw [c]; decide)] at a
        omega
      · rw [if_pos (f1.2 ⟨c, by rw [e]; decide⟩), if_neg (fun x => absurd (c.symm.trans (f2.1 x).1) (by decide)), show b1 (at_ l j = 102) = 1 from if_pos e]
        rw [show b1 (at_ l (j - 1) = 102) = 0 from if_neg (by rw [c]; decide)] at a
        omega
      · rw [if_neg (fun x => absurd (c.symm.trans (f1.1 x).1) (by decide)), if_pos (f2.2 ⟨c, by rw [e]; decide⟩), show b1 (at_ l j = 102) = 0 from if_neg (by rw [e]; decide)]
        rw [show b1 (at_ l (j - 1) = 102) = 1 from if_pos c] at a
        omega
      · rw [if_neg (fun x => absurd (c.symm.trans (f1.1 x).1) (by decide)), if_neg (fun x => (f2.1 x).2 e), show b1 (at_ l j = 102) = 1 from if_pos e]
        rw [show b1 (at_ l (j - 1) = 102) = 1 from if_pos c] at a
        omega

/-- the corners of the first j places -/
def cntK (l : List UInt8) : Nat → Nat
  | 0 => 0
  | j + 1 => cntK l j + if corner l j = true then 1 else 0
theorem cntK_is {l : List UInt8} (h : isStrip l = true) : ∀ j, j ≤ l.length → cntK l j = cntF 100 l j + cntF 102 l j := by
  intro j
  induction j with
  | zero => intro _; rfl
  | succ j ih =>
    intro h2
    have a := ih (by omega)
    show cntK l j + _ = (cntF 100 l j + _) + (cntF 102 l j + _)
    by_cases z : j = 0
    · subst z
      rw [if_neg (by simp [corner]), if_neg (by rw [foldAt_lo (.inl (by decide))]; simp), if_neg (by rw [foldAt_lo (.inl (by decide))]; simp)]
      rfl
    · have f1 := foldAt_nat (c := 100) h (k := j) (by omega) (by omega)
      have f2 := foldAt_nat (c := 102) h (k := j) (by omega) (by omega)
      have fc : corner l j = true ↔ at_ l (j - 1) ≠ at_ l j := by
        simp only [corner, Bool.and_eq_true, decide_eq_true_eq, Bool.not_eq_true', decide_eq_false_iff_not]
        exact ⟨fun x => x.2.2, fun x => ⟨by omega, by omega, x⟩⟩
      rcases letter_of h (k := j - 1) (by omega) with c | c <;> rcases letter_of h (k := j) (by omega) with e | e
      · rw [if_neg (fun x => fc.1 x (c.trans e.symm)), if_neg (fun x => (f1.1 x).2 e), if_neg (fun x => absurd (c.symm.trans (f2.1 x).1) (by decide))]
        omega
      · rw [if_pos (fc.2 (by rw [c, e]; decide)), if_pos (f1.2 ⟨c, by rw [e]; decide⟩), if_neg (fun x => absurd (c.symm.trans (f2.1 x).1) (by decide))]
        omega
      · rw [if_pos (fc.2 (by rw [c, e]; decide)), if_neg (fun x => absurd (c.symm.trans (f1.1 x).1) (by decide)), if_pos (f2.2 ⟨c, by rw [e]; decide⟩)]
        omega
      · rw [if_neg (fun x => fc.1 x (c.trans e.symm)), if_neg (fun x => absurd (c.symm.trans (f1.1 x).1) (by decide)), if_neg (fun x => (f2.1 x).2 e)]
        omega

/-- the folds of a strip -/
def foldsOf (l : List UInt8) : Nat := cntK l l.length + b1 (at_ l 0 = 102) + b1 (at_ l (l.length - 1) = 100)
def peaksOf (l : List UInt8) : Nat := cntF 102 l l.length
theorem creases_law {l : List UInt8} (h : isStrip l = true) : cntC 1 l (l.length + 1) = peaksOf l ∧ cntC 2 l (l.length + 1) = peaksOf l + 1 ∧ foldsOf l = 2 * peaksOf l + 1 := by
  have hp := isStrip_parts h
  have a := folds_alt h l.length (by omega) (Nat.le_refl _)
  have b := cntC_two_all l (by omega)
  have c := cntK_is h l.length (Nat.le_refl _)
  have d := cntC_one l (by omega) (l.length + 1)
  rw [cntF_end] at d
  have e : b1 (at_ l (l.length - 1) = 102) + b1 (at_ l (l.length - 1) = 100) = 1 := by
    rcases letter_of h (k := l.length - 1) (by omega) with x | x
    · rw [x]; rfl
    · rw [x]; rfl
  unfold foldsOf peaksOf
  omega

theorem at_map_range (F : Nat → UInt8) (n i : Nat) (h : i < n) : at_ ((List.range n).map F) i = F i := by
  unfold at_
  simp [List.getD, h]
theorem ctext_at (l : List UInt8) (i : Nat) (h : i ≤ l.length) : at_ (ctext l) i = cl (crease l i) := at_map_range _ _ _ (by omega)
theorem cl_v (x : Int) : cl x = 118 ↔ x = 2 := by
  unfold cl
  by_cases a : x = 1
  · rw [if_pos a, a]; decide
  · rw [if_neg a]
    by_cases b : x = 2
    · rw [if_pos b, b]; decide
    · rw [if_neg b]
      exact ⟨fun e => absurd e (by decide), fun e => absurd e b⟩
theorem cl_dot (x : Int) : cl x = 46 ↔ ¬ (x = 1 ∨ x = 2) := by
  unfold cl
  by_cases a : x = 1
  · rw [if_pos a, a]; decide
  · rw [if_neg a]
    by_cases b : x = 2
    · rw [if_pos b, b]; decide
    · rw [if_neg b]
      exact ⟨fun _ => by omega, fun _ => rfl⟩
theorem lt_is {l : List UInt8} (h : isStrip l = true) : ∀ i, i < l.length → lt_ (ctext l) i = decide (at_ l i = 102) := by
  intro i
  induction i with
  | zero =>
    intro hi
    show decide (at_ (ctext l) 0 = 118) = _
    rw [ctext_at l 0 (by omega)]
    have := (cl_v (crease l ((0 : Nat) : Int))).trans (crease_zero l (by omega))
    exact decide_eq_decide.2 this
  | succ i ih =>
    intro hi
    have a := ih (by omega)
    show (if at_ (ctext l) (i + 1) = 46 then lt_ (ctext l) i else !lt_ (ctext l) i) = _
    rw [ctext_at l (i + 1) (by omega), a]
    have f1 := foldAt_nat (c := 100) h (k := i + 1) (by omega) hi
    have f2 := foldAt_nat (c := 102) h (k := i + 1) (by omega) hi
    have c2 := crease_mid (l := l) (i := ((i + 1 : Nat) : Int)) (by omega) (by omega)
    have c1 := crease_one l ((i + 1 : Nat) : Int) (by omega)
    have cd := cl_dot (crease l ((i + 1 : Nat) : Int))
    rw [Nat.add_sub_cancel] at f1 f2
    rcases letter_of h (k := i) (by omega) with c | c <;> rcases letter_of h (k := i + 1) hi with e | e
    · rw [if_pos (cd.2 (by rintro (x | x); exact absurd (c.symm.trans (f2.1 (c1.1 x)).1) (by decide); exact (f1.1 (c2.1 x)).2 e)), c, e]
    · rw [if_neg (fun x => cd.1 x (.inr (c2.2 (f1.2 ⟨c, by rw [e]; decide⟩)))), c, e]; rfl
    · rw [if_neg (fun x => cd.1 x (.inl (c1.2 (f2.2 ⟨c, by rw [e]; decide⟩)))), c, e]; rfl
    · rw [if_pos (cd.2 (by rintro (x | x); exact (f2.1 (c1.1 x)).2 e; exact absurd (c.symm.trans (f1.1 (c2.1 x)).1) (by decide))), c, e]
theorem outP_is {l : List UInt8} (h : isStrip l = true) : outP (ctext l) l.length = l := by
  refine List.ext_getElem (outP_len _ _) fun i h1 h2 => ?_
  have a : (outP (ctext l) l.length)[i] = lb (lt_ (ctext l) i) := by simp [outP]
  have b : l[i] = at_ l i := by simp [at_, List.getD, h2]
  rw [a, b, lt_is h i h2]
  rcases letter_of h h2 with e | e
  · rw [e]; rfl
  · rw [e]; rfl
theorem ctext_len (l : List UInt8) : (ctext l).length = l.length + 1 := textP_len _ _
/-- a strip can be read from its creases -/
theorem readCr_ctext {l : List UInt8} (h : isStrip l = true) : readCr (bs (ctext l)) (dn l) (fw l) = bs l := by
  have hp := isStrip_parts h
  have e1 : (bs (ctext l)).size = l.length + 1 := by rw [bs_size, ctext_len]
  have e2 : outP (bs (ctext l)).data.toList ((bs (ctext l)).size - 1) = l := by
    rw [bs_list, e1]
    exact outP_is h
  unfold readCr
  rw [e2, if_pos]
  refine andI (inB_iff.2 (by omega)) (andI (inB_iff.2 (by omega)) (andI (decide_eq_true (by omega)) (andI ?_ (decide_eq_true rfl))))
  refine inFrame_yes ?_ ?_
  · rw [bs_list, downOf_yes h]
  · rw [bs_list, forwardOf_yes h]
theorem readCr_dots : readCr (bs [46, 46]) 1 1 = .empty := by
  unfold readCr
  rw [if_neg]
  have : decide (((bs [46, 46]).size : Int) = 1 + 1 + 1) = false := by decide
  rw [this]
  simp

end Go.Proofs.Ytkhlolhmaoenoaa
