
/-
  Plain law of CountAbove and BridgeCount: rows of counts; no program in sight.
-/
import Derived.Test.YtpeopfkechbelaaLayers
namespace Go.Proofs.Ytpeopfkechbelaa
open Go.ChangeShapes Go.WideShapes Go.ChangeAt Go.RowKit Go.Deep Go.BigFrame
set_option linter.unusedVariables false
set_option linter.unusedSimpArgs false

/-- the paths of k steps with x of them forward that are nowhere below l and have at most d steps down -/
def rowF (l : List UInt8) (d : Nat) : Nat → Nat → Int
  | 0, x => if x = 0 then 1 else 0
  | k + 1, x => if fw (l.take (k + 1)) ≤ x ∧ k + 1 ≤ d + x then rowF l d k x + (if x = 0 then 0 else rowF l d k (x - 1)) else 0

theorem rowF_small (l : List UInt8) (d : Nat) : ∀ k x, 0 ≤ rowF l d k x ∧ rowF l d k x ≤ 2 ^ k := by
  intro k
  induction k with
  | zero =>
    intro x
    unfold rowF
    by_cases h : x = 0
    · rw [if_pos h]; decide
    · rw [if_neg h]; decide
  | succ k ih =>
    intro x
    have h1 := ih x
    have h2 := ih (x - 1)
    have h3 : (2 : Int) ^ (k + 1) = 2 ^ k * 2 := Int.pow_succ _ _
    unfold rowF
    generalize (2 : Int) ^ k = p at *
    by_cases h : fw (l.take (k + 1)) ≤ x ∧ k + 1 ≤ d + x
    · rw [if_pos h]
      by_cases h0 : x = 0
      · rw [if_pos h0]; omega
      · rw [if_neg h0]; omega
    · rw [if_neg h]; omega

theorem rowF_16 (l : List UInt8) (d k x : Nat) (hk : k ≤ 16) : 0 ≤ rowF l d k x ∧ rowF l d k x ≤ 65536 := by
  have h := rowF_small l d k x
  have h2 : ((2 ^ k : Nat) : Int) ≤ ((2 ^ 16 : Nat) : Int) := Int.ofNat_le.2 (Nat.pow_le_pow_right (by decide) hk)
  have h3 : ((2 ^ k : Nat) : Int) = (2 : Int) ^ k := by simp
  rw [h3] at h2
  have h4 : ((2 ^ 16 : Nat) : Int) = 65536 := by decide
  omega

/-- m numbers, of which the first j are those of F -/
def part (m : Nat) (F : Nat → Int) (j : Nat) : List Int := (List.range m).map fun x : Nat => if x < j then F x else 0
theorem part_len (m : Nat) (F : Nat → Int) (j : Nat) : (part m F j).length = m := by simp [part]
theorem part_get {m : Nat} {F : Nat → Int} {j x : Nat} (h : x < m) (h2 : x < j) : (part m F j).getD x 0 = F x := by
  simp [part, List.getD, h, h2]
theorem part_zero (m : Nat) (F : Nat → Int) : part m F 0 = List.replicate m 0 := by
  unfold part
  simp [List.map_const']
theorem part_set {m : Nat} {F : Nat → Int} {j : Nat} (h : j < m) : (part m F j).set j (F j) = part m F (j + 1) := by
  apply List.ext_getElem
  · simp [part]
  · intro i h1 h2
    have hi : i < m := by simpa [part] using h2
    rw [List.getElem_set]
    by_cases e : j = i
    · subst e
      simp [part]
    · rw [if_neg e]
      simp only [part, List.getElem_map, List.getElem_range]
      by_cases h3 : i < j
      · rw [if_pos h3, if_pos (by omega)]
      · rw [if_neg h3, if_neg (by omega)]
theorem part_skip {m : Nat} {F : Nat → Int} {j : Nat} (h : F j = 0) : part m F j = part m F (j + 1) := by
  unfold part
  refine List.map_congr_left (fun x _ => ?_)
  by_cases h1 : x < j
  · rw [if_pos h1, if_pos (by omega)]
  · rw [if_neg h1]
    by_cases h2 : x = j
    · subst h2
      rw [if_pos (by omega), h]
    · rw [if_neg (by omega)]
/-- the first row -/
theorem part_first (l : List UInt8) (d m f : Nat) (hm : 0 < m) (hf : f + 1 ≤ m) : (List.replicate m (0 : Int)).set 0 1 = part m (rowF l d 0) (f + 1) := by
  apply List.ext_getElem
  · simp [part]
  · intro i h1 h2
    rw [List.getElem_set]
    simp only [part, List.getElem_map, List.getElem_range, List.getElem_replicate]
    by_cases e : 0 = i
    · subst e
      rw [if_pos rfl, if_pos (by omega)]
      rfl
    · rw [if_neg e]
      by_cases h3 : i < f + 1
      · rw [if_pos h3]
        unfold rowF
        rw [if_neg (by omega)]
      · rw [if_neg h3]

/-- how many paths above the whole of a path -/
def pathsAbove (l : List UInt8) : Int := rowF l (dn l) l.length (fw l)
def countAbove (l : List UInt8) : Int := if isStrip l = true then pathsAbove l else 0

theorem rowF_yes {l : List UInt8} {d k x : Nat} (h1 : fw (l.take (k + 1)) ≤ x) (h2 : k + 1 ≤ d + x) : rowF l d (k + 1) x = rowF l d k x + (if x = 0 then 0 else rowF l d k (x - 1)) := if_pos ⟨h1, h2⟩
theorem rowF_no {l : List UInt8} {d k x : Nat} (h : ¬ (fw (l.take (k + 1)) ≤ x ∧ k + 1 ≤ d + x)) : rowF l d (k + 1) x = 0 := if_neg h

end Go.Proofs.Ytpeopfkechbelaa
