
/-
  Contracts of LayersOf, ThickestOf and FreePart on both sides; no condition beyond the length of the text.
-/
import Derived.Test.YtpeopfkechbelaaViews
import Derived.OwnWalk
namespace Go.Proofs.Ytpeopfkechbelaa
open Go.ChangeShapes Go.WideShapes Go.ChangeAt Go.RowKit Go.Deep Go.BigFrame
set_option linter.unusedVariables false

/-- the place of a strip behind k steps, where the card is closed -/
def posn (l : List UInt8) (k : Nat) : Int := (fw (l.take k) : Int) + ((dn l : Int) - ((k : Int) - fw (l.take k)))
/-- the place of the step k -/
def low (l : List UInt8) (k : Nat) : Nat := (min (posn l k) (posn l (k + 1))).toNat

theorem strip_take {l : List UInt8} (h : isStrip l = true) : ∀ k, k ≤ l.length → dn (l.take k) + fw (l.take k) = k := by
  intro k
  induction k with
  | zero => intro _; rfl
  | succ k ih =>
    intro hk
    have h0 := ih (by omega)
    have h1 := dn_take l k (by omega)
    have h2 := fw_take l k (by omega)
    by_cases c1 : at_ l k = 100
    · rw [if_pos c1] at h1
      rw [if_neg (by rw [c1]; decide)] at h2
      omega
    · by_cases c2 : at_ l k = 102
      · rw [if_neg c1] at h1
        rw [if_pos c2] at h2
        omega
      · have := other_letter l k (by omega) c1 c2
        rw [h] at this
        exact absurd this (by simp)
theorem posn_in {l : List UInt8} (h : isStrip l = true) (k : Nat) (hk : k ≤ l.length) : 0 ≤ posn l k ∧ posn l k ≤ l.length := by
  have h0 := strip_take h k hk
  have h1 : dn (l.take k) ≤ dn l := (List.take_sublist k l).count_le _
  have h2 : fw (l.take k) ≤ fw l := (List.take_sublist k l).count_le _
  have h3 := (isStrip_parts h).1
  unfold posn
  omega
theorem posn_f {l : List UInt8} {k : Nat} (hk : k < l.length) (c : at_ l k = 102) : posn l (k + 1) = posn l k + 1 := by
  have h2 := fw_take l k hk
  rw [if_pos c] at h2
  unfold posn
  omega
theorem posn_d {l : List UInt8} {k : Nat} (hk : k < l.length) (c : ¬ at_ l k = 102) : posn l (k + 1) = posn l k - 1 := by
  have h2 := fw_take l k hk
  rw [if_neg c] at h2
  unfold posn
  omega
theorem low_is {l : List UInt8} (h : isStrip l = true) {k : Nat} (hk : k < l.length) : min (posn l k) (posn l (k + 1)) = (low l k : Int) ∧ low l k < l.length := by
  have h1 := posn_in h k (by omega)
  have h2 := posn_in h (k + 1) (by omega)
  unfold low
  by_cases c : at_ l k = 102
  · have := posn_f hk c
    omega
  · have := posn_d hk c
    omega

/-- the layers behind k steps -/
def layP (l : List UInt8) : Nat → List Int
  | 0 => List.replicate l.length 0
  | k + 1 => (layP l k).set (low l k) ((layP l k).getD (low l k) 0 + 1)
theorem layP_len (l : List UInt8) (k : Nat) : (layP l k).length = l.length := by
  induction k with
  | zero => simp [layP]
  | succ k ih => simp [layP, ih]
theorem layP_small (l : List UInt8) (k : Nat) : ∀ z ∈ layP l k, 0 ≤ z ∧ z ≤ (k : Int) := by
  induction k with
  | zero =>
    intro z hz
    have := (List.mem_replicate.1 hz).2
    omega
  | succ k ih =>
    intro z hz
    rcases List.mem_or_eq_of_mem_set hz with h | h
    · have := ih z h
      omega
    · by_cases hl : low l k < (layP l k).length
      · have := ih _ (List.getElem_mem hl)
        rw [List.getD_eq_getElem?_getD, List.getElem?_eq_getElem hl] at h
        simp only [Option.getD_some] at h
        omega
      · rw [List.getD_eq_getElem?_getD, List.getElem?_eq_none (by omega)] at h
        simp only [Option.getD_none] at h
        omega
def layers (l : List UInt8) : List Int := if isStrip l = true then layP l l.length else []
theorem layers_yes {l : List UInt8} (h : isStrip l = true) : layers l = layP l l.length := if_pos h
theorem layers_no {l : List UInt8} (h : isStrip l = false) : layers l = [] := if_neg (by rw [h]; simp)
theorem layers_len (l : List UInt8) : (layers l).length ≤ l.length := by
  unfold layers
  by_cases h : isStrip l = true
  · rw [if_pos h, layP_len]; exact Nat.le_refl _
  · rw [if_neg h]; exact Nat.zero_le _

theorem map_set_int (L : List Int) (i : Nat) (v : Int) : (L.map (Value.int .i64)).set i (.int .i64 v) = (L.set i v).map (Value.int .i64) := by rw [List.map_set]

theorem made_list (v : Value) (n : Nat) : (madeCells #[v] n).toList = List.replicate n v := by
  unfold madeCells
  rw [Array.toList_map]
  have h : (fun x : Nat => #[v][x % #[v].size]!) = fun _ => v := by
    funext x
    simp [Nat.mod_one]
  rw [h]
  simp [List.map_const']

end Go.Proofs.Ytpeopfkechbelaa
