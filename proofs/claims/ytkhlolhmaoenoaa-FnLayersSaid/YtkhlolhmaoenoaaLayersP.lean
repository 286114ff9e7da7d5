
/-
  Plain laws of the layers of a strip: their sum, their greatest, and those of the turned strip; no condition.
-/
import Derived.Test.YtkhlolhmaoenoaaThick
import Derived.Test.YtkhlolhmaoenoaaTop
import Derived.Test.YtkhlolhmaoenoaaTurn
namespace Go.Proofs.Ytkhlolhmaoenoaa
open Go.ChangeShapes Go.WideShapes Go.ChangeAt Go.RowKit Go.Deep
set_option linter.unusedVariables false

theorem set_sum (L : List Int) (i : Nat) (v : Int) (h : i < L.length) : (L.set i v).sum = L.sum + (v - L.getD i 0) := by
  induction L generalizing i with
  | nil => simp at h
  | cons a L ih =>
    cases i with
    | zero => simp; omega
    | succ i =>
      have := ih i (by simpa using h)
      simp only [List.set_cons_succ, List.sum_cons, this, List.getD_cons_succ]
      omega
theorem set_getD (L : List Int) (i j : Nat) (v : Int) (h : j < L.length) : (L.set i v).getD j 0 = if i = j then v else L.getD j 0 := by
  simp only [List.getD, List.getElem?_set]
  by_cases e : i = j
  · subst e
    simp [h]
  · simp [e]

theorem layP_sum {l : List UInt8} (h : isStrip l = true) : ∀ k, k ≤ l.length → (layP l k).sum = (k : Int) := by
  intro k
  induction k with
  | zero => intro _; simp [layP]
  | succ k ih =>
    intro hk
    have a := (low_is h (show k < l.length by omega)).2
    show ((layP l k).set (low l k) _).sum = _
    rw [set_sum _ _ _ (by rw [layP_len]; exact a), ih (by omega)]
    omega

/-- how many of the first k steps lie at a place -/
def cntL (l : List UInt8) (j : Nat) : Nat → Nat
  | 0 => 0
  | k + 1 => cntL l j k + if low l k = j then 1 else 0
theorem layP_at {l : List UInt8} (h : isStrip l = true) (j : Nat) (hj : j < l.length) : ∀ k, k ≤ l.length → (layP l k).getD j 0 = (cntL l j k : Int) := by
  intro k
  induction k with
  | zero => intro _; simp [layP, cntL, List.getD, hj]
  | succ k ih =>
    intro hk
    have b := ih (by omega)
    show ((layP l k).set (low l k) _).getD j 0 = ((cntL l j k + if low l k = j then 1 else 0 : Nat) : Int)
    rw [set_getD _ _ _ _ (by rw [layP_len]; exact hj)]
    by_cases e : low l k = j
    · rw [if_pos e, if_pos e, e, b]
      omega
    · rw [if_neg e, if_neg e, b]
      rfl

theorem dn_ex (x : List UInt8) : fw (x.map ex) = dn x := by
  unfold fw dn
  induction x with
  | nil => rfl
  | cons a x ih =>
    rw [List.map_cons, List.count_cons, List.count_cons, ih]
    congr 1
    unfold ex
    by_cases c : a = 100
    · subst c; rfl
    · rw [if_neg c]; simp [c]
theorem fw_ex (x : List UInt8) : dn (x.map ex) + dn x = x.length := by
  unfold dn
  induction x with
  | nil => rfl
  | cons a x ih =>
    rw [List.map_cons, List.count_cons, List.count_cons, List.length_cons]
    unfold ex at ih ⊢
    by_cases c : a = 100
    · rw [if_pos c]; simp [c]; omega
    · rw [if_neg c]; simp [c]; omega
theorem dn_rev (x : List UInt8) : dn x.reverse = dn x := by unfold dn; rw [List.count_reverse]
theorem turn_take (l : List UInt8) (k : Nat) : (turnL l).take k = ((l.drop (l.length - k)).reverse).map ex := by
  unfold turnL
  rw [← List.map_take, List.take_reverse]
theorem fw_turn (l : List UInt8) (k : Nat) : fw ((turnL l).take k) = dn l - dn (l.take (l.length - k)) := by
  rw [turn_take, dn_ex, dn_rev]
  have := dn_app (l.take (l.length - k)) (l.drop (l.length - k))
  rw [List.take_append_drop] at this
  omega
theorem turn_len (l : List UInt8) : (turnL l).length = l.length := by simp [turnL]
theorem turn_all (l : List UInt8) : fw (turnL l) = dn l ∧ dn (turnL l) + dn l = l.length := by
  unfold turnL
  refine ⟨by rw [dn_ex, dn_rev], ?_⟩
  have := fw_ex l.reverse
  rw [dn_rev, List.length_reverse] at this
  exact this
theorem isStrip_turn {l : List UInt8} (h : isStrip l = true) : isStrip (turnL l) = true ∧ dn (turnL l) = fw l ∧ fw (turnL l) = dn l := by
  have hp := isStrip_parts h
  have ht := turn_all l
  have hl := turn_len l
  refine ⟨?_, by omega, ht.1⟩
  simp only [isStrip, Bool.and_eq_true, decide_eq_true_eq, inB_iff]
  omega
theorem posn_turn {l : List UInt8} (h : isStrip l = true) (k : Nat) (hk : k ≤ l.length) : posn (turnL l) k = posn l (l.length - k) := by
  have hp := isStrip_parts h
  have ht := isStrip_turn h
  have h1 := strip_take h (l.length - k) (by omega)
  have h2 : dn (l.take (l.length - k)) ≤ dn l := (List.take_sublist _ l).count_le _
  unfold posn
  rw [fw_turn]
  omega
theorem low_turn {l : List UInt8} (h : isStrip l = true) (k : Nat) (hk : k < l.length) : low (turnL l) k = low l (l.length - 1 - k) := by
  unfold low
  rw [posn_turn h k (by omega), posn_turn h (k + 1) (by omega), Int.min_comm, show l.length - (k + 1) = l.length - 1 - k by omega, show l.length - k = l.length - 1 - k + 1 by omega]
theorem cntL_turn {l : List UInt8} (h : isStrip l = true) (j : Nat) : ∀ k, k ≤ l.length → cntL (turnL l) j k + cntL l j (l.length - k) = cntL l j l.length := by
  intro k
  induction k with
  | zero => intro _; simp [cntL]
  | succ k ih =>
    intro hk
    have a := ih (by omega)
    have b := low_turn h k (by omega)
    have e : l.length - k = (l.length - 1 - k) + 1 := by omega
    rw [e] at a
    rw [show l.length - (k + 1) = l.length - 1 - k by omega]
    simp only [cntL] at a ⊢
    rw [b]
    omega
theorem layers_turn {l : List UInt8} (h : isStrip l = true) : layers (turnStrip l) = layers l := by
  have ht := (isStrip_turn h).1
  rw [show turnStrip l = turnL l from if_pos h, layers_yes h, layers_yes ht]
  refine List.ext_getElem (by rw [layP_len, layP_len, turn_len]) fun j h1 h2 => ?_
  rw [layP_len] at h1 h2
  have a := layP_at ht j h1 (turnL l).length (Nat.le_refl _)
  have b := layP_at h j h2 l.length (Nat.le_refl _)
  have e := cntL_turn h j l.length (Nat.le_refl _)
  rw [Nat.sub_self] at e
  rw [turn_len] at a
  have e1 : (layP (turnL l) (turnL l).length)[j] = (layP (turnL l) l.length).getD j 0 := by
    rw [List.getD_eq_getElem?_getD, List.getElem?_eq_getElem (by rw [layP_len]; exact h1)]
    simp [turn_len]
  have e2 : (layP l l.length)[j] = (layP l l.length).getD j 0 := by
    rw [List.getD_eq_getElem?_getD, List.getElem?_eq_getElem (by rw [layP_len]; exact h2)]
    rfl
  rw [e1, e2, a, b]
  simp only [cntL] at e
  omega

/-- the greatest of the first k numbers, 0 at least -/
def mostP (zs : List Int) : Nat → Int
  | 0 => 0
  | k + 1 => max (mostP zs k) (zs.getD k 0)
theorem mostP_top (zs : List Int) (hz : ∀ z ∈ zs, 0 ≤ z) : ∀ k, k ≤ zs.length → mostP zs k = max 0 (topP zs k) := by
  intro k
  induction k with
  | zero => intro _; rfl
  | succ k ih =>
    intro hk
    show max (mostP zs k) (zs.getD k 0) = _
    rw [ih (by omega), topP_succ zs hz k (by omega)]
    omega
theorem mostP_in (zs : List Int) (B : Int) (hB : 0 ≤ B) (hz : ∀ z ∈ zs, z ≤ B) : ∀ k, k ≤ zs.length → 0 ≤ mostP zs k ∧ mostP zs k ≤ B := by
  intro k
  induction k with
  | zero => intro _; exact ⟨Int.le_refl _, hB⟩
  | succ k ih =>
    intro hk
    have a := ih (by omega)
    have b : zs.getD k 0 ≤ B := by
      rw [List.getD_eq_getElem?_getD, List.getElem?_eq_getElem (by omega)]
      exact hz _ (List.getElem_mem _)
    show 0 ≤ max _ _ ∧ max _ _ ≤ B
    omega
theorem sum_take_succ (zs : List Int) (k : Nat) (h : k < zs.length) : (zs.take (k + 1)).sum = (zs.take k).sum + zs.getD k 0 := by
  rw [take_snoc_getD zs k 0 h, List.sum_append]
  simp
theorem mostP_sum (zs : List Int) : ∀ k, k ≤ zs.length → (zs.take k).sum ≤ (k : Int) * mostP zs k := by
  intro k
  induction k with
  | zero => intro _; simp
  | succ k ih =>
    intro hk
    have a := ih (by omega)
    rw [sum_take_succ zs k (by omega)]
    have b : (k : Int) * mostP zs k ≤ (k : Int) * mostP zs (k + 1) := Int.mul_le_mul_of_nonneg_left (by show _ ≤ max _ _; omega) (by omega)
    have c : zs.getD k 0 ≤ mostP zs (k + 1) := by show _ ≤ max _ _; omega
    have d : ((k + 1 : Nat) : Int) * mostP zs (k + 1) = (k : Int) * mostP zs (k + 1) + mostP zs (k + 1) := by rw [Int.natCast_add, Int.add_mul]; simp
    omega
theorem layers_law {l : List UInt8} (h : isStrip l = true) : (layers l).length = l.length ∧ (layers l).sum = (l.length : Int) ∧ freePart l = (zeros (layers l) : Int) ∧ mostP (layers l) l.length = thick l ∧ 1 ≤ thick l ∧ thick l ≤ l.length := by
  have hp := isStrip_parts h
  have e1 : freePart l = (zeros (layers l) : Int) := by rw [layers_yes h]; exact if_pos h
  have e2 : thick l = topP (layers l) l.length := by rw [layers_yes h]; exact if_pos h
  have e3 : (layers l).length = l.length := by rw [layers_yes h, layP_len]
  have e4 : (layers l).sum = (l.length : Int) := by rw [layers_yes h]; exact layP_sum h _ (Nat.le_refl _)
  have hz : ∀ z ∈ layers l, 0 ≤ z ∧ z ≤ (l.length : Int) := by rw [layers_yes h]; exact layP_small l _
  have a := mostP_top (layers l) (fun z hz' => (hz z hz').1) l.length (by omega)
  have b := mostP_sum (layers l) l.length (by omega)
  have c := mostP_in (layers l) l.length (by omega) (fun z hz' => (hz z hz').2) l.length (by omega)
  rw [List.take_of_length_le (by omega), e4] at b
  have d : 1 ≤ mostP (layers l) l.length := by
    rcases Int.lt_or_le (mostP (layers l) l.length) 1 with h1 | h1
    · have : mostP (layers l) l.length = 0 := by omega
      rw [this, Int.mul_zero] at b
      omega
    · exact h1
  rw [← e2] at a
  exact ⟨e3, e4, e1, by omega, by omega, by omega⟩

theorem free_high : ∀ d : Fin 9, ∀ f : Fin 9, 1 ≤ d.val → 1 ≤ f.val → freePart (List.replicate f.val 102 ++ List.replicate d.val 100) = ((min d.val f.val : Nat) : Int) := by
  decide +kernel

end Go.Proofs.Ytkhlolhmaoenoaa
