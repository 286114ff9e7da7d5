
/-
  Plain law of LinksOk: links reach on in steps; no program in sight.
-/
import Derived.Test.YtodocfanaplmpaaInts0
namespace Go.Proofs.Ytodocfanaplmpaa
open Go.ChangeShapes Go.WideShapes Go.ChangeAt Go.RowKit Go.Deep
set_option linter.unusedVariables false
set_option linter.unusedSimpArgs false

/-- what reaches what over places below k -/
def rch (E : Nat → Nat → Bool) : Nat → Nat → Nat → Bool
  | 0, i, j => E i j
  | k + 1, i, j => rch E k i j || (rch E k i k && rch E k k j)

theorem rch_mono { E : Nat → Nat → Bool} {k i j : Nat} (h : rch E k i j = true) : rch E (k + 1) i j = true := by
  show (rch E k i j || _) = true
  rw [h]; rfl
theorem rch_via { E : Nat → Nat → Bool} {k i j : Nat} (h1 : rch E k i k = true) (h2 : rch E k k j = true) : rch E (k + 1) i j = true := by
  show (_ || (rch E k i k && rch E k k j)) = true
  rw [h1, h2]; simp
theorem rch_cases { E : Nat → Nat → Bool} {k i j : Nat} (h : rch E (k + 1) i j = true) : rch E k i j = true ∨ (rch E k i k = true ∧ rch E k k j = true) := by
  have h' : (rch E k i j || (rch E k i k && rch E k k j)) = true := h
  simpa [Bool.or_eq_true, Bool.and_eq_true] using h'
theorem rch_mono_le { E : Nat → Nat → Bool} {i j : Nat} : ∀ (m k : Nat), rch E k i j = true → rch E (k + m) i j = true := by
  intro m
  induction m with
  | zero => intro k h; exact h
  | succ m ih => intro k h; exact rch_mono (ih k h)
theorem rch_trans { E : Nat → Nat → Bool} : ∀ (k m i j : Nat), m < k → rch E k i m = true → rch E k m j = true → rch E k i j = true := by
  intro k
  induction k with
  | zero => intro m i j h; omega
  | succ k ih =>
    intro m i j hm h1 h2
    by_cases e : m = k
    · subst e
      -- over the new place itself
      have a : rch E m i m = true := by
        rcases rch_cases h1 with h | ⟨h, _⟩ <;> exact h
      have b : rch E m m j = true := by
        rcases rch_cases h2 with h | ⟨_, h⟩ <;> exact h
      exact rch_via a b
    · have hm' : m < k := by omega
      rcases rch_cases h1 with a | ⟨a1, a2⟩
      · rcases rch_cases h2 with b | ⟨b1, b2⟩
        · exact rch_mono (ih m i j hm' a b)
        · exact rch_via (ih m i k hm' a b1) b2
      · rcases rch_cases h2 with b | ⟨b1, b2⟩
        · exact rch_via a1 (ih m k j hm' a2 b)
        · exact rch_via a1 b2

/-- all n places -/
def clo (E : Nat → Nat → Bool) (n i j : Nat) : Bool := rch E n i j
theorem clo_trans { E : Nat → Nat → Bool} {n m i j : Nat} (hm : m < n) (h1 : clo E n i m = true) (h2 : clo E n m j = true) : clo E n i j = true := rch_trans n m i j hm h1 h2
theorem clo_edge { E : Nat → Nat → Bool} {n i j : Nat} (h : E i j = true) : clo E n i j = true := by
  have := rch_mono_le (E := E) (i := i) (j := j) n 0 h
  rw [Nat.zero_add] at this
  exact this
/-- no place reaches itself -/
def acyc (E : Nat → Nat → Bool) (n : Nat) : Bool := (List.range n).all fun i => !clo E n i i

theorem all_range_no {n : Nat} {p : Nat → Bool} {i : Nat} (hi : i < n) (h : p i = false) : (List.range n).all p = false := by
  cases e : (List.range n).all p with
  | false => rfl
  | true =>
    rw [List.all_eq_true] at e
    have := e i (List.mem_range.2 hi)
    rw [h] at this
    exact absurd this (by decide)
theorem all_range_yes {n : Nat} {p : Nat → Bool} (h : ∀ i, i < n → p i = true) : (List.range n).all p = true := by
  rw [List.all_eq_true]
  intro i hi
  exact h i (List.mem_range.1 hi)

/-- the links (from, to, factor) of n sliders -/
def linkIn (n : Int) (l : Int × Int × Int) : Bool := inB l.1 0 (n - 1) && (inB l.2.1 0 (n - 1) && (!decide (l.1 = l.2.1) && (decide (l.2.2 = 1) || decide (l.2.2 = -1))))
def edge (ls : List (Int × Int × Int)) (i j : Nat) : Bool := ls.any fun l => decide (l.1 = (i : Int)) && decide (l.2.1 = (j : Int))
def linksOk (n : Int) (ls : List (Int × Int × Int)) : Bool := inB n 1 8 && (decide (ls.length ≤ 12) && (ls.all (linkIn n) && acyc (edge ls) n.toNat))

theorem edge_take {ls : List (Int × Int × Int)} {k : Nat} (h : k < ls.length) (i j : Nat) :
    edge (ls.take (k + 1)) i j = (edge (ls.take k) i j || (decide ((ls.getD k (0, 0, 0)).1 = (i : Int)) && decide ((ls.getD k (0, 0, 0)).2.1 = (j : Int)))) := by
  unfold edge
  rw [take_snoc_getD ls k (0, 0, 0) h, List.any_append]
  simp

end Go.Proofs.Ytodocfanaplmpaa
