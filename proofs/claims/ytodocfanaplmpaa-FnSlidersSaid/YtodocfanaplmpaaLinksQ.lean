
/-
  Plain laws of LinksOk: a table between two closures, stepped in place; no program in sight.
-/
import Derived.Test.YtodocfanaplmpaaLinksP
namespace Go.Proofs.Ytodocfanaplmpaa
open Go.ChangeShapes Go.WideShapes Go.ChangeAt Go.RowKit
set_option linter.unusedVariables false
set_option linter.unusedSimpArgs false

/-- the table R lies between the closures over k places and over all places; the rows before i, and what `d` tells of row i, have place k too -/
structure Bnd (E R : Nat → Nat → Bool) (n k i : Nat) (d : Nat → Prop) : Prop where
  up : ∀ a b, a < n → b < n → R a b = true → clo E n a b = true
  lo : ∀ a b, a < n → b < n → rch E k a b = true → R a b = true
  rows : ∀ a b, a < n → b < n → a < i → rch E (k + 1) a b = true → R a b = true
  row : ∀ b, b < n → i < n → d b → rch E (k + 1) i b = true → R i b = true

theorem Bnd.start { E R : Nat → Nat → Bool} {n : Nat} (h : ∀ a b, a < n → b < n → R a b = E a b) : Bnd E R n 0 0 (fun _ => False) :=
  ⟨fun a b ha hb hr => clo_edge (by rw [← h a b ha hb]; exact hr), fun a b ha hb hr => by rw [h a b ha hb]; exact hr, fun a b _ _ hi => absurd hi (by omega), fun b _ _ hd => absurd hd (by simp)⟩
/-- a row is done -/
theorem Bnd.nextRow { E R : Nat → Nat → Bool} {n k i : Nat} {d : Nat → Prop} (h : Bnd E R n k i d) (hd : ∀ b, b < n → d b) : Bnd E R n k (i + 1) (fun _ => False) :=
  ⟨h.up, h.lo, fun a b ha hb hi hr => by
    by_cases e : a = i
    · subst e; exact h.row b hb ha (hd b hb) hr
    · exact h.rows a b ha hb (by omega) hr, fun b _ _ hd => absurd hd (by simp)⟩
/-- all rows are done -/
theorem Bnd.nextStep { E R : Nat → Nat → Bool} {n k : Nat} {d : Nat → Prop} (h : Bnd E R n k n d) : Bnd E R n (k + 1) 0 (fun _ => False) :=
  ⟨h.up, fun a b ha hb hr => h.rows a b ha hb ha hr, fun a b _ _ hi => absurd hi (by omega), fun b _ _ hd => absurd hd (by simp)⟩
theorem Bnd.weaken { E R : Nat → Nat → Bool} {n k i : Nat} {d d' : Nat → Prop} (h : Bnd E R n k i d) (hd : ∀ b, d' b → d b) : Bnd E R n k i d' :=
  ⟨h.up, h.lo, h.rows, fun b hb hi h1 => h.row b hb hi (hd b h1)⟩
/-- the end: the diagonal tells of circles -/
theorem Bnd.done { E R : Nat → Nat → Bool} {n i : Nat} {d : Nat → Prop} (h : Bnd E R n n i d) {a : Nat} (ha : a < n) : R a a = clo E n a a := by
  cases hr : R a a with
  | true => exact (h.up a a ha ha hr).symm
  | false =>
    cases hc : clo E n a a with
    | false => rfl
    | true => rw [h.lo a a ha ha hc] at hr; exact absurd hr (by decide)

/-- one place of the table -/
def put1 (R : Nat → Nat → Bool) (i j : Nat) (v : Bool) : Nat → Nat → Bool := fun a b => if a = i ∧ b = j then v else R a b
/-- the program's step -/
theorem Bnd.one { E R : Nat → Nat → Bool} {n k i j : Nat} (hk : k < n) (hi : i < n) (hj : j < n) (h : Bnd E R n k i (fun b => b < j)) : Bnd E (put1 R i j (R i j || (R i k && R k j))) n k i (fun b => b < j + 1) := by
  have mono : ∀ a b, R a b = true → put1 R i j (R i j || (R i k && R k j)) a b = true := by
    intro a b hr
    unfold put1
    split
    · next e => rw [e.1, e.2] at hr; rw [hr]; rfl
    · exact hr
  refine ⟨fun a b ha hb hr => ?_, fun a b ha hb hr => mono a b (h.lo a b ha hb hr), fun a b ha hb hl hr => mono a b (h.rows a b ha hb hl hr), fun b hb _ hd hr => ?_⟩
  · unfold put1 at hr
    split at hr
    · next e =>
      rw [e.1, e.2]
      cases h1 : R i j with
      | true => exact h.up i j hi hj h1
      | false =>
        rw [h1, Bool.false_or, Bool.and_eq_true] at hr
        exact clo_trans hk (h.up i k hi hk hr.1) (h.up k j hk hj hr.2)
    · exact h.up a b ha hb hr
  · by_cases e : b = j
    · subst e
      unfold put1
      rw [if_pos ⟨rfl, rfl⟩]
      rcases rch_cases hr with h1 | ⟨h1, h2⟩
      · rw [h.lo i b hi hb h1]; rfl
      · rw [h.lo i k hi hk h1, h.lo k b hk hb h2, Bool.and_self, Bool.or_true]
    · exact mono i b (h.row b hb hi (by omega) hr)

/-- one row of the table -/
def putRow (R : Nat → Nat → Bool) (i : Nat) (f : Nat → Bool) : Nat → Nat → Bool := fun a b => if a = i then f b else R a b
/-- the reference's step -/
theorem Bnd.row1 { E R : Nat → Nat → Bool} {n k i j : Nat} (hk : k < n) (hi : i < n) (hj : j < n) (h : Bnd E R n k i (fun _ => k < j)) (hr : R i j = true) : Bnd E (putRow R i (fun b => R i b || R j b)) n k i (fun _ => k < j + 1) := by
  have mono : ∀ a b, R a b = true → putRow R i (fun b => R i b || R j b) a b = true := by
    intro a b hr
    unfold putRow
    split
    · next e => rw [e] at hr; show (R i b || R j b) = true; rw [hr]; rfl
    · exact hr
  refine ⟨fun a b ha hb h1 => ?_, fun a b ha hb h1 => mono a b (h.lo a b ha hb h1), fun a b ha hb hl h1 => mono a b (h.rows a b ha hb hl h1), fun b hb _ hd h1 => ?_⟩
  · unfold putRow at h1
    split at h1
    · next e =>
      rw [e]
      rw [Bool.or_eq_true] at h1
      rcases h1 with h2 | h2
      · exact h.up i b hi hb h2
      · exact clo_trans hj (h.up i j hi hj hr) (h.up j b hj hb h2)
    · exact h.up a b ha hb h1
  · by_cases e : k < j
    · exact mono i b (h.row b hb hi e h1)
    · have e : k = j := by omega
      subst e
      unfold putRow
      rw [if_pos rfl]
      rcases rch_cases h1 with h2 | ⟨h2, h3⟩
      · show (R i b || R k b) = true; rw [h.lo i b hi hb h2]; rfl
      · show (R i b || R k b) = true; rw [h.lo k b hk hb h3, Bool.or_true]
theorem Bnd.row0 { E R : Nat → Nat → Bool} {n k i j : Nat} (hk : k < n) (hi : i < n) (hj : j < n) (h : Bnd E R n k i (fun _ => k < j)) (hr : R i j = false) : Bnd E R n k i (fun _ => k < j + 1) := by
  refine ⟨h.up, h.lo, h.rows, fun b hb _ hd h1 => ?_⟩
  by_cases e : k < j
  · exact h.row b hb hi e h1
  · have e : k = j := by omega
    subst e
    rcases rch_cases h1 with h2 | ⟨h2, h3⟩
    · exact h.lo i b hi hb h2
    · rw [h.lo i k hi hk h2] at hr; exact absurd hr (by decide)

end Go.Proofs.Ytodocfanaplmpaa
