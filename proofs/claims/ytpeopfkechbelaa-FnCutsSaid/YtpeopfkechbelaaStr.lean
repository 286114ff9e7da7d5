
/-
  Contracts of the laws' own functions on slices of texts (size, copy, equal, mark, held); no condition.
-/
import Derived.Test.YtpeopfkechbelaaInts0
import Derived.Test.YtpeopfkechbelaaStr0
namespace Go.Proofs.Ytpeopfkechbelaa
open Go.ChangeShapes Go.WideShapes Go.ChangeAt Go.RowKit Go.Deep
set_option linter.unusedVariables false
set_option linter.unusedSimpArgs false

/-- what is left of a size behind the texts, -1 where it does not suffice -/
def szs : Int → List ByteArray → Int
  | left, [] => left
  | left, s :: t => if left - (s.size : Int) < 0 then -1 else szs (left - s.size) t
def szAll (left : Int) (ss : List ByteArray) : Int := if left - (ss.length : Int) < 0 then -1 else szs (left - ss.length) ss
theorem szs_le : ∀ (ss : List ByteArray) (left : Int), -1 ≤ left → szs left ss ≤ left ∧ -1 ≤ szs left ss := by
  intro ss
  induction ss with
  | nil => intro left h; exact ⟨Int.le_refl _, h⟩
  | cons s t ih =>
    intro left h
    unfold szs
    by_cases a : left - (s.size : Int) < 0
    · rw [if_pos a]; omega
    · rw [if_neg a]
      have := ih (left - (s.size : Int)) (by omega)
      omega
theorem szs_small : ∀ (ss : List ByteArray) (left : Int), left ≤ 1048576 → 0 ≤ szs left ss → ∀ s ∈ ss, s.size ≤ 1048576 := by
  intro ss
  induction ss with
  | nil => intro left _ _ s h; exact absurd h (by simp)
  | cons s t ih =>
    intro left hl h x hx
    unfold szs at h
    by_cases a : left - (s.size : Int) < 0
    · rw [if_pos a] at h; omega
    · rw [if_neg a] at h
      rcases List.mem_cons.1 hx with rfl | hx
      · omega
      · exact ih _ (by omega) h x hx
theorem szAll_small {ss : List ByteArray} (h : 0 ≤ szAll 1048576 ss) : ss.length ≤ 1048576 ∧ ∀ s ∈ ss, s.size ≤ 1048576 := by
  unfold szAll at h
  by_cases a : 1048576 - (ss.length : Int) < 0
  · rw [if_pos a] at h; omega
  · rw [if_neg a] at h
    exact ⟨by omega, szs_small ss _ (by omega) h⟩
theorem szAll_cases (ss : List ByteArray) (left : Int) (h : 0 ≤ left) : 0 ≤ szAll left ss ∨ szAll left ss = -1 := by
  unfold szAll
  by_cases a : left - (ss.length : Int) < 0
  · rw [if_pos a]; omega
  · rw [if_neg a]
    have := (szs_le ss (left - (ss.length : Int)) (by omega)).2
    omega
theorem szs_drop_yes {ss : List ByteArray} {k : Nat} {left : Int} (hk : k < ss.length) (h : ¬ left - ((ss.getD k .empty).size : Int) < 0) : szs left (ss.drop k) = szs (left - ((ss.getD k .empty).size : Int)) (ss.drop (k + 1)) := by
  rw [List.drop_eq_getElem_cons hk]
  have e : ss.getD k .empty = ss[k] := by simp [List.getD, hk]
  rw [e] at h ⊢
  exact if_neg h
theorem szs_drop_no {ss : List ByteArray} {k : Nat} {left : Int} (hk : k < ss.length) (h : left - ((ss.getD k .empty).size : Int) < 0) : szs left (ss.drop k) = -1 := by
  rw [List.drop_eq_getElem_cons hk]
  have e : ss.getD k .empty = ss[k] := by simp [List.getD, hk]
  rw [e] at h
  exact if_pos h

/-- a new slice of texts of the call's own -/
def NewStrs (w : World) (ss : List ByteArray) (e : Ending) (w' : World) : Prop :=
  ∃ A c, e = .returned (.slice A ss.length c) ∧ w'.ownsRow w.heap.size 9 1 (.slice A ss.length c) ss.length (ss.map Value.string) ∧ Below w.heap.size w w'

theorem strInfo : (Try.prog.info? 9).map (fun i => (i.zero, i.size, i.bytes)) = some (some (.string .empty), 1, 16) := by kernel_rfl

end Go.Proofs.Ytpeopfkechbelaa
