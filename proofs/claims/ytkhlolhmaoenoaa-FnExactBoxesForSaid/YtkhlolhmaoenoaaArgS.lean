
/-
  Arguments that are slices of texts, opened to words for memory; plain laws, no condition.
-/
import Derived.Test.YtkhlolhmaoenoaaStr0
import Derived.SliceStrings
namespace Go.Proofs.Ytkhlolhmaoenoaa
open Go.ChangeShapes Go.WideShapes Go.ChangeAt Go.RowKit Go.Deep

section
variable {H : Type} {enc : TypeId × Value → H} {P : Program} {w : World} {base : Nat} {spare : Nat → Bool} {held : Bool}

/-- a slice of texts that came in, in a cell -/
theorem srow_of_trod { t e : TypeId} {v : Value} {y : DataW H × List MemPlace} {fuel : Nat} (ht : P.underlying t = some (.slice e)) (he : P.underlying e = some .string)
    (hC : P.cellsOf e = 1) (hf : DataW.trod enc P w base (fun _ => true) held fuel t [v] = some y) :
    ∃ A c ss, v = .slice A (List.length ss) c ∧ SRow w w.heap.size A ss ∧ ∀ s ∈ ss, s.size ≤ maxLen := by
  rcases open_strings ht he hC hf with ⟨hcs, hx⟩ | ⟨a, n, c, ss, hcs, _, hl, hm, hz, hx, hcell, hwz⟩
  · simp only [List.cons.injEq, and_true] at hcs
    subst hcs
    exact ⟨none, 0, [], rfl, Row.nil_, by simp⟩
  · simp only [List.cons.injEq, and_true] at hcs
    subst hcs
    have hzl : ss.length = c := by rw [hz]; simp
    have htl : (ss.take n).length = n := by rw [List.length_take]; omega
    refine ⟨some a, c, ss.take n, by rw [htl], ⟨by simp, by rw [htl]; omega, ?_⟩, ?_⟩
    · intro hn
      have hn' : 0 < ss.length := by rw [htl] at hn; omega
      obtain ⟨b, off, spot⟩ := a
      have hspot : spot = none := by simpa [Addr.add] using World.cell?_spot (hcell 0 hn')
      subst hspot
      refine ⟨b, off, rfl, ?_, ?_⟩
      · have := World.block_lt_of_cell? w _ (hcell 0 hn')
        simpa [Addr.add] using this
      · intro j hj
        rw [htl] at hj
        have h1 := hcell j (by omega)
        rw [add_plain] at h1
        rw [h1]
        have : j < ss.length := by omega
        have hjn : j < n := by omega
        simp [List.getD, this, hjn]
    · intro s hs
      exact hwz s (List.mem_of_mem_take hs)
end

end Go.Proofs.Ytkhlolhmaoenoaa
