
/-
  Rows that lie in some blocks, beside a row of the call's own; plain laws, no condition.
-/
import Derived.Test.YtpeopfkechbelaaInts0
namespace Go.Proofs.Ytpeopfkechbelaa
open Go.ChangeShapes Go.WideShapes Go.ChangeAt Go.RowKit Go.Deep

/-- a slice that holds these numbers, in a block from lo up to hi -/
def Held (w : World) (A : Option Addr) (lo hi : Nat) (zs : List Int) : Prop :=
  0 < zs.length → ∃ b off, A = some ⟨b, off, none⟩ ∧ lo ≤ b ∧ b < hi ∧ ∀ j, j < zs.length → w.cell? ⟨b, off + j, none⟩ = some (.int .i64 (zs.getD j 0))
theorem Held.of_own {w : World} {lo c : Nat} {e : TypeId} {A : Option Addr} {zs : List Int} (h : w.ownsRow lo e 1 (.slice A zs.length c) zs.length (zs.map (Value.int .i64))) : Held w A lo w.heap.size zs := by
  intro hn
  obtain ⟨b, off, e1, hb, hc⟩ := (IRow.of_own h).2.2 hn
  subst e1
  refine ⟨b, off, rfl, (h.lt b rfl).1, hb, fun j hj => ?_⟩
  rw [hc j (by omega), List.getElem?_map, List.getD_eq_getElem?_getD, List.getElem?_eq_getElem hj]
  rfl
theorem Held.grown {w w' : World} {A : Option Addr} {lo hi : Nat} {zs : List Int} {row : Option Nat} (h : Held w A lo hi zs) (hg : w.grownBy w' row) (hB : hi ≤ w.heap.size) (hr : ∀ g, row = some g → g < lo ∨ hi ≤ g) : Held w' A lo hi zs := by
  intro hn
  obtain ⟨b, off, e, h1, h2, hc⟩ := h hn
  refine ⟨b, off, e, h1, h2, fun j hj => (World.cell?_of_block (hg.block b (by omega) (fun e => ?_))).trans (hc j hj)⟩
  have := hr b e.symm
  omega
theorem Held.drewN {w : World} {A : Option Addr} {lo hi : Nat} {zs : List Int} (h : Held w A lo hi zs) (q : Nat) : Held (w.drewN q) A lo hi zs := h
theorem Held.below {w w' : World} {A : Option Addr} {lo hi : Nat} {zs : List Int} (h : Held w A lo hi zs) (hb : Below w.heap.size w w') (hB : hi ≤ w.heap.size) : Held w' A lo hi zs :=
  h.grown (grown_of_below hb none) hB (fun g hg => absurd hg (by simp))

/-- where a row of the call's own may lie: outside of the blocks from lo up to hi -/
def Off (v : Value) (lo hi : Nat) : Prop := ∀ g, v.ownBlock = some g → g < lo ∨ hi ≤ g
theorem Off.next {v : Value} {lo hi g n c H : Nat} (h : Off v lo hi) (hat : v.ownBlock = some g ∨ g = H) (hH : hi ≤ H) : Off (.slice (some ⟨g, 0, none⟩) n c) lo hi := by
  intro g' hg'
  have e : g = g' := by simpa [Value.ownBlock] using hg'
  subst e
  rcases hat with h1 | h1
  · exact h g h1
  · exact .inr (by omega)

end Go.Proofs.Ytpeopfkechbelaa
