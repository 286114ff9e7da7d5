
/-
  A card in a block, its row of the call's own; plain laws, no condition.
-/
import Derived.Test.YtkhlolhmaoenoaaTurnC
import Derived.Test.YtkhlolhmaoenoaaMarkT
namespace Go.Proofs.Ytkhlolhmaoenoaa
open Go.ChangeShapes Go.WideShapes Go.ChangeAt Go.RowKit Go.Deep Go.BigFrame
set_option linter.unusedVariables false
set_option linter.unusedSimpArgs false

/-- a card in block o, its row of the call's own, made before -/
structure CardIn (wr : World) (o base : Nat) (d f : Int) (A : Option Addr) (c n : Nat) (xs : List Value) : Prop where
  c0 : wr.cell? ⟨o, 0, none⟩ = some (.int .i64 d)
  c1 : wr.cell? ⟨o, 1, none⟩ = some (.int .i64 f)
  c2 : wr.cell? ⟨o, 2, none⟩ = some (.slice A n c)
  own : wr.ownsRow base 9 1 (.slice A n c) n xs
  up : ∀ g, (Value.slice A n c).ownBlock = some g → base ≤ g ∧ g < o
section
variable {wr w' : World} {o base : Nat} {d f : Int} {A : Option Addr} {c n : Nat} {xs : List Value}
theorem CardIn.lt (h : CardIn wr o base d f A c n xs) : o < wr.heap.size := World.block_lt_of_cell? wr _ h.c0
theorem CardIn.on (h : CardIn wr o base d f A c n xs) (hb : Below wr.heap.size wr w') : CardIn w' o base d f A c n xs := by
  have hk := hb.block o h.lt
  exact ⟨(World.cell?_of_block hk).trans h.c0, (World.cell?_of_block hk).trans h.c1, (World.cell?_of_block hk).trans h.c2, own_on h.own hb, h.up⟩
theorem CardIn.grown {row : Option Nat} (h : CardIn wr o base d f A c n xs) (hg : wr.grownBy w' row) (hr : ∀ g, row = some g → g ≠ o ∧ (g < base ∨ o < g)) : CardIn w' o base d f A c n xs := by
  have hk := hg.block o h.lt (fun e => (hr o e.symm).1 rfl)
  refine ⟨(World.cell?_of_block hk).trans h.c0, (World.cell?_of_block hk).trans h.c1, (World.cell?_of_block hk).trans h.c2, h.own.kept hg ?_, h.up⟩
  cases hv : (Value.slice A n c).ownBlock with
  | none => exact .inl rfl
  | some g => exact .inr (fun e => by have a := h.up g hv; have b := (hr g e.symm).2; omega)
theorem CardIn.put {row : Option Nat} {ys : List Value} (h : CardIn wr o base d f A c n xs) (hg : wr.grownBy w' row) (hr : ∀ g, row = some g → g ≠ o) (ho : w'.ownsRow base 9 1 (.slice A n c) n ys) : CardIn w' o base d f A c n ys := by
  have hk := hg.block o h.lt (fun e => hr o e.symm rfl)
  exact ⟨(World.cell?_of_block hk).trans h.c0, (World.cell?_of_block hk).trans h.c1, (World.cell?_of_block hk).trans h.c2, ho, h.up⟩
theorem CardIn.start {w : World} (h : w.ownsRow base 9 1 (.slice A n c) n xs) : CardIn (w.alloc (.cells #[.int .i64 d, .int .i64 f, .slice A n c] 26)) w.heap.size base d f A c n xs :=
  ⟨by go_simp, by go_simp, by go_simp, h.alloc _, fun g hg => h.lt g hg⟩
theorem CardIn.row {ss : List ByteArray} (h : CardIn wr o base d f A c ss.length (ss.map Value.string)) : SRow wr wr.heap.size A ss := SRow.of_own h.own
end

theorem below_undrew8 {w w' : World} (h : Below w.drew.heap.size w.drew w') : Below w.heap.size w w' := ⟨h.os, h.tape, h.output, h.size, h.block⟩
theorem CardAt.grownS {w wr w' : World} {d f : Int} {A : Option Addr} {c : Nat} {ss : List ByteArray} {row : Option Nat} (h : CardAt w wr d f A c ss) (hg : wr.grownBy w' row) (hr : ∀ g, row = some g → w.heap.size < g) : CardAt w w' d f A c ss := h.grownR hg hr
end Go.Proofs.Ytkhlolhmaoenoaa
