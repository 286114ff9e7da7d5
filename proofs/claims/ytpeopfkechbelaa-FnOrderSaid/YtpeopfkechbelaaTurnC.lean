
/-
  Contracts of TurnCard on both sides; no condition beyond the size of the texts.
-/
import Derived.Test.YtpeopfkechbelaaCardAt
import Derived.Test.YtpeopfkechbelaaTurn
import Derived.Test.YtpeopfkechbelaaTabs
import Derived.Deep.AppendLies
import Derived.Deep.RegionLaw
namespace Go.Proofs.Ytpeopfkechbelaa
open Go.ChangeShapes Go.WideShapes Go.ChangeAt Go.RowKit Go.Deep Go.BigFrame
set_option linter.unusedVariables false
set_option linter.unusedSimpArgs false

/-- a card of the call's own that is being made, in block o -/
structure OutAt (wr : World) (o base : Nat) (d f : Int) (v : Value) (ss : List ByteArray) : Prop where
  c0 : wr.cell? ⟨o, 0, none⟩ = some (.int .i64 d)
  c1 : wr.cell? ⟨o, 1, none⟩ = some (.int .i64 f)
  c2 : wr.cell? ⟨o, 2, none⟩ = some v
  fz : ∀ j, wr.frozen? ⟨o, j, none⟩ = false
  own : wr.ownsRow base 9 1 v ss.length (ss.map Value.string)
  lt : o < base
theorem OutAt.on {wr w' : World} {o base : Nat} {d f : Int} {v : Value} {ss : List ByteArray} (h : OutAt wr o base d f v ss) (hb : Below wr.heap.size wr w') : OutAt w' o base d f v ss := by
  have hlt : o < wr.heap.size := World.block_lt_of_cell? wr _ h.c0
  have hk := hb.block o hlt
  exact ⟨(World.cell?_of_block hk).trans h.c0, (World.cell?_of_block hk).trans h.c1, (World.cell?_of_block hk).trans h.c2, fun j => (World.frozen?_of_block hk).trans (h.fz j), own_on h.own hb, h.lt⟩
theorem OutAt.grown {wr w' : World} {o base : Nat} {d f : Int} {v : Value} {ss : List ByteArray} {row : Option Nat} (h : OutAt wr o base d f v ss) (hg : wr.grownBy w' row) (hr : ∀ g, row = some g → o < g) (ha : v.ownBlock = none ∨ v.ownBlock ≠ row) : OutAt w' o base d f v ss := by
  have hlt : o < wr.heap.size := World.block_lt_of_cell? wr _ h.c0
  have hk := hg.block o hlt (fun e => by have := hr o e.symm; omega)
  exact ⟨(World.cell?_of_block hk).trans h.c0, (World.cell?_of_block hk).trans h.c1, (World.cell?_of_block hk).trans h.c2, fun j => (World.frozen?_of_block hk).trans (h.fz j), h.own.kept hg ha, h.lt⟩
theorem OutAt.grown2 {wr w' : World} {o base : Nat} {d f : Int} {v : Value} {ss : List ByteArray} {g : Nat} (h : OutAt wr o base d f v ss) (hg : wr.grownBy w' (some g)) (hr : g < o) : OutAt w' o base d f v ss := by
  have hlt : o < wr.heap.size := World.block_lt_of_cell? wr _ h.c0
  have hk := hg.block o hlt (by simp; omega)
  refine ⟨(World.cell?_of_block hk).trans h.c0, (World.cell?_of_block hk).trans h.c1, (World.cell?_of_block hk).trans h.c2, fun j => (World.frozen?_of_block hk).trans (h.fz j), h.own.kept hg ?_, h.lt⟩
  cases hv : v.ownBlock with
  | none => exact .inl rfl
  | some g' => exact .inr (fun e => by have := (h.own.lt g' hv).1; have := h.lt; simp at e; omega)
theorem OutAt.put {w0 wr : World} {o base : Nat} {d f : Int} {v v0 : Value} {ss ss0 : List ByteArray} (h : OutAt w0 o base d f v0 ss0) (hk : wr.heap[o]? = w0.heap[o]?) (ho : wr.ownsRow base 9 1 v ss.length (ss.map Value.string)) : OutAt (wr.setCell ⟨o, 2, none⟩ v) o base d f v ss := by
  have c2 : wr.cell? ⟨o, 2, none⟩ = some v0 := (World.cell?_of_block hk).trans h.c2
  refine ⟨(World.cell?_setCell_other wr _ _ _ (by simp)).trans ((World.cell?_of_block hk).trans h.c0), (World.cell?_setCell_other wr _ _ _ (by simp)).trans ((World.cell?_of_block hk).trans h.c1), World.cell?_setCell_same wr _ _ c2,
    fun j => (World.frozen?_setCell wr _ _ _).trans ((World.frozen?_of_block hk).trans (h.fz j)), ownsRow_setCell_below ho (by simpa using h.lt) _, h.lt⟩
theorem CardAt.grownR {w wr w' : World} {d f : Int} {A : Option Addr} {c : Nat} {ss : List ByteArray} {row : Option Nat} (h : CardAt w wr d f A c ss) (hg : wr.grownBy w' row) (hr : ∀ g, row = some g → w.heap.size < g) : CardAt w w' d f A c ss := by
  have hk : ∀ b, b ≤ w.heap.size → w'.heap[b]? = wr.heap[b]? := fun b hb => hg.block b (Nat.lt_of_le_of_lt hb h.lt) (fun e => by have := hr b e.symm; omega)
  have h0 := hk _ (Nat.le_refl _)
  exact ⟨(World.cell?_of_block h0).trans h.c0, (World.cell?_of_block h0).trans h.c1, (World.cell?_of_block h0).trans h.c2, Row.keep h.row (fun b o hl => World.cell?_of_block (hk b (Nat.le_of_lt hl))),
    h.below.grown hg (Nat.le_of_lt h.lt) (fun g e => Nat.le_of_lt (hr g e)), Nat.lt_of_lt_of_le h.lt hg.size⟩
theorem strInfo9 : (Try.prog.info? 9).map (fun i => (i.zero, i.size, i.bytes)) = some (some (.string .empty), 1, 16) := by kernel_rfl

def turnS (s : ByteArray) : ByteArray := bs (turnStrip s.data.toList)
theorem turnS_take (ss : List ByteArray) (k : Nat) (h : k < ss.length) : (ss.take (k + 1)).map turnS = (ss.take k).map turnS ++ [turnS (ss.getD k .empty)] := by
  rw [take_snoc_getD ss k .empty h, List.map_append]
  rfl


/-- an append into a field: the new world -/
theorem OutAt.app {w2 w3 : World} {o base : Nat} {d f : Int} {v v' : Value} {ss ss' : List ByteArray} {ob : Obj} (h : OutAt w2 o base d f v ss) (hown : w3.ownsRow base 9 1 v' ss'.length (ss'.map Value.string)) (hg : (w2.alloc ob).grownBy w3 v.ownBlock) :
    OutAt (w3.setCell ⟨o, 2, none⟩ v') o base d f v' ss' := by
  have hlt : o < w2.heap.size := World.block_lt_of_cell? w2 _ h.c0
  have hg2 := grown_trans (World.grownBy_alloc w2 ob v.ownBlock) hg
  have hr : some o ≠ v.ownBlock := fun e => by have := (h.own.lt o e.symm).1; have := h.lt; omega
  exact h.put (hg2.block o hlt hr) hown
theorem OutAt.still {w2 w3 : World} {o base : Nat} {d f : Int} {v : Value} {ss : List ByteArray} {ob : Obj} (h : OutAt w2 o base d f v ss) (hg : (w2.alloc ob).grownBy w3 v.ownBlock) : w3.cell? ⟨o, 2, none⟩ = some v ∧ w3.frozen? ⟨o, 2, none⟩ = false := by
  have hlt : o < w2.heap.size := World.block_lt_of_cell? w2 _ h.c0
  have hg2 := grown_trans (World.grownBy_alloc w2 ob v.ownBlock) hg
  have hk := hg2.block o hlt (fun e => by have := (h.own.lt o e.symm).1; have := h.lt; omega)
  exact ⟨(World.cell?_of_block hk).trans h.c2, (World.frozen?_of_block hk).trans (h.fz 2)⟩
theorem OutAt.beside {w2 w3 : World} {o o2 base base2 : Nat} {d f d2 f2 : Int} {v v2 v' : Value} {ss ss2 : List ByteArray} {ob : Obj} (h : OutAt w2 o base d f v ss) (hb : OutAt w2 o2 base2 d2 f2 v2 ss2) (hv : v2.ownBlock = none) (hlt : o2 < o) (hg : (w2.alloc ob).grownBy w3 v.ownBlock) :
    OutAt (w3.setCell ⟨o, 2, none⟩ v') o2 base2 d2 f2 v2 ss2 := by
  have hg2 := grown_trans (World.grownBy_alloc w2 ob v.ownBlock) hg
  have h3 := hb.grown hg2 (fun g e => by have := (h.own.lt g e).1; have := h.lt; omega) (.inl hv)
  have l3 : o < w3.heap.size := Nat.lt_of_lt_of_le (World.block_lt_of_cell? w2 _ h.c0) hg2.size
  exact h3.grown (row := some o) ⟨rfl, rfl, rfl, by simp, fun k hk hne => heap_setCell_other w3 _ k _ (fun e => hne (by simp [e]))⟩ (fun g e => by simp at e; omega) (.inl hv)
theorem CardAt.beside {w w2 w3 : World} {o base : Nat} {d f d2 f2 : Int} {A : Option Addr} {c : Nat} {v v' : Value} {ss ss2 : List ByteArray} {ob : Obj} (h : OutAt w2 o base d f v ss) (hb : CardAt w w2 d2 f2 A c ss2) (hlt : w.heap.size < o) (hg : (w2.alloc ob).grownBy w3 v.ownBlock) :
    CardAt w (w3.setCell ⟨o, 2, none⟩ v') d2 f2 A c ss2 := by
  have hg2 := grown_trans (World.grownBy_alloc w2 ob v.ownBlock) hg
  have h3 := hb.grownR hg2 (fun g e => by have := (h.own.lt g e).1; have := h.lt; omega)
  exact h3.grownR (row := some o) ⟨rfl, rfl, rfl, by simp, fun k hk hne => heap_setCell_other w3 _ k _ (fun e => hne (by simp [e]))⟩ (fun g e => by simp at e; omega)

def tcD (d f : Int) (ss : List ByteArray) : Int := if cardOk d f ss = true then f else 0
def tcF (d f : Int) (ss : List ByteArray) : Int := if cardOk d f ss = true then d else 0
def tcS (d f : Int) (ss : List ByteArray) : List ByteArray := if cardOk d f ss = true then ss.map turnS else []
theorem tcS_len (d f : Int) (ss : List ByteArray) : (tcS d f ss).length ≤ ss.length := by
  unfold tcS
  by_cases h : cardOk d f ss = true
  · rw [if_pos h, List.length_map]; exact Nat.le_refl _
  · rw [if_neg h]; exact Nat.zero_le _

end Go.Proofs.Ytpeopfkechbelaa
