
/-
  The contract of the reference's CountWays; no condition beyond the length of the texts.
-/
import Derived.Test.YtjkicfagphielaaCountWaysQ
import Derived.Test.YtjkicfagphielaaWays
import Derived.Test.YtjkicfagphielaaStr0
import Derived.Deep.Cut
import Derived.Deep.AppendLies
import Derived.BigRegion
namespace Go.Proofs.Ytjkicfagphielaa
open Go.ChangeShapes Go.WideShapes Go.ChangeAt Go.RowKit Go.Deep Go.BigFrame
set_option linter.unusedVariables false
set_option linter.unusedSimpArgs false

theorem strInfo' : (Try.prog.info? 9).map (fun i => (i.zero, i.size, i.bytes)) = some (some (.string .empty), 1, 16) := by kernel_rfl

def nInt (n : Nat) : Value := .int .i64 n
theorem map_nInt_set (L : List Nat) (i : Nat) (v : Nat) : (L.map nInt).set i (.int .i64 (v : Nat)) = (L.set i v).map nInt := by rw [List.map_set]; rfl
theorem nrow_cell {w : World} {base g c : Nat} {e : TypeId} {cs : List Nat} (h : w.ownsRow base e 1 (.slice (some ⟨g, 0, none⟩) cs.length c) cs.length (cs.map nInt)) (x : Nat) (hx : x < cs.length) : w.cell? ⟨g, x, none⟩ = some (.int .i64 (cs.getD x 0 : Nat)) := by
  rw [h.cellAt x (by omega), List.getElem?_map, List.getD_eq_getElem?_getD, List.getElem?_eq_getElem hx]
  rfl
theorem srow_cell {w : World} {base g c : Nat} {e : TypeId} {xs : List ByteArray} (h : w.ownsRow base e 1 (.slice (some ⟨g, 0, none⟩) xs.length c) xs.length (xs.map Value.string)) (x : Nat) (hx : x < xs.length) : w.cell? ⟨g, x, none⟩ = some (.string (xs.getD x .empty)) := by
  rw [h.cellAt x (by omega), List.getElem?_map, List.getD_eq_getElem?_getD, List.getElem?_eq_getElem hx]
  rfl
/-- a slice of numbers that are not below 0, read -/
def NRow (w : World) (B : Nat) (A : Option Addr) (cs : List Nat) : Prop := Row w B 1 A cs.length (cs.map nInt)
theorem NRow.at_ {w : World} {B : Nat} {A : Option Addr} {cs : List Nat} (h : NRow w B A cs) {k : Nat} (hk : k < cs.length) :
    ∃ b off, A = some ⟨b, off, none⟩ ∧ b < B ∧ w.cell? ⟨b, off + k, none⟩ = some (.int .i64 (cs.getD k 0 : Nat)) := by
  obtain ⟨b, off, e, hb, hc⟩ := Row.at_ (k := k) h (by omega) (by omega)
  refine ⟨b, off, e, hb, ?_⟩
  rw [hc]
  simp [List.getD, hk, nInt]

/-- the next level, as it is filled: names and counts in rows of the call's own, apart from each other -/
def Fill (w : World) (base : Nat) (xv cv : Value) (T : List UInt8) (n a N dt : Nat) : Prop :=
  ∃ (xs : List ByteArray) (cs : List Nat) (gx cx gc cc : Nat), xv = .slice (some ⟨gx, 0, none⟩) xs.length cx ∧ cv = .slice (some ⟨gc, 0, none⟩) cs.length cc ∧ gx ≠ gc ∧
    w.ownsRow base 9 1 xv xs.length (xs.map Value.string) ∧ w.ownsRow base 3 1 cv cs.length (cs.map nInt) ∧ Lev T n a xs ∧ xs.length = cs.length ∧ (∀ c ∈ cs, 1 ≤ c) ∧ dot T xs cs = dt
theorem Fill.below {w w' : World} {base : Nat} {xv cv : Value} { T : List UInt8} {n a N dt : Nat} (h : Fill w base xv cv T n a N dt) (hb : Below w.heap.size w w') : Fill w' base xv cv T n a N dt := by
  obtain ⟨xs, cs, gx, cx, gc, cc, h1, h2, h3, h4, h5, h6⟩ := h
  exact ⟨xs, cs, gx, cx, gc, cc, h1, h2, h3, own_on h4 hb, own_on h5 hb, h6⟩
theorem Fill.drewN {w : World} {base : Nat} {xv cv : Value} { T : List UInt8} {n a N dt : Nat} (h : Fill w base xv cv T n a N dt) (q : Nat) : Fill (w.drewN q) base xv cv T n a N dt := h.below (below_drewN (Below.refl _ _) q)

end Go.Proofs.Ytjkicfagphielaa
