
/-
  Slices of texts that read as a list; plain laws, no condition.
-/
import Derived.Test.YtpeopfkechbelaaMem
namespace Go.Proofs.Ytpeopfkechbelaa
open Go.ChangeShapes Go.WideShapes Go.ChangeAt Go.RowKit Go.Deep

/-- a slice of texts that reads as ss -/
def SRow (w : World) (B : Nat) (A : Option Addr) (ss : List ByteArray) : Prop := Row w B 1 A ss.length (ss.map Value.string)

theorem SRow.at_ {w : World} {B : Nat} {A : Option Addr} {ss : List ByteArray} (h : SRow w B A ss) {k : Nat} (hk : k < ss.length) :
    ∃ b off, A = some ⟨b, off, none⟩ ∧ b < B ∧ w.cell? ⟨b, off + k, none⟩ = some (.string (ss.getD k .empty)) := by
  obtain ⟨b, off, e, hb, hc⟩ := Row.at_ (k := k) h (by omega) (by omega)
  refine ⟨b, off, e, hb, ?_⟩
  rw [hc]
  simp [List.getD, hk]

section
variable {w w' : World} {B B' : Nat} {A : Option Addr} {zs : List ByteArray}
theorem SRow.below (h : SRow w B A zs) (hb : Below B w w') : SRow w' B A zs := Row.below h hb
theorem SRow.on (h : SRow w w.heap.size A zs) (hb : Below w.heap.size w w') : SRow w' w'.heap.size A zs := Row.on h hb
theorem SRow.more (h : SRow w B A zs) (hB : B ≤ B') : SRow w B' A zs := Row.more h hB
theorem SRow.drew (h : SRow w B A zs) : SRow w.drew B A zs := h
theorem SRow.drewN (h : SRow w B A zs) (k : Nat) : SRow (w.drewN k) B A zs := h
theorem SRow.alloc (h : SRow w B A zs) (hB : B ≤ w.heap.size) (o : Obj) : SRow (w.alloc o) B A zs := Row.alloc h hB o
theorem SRow.setCell (h : SRow w B A zs) {p : Addr} (hB : B ≤ p.block) (u : Value) : SRow (w.setCell p u) B A zs := Row.setCell h hB u
theorem SRow.grown (h : SRow w B A zs) {row : Option Nat} (hg : w.grownBy w' row) (hB : B ≤ w.heap.size) (hr : ∀ g, row = some g → B ≤ g) : SRow w' B A zs := Row.grown h hg hB hr
theorem SRow.of_own {base c : Nat} {e : TypeId} (h : w.ownsRow base e 1 (.slice A zs.length c) zs.length (zs.map Value.string)) : SRow w w.heap.size A zs := by
  obtain ⟨A', c', e', hr⟩ := Row.of_own h
  obtain ⟨rfl, rfl⟩ : A = A' ∧ c = c' := by simpa using e'
  exact hr
end

theorem txt_ne {s t : ByteArray} (h : ¬ s = t) : (s.toList == t.toList) = false := by
  cases e : (s.toList == t.toList) with
  | false => rfl
  | true =>
    exfalso
    apply h
    have e2 := eq_of_beq e
    rw [ByteArray.toList_eq, ByteArray.toList_eq] at e2
    exact ByteArray.ext (Array.toList_inj.1 e2)

end Go.Proofs.Ytpeopfkechbelaa
