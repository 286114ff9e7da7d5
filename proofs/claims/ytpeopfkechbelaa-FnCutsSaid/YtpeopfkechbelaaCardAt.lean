
/-
  A card that a function has been handed, in the worlds behind; plain laws, no condition.
-/
import Derived.Test.YtpeopfkechbelaaCard2
namespace Go.Proofs.Ytpeopfkechbelaa
open Go.ChangeShapes Go.WideShapes Go.ChangeAt Go.RowKit Go.Deep Go.BigFrame
set_option linter.unusedVariables false

/-- the card lies in the block behind those of w, and its strips where they lay -/
structure CardAt (w wr : World) (d f : Int) (A : Option Addr) (c : Nat) (ss : List ByteArray) : Prop where
  c0 : wr.cell? ⟨w.heap.size, 0, none⟩ = some (.int .i64 d)
  c1 : wr.cell? ⟨w.heap.size, 1, none⟩ = some (.int .i64 f)
  c2 : wr.cell? ⟨w.heap.size, 2, none⟩ = some (.slice A ss.length c)
  row : SRow wr w.heap.size A ss
  below : Below w.heap.size w wr
  lt : w.heap.size < wr.heap.size

section
variable {w wr w' : World} {d f : Int} {A : Option Addr} {c : Nat} {ss : List ByteArray}
theorem CardAt.on (h : CardAt w wr d f A c ss) (hb : Below wr.heap.size wr w') : CardAt w w' d f A c ss :=
  ⟨(hb.cell (p := ⟨w.heap.size, 0, none⟩) h.lt).trans h.c0, (hb.cell (p := ⟨w.heap.size, 1, none⟩) h.lt).trans h.c1, (hb.cell (p := ⟨w.heap.size, 2, none⟩) h.lt).trans h.c2,
    Row.keep h.row (fun b o hlt => hb.cell (p := ⟨b, o, none⟩) (Nat.lt_trans hlt h.lt)), below_thru h.below hb, Nat.lt_of_lt_of_le h.lt hb.size⟩
theorem CardAt.drewN (h : CardAt w wr d f A c ss) (q : Nat) : CardAt w (wr.drewN q) d f A c ss := h.on (below_drewN (Below.refl _ _) q)
theorem CardAt.full (h : CardAt w wr d f A c ss) : SRow wr wr.heap.size A ss := Row.more h.row (Nat.le_of_lt h.lt)
theorem CardAt.start (hx : SRow w w.heap.size A ss) : CardAt w (w.alloc (.cells #[.int .i64 d, .int .i64 f, .slice A ss.length c] 30)) d f A c ss :=
  ⟨by go_simp, by go_simp, by go_simp, hx.alloc (Nat.le_refl _) _, (Below.refl _ _).alloc (Nat.le_refl _) _, by simp⟩
theorem CardAt.at_ (h : CardAt w wr d f A c ss) {k : Nat} (hk : k < ss.length) : ∃ b off, A = some ⟨b, off, none⟩ ∧ b < w.heap.size ∧ wr.cell? ⟨b, off + k, none⟩ = some (.string (ss.getD k .empty)) := SRow.at_ h.row hk
end

/-- the sum over the first strips -/
def accS (F : ByteArray → Int) (ss : List ByteArray) (k : Nat) : Int := ((ss.take k).map F).sum
theorem accS_succ (F : ByteArray → Int) (ss : List ByteArray) (k : Nat) (h : k < ss.length) : accS F ss (k + 1) = accS F ss k + F (ss.getD k .empty) := by
  unfold accS
  rw [take_snoc_getD ss k .empty h, List.map_append, List.sum_append]
  simp
theorem accS_small {F : ByteArray → Int} {ss : List ByteArray} {B : Int} (h : ∀ s ∈ ss, -B ≤ F s ∧ F s ≤ B) : ∀ k : Nat, k ≤ ss.length → -(B * (k : Int)) ≤ accS F ss k ∧ accS F ss k ≤ B * (k : Int) := by
  intro k
  induction k with
  | zero => intro _; simp [accS]
  | succ k ih =>
    intro hk
    have a := ih (by omega)
    have b := h _ (mem_getD (ss := ss) (k := k) (by omega))
    rw [accS_succ F ss k (by omega)]
    have e : B * ((k + 1 : Nat) : Int) = B * (k : Int) + B := by rw [Int.natCast_add, Int.mul_add]; simp
    omega
/-- the greatest over the first strips, 0 at least -/
def topS (F : ByteArray → Int) (ss : List ByteArray) : Nat → Int
  | 0 => 0
  | k + 1 => max (topS F ss k) (F (ss.getD k .empty))
theorem topS_small {F : ByteArray → Int} {ss : List ByteArray} {B : Int} (hB : 0 ≤ B) (h : ∀ s ∈ ss, F s ≤ B) : ∀ k : Nat, k ≤ ss.length → 0 ≤ topS F ss k ∧ topS F ss k ≤ B := by
  intro k
  induction k with
  | zero => intro _; exact ⟨Int.le_refl _, hB⟩
  | succ k ih =>
    intro hk
    have a := ih (by omega)
    have b := h _ (mem_getD (ss := ss) (k := k) (by omega))
    show 0 ≤ max _ _ ∧ max _ _ ≤ B
    omega

end Go.Proofs.Ytpeopfkechbelaa
