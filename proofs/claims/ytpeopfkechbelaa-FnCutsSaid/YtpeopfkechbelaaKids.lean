
/-
  Slices of slices of ints: of the call's own, and read; plain laws and the contracts of the laws' own functions on them; no condition.
-/
import Derived.Test.YtpeopfkechbelaaInts0
namespace Go.Proofs.Ytpeopfkechbelaa
open Go.ChangeShapes Go.WideShapes Go.ChangeAt Go.RowKit Go.Deep
set_option linter.unusedVariables false
set_option linter.unusedSimpArgs false

/-- the rows of a slice of slices of ints: row i is xss[i], it lies below block B -/
structure Rows_ (w : World) (B : Nat) (vs : List Value) (xss : List (List Int)) : Prop where
  len : vs.length = xss.length
  row : ∀ i, i < xss.length → ∃ A c, vs.getD i undef = .slice A (xss.getD i []).length c ∧ IRow w B A (xss.getD i [])

/-- a slice of slices of ints that reads as xss -/
def LRow (w : World) (B : Nat) (A : Option Addr) (vs : List Value) (xss : List (List Int)) : Prop := Row w B 1 A xss.length vs ∧ Rows_ w B vs xss

section
variable {w w' : World} {B B' : Nat} {A : Option Addr} {vs : List Value} {xss : List (List Int)}
theorem Rows_.keep (h : Rows_ w B vs xss) (hk : ∀ b o, b < B → w'.cell? ⟨b, o, none⟩ = w.cell? ⟨b, o, none⟩) : Rows_ w' B vs xss :=
  ⟨h.len, fun i hi => by obtain ⟨A, c, e, r⟩ := h.row i hi; exact ⟨A, c, e, Row.keep r hk⟩⟩
theorem Rows_.more (h : Rows_ w B vs xss) (hB : B ≤ B') : Rows_ w B' vs xss :=
  ⟨h.len, fun i hi => by obtain ⟨A, c, e, r⟩ := h.row i hi; exact ⟨A, c, e, r.more hB⟩⟩
theorem LRow.keep (h : LRow w B A vs xss) (hk : ∀ b o, b < B → w'.cell? ⟨b, o, none⟩ = w.cell? ⟨b, o, none⟩) : LRow w' B A vs xss := ⟨Row.keep h.1 hk, h.2.keep hk⟩
theorem LRow.more (h : LRow w B A vs xss) (hB : B ≤ B') : LRow w B' A vs xss := ⟨Row.more h.1 hB, h.2.more hB⟩
theorem LRow.below (h : LRow w B A vs xss) (hb : Below B w w') : LRow w' B A vs xss := h.keep fun _ _ hp => hb.cell hp
theorem LRow.on (h : LRow w w.heap.size A vs xss) (hb : Below w.heap.size w w') : LRow w' w'.heap.size A vs xss := (h.below hb).more hb.size
theorem LRow.drewN (h : LRow w B A vs xss) (k : Nat) : LRow (w.drewN k) B A vs xss := h.keep fun _ _ _ => rfl
theorem LRow.at_ (h : LRow w B A vs xss) {k : Nat} (hk : k < xss.length) :
    ∃ b off Ak ck, A = some ⟨b, off, none⟩ ∧ b < B ∧ w.cell? ⟨b, off + k, none⟩ = some (.slice Ak (xss.getD k []).length ck) ∧ IRow w B Ak (xss.getD k []) := by
  obtain ⟨b, off, e, hb, hc⟩ := Row.at_ (k := k) h.1 (by omega) (by omega)
  obtain ⟨Ak, ck, e2, r⟩ := h.2.row k hk
  exact ⟨b, off, Ak, ck, e, hb, by rw [hc, e2], r⟩
end

/-- the rows of a slice of slices of the call's own: each is the call's own, they lie apart from each other and from the outer row -/
structure Kids (w : World) (base : Nat) (outer : Option Nat) (vs : List Value) (xss : List (List Int)) : Prop where
  len : vs.length = xss.length
  row : ∀ i, i < xss.length → ∃ A c, vs.getD i undef = .slice A (xss.getD i []).length c ∧ w.ownsRow base 3 1 (.slice A (xss.getD i []).length c) (xss.getD i []).length ((xss.getD i []).map (Value.int .i64))
  apart : ∀ i j, i < j → j < xss.length → ∀ g, (vs.getD i undef).ownBlock = some g → (vs.getD j undef).ownBlock ≠ some g
  out : ∀ i, i < xss.length → ∀ g, (vs.getD i undef).ownBlock = some g → outer ≠ some g

section
variable {w w' : World} {base : Nat} {o : Option Nat} {vs : List Value} {xss : List (List Int)}
theorem Kids.nil_ (w : World) (base : Nat) (o : Option Nat) : Kids w base o [] [] := ⟨rfl, fun i h => absurd h (by simp), fun i j _ h => absurd h (by simp), fun i h => absurd h (by simp)⟩
theorem Kids.lt (h : Kids w base o vs xss) {i : Nat} (hi : i < xss.length) {g : Nat} (hg : (vs.getD i undef).ownBlock = some g) : base ≤ g ∧ g < w.heap.size := by
  obtain ⟨A, c, e, r⟩ := h.row i hi
  rw [e] at hg
  exact r.lt g hg
/-- the rows go on where the outer row alone is written and new blocks are made -/
theorem Kids.grown (h : Kids w base o vs xss) {row : Option Nat} (hg : w.grownBy w' row) (hr : ∀ i, i < xss.length → ∀ g, (vs.getD i undef).ownBlock = some g → row ≠ some g) : Kids w' base o vs xss :=
  ⟨h.len, fun i hi => by
    obtain ⟨A, c, e, r⟩ := h.row i hi
    refine ⟨A, c, e, r.kept hg ?_⟩
    cases hv : (Value.slice A (xss.getD i []).length c).ownBlock with
    | none => exact .inl rfl
    | some g => exact .inr fun e2 => hr i hi g (by rw [e]; exact hv) e2.symm, h.apart, h.out⟩
theorem Kids.reads (h : Kids w base o vs xss) : Rows_ w w.heap.size vs xss :=
  ⟨h.len, fun i hi => by obtain ⟨A, c, e, r⟩ := h.row i hi; exact ⟨A, c, e, IRow.of_own r⟩⟩
end

end Go.Proofs.Ytpeopfkechbelaa
