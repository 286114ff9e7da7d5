
/-
  Tables and cards in the worlds of a law's walk; plain laws, no condition.
-/
import Derived.Test.YtkhlolhmaoenoaaViewT
import Derived.Test.YtkhlolhmaoenoaaIntSS
namespace Go.Proofs.Ytkhlolhmaoenoaa
open Go.ChangeShapes Go.WideShapes Go.ChangeAt Go.RowKit Go.Deep Go.BigFrame
set_option linter.unusedVariables false
set_option linter.unusedSimpArgs false

theorem below_undrew9 {w w' : World} (h : Below w.drew.heap.size w.drew w') : Below w.heap.size w w' := ⟨h.os, h.tape, h.output, h.size, h.block⟩
theorem Tab.lrow2 {w : World} {base c n : Nat} {A : Option Addr} {xss : List (List Int)} (h : Tab w base (.slice A n c) n xss) (hn : xss.length = n) : ∃ vs, LRow w w.heap.size A vs xss := by
  subst hn
  exact h.lrow
theorem lrow_grown {w w' : World} {B : Nat} {A : Option Addr} {vs : List Value} {xss : List (List Int)} {row : Option Nat} (h : LRow w B A vs xss) (hg : w.grownBy w' row) (hB : B ≤ w.heap.size) (hr : ∀ g, row = some g → B ≤ g) : LRow w' B A vs xss :=
  h.keep fun b o hb => World.cell?_of_block (hg.block b (by omega) (fun e => by have := hr b e.symm; omega))
theorem Tab.grownApart {w w' : World} {base n : Nat} {v : Value} {xss : List (List Int)} {row : Option Nat} (h : Tab w base v n xss) (hg : w.grownBy w' row) (hr : ∀ g, row = some g → g < base) : Tab w' base v n xss := by
  obtain ⟨vs, h1, h2⟩ := h
  refine ⟨vs, h1.kept hg ?_, h2.grown hg (fun i hi g hgi e => ?_)⟩
  · cases hv : v.ownBlock with
    | none => exact .inl rfl
    | some g => exact .inr (fun e => by have a := hr g e.symm; have b := (h1.lt g hv).1; omega)
  · have a := hr g e
    have b := (h2.lt hi hgi).1
    omega
theorem CardAt.on2 {w wr w' : World} {d f : Int} {A : Option Addr} {c B : Nat} {ss : List ByteArray} (h : CardAt w wr d f A c ss) (hb : Below B wr w') (hB : w.heap.size < B) : CardAt w w' d f A c ss := by
  have hk : ∀ b, b ≤ w.heap.size → w'.heap[b]? = wr.heap[b]? := fun b hl => hb.block b (by omega)
  have h0 := hk _ (Nat.le_refl _)
  exact ⟨(World.cell?_of_block h0).trans h.c0, (World.cell?_of_block h0).trans h.c1, (World.cell?_of_block h0).trans h.c2, Row.keep h.row (fun b o hl => World.cell?_of_block (hk b (Nat.le_of_lt hl))),
    h.below.trans (hb.mono (Nat.le_of_lt hB)), Nat.lt_of_lt_of_le h.lt hb.size⟩
theorem totS_bound (xss : List (List Int)) (M : Nat) (h : ∀ x ∈ xss, x.length ≤ M) : totS xss xss.length ≤ M * xss.length := by
  unfold totS
  rw [List.take_length]
  induction xss with
  | nil => simp
  | cons x xss ih =>
    have h1 := h x List.mem_cons_self
    have h2 := ih (fun y hy => h y (List.mem_cons_of_mem _ hy))
    simp only [List.map_cons, List.sum_cons, List.length_cons]
    have : M * (xss.length + 1) = M * xss.length + M := by rw [Nat.mul_add, Nat.mul_one]
    omega
theorem viewsOf_small (F : List UInt8 → List Int) (hF : ∀ l, (F l).length ≤ l.length) (d f : Int) (ss : List ByteArray) : totS (viewsOf F d f ss) (viewsOf F d f ss).length ≤ 1048576 ∧ (viewsOf F d f ss).length ≤ 1048576 := by
  cases h : cardOk d f ss
  · rw [viewsOf_no h]
    exact ⟨by decide, by decide⟩
  · rw [viewsOf_yes h]
    have hp := cardOk_parts h
    have hb := totS_bound (ss.map (fun s => F s.data.toList)) 16 (fun x hx => by
      obtain ⟨s, hs, rfl⟩ := List.mem_map.1 hx
      have h1 := hF s.data.toList
      have h2 := isStrip_parts (cardOk_strip h hs).1
      omega)
    rw [List.length_map] at hb ⊢
    omega

end Go.Proofs.Ytkhlolhmaoenoaa
