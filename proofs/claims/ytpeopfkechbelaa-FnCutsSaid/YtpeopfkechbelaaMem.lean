
/-
  Words for memory: a slice that reads as a list of cells; plain laws, no condition.
-/
import Derived.Test.YtpeopfkechbelaaBase
import Derived.Deep.Slices
import Derived.Deep.Fields
import Derived.Lib.SmallJoins
import Derived.Maps.AppendAt
import Derived.Deep.QuietTactic
import Derived.BigQuiet
namespace Go.Proofs.Ytpeopfkechbelaa
open Go.ChangeShapes Go.WideShapes Go.ChangeAt Go.RowKit Go.Deep

/-- the slice value '.slice A n c' of n elements (size cells each) holds the cells xs and lies below block B -/
def Row (w : World) (B size : Nat) (A : Option Addr) (n : Nat) (xs : List Value) : Prop :=
  xs.length = n * size ∧ n ≤ maxLen ∧ (0 < n → ∃ b off, A = some ⟨b, off, none⟩ ∧ b < B ∧ ∀ j, j < n * size → w.cell? ⟨b, off + j, none⟩ = xs[j]?)

section
variable {w w' : World} {B B' size n : Nat} {A : Option Addr} {xs : List Value}
theorem Row.nil_ : Row w B size none 0 [] := ⟨by simp, Nat.zero_le _, fun h => absurd h (by omega)⟩
theorem Row.keep (h : Row w B size A n xs) (hk : ∀ b o, b < B → w'.cell? ⟨b, o, none⟩ = w.cell? ⟨b, o, none⟩) : Row w' B size A n xs :=
  ⟨h.1, h.2.1, fun hn => by
    obtain ⟨b, off, e, hb, hc⟩ := h.2.2 hn
    exact ⟨b, off, e, hb, fun j hj => (hk _ _ hb).trans (hc j hj)⟩⟩
theorem Row.more (h : Row w B size A n xs) (hB : B ≤ B') : Row w B' size A n xs :=
  ⟨h.1, h.2.1, fun hn => by
    obtain ⟨b, off, e, hb, hc⟩ := h.2.2 hn
    exact ⟨b, off, e, by omega, hc⟩⟩
theorem Row.below (h : Row w B size A n xs) (hb : Below B w w') : Row w' B size A n xs := h.keep fun _ _ hp => hb.cell hp
/-- in the world behind a call that lets stand what was there -/
theorem Row.on (h : Row w w.heap.size size A n xs) (hb : Below w.heap.size w w') : Row w' w'.heap.size size A n xs := (h.below hb).more hb.size
theorem Row.drew (h : Row w B size A n xs) : Row w.drew B size A n xs := h
theorem Row.drewN (h : Row w B size A n xs) (k : Nat) : Row (w.drewN k) B size A n xs := h
theorem Row.alloc (h : Row w B size A n xs) (hB : B ≤ w.heap.size) (o : Obj) : Row (w.alloc o) B size A n xs := h.keep fun b o' hp => World.cell?_alloc_lt w o ⟨b, o', none⟩ (by simp only; omega)
theorem Row.setCell (h : Row w B size A n xs) {p : Addr} (hB : B ≤ p.block) (u : Value) : Row (w.setCell p u) B size A n xs :=
  h.keep fun b o hq => World.cell?_setCell_other w p ⟨b, o, none⟩ u (fun e => by subst e; simp only at hB; omega)
theorem Row.grown (h : Row w B size A n xs) {row : Option Nat} (hg : w.grownBy w' row) (hB : B ≤ w.heap.size) (hr : ∀ g, row = some g → B ≤ g) : Row w' B size A n xs :=
  h.keep fun b o hp => World.cell?_of_block (hg.block b (by omega) (fun e => by have := hr _ e.symm; omega))
theorem Row.of_own {base : Nat} {e : TypeId} {v : Value} (h : w.ownsRow base e size v n xs) : ∃ A c, v = .slice A n c ∧ Row w w.heap.size size A n xs := by
  have hl := h.lt
  rcases h.2 with ⟨rfl, rfl⟩ | ⟨g, cap, cur, rfl, hb, hg, hnc, hcm, hcs, ht⟩
  · exact ⟨none, 0, rfl, h.1, Nat.zero_le _, fun h0 => absurd h0 (by omega)⟩
  · refine ⟨some ⟨g, 0, none⟩, cap, rfl, h.1, Nat.le_trans hnc hcm, fun _ => ⟨g, 0, rfl, (hl g rfl).2, fun j hj => ?_⟩⟩
    rw [Nat.zero_add]
    exact h.cellAt j hj
theorem Row.at_ {k : Nat} (h : Row w B size A n xs) (hk : k < n * size) (hn : 0 < n) : ∃ b off, A = some ⟨b, off, none⟩ ∧ b < B ∧ w.cell? ⟨b, off + k, none⟩ = some (xs.getD k undef) := by
  obtain ⟨b, off, e, hb, hc⟩ := h.2.2 hn
  refine ⟨b, off, e, hb, (hc k hk).trans ?_⟩
  have : k < xs.length := by rw [h.1]; exact hk
  simp [List.getD, this]
end

theorem grown_of_below {a w : World} (h : Below a.heap.size a w) (row : Option Nat) : a.grownBy w row := ⟨h.os, h.tape, h.output, h.size, fun i hi _ => h.block i hi⟩
theorem own_on {a w : World} {base : Nat} {e : TypeId} {size n : Nat} {v : Value} {xs : List Value} (h : a.ownsRow base e size v n xs) (hb : Below a.heap.size a w) : w.ownsRow base e size v n xs :=
  h.kept (grown_of_below hb none) (by cases hv : v.ownBlock <;> simp)
/-- what is owned lies apart from what lay there before -/
theorem own_mono {w : World} {base base' : Nat} {e : TypeId} {size n : Nat} {v : Value} {xs : List Value} (h : w.ownsRow base e size v n xs) (hb : base' ≤ base) : w.ownsRow base' e size v n xs := by
  refine ⟨h.1, ?_⟩
  rcases h.2 with h2 | ⟨g, cap, cur, hv, hg, r⟩
  · exact .inl h2
  · exact .inr ⟨g, cap, cur, hv, by omega, r⟩

/-- a cell that lay there lies there behind a call -/
theorem cell_on {a b : World} {g o : Nat} {v : Value} (hb : Below a.heap.size a b) (h : a.cell? ⟨g, o, none⟩ = some v) : b.cell? ⟨g, o, none⟩ = some v :=
  (hb.cell (p := ⟨g, o, none⟩) (World.block_lt_of_cell? a _ h)).trans h

theorem cell_alloc {a : World} {g o : Nat} {v : Value} (h : a.cell? ⟨g, o, none⟩ = some v) (ob : Obj) : (a.alloc ob).cell? ⟨g, o, none⟩ = some v :=
  (World.cell?_alloc_lt a ob ⟨g, o, none⟩ (World.block_lt_of_cell? a _ h)).trans h

/-- a world in which all that lay in w lies as it did -/
structure InW (w : World) where
  val : World
  on : Below w.heap.size w val

instance (w : World) : Nonempty (InW w) := ⟨⟨w, Below.refl _ _⟩⟩

theorem InW.cell {w : World} {b o : Nat} {v : Option Value} (hb : b < w.heap.size) (h : w.cell? ⟨b, o, none⟩ = v) (u : InW w) : u.val.cell? ⟨b, o, none⟩ = v := (u.on.cell (p := ⟨b, o, none⟩) hb).trans h

/-- a region that draws its order, whose operations read what lies there and whose calls let it lie: one walk in the order of the text -/
theorem wp_region_in {P : Program} {id : Nat} {Q : Exit → Act → World → Prop} {a : Act} {w : World} {l : List Oper} (hm : P.follows .mixedOrders = true) (hB : Region.lexB .any l.toArray = true)
    (h : wpQuiet P l.toArray (fun w' => ∃ u : InW w, w' = u.val) (fun a' => ∀ w', (∃ u : InW w, w' = u.val) → Q .normal a' w') l a) : (Code.region id l.toArray true).wp P Q a w :=
  wp_region_quiet (C := fun w' => ∃ u : InW w, w' = u.val) hm hB ⟨⟨w.drew, (Below.refl _ _).drew⟩, rfl⟩ (by simpa using h)

theorem news_one (w : World) (v : Value) (t : TypeId) : ∀ (j : Nat) (u : Value), [v][j]? = some u → (w.alloc (.cells #[v] t)).cell? ((⟨w.heap.size, 0, none⟩ : Addr).add j) = some u := by
  intro j u hu
  match j, hu with
  | 0, hu =>
    simp at hu
    subst hu
    simp [Addr.add]
theorem one_one {v : Value} (h : v.oneCell' = true) : ∀ u ∈ [v], u.oneCell' = true := by
  intro u hu
  simp at hu
  subst hu
  exact h
/-- behind an append of one element onto a row of the call's own -/
theorem below_app {a w w1 : World} {e : TypeId} {size n : Nat} {v : Value} {xs : List Value} {ob : Obj} (h : Below a.heap.size a w) (hown : w.ownsRow a.heap.size e size v n xs) (hg : (w.alloc ob).grownBy w1 v.ownBlock) : Below a.heap.size a w1 :=
  (below_alloc h ob).grown hg (below_alloc h ob).size (fun k hk => (hown.lt k hk).1)

/-- a slice of ints that reads as zs -/
def IRow (w : World) (B : Nat) (A : Option Addr) (zs : List Int) : Prop := Row w B 1 A zs.length (zs.map (Value.int .i64))

theorem IRow.at_ {w : World} {B : Nat} {A : Option Addr} {zs : List Int} (h : IRow w B A zs) {k : Nat} (hk : k < zs.length) :
    ∃ b off, A = some ⟨b, off, none⟩ ∧ b < B ∧ w.cell? ⟨b, off + k, none⟩ = some (.int .i64 (zs.getD k 0)) := by
  obtain ⟨b, off, e, hb, hc⟩ := Row.at_ (k := k) h (by omega) (by omega)
  refine ⟨b, off, e, hb, hc.trans ?_⟩
  simp [List.getD, hk]

section
variable {w w' : World} {B B' : Nat} {A : Option Addr} {zs : List Int}
theorem IRow.below (h : IRow w B A zs) (hb : Below B w w') : IRow w' B A zs := Row.below h hb
theorem IRow.on (h : IRow w w.heap.size A zs) (hb : Below w.heap.size w w') : IRow w' w'.heap.size A zs := Row.on h hb
theorem IRow.more (h : IRow w B A zs) (hB : B ≤ B') : IRow w B' A zs := Row.more h hB
theorem IRow.drew (h : IRow w B A zs) : IRow w.drew B A zs := h
theorem IRow.drewN (h : IRow w B A zs) (k : Nat) : IRow (w.drewN k) B A zs := h
theorem IRow.alloc (h : IRow w B A zs) (hB : B ≤ w.heap.size) (o : Obj) : IRow (w.alloc o) B A zs := Row.alloc h hB o
theorem IRow.setCell (h : IRow w B A zs) {p : Addr} (hB : B ≤ p.block) (u : Value) : IRow (w.setCell p u) B A zs := Row.setCell h hB u
theorem IRow.grown (h : IRow w B A zs) {row : Option Nat} (hg : w.grownBy w' row) (hB : B ≤ w.heap.size) (hr : ∀ g, row = some g → B ≤ g) : IRow w' B A zs := Row.grown h hg hB hr
theorem IRow.of_own {base c : Nat} {e : TypeId} (h : w.ownsRow base e 1 (.slice A zs.length c) zs.length (zs.map (Value.int .i64))) : IRow w w.heap.size A zs := by
  obtain ⟨A', c', e', hr⟩ := Row.of_own h
  obtain ⟨rfl, rfl⟩ : A = A' ∧ c = c' := by simpa using e'
  exact hr
end

/-- the cells of a list of structs of three ints -/
def cells3 (ts : List (Int × Int × Int)) : List Value := ts.flatMap fun t => [.int .i64 t.1, .int .i64 t.2.1, .int .i64 t.2.2]
def TRow (w : World) (B : Nat) (A : Option Addr) (ts : List (Int × Int × Int)) : Prop := Row w B 3 A ts.length (cells3 ts)

theorem cells3_length (ts : List (Int × Int × Int)) : (cells3 ts).length = ts.length * 3 := by
  induction ts with
  | nil => rfl
  | cons t ts ih => simp only [cells3, List.flatMap_cons, List.length_append, List.length_cons, List.length_nil] at ih ⊢; omega

theorem cells3_get (ts : List (Int × Int × Int)) (k : Nat) (h : k < ts.length) :
    (cells3 ts)[k * 3]? = some (.int .i64 (ts.getD k (0, 0, 0)).1) ∧ (cells3 ts)[k * 3 + 1]? = some (.int .i64 (ts.getD k (0, 0, 0)).2.1) ∧ (cells3 ts)[k * 3 + 2]? = some (.int .i64 (ts.getD k (0, 0, 0)).2.2) := by
  induction ts generalizing k with
  | nil => simp at h
  | cons t ts ih =>
    cases k with
    | zero => simp [cells3]
    | succ k =>
      have := ih k (by simpa using h)
      have e : cells3 (t :: ts) = [.int .i64 t.1, .int .i64 t.2.1, .int .i64 t.2.2] ++ cells3 ts := rfl
      rw [e, List.getElem?_append_right (by simp; omega), List.getElem?_append_right (by simp; omega), List.getElem?_append_right (by simp; omega)]
      simp only [List.length_cons, List.length_nil, List.getD_cons_succ]
      rw [show (k + 1) * 3 - (0 + 1 + 1 + 1) = k * 3 by omega, show (k + 1) * 3 + 1 - (0 + 1 + 1 + 1) = k * 3 + 1 by omega, show (k + 1) * 3 + 2 - (0 + 1 + 1 + 1) = k * 3 + 2 by omega]
      exact this

theorem TRow.at_ {w : World} {B : Nat} {A : Option Addr} {ts : List (Int × Int × Int)} (h : TRow w B A ts) {k : Nat} (hk : k < ts.length) :
    ∃ b off, A = some ⟨b, off, none⟩ ∧ b < B ∧ w.cell? ⟨b, off + k * 3, none⟩ = some (.int .i64 (ts.getD k (0, 0, 0)).1) ∧
      w.cell? ⟨b, off + k * 3 + 1, none⟩ = some (.int .i64 (ts.getD k (0, 0, 0)).2.1) ∧ w.cell? ⟨b, off + k * 3 + 2, none⟩ = some (.int .i64 (ts.getD k (0, 0, 0)).2.2) := by
  obtain ⟨b, off, e, hb, hc⟩ := h.2.2 (by omega)
  obtain ⟨g0, g1, g2⟩ := cells3_get ts k hk
  refine ⟨b, off, e, hb, ?_, ?_, ?_⟩
  · rw [hc _ (by omega), g0]
  · rw [Nat.add_assoc, hc _ (by omega), g1]
  · rw [Nat.add_assoc, hc _ (by omega), g2]

section
variable {w w' : World} {B B' : Nat} {A : Option Addr} {zs : List (Int × Int × Int)}
theorem TRow.below (h : TRow w B A zs) (hb : Below B w w') : TRow w' B A zs := Row.below h hb
theorem TRow.on (h : TRow w w.heap.size A zs) (hb : Below w.heap.size w w') : TRow w' w'.heap.size A zs := Row.on h hb
theorem TRow.more (h : TRow w B A zs) (hB : B ≤ B') : TRow w B' A zs := Row.more h hB
theorem TRow.drew (h : TRow w B A zs) : TRow w.drew B A zs := h
theorem TRow.drewN (h : TRow w B A zs) (k : Nat) : TRow (w.drewN k) B A zs := h
theorem TRow.alloc (h : TRow w B A zs) (hB : B ≤ w.heap.size) (o : Obj) : TRow (w.alloc o) B A zs := Row.alloc h hB o
theorem TRow.setCell (h : TRow w B A zs) {p : Addr} (hB : B ≤ p.block) (u : Value) : TRow (w.setCell p u) B A zs := Row.setCell h hB u
theorem TRow.grown (h : TRow w B A zs) {row : Option Nat} (hg : w.grownBy w' row) (hB : B ≤ w.heap.size) (hr : ∀ g, row = some g → B ≤ g) : TRow w' B A zs := Row.grown h hg hB hr
theorem TRow.of_own {base c : Nat} {e : TypeId} (h : w.ownsRow base e 3 (.slice A zs.length c) zs.length (cells3 zs)) : TRow w w.heap.size A zs := by
  obtain ⟨A', c', e', hr⟩ := Row.of_own h
  obtain ⟨rfl, rfl⟩ : A = A' ∧ c = c' := by simpa using e'
  exact hr
end

end Go.Proofs.Ytpeopfkechbelaa
