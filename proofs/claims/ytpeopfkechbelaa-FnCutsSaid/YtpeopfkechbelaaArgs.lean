
/-
  Arguments that are slices, opened to words for memory; plain laws, no condition.
-/
import Derived.Test.YtpeopfkechbelaaMem
namespace Go.Proofs.Ytpeopfkechbelaa
open Go.ChangeShapes Go.WideShapes Go.ChangeAt Go.RowKit Go.Deep

section
variable {H : Type} {enc : TypeId × Value → H} {P : Program} {w : World} {base : Nat} {spare : Nat → Bool} {held : Bool}
theorem open_slice_fields { t e : TypeId} {fs : Array Field} {fuel : Nat} {cs : List Value} {x : DataW H × List MemPlace} (ht : P.underlying t = some (.slice e)) (he : P.underlying e = some (.struct fs))
    (hone : oneCellFields P fs = true) (hC : P.cellsOf e = fs.size) (h : DataW.trod enc P w base spare held fuel t cs = some x) :
    (cs = [.slice none 0 0] ∧ x = (.nil, [])) ∨
    ∃ (a : Addr) (len cap m : Nat) (D : Nat → DataW H) (Pl : Nat → List MemPlace), cs = [.slice (some a) len cap] ∧ base ≤ a.block ∧ len ≤ cap ∧ cap ≤ maxLen ∧ m = (if spare a.block then cap else len) ∧
      x = (.slice ((List.range len).map D) ((List.range (m - len)).map fun j => D (len + j)), MemPlace.row a (m * fs.size) ++ (List.range m).flatMap Pl) ∧
      ∀ i, i < m → ∃ (ys : List (DataW H × List MemPlace)) (n : Nat), D i = .agg (ys.map (·.1)) ∧ Pl i = ys.flatMap (·.2) ∧ ys.length = fs.size ∧
        ∀ (j : Nat) (f : Field), fs[j]? = some f → ∃ (v : Value) (y : DataW H × List MemPlace), w.cell? (a.add (i * fs.size + j)) = some v ∧ ys[j]? = some y ∧ DataW.trod enc P w base spare held n f.type [v] = some y := by
  rcases open_slice ht h with h0 | ⟨a, len, cap, m, n, D, Pl, hcs, hb, hl, hm, hmm, hx, hi⟩
  · exact .inl h0
  · refine .inr ⟨a, len, cap, m, D, Pl, hcs, hb, hl, hm, hmm, by rw [hC] at hx; exact hx, fun i him => ?_⟩
    obtain ⟨cs', hc, ht'⟩ := hi i him
    rw [hC] at hc
    obtain ⟨ys, n', hn', hy, hlen, hyl, hf⟩ := DataW.trod_struct he ht'
    obtain ⟨_, hcl, hat⟩ := World.cells?_some hc
    simp only [Prod.mk.injEq] at hy
    refine ⟨ys, n', hy.1, hy.2, hyl, fun j f hj => ?_⟩
    obtain ⟨ho, hk⟩ := hone_of hone j f hj
    have hjl : j < fs.size := (Array.getElem?_eq_some_iff.1 hj).1
    have hcell := hat j hjl
    have hv : cs'[j]? = some (cs'[j]'(by omega)) := List.getElem?_eq_getElem (by omega)
    have h1 := hf j f hj
    rw [ho, hk] at h1
    have hone' : (cs'.drop j).take 1 = [cs'[j]'(by omega)] := by
      rw [List.drop_eq_getElem_cons (by omega)]
      rfl
    rw [hone'] at h1
    have hys : ys[j]? = some (ys[j]'(by omega)) := List.getElem?_eq_getElem (by omega)
    refine ⟨_, _, ?_, hys, h1.trans hys⟩
    rw [← Go.Deep.add_add, hcell, hv]

theorem cells_of_index (n : Nat) (f : Nat → Int × Int × Int) (k : Nat) (hk : k < n) : ((List.range n).map f).getD k (0, 0, 0) = f k := by
  simp [List.getD, hk]

/-- a slice of structs of three ints that came in -/
theorem trow_of_arg { t e : TypeId} {f0 f1 f2 : Field} {v : Value} {d : DataW H} {p : List MemPlace} {r : Reach} {b0 : Nat} (ht : P.underlying t = some (.slice e)) (he : P.underlying e = some (.struct #[f0, f1, f2]))
    (hone : oneCellFields P #[f0, f1, f2] = true) (hC : P.cellsOf e = 3) (h0 : P.underlying f0.type = some (.int .i64)) (h1 : P.underlying f1.type = some (.int .i64)) (h2 : P.underlying f2.type = some (.int .i64))
    (hv : Value.okWide P w r b0 t v) (h : DataW.Trod enc P w base (fun _ => true) held t v d p) :
    ∃ A c ts, v = .slice A (List.length ts) c ∧ TRow w w.heap.size A ts := by
  obtain ⟨A, n, c, rfl⟩ := okWide_slice ht hv
  obtain ⟨fuel, hf⟩ := h
  rcases open_slice_fields ht he hone hC hf with ⟨hcs, hx⟩ | ⟨a, len, cap, m, D, Pl, hcs, hb, hl, hm, hmm, hx, hi⟩
  · simp only [Value.cells, List.cons.injEq, Value.slice.injEq, and_true] at hcs
    obtain ⟨rfl, rfl, rfl⟩ := hcs
    exact ⟨none, 0, [], rfl, Row.nil_⟩
  · simp only [Value.cells, List.cons.injEq, Value.slice.injEq, and_true] at hcs
    obtain ⟨rfl, rfl, rfl⟩ := hcs
    have hmc : m = c := by rw [hmm]; simp
    have key : ∀ i, i < n → ∃ t3 : Int × Int × Int, w.cell? (a.add (i * 3)) = some (.int .i64 t3.1) ∧ w.cell? (a.add (i * 3 + 1)) = some (.int .i64 t3.2.1) ∧ w.cell? (a.add (i * 3 + 2)) = some (.int .i64 t3.2.2) := by
      intro i hi'
      obtain ⟨ys, k, _, _, hyl, hff⟩ := hi i (by omega)
      obtain ⟨v0, y0, c0, _, q0⟩ := hff 0 f0 rfl
      obtain ⟨v1, y1, c1, _, q1⟩ := hff 1 f1 rfl
      obtain ⟨v2, y2, c2, _, q2⟩ := hff 2 f2 rfl
      obtain ⟨n0, e0, _, _⟩ := DataW.trod_int h0 q0
      obtain ⟨n1, e1, _, _⟩ := DataW.trod_int h1 q1
      obtain ⟨n2, e2, _, _⟩ := DataW.trod_int h2 q2
      simp only [List.cons.injEq, and_true] at e0 e1 e2
      subst e0 e1 e2
      exact ⟨(n0, n1, n2), by simpa using c0, by simpa using c1, by simpa using c2⟩
    obtain ⟨f, hfi⟩ := choose_lt key
    refine ⟨some a, c, (List.range n).map f, by simp, ?_, by simp; omega, ?_⟩
    · rw [cells3_length]
    · intro hn
      have hn' : 0 < n := by simpa using hn
      obtain ⟨b, off, spot⟩ := a
      have hspot : spot = none := by
        have := (hfi 0 hn').1
        simpa [Addr.add] using World.cell?_spot this
      subst hspot
      refine ⟨b, off, rfl, ?_, ?_⟩
      · have := World.block_lt_of_cell? w _ (hfi 0 hn').1
        simpa [Addr.add] using this
      · intro j hj
        simp only [List.length_map, List.length_range] at hj
        have hk : j / 3 < n := by omega
        obtain ⟨g0, g1, g2⟩ := cells3_get ((List.range n).map f) (j / 3) (by simpa using hk)
        rw [cells_of_index n f _ hk] at g0 g1 g2
        have hh := hfi (j / 3) hk
        rw [add_plain, add_plain, add_plain] at hh
        have hr : j % 3 = 0 ∨ j % 3 = 1 ∨ j % 3 = 2 := by omega
        rcases hr with hr | hr | hr
        · have ej : j = j / 3 * 3 := by omega
          rw [ej, g0, ← hh.1]
        · have ej : j = j / 3 * 3 + 1 := by omega
          rw [ej, show (j / 3 * 3 + 1) / 3 = j / 3 by omega] at *
          rw [g1, ← hh.2.1]
        · have ej : j = j / 3 * 3 + 2 := by omega
          rw [ej, show (j / 3 * 3 + 2) / 3 = j / 3 by omega] at *
          rw [g2, ← hh.2.2]

/-- a slice of ints that came in, in a cell -/
theorem irow_of_trod { t e : TypeId} {v : Value} {y : DataW H × List MemPlace} {fuel : Nat} (ht : P.underlying t = some (.slice e)) (he : P.underlying e = some (.int .i64))
    (hC : P.cellsOf e = 1) (hf : DataW.trod enc P w base (fun _ => true) held fuel t [v] = some y) :
    ∃ A c zs, v = .slice A (List.length zs) c ∧ IRow w w.heap.size A zs ∧ ∀ z ∈ zs, -9223372036854775808 ≤ z ∧ z ≤ 9223372036854775807 := by
  rcases open_ints ht he hC hf with ⟨hcs, hx⟩ | ⟨a, n, c, zs, hcs, _, hl, hm, hz, hx, hcell, hwz⟩
  · simp only [List.cons.injEq, and_true] at hcs
    subst hcs
    exact ⟨none, 0, [], rfl, Row.nil_, by simp⟩
  · simp only [List.cons.injEq, and_true] at hcs
    subst hcs
    have hzl : zs.length = c := by rw [hz]; simp
    have htl : (zs.take n).length = n := by rw [List.length_take]; omega
    refine ⟨some a, c, zs.take n, by rw [htl], ⟨by simp, by rw [htl]; omega, ?_⟩, ?_⟩
    · intro hn
      have hn' : 0 < zs.length := by rw [htl] at hn; omega
      obtain ⟨b, off, rfl, hcc⟩ := ints_at hcell hn'
      refine ⟨b, off, rfl, ?_, ?_⟩
      · have := World.block_lt_of_cell? w _ (hcc 0 hn')
        simpa using this
      · intro j hj
        rw [htl] at hj
        rw [hcc j (by omega)]
        have : j < zs.length := by omega
        have hjn : j < n := by omega
        simp [List.getD, this, hjn]
    · intro z hz'
      have := hwz z (List.mem_of_mem_take hz')
      simpa [Lit.wf, IntKind.min, IntKind.max, IntKind.signed, IntKind.bits] using this

/-- a slice of ints that came in -/
theorem irow_of_arg { t e : TypeId} {v : Value} {d : DataW H} {p : List MemPlace} {r : Reach} {b0 : Nat} (ht : P.underlying t = some (.slice e)) (he : P.underlying e = some (.int .i64))
    (hC : P.cellsOf e = 1) (hv : Value.okWide P w r b0 t v) (h : DataW.Trod enc P w base (fun _ => true) held t v d p) :
    ∃ A c zs, v = .slice A (List.length zs) c ∧ IRow w w.heap.size A zs ∧ ∀ z ∈ zs, -9223372036854775808 ≤ z ∧ z ≤ 9223372036854775807 := by
  obtain ⟨A, n, c, rfl⟩ := okWide_slice ht hv
  obtain ⟨fuel, hf⟩ := h
  exact irow_of_trod ht he hC (by simpa [Value.cells] using hf)
end

end Go.Proofs.Ytpeopfkechbelaa
