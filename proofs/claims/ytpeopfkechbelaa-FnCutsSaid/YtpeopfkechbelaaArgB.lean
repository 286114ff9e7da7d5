
/-
  An argument that is a slice of bytes, opened to words for memory; plain law, no condition.
-/
import Derived.Test.YtpeopfkechbelaaArgs
import Derived.Test.YtpeopfkechbelaaDraw
namespace Go.Proofs.Ytpeopfkechbelaa
open Go.ChangeShapes Go.WideShapes Go.ChangeAt Go.RowKit Go.Deep

section
variable {H : Type} {enc : TypeId × Value → H} {P : Program} {w : World} {base : Nat} {spare : Nat → Bool} {held : Bool}

/-- a slice of bytes that came in -/
theorem brow_of_arg { t e : TypeId} {v : Value} {d : DataW H} {p : List MemPlace} {r : Reach} {b0 : Nat} (ht : P.underlying t = some (.slice e)) (he : P.underlying e = some (.int .u8))
    (hC : P.cellsOf e = 1) (hv : Value.okWide P w r b0 t v) (h : DataW.Trod enc P w base (fun _ => true) held t v d p) :
    ∃ A c bs, v = .slice A (List.length bs) c ∧ BRow w w.heap.size A bs := by
  obtain ⟨A, n, c, rfl⟩ := okWide_slice ht hv
  obtain ⟨fuel, hf⟩ := h
  have hf : DataW.trod enc P w base (fun _ => true) held fuel t [.slice A n c] = some (d, p) := by simpa [Value.cells] using hf
  rcases open_ints ht he hC hf with ⟨hcs, hx⟩ | ⟨a, n, c, zs, hcs, _, hl, hm, hz, hx, hcell, hwz⟩
  · simp only [List.cons.injEq, and_true] at hcs
    rw [hcs]
    exact ⟨none, 0, [], rfl, Row.nil_⟩
  · simp only [List.cons.injEq, and_true] at hcs
    rw [hcs]
    have hzl : zs.length = c := by rw [hz]; simp
    have htl : (zs.take n).length = n := by rw [List.length_take]; omega
    have hbl : ((zs.take n).map fun z : Int => UInt8.ofNat z.toNat).length = n := by rw [List.length_map, htl]
    refine ⟨some a, c, (zs.take n).map fun z : Int => UInt8.ofNat z.toNat, by rw [hbl], ⟨by simp, by rw [hbl]; omega, ?_⟩⟩
    intro hn
    have hn' : 0 < zs.length := by rw [hbl] at hn; omega
    obtain ⟨b, off, rfl, hcc⟩ := ints_at hcell hn'
    refine ⟨b, off, rfl, ?_, ?_⟩
    · have := World.block_lt_of_cell? w _ (hcc 0 hn')
      simpa using this
    · intro j hj
      rw [hbl] at hj
      rw [hcc j (by omega)]
      have h1 : j < zs.length := by omega
      have hw := hwz zs[j] (List.getElem_mem h1)
      have hw' : 0 ≤ zs[j] ∧ zs[j] ≤ 255 := by simpa [Lit.wf, IntKind.min, IntKind.max, IntKind.signed, IntKind.bits] using hw
      have e : ((UInt8.ofNat zs[j].toNat).toNat : Int) = zs[j] := by
        rw [UInt8.toNat_ofNat']
        omega
      rw [List.getElem?_map, List.getElem?_map, List.getElem?_take, if_pos (show j < n by omega), List.getElem?_eq_getElem h1]
      simp [List.getD, h1]
      omega
end

end Go.Proofs.Ytpeopfkechbelaa
