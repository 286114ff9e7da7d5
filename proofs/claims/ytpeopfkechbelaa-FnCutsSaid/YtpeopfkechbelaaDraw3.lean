
/-
  The contract of the draw of three strips of one frame (as in XDrawO, with fewer imports: never import both); no condition.
-/
import Derived.Test.YtpeopfkechbelaaDrawS
namespace Go.Proofs.Ytpeopfkechbelaa
open Go.ChangeShapes Go.WideShapes Go.ChangeAt Go.RowKit Go.Deep Go.BigFrame
set_option linter.unusedVariables false
set_option linter.unusedSimpArgs false

/-- what DrawThree returns -/
def NewThree (w : World) (e : Ending) (w' : World) : Prop := ∃ (d f : Nat) (r s t : ByteArray), (1 ≤ d ∧ d ≤ 5) ∧ (1 ≤ f ∧ f ≤ 5) ∧ StripOf d f r.data.toList ∧ StripOf d f s.data.toList ∧ StripOf d f t.data.toList ∧ e = .returned (.tuple #[.string r, .string s, .string t]) ∧ Below w.heap.size w w'
theorem DrawThree_any (A : Option Addr) (c : Nat) (cs : List UInt8) (w : World) (h : BRow w w.heap.size A cs) :
    Calls Try.prog 8 #[.slice A cs.length c] w (NewThree w) := by
  go_enter Try.func8, Try.ntmps8
  go_wp2_with fail
  refine (l01New_any A c cs w h).mono ?_
  rintro e w2 ⟨g, rfl, hg, hcur, hb⟩
  have HC := Lib.hid hcur
  have HB := Lib.hid hb
  clear hcur hb h
  go_wp2_with fail
  refine (l02Strip_any g A c cs w2 HC.out).mono ?_
  rintro e w3 ⟨d, f, l, hd, hf, hl, rfl, hdr⟩
  have HD3 := Lib.hid hdr
  have hst := hl.strip (by omega) (by omega)
  have hlz := hl.size
  have HDN := Lib.hid (fun w => specDownOf_any (bs l) w (by rw [hlz]; omega))
  have HFW := Lib.hid (fun w => specForwardOf_any (bs l) w (by rw [hlz]; omega))
  rw [bs_list, downOf_yes hst, hl.1] at HDN
  rw [bs_list, forwardOf_yes hst, hl.2.1] at HFW
  have HDR := Lib.hid (fun w h => l02Draw_any g A c cs d f w h (by omega) (by omega))
  have HL := Lib.hid hl
  clear hdr hst hl HC hlz
  go_wp2_with fail
  refine (HDN.out _).mono ?_
  rintro e w4 ⟨rfl, rfl⟩
  go_wp2_with fail
  refine (HFW.out _).mono ?_
  rintro e w4 ⟨rfl, rfl⟩
  go_wp2_with fail
  refine (HDR.out _ HD3.out.cur).mono ?_
  rintro e w5 ⟨l2, hl2, rfl, hdr⟩
  have HD5 := Lib.hid (HD3.out.trans hdr)
  have HL2 := Lib.hid hl2
  clear hdr hl2
  go_wp2_with fail
  refine (HDN.out _).mono ?_
  rintro e w6 ⟨rfl, rfl⟩
  go_wp2_with fail
  refine (HFW.out _).mono ?_
  rintro e w6 ⟨rfl, rfl⟩
  go_wp2_with fail
  refine (HDR.out _ HD5.out.cur).mono ?_
  rintro e w7 ⟨l3, hl3, rfl, hdr⟩
  have HBB := Lib.hid ((HD5.out.trans hdr).below HB.out hg HB.out.size)
  have HL3 := Lib.hid hl3
  clear hdr hl3
  go_wp2_with fail
  go_ret3
  exact ⟨d, f, bs l, bs l2, bs l3, hd, hf, by rw [bs_list]; exact HL.out, by rw [bs_list]; exact HL2.out, by rw [bs_list]; exact HL3.out, rfl, HBB.out⟩

end Go.Proofs.Ytpeopfkechbelaa
