/-
  No cell of these rows narrows 'for every input' (looked for: loops, veiled, ifaces, maps, wideKeys, modest, calm, conditions, laid).
  DERIVED. THE GIVEN ROWS OF THIS SEAT. 4 by the template 'for every input the law returns true; each argument reads behind the call as it read before'; 0 by the template 'total and deterministic' (their statements: YtodocfanaplmpaaTotals.lean).
  GIVEN WITH THE SEED: the statements are not yours to turn. If you find one false, say at which input.
  Laid BY PROGRAM, IN A SANDBOX (cutbox-rows.mjs): the forced cells as the released guide's own fill.sh prints them over the translation fe2b595ef2334937… (all of the seat's roots in one cut). By AI agents, Wed Nov 11 2026. No macro, syntax, notation, axiom, sorry.
-/
import Derived.Test.YtodocfanaplmpaaChecked
import GoSem.Claim
import GoSem.ClaimJoined
import GoSem.ClaimMapViews
import Derived.JoinedTies
import Derived.KernelRfl
namespace Go.Proofs.Ytodocfanaplmpaa
/- THE CELL 'sum', in the pinned program and in every row, IS THE sha256 OF THE DUMP (.gsa) THAT YtodocfanaplmpaaProg.lean LOADS. Nothing in Lean hashes anything: it is a label: what it is worth is what the hold of that sum in a sandbox is worth. -/
noncomputable def Try.pinned : Pinned := { name := "ytodocfanaplmpaa", sum := "fe2b595ef2334937e380790186dc1a14f25bcadf3c290d7cc2305bde3aba0564", checked := Try.checked }
namespace Rows
def none {H : Type} : Left H := { results := [], args := [] }

/-- 'laws.FnExactRoomTable': WHATEVER THE INPUT: true; the input reads as it did. -/
def fnExactRoomTableSpec : ChangeSpec := { name := "fnExactRoomTable", fn := fun _ => fun
  | [d1, d2] => { results := [.lit (.bool true)], args := [d1, d2] }
  | _ => none }
def fnExactRoomTableRow : OpenClaim := { program := "ytodocfanaplmpaa", sum := "fe2b595ef2334937e380790186dc1a14f25bcadf3c290d7cc2305bde3aba0564", func := "loop.example/g03305/laws.FnExactRoomTable", spec := "fnExactRoomTable", recurses := true, apart := false }
def FnExactRoomTableSaid : Prop := fnExactRoomTableRow.holds Try.pinned (OpenSpec.ofChange fnExactRoomTableSpec)

/-- ITS FALSE NEIGHBOUR: 'it returns false'. Refute it at one input. -/
def fnExactRoomTableWrong : ChangeSpec := { name := "fnExactRoomTable", fn := fun _ => fun
  | [d1, d2] => { results := [.lit (.bool false)], args := [d1, d2] }
  | _ => none }
def FnExactRoomTableWrongFalsely : Prop := fnExactRoomTableRow.holds Try.pinned (OpenSpec.ofChange fnExactRoomTableWrong)

/-- 'laws.FnExactLinksOk': WHATEVER THE INPUT: true; the input reads as it did. -/
def fnExactLinksOkSpec : ChangeSpec := { name := "fnExactLinksOk", fn := fun _ => fun
  | [d1, d2] => { results := [.lit (.bool true)], args := [d1, d2] }
  | _ => none }
def fnExactLinksOkRow : OpenClaim := { program := "ytodocfanaplmpaa", sum := "fe2b595ef2334937e380790186dc1a14f25bcadf3c290d7cc2305bde3aba0564", func := "loop.example/g03305/laws.FnExactLinksOk", spec := "fnExactLinksOk", apart := false }
def FnExactLinksOkSaid : Prop := fnExactLinksOkRow.holds Try.pinned (OpenSpec.ofChange fnExactLinksOkSpec)

/-- ITS FALSE NEIGHBOUR: 'it returns false'. Refute it at one input. -/
def fnExactLinksOkWrong : ChangeSpec := { name := "fnExactLinksOk", fn := fun _ => fun
  | [d1, d2] => { results := [.lit (.bool false)], args := [d1, d2] }
  | _ => none }
def FnExactLinksOkWrongFalsely : Prop := fnExactLinksOkRow.holds Try.pinned (OpenSpec.ofChange fnExactLinksOkWrong)

/-- 'laws.FnSliders': WHATEVER THE INPUT: true; the input reads as it did. -/
def fnSlidersSpec : ChangeSpec := { name := "fnSliders", fn := fun _ => fun
  | [d] => { results := [.lit (.bool true)], args := [d] }
  | _ => none }
def fnSlidersRow : OpenClaim := { program := "ytodocfanaplmpaa", sum := "fe2b595ef2334937e380790186dc1a14f25bcadf3c290d7cc2305bde3aba0564", func := "loop.example/g03305/laws.FnSliders", spec := "fnSliders", unfollowed := true, recurses := true, apart := false }
def FnSlidersSaid : Prop := fnSlidersRow.holds Try.pinned (OpenSpec.ofChange fnSlidersSpec)

/-- ITS FALSE NEIGHBOUR: 'it returns false'. Refute it at one input. -/
def fnSlidersWrong : ChangeSpec := { name := "fnSliders", fn := fun _ => fun
  | [d] => { results := [.lit (.bool false)], args := [d] }
  | _ => none }
def FnSlidersWrongFalsely : Prop := fnSlidersRow.holds Try.pinned (OpenSpec.ofChange fnSlidersWrong)

/-- 'laws.FnExactPullAll': WHATEVER THE INPUT: true; the input reads as it did. -/
def fnExactPullAllSpec : ChangeSpec := { name := "fnExactPullAll", fn := fun _ => fun
  | [d1, d2, d3, d4] => { results := [.lit (.bool true)], args := [d1, d2, d3, d4] }
  | _ => none }
def fnExactPullAllRow : OpenClaim := { program := "ytodocfanaplmpaa", sum := "fe2b595ef2334937e380790186dc1a14f25bcadf3c290d7cc2305bde3aba0564", func := "loop.example/g03305/laws.FnExactPullAll", spec := "fnExactPullAll", unfollowed := true, recurses := true, apart := false }
def FnExactPullAllSaid : Prop := fnExactPullAllRow.holds Try.pinned (OpenSpec.ofChange fnExactPullAllSpec)

/-- ITS FALSE NEIGHBOUR: 'it returns false'. Refute it at one input. -/
def fnExactPullAllWrong : ChangeSpec := { name := "fnExactPullAll", fn := fun _ => fun
  | [d1, d2, d3, d4] => { results := [.lit (.bool false)], args := [d1, d2, d3, d4] }
  | _ => none }
def FnExactPullAllWrongFalsely : Prop := fnExactPullAllRow.holds Try.pinned (OpenSpec.ofChange fnExactPullAllWrong)

/- THE SECOND FORM. 'bulk': how many values and letters a reading holds, each counted each time it is reached (what is shared counts as often as it is met; a slice's spare places count too). A statement '..UptoSaid' is the law's where the arguments, and the package variables that the reading takes, are together of bulk at most 1048576: NARROWER than '..Said'. Prove '..Said' where nothing that the law and all that it calls make is longer than what came in: it says more and counts as full. Else prove '..UptoSaid'. A law counts once. -/
mutual
def uptoBulk {H : Type} : DataW H → Nat
  | .lit (.string bytes) => bytes.length + 1
  | .lit _ => 1
  | .nil => 1
  | .ptr d => uptoBulk d + 1
  | .slice elems spare => uptoBulkAll elems + uptoBulkAll spare + 1
  | .agg parts => uptoBulkAll parts + 1
  | .iface _ d => uptoBulk d + 1
  | .map entries => uptoBulkEntries entries + 1
  | .held _ => 1
def uptoBulkAll {H : Type} : List (DataW H) → Nat
  | [] => 0
  | d :: r => uptoBulk d + uptoBulkAll r
def uptoBulkEntries {H : Type} : List (Lit × DataW H) → Nat
  | [] => 0
  | x :: r => uptoBulkEntry x + uptoBulkEntries r
def uptoBulkEntry {H : Type} : Lit × DataW H → Nat
  | (.string bytes, d) => bytes.length + uptoBulk d + 1
  | (_, d) => uptoBulk d + 1
 end
def uptoSmall : (H : Type) → List (DataW H) → Bool := fun _ ds => decide (uptoBulkAll ds ≤ 1048576)
def OpenSpec.upto (s : _root_.Go.ChangeSpec) : _root_.Go.OpenSpec := { _root_.Go.OpenSpec.ofChange s with cond := some uptoSmall }

/-- 'laws.FnExactRoomTable', WHERE WHAT IT READS IS OF BULK AT MOST 1048576: true; the input reads as it did. -/
def fnExactRoomTableUptoRow : OpenClaim := { program := "ytodocfanaplmpaa", sum := "fe2b595ef2334937e380790186dc1a14f25bcadf3c290d7cc2305bde3aba0564", func := "loop.example/g03305/laws.FnExactRoomTable", spec := "fnExactRoomTable", recurses := true, apart := false, narrowed := true }
def FnExactRoomTableUptoSaid : Prop := fnExactRoomTableUptoRow.holds Try.pinned (OpenSpec.upto fnExactRoomTableSpec)

/-- 'laws.FnExactLinksOk', WHERE WHAT IT READS IS OF BULK AT MOST 1048576: true; the input reads as it did. -/
def fnExactLinksOkUptoRow : OpenClaim := { program := "ytodocfanaplmpaa", sum := "fe2b595ef2334937e380790186dc1a14f25bcadf3c290d7cc2305bde3aba0564", func := "loop.example/g03305/laws.FnExactLinksOk", spec := "fnExactLinksOk", apart := false, narrowed := true }
def FnExactLinksOkUptoSaid : Prop := fnExactLinksOkUptoRow.holds Try.pinned (OpenSpec.upto fnExactLinksOkSpec)

/-- 'laws.FnSliders', WHERE WHAT IT READS IS OF BULK AT MOST 1048576: true; the input reads as it did. -/
def fnSlidersUptoRow : OpenClaim := { program := "ytodocfanaplmpaa", sum := "fe2b595ef2334937e380790186dc1a14f25bcadf3c290d7cc2305bde3aba0564", func := "loop.example/g03305/laws.FnSliders", spec := "fnSliders", unfollowed := true, recurses := true, apart := false, narrowed := true }
def FnSlidersUptoSaid : Prop := fnSlidersUptoRow.holds Try.pinned (OpenSpec.upto fnSlidersSpec)

/-- 'laws.FnExactPullAll', WHERE WHAT IT READS IS OF BULK AT MOST 1048576: true; the input reads as it did. -/
def fnExactPullAllUptoRow : OpenClaim := { program := "ytodocfanaplmpaa", sum := "fe2b595ef2334937e380790186dc1a14f25bcadf3c290d7cc2305bde3aba0564", func := "loop.example/g03305/laws.FnExactPullAll", spec := "fnExactPullAll", unfollowed := true, recurses := true, apart := false, narrowed := true }
def FnExactPullAllUptoSaid : Prop := fnExactPullAllUptoRow.holds Try.pinned (OpenSpec.upto fnExactPullAllSpec)

end Rows
end Go.Proofs.Ytodocfanaplmpaa
