/-
  No cell of these rows narrows 'for every input' (looked for: loops, veiled, ifaces, maps, wideKeys, modest, calm, conditions, laid).
  DERIVED. THE GIVEN ROWS OF THIS SEAT. 26 by the template 'for every input the law returns true; each argument reads behind the call as it read before'; 0 by the template 'total and deterministic' (their statements: YtjkicfagphielaaTotals.lean).
  GIVEN WITH THE SEED: the statements are not yours to turn. If you find one false, say at which input.
  Laid BY PROGRAM, IN A SANDBOX (cutbox-rows.mjs): the forced cells as the released guide's own fill.sh prints them over the translation 3848425d487d0cbc… (all of the seat's roots in one cut). By AI agents, Wed Nov 11 2026. No macro, syntax, notation, axiom, sorry.
-/
import Derived.Test.YtjkicfagphielaaChecked
import GoSem.Claim
import GoSem.ClaimJoined
import GoSem.ClaimMapViews
import Derived.JoinedTies
import Derived.KernelRfl
namespace Go.Proofs.Ytjkicfagphielaa
/- THE CELL 'sum', in the pinned program and in every row, IS THE sha256 OF THE DUMP (.gsa) THAT YtjkicfagphielaaProg.lean LOADS. Nothing in Lean hashes anything: it is a label: what it is worth is what the hold of that sum in a sandbox is worth. -/
noncomputable def Try.pinned : Pinned := { name := "ytjkicfagphielaa", sum := "3848425d487d0cbc2aba775a87a425b2e67af3fdb4edd17e7feb175a23f2220c", checked := Try.checked }
namespace Rows
def none {H : Type} : Left H := { results := [], args := [] }

/-- 'laws.FnExactCanRaise': WHATEVER THE INPUT: true; the input reads as it did. -/
def fnExactCanRaiseSpec : ChangeSpec := { name := "fnExactCanRaise", fn := fun _ => fun
  | [d1, d2] => { results := [.lit (.bool true)], args := [d1, d2] }
  | _ => none }
def fnExactCanRaiseRow : OpenClaim := { program := "ytjkicfagphielaa", sum := "3848425d487d0cbc2aba775a87a425b2e67af3fdb4edd17e7feb175a23f2220c", func := "loop.example/g03305/laws.FnExactCanRaise", spec := "fnExactCanRaise", inPlace := ["internal/bytealg.CountString", "internal/bytealg.IndexByteString", "internal/bytealg.IndexString"], named := ["internal/bytealg.MaxLen"], apart := false }
def FnExactCanRaiseSaid : Prop := fnExactCanRaiseRow.holds Try.pinned (OpenSpec.ofChange fnExactCanRaiseSpec)

/-- ITS FALSE NEIGHBOUR: 'it returns false'. Refute it at one input. -/
def fnExactCanRaiseWrong : ChangeSpec := { name := "fnExactCanRaise", fn := fun _ => fun
  | [d1, d2] => { results := [.lit (.bool false)], args := [d1, d2] }
  | _ => none }
def FnExactCanRaiseWrongFalsely : Prop := fnExactCanRaiseRow.holds Try.pinned (OpenSpec.ofChange fnExactCanRaiseWrong)

/-- 'laws.FnExactLowerAt': WHATEVER THE INPUT: true; the input reads as it did. -/
def fnExactLowerAtSpec : ChangeSpec := { name := "fnExactLowerAt", fn := fun _ => fun
  | [d1, d2] => { results := [.lit (.bool true)], args := [d1, d2] }
  | _ => none }
def fnExactLowerAtRow : OpenClaim := { program := "ytjkicfagphielaa", sum := "3848425d487d0cbc2aba775a87a425b2e67af3fdb4edd17e7feb175a23f2220c", func := "loop.example/g03305/laws.FnExactLowerAt", spec := "fnExactLowerAt", inPlace := ["internal/bytealg.CountString", "internal/bytealg.IndexByteString", "internal/bytealg.IndexString"], named := ["internal/bytealg.MaxLen"], apart := false }
def FnExactLowerAtSaid : Prop := fnExactLowerAtRow.holds Try.pinned (OpenSpec.ofChange fnExactLowerAtSpec)

/-- ITS FALSE NEIGHBOUR: 'it returns false'. Refute it at one input. -/
def fnExactLowerAtWrong : ChangeSpec := { name := "fnExactLowerAt", fn := fun _ => fun
  | [d1, d2] => { results := [.lit (.bool false)], args := [d1, d2] }
  | _ => none }
def FnExactLowerAtWrongFalsely : Prop := fnExactLowerAtRow.holds Try.pinned (OpenSpec.ofChange fnExactLowerAtWrong)

/-- 'laws.FnExactRaiseAt': WHATEVER THE INPUT: true; the input reads as it did. -/
def fnExactRaiseAtSpec : ChangeSpec := { name := "fnExactRaiseAt", fn := fun _ => fun
  | [d1, d2] => { results := [.lit (.bool true)], args := [d1, d2] }
  | _ => none }
def fnExactRaiseAtRow : OpenClaim := { program := "ytjkicfagphielaa", sum := "3848425d487d0cbc2aba775a87a425b2e67af3fdb4edd17e7feb175a23f2220c", func := "loop.example/g03305/laws.FnExactRaiseAt", spec := "fnExactRaiseAt", inPlace := ["internal/bytealg.CountString", "internal/bytealg.IndexByteString", "internal/bytealg.IndexString"], named := ["internal/bytealg.MaxLen"], apart := false }
def FnExactRaiseAtSaid : Prop := fnExactRaiseAtRow.holds Try.pinned (OpenSpec.ofChange fnExactRaiseAtSpec)

/-- ITS FALSE NEIGHBOUR: 'it returns false'. Refute it at one input. -/
def fnExactRaiseAtWrong : ChangeSpec := { name := "fnExactRaiseAt", fn := fun _ => fun
  | [d1, d2] => { results := [.lit (.bool false)], args := [d1, d2] }
  | _ => none }
def FnExactRaiseAtWrongFalsely : Prop := fnExactRaiseAtRow.holds Try.pinned (OpenSpec.ofChange fnExactRaiseAtWrong)

/-- 'laws.FnExactTurnStrip': WHATEVER THE INPUT: true; the input reads as it did. -/
def fnExactTurnStripSpec : ChangeSpec := { name := "fnExactTurnStrip", fn := fun _ => fun
  | [d] => { results := [.lit (.bool true)], args := [d] }
  | _ => none }
def fnExactTurnStripRow : OpenClaim := { program := "ytjkicfagphielaa", sum := "3848425d487d0cbc2aba775a87a425b2e67af3fdb4edd17e7feb175a23f2220c", func := "loop.example/g03305/laws.FnExactTurnStrip", spec := "fnExactTurnStrip", inPlace := ["internal/bytealg.CountString", "internal/bytealg.IndexByteString", "internal/bytealg.IndexString"], named := ["internal/bytealg.MaxLen"], apart := false }
def FnExactTurnStripSaid : Prop := fnExactTurnStripRow.holds Try.pinned (OpenSpec.ofChange fnExactTurnStripSpec)

/-- ITS FALSE NEIGHBOUR: 'it returns false'. Refute it at one input. -/
def fnExactTurnStripWrong : ChangeSpec := { name := "fnExactTurnStrip", fn := fun _ => fun
  | [d] => { results := [.lit (.bool false)], args := [d] }
  | _ => none }
def FnExactTurnStripWrongFalsely : Prop := fnExactTurnStripRow.holds Try.pinned (OpenSpec.ofChange fnExactTurnStripWrong)

/-- 'laws.FnExactIsBalanced': WHATEVER THE INPUT: true; the input reads as it did. -/
def fnExactIsBalancedSpec : ChangeSpec := { name := "fnExactIsBalanced", fn := fun _ => fun
  | [d] => { results := [.lit (.bool true)], args := [d] }
  | _ => none }
def fnExactIsBalancedRow : OpenClaim := { program := "ytjkicfagphielaa", sum := "3848425d487d0cbc2aba775a87a425b2e67af3fdb4edd17e7feb175a23f2220c", func := "loop.example/g03305/laws.FnExactIsBalanced", spec := "fnExactIsBalanced", inPlace := ["internal/bytealg.CountString", "internal/bytealg.IndexByteString", "internal/bytealg.IndexString"], named := ["internal/bytealg.MaxLen"], apart := false }
def FnExactIsBalancedSaid : Prop := fnExactIsBalancedRow.holds Try.pinned (OpenSpec.ofChange fnExactIsBalancedSpec)

/-- ITS FALSE NEIGHBOUR: 'it returns false'. Refute it at one input. -/
def fnExactIsBalancedWrong : ChangeSpec := { name := "fnExactIsBalanced", fn := fun _ => fun
  | [d] => { results := [.lit (.bool false)], args := [d] }
  | _ => none }
def FnExactIsBalancedWrongFalsely : Prop := fnExactIsBalancedRow.holds Try.pinned (OpenSpec.ofChange fnExactIsBalancedWrong)

/-- 'laws.FnExactDepthsOf': WHATEVER THE INPUT: true; the input reads as it did. -/
def fnExactDepthsOfSpec : ChangeSpec := { name := "fnExactDepthsOf", fn := fun _ => fun
  | [d] => { results := [.lit (.bool true)], args := [d] }
  | _ => none }
def fnExactDepthsOfRow : OpenClaim := { program := "ytjkicfagphielaa", sum := "3848425d487d0cbc2aba775a87a425b2e67af3fdb4edd17e7feb175a23f2220c", func := "loop.example/g03305/laws.FnExactDepthsOf", spec := "fnExactDepthsOf", inPlace := ["internal/bytealg.CountString", "internal/bytealg.IndexByteString", "internal/bytealg.IndexString"], named := ["internal/bytealg.MaxLen"], apart := false }
def FnExactDepthsOfSaid : Prop := fnExactDepthsOfRow.holds Try.pinned (OpenSpec.ofChange fnExactDepthsOfSpec)

/-- ITS FALSE NEIGHBOUR: 'it returns false'. Refute it at one input. -/
def fnExactDepthsOfWrong : ChangeSpec := { name := "fnExactDepthsOf", fn := fun _ => fun
  | [d] => { results := [.lit (.bool false)], args := [d] }
  | _ => none }
def FnExactDepthsOfWrongFalsely : Prop := fnExactDepthsOfRow.holds Try.pinned (OpenSpec.ofChange fnExactDepthsOfWrong)

/-- 'laws.FnExactFromHeights': WHATEVER THE INPUT: true; the input reads as it did. -/
def fnExactFromHeightsSpec : ChangeSpec := { name := "fnExactFromHeights", fn := fun _ => fun
  | [d1, d2] => { results := [.lit (.bool true)], args := [d1, d2] }
  | _ => none }
def fnExactFromHeightsRow : OpenClaim := { program := "ytjkicfagphielaa", sum := "3848425d487d0cbc2aba775a87a425b2e67af3fdb4edd17e7feb175a23f2220c", func := "loop.example/g03305/laws.FnExactFromHeights", spec := "fnExactFromHeights", inPlace := ["internal/abi.NoEscape", "internal/bytealg.MakeNoZero"], apart := false }
def FnExactFromHeightsSaid : Prop := fnExactFromHeightsRow.holds Try.pinned (OpenSpec.ofChange fnExactFromHeightsSpec)

/-- ITS FALSE NEIGHBOUR: 'it returns false'. Refute it at one input. -/
def fnExactFromHeightsWrong : ChangeSpec := { name := "fnExactFromHeights", fn := fun _ => fun
  | [d1, d2] => { results := [.lit (.bool false)], args := [d1, d2] }
  | _ => none }
def FnExactFromHeightsWrongFalsely : Prop := fnExactFromHeightsRow.holds Try.pinned (OpenSpec.ofChange fnExactFromHeightsWrong)

/-- 'laws.FnExactRoomUnder': WHATEVER THE INPUT: true; the input reads as it did. -/
def fnExactRoomUnderSpec : ChangeSpec := { name := "fnExactRoomUnder", fn := fun _ => fun
  | [d] => { results := [.lit (.bool true)], args := [d] }
  | _ => none }
def fnExactRoomUnderRow : OpenClaim := { program := "ytjkicfagphielaa", sum := "3848425d487d0cbc2aba775a87a425b2e67af3fdb4edd17e7feb175a23f2220c", func := "loop.example/g03305/laws.FnExactRoomUnder", spec := "fnExactRoomUnder", inPlace := ["internal/bytealg.CountString", "internal/bytealg.IndexByteString", "internal/bytealg.IndexString"], named := ["internal/bytealg.MaxLen"], apart := false }
def FnExactRoomUnderSaid : Prop := fnExactRoomUnderRow.holds Try.pinned (OpenSpec.ofChange fnExactRoomUnderSpec)

/-- ITS FALSE NEIGHBOUR: 'it returns false'. Refute it at one input. -/
def fnExactRoomUnderWrong : ChangeSpec := { name := "fnExactRoomUnder", fn := fun _ => fun
  | [d] => { results := [.lit (.bool false)], args := [d] }
  | _ => none }
def FnExactRoomUnderWrongFalsely : Prop := fnExactRoomUnderRow.holds Try.pinned (OpenSpec.ofChange fnExactRoomUnderWrong)

/-- 'laws.FnExactRaisesOf': WHATEVER THE INPUT: true; the input reads as it did. -/
def fnExactRaisesOfSpec : ChangeSpec := { name := "fnExactRaisesOf", fn := fun _ => fun
  | [d] => { results := [.lit (.bool true)], args := [d] }
  | _ => none }
def fnExactRaisesOfRow : OpenClaim := { program := "ytjkicfagphielaa", sum := "3848425d487d0cbc2aba775a87a425b2e67af3fdb4edd17e7feb175a23f2220c", func := "loop.example/g03305/laws.FnExactRaisesOf", spec := "fnExactRaisesOf", inPlace := ["internal/bytealg.CountString", "internal/bytealg.IndexByteString", "internal/bytealg.IndexString"], named := ["internal/bytealg.MaxLen"], apart := false }
def FnExactRaisesOfSaid : Prop := fnExactRaisesOfRow.holds Try.pinned (OpenSpec.ofChange fnExactRaisesOfSpec)

/-- ITS FALSE NEIGHBOUR: 'it returns false'. Refute it at one input. -/
def fnExactRaisesOfWrong : ChangeSpec := { name := "fnExactRaisesOf", fn := fun _ => fun
  | [d] => { results := [.lit (.bool false)], args := [d] }
  | _ => none }
def FnExactRaisesOfWrongFalsely : Prop := fnExactRaisesOfRow.holds Try.pinned (OpenSpec.ofChange fnExactRaisesOfWrong)

/-- 'laws.FnExactBridgeCount': WHATEVER THE INPUT: true; the input reads as it did. -/
def fnExactBridgeCountSpec : ChangeSpec := { name := "fnExactBridgeCount", fn := fun _ => fun
  | [d1, d2, d3] => { results := [.lit (.bool true)], args := [d1, d2, d3] }
  | _ => none }
def fnExactBridgeCountRow : OpenClaim := { program := "ytjkicfagphielaa", sum := "3848425d487d0cbc2aba775a87a425b2e67af3fdb4edd17e7feb175a23f2220c", func := "loop.example/g03305/laws.FnExactBridgeCount", spec := "fnExactBridgeCount", inPlace := ["internal/bytealg.CountString", "internal/bytealg.IndexByteString", "internal/bytealg.IndexString"], named := ["internal/bytealg.MaxLen"], apart := false }
def FnExactBridgeCountSaid : Prop := fnExactBridgeCountRow.holds Try.pinned (OpenSpec.ofChange fnExactBridgeCountSpec)

/-- ITS FALSE NEIGHBOUR: 'it returns false'. Refute it at one input. -/
def fnExactBridgeCountWrong : ChangeSpec := { name := "fnExactBridgeCount", fn := fun _ => fun
  | [d1, d2, d3] => { results := [.lit (.bool false)], args := [d1, d2, d3] }
  | _ => none }
def FnExactBridgeCountWrongFalsely : Prop := fnExactBridgeCountRow.holds Try.pinned (OpenSpec.ofChange fnExactBridgeCountWrong)

/-- 'laws.FnExactBridgeOk': WHATEVER THE INPUT: true; the input reads as it did. -/
def fnExactBridgeOkSpec : ChangeSpec := { name := "fnExactBridgeOk", fn := fun _ => fun
  | [d1, d2] => { results := [.lit (.bool true)], args := [d1, d2] }
  | _ => none }
def fnExactBridgeOkRow : OpenClaim := { program := "ytjkicfagphielaa", sum := "3848425d487d0cbc2aba775a87a425b2e67af3fdb4edd17e7feb175a23f2220c", func := "loop.example/g03305/laws.FnExactBridgeOk", spec := "fnExactBridgeOk", inPlace := ["internal/bytealg.CountString", "internal/bytealg.IndexByteString", "internal/bytealg.IndexString"], named := ["internal/bytealg.MaxLen"], apart := false }
def FnExactBridgeOkSaid : Prop := fnExactBridgeOkRow.holds Try.pinned (OpenSpec.ofChange fnExactBridgeOkSpec)

/-- ITS FALSE NEIGHBOUR: 'it returns false'. Refute it at one input. -/
def fnExactBridgeOkWrong : ChangeSpec := { name := "fnExactBridgeOk", fn := fun _ => fun
  | [d1, d2] => { results := [.lit (.bool false)], args := [d1, d2] }
  | _ => none }
def FnExactBridgeOkWrongFalsely : Prop := fnExactBridgeOkRow.holds Try.pinned (OpenSpec.ofChange fnExactBridgeOkWrong)

/-- 'laws.FnExactHeightsOf': WHATEVER THE INPUT: true; the input reads as it did. -/
def fnExactHeightsOfSpec : ChangeSpec := { name := "fnExactHeightsOf", fn := fun _ => fun
  | [d] => { results := [.lit (.bool true)], args := [d] }
  | _ => none }
def fnExactHeightsOfRow : OpenClaim := { program := "ytjkicfagphielaa", sum := "3848425d487d0cbc2aba775a87a425b2e67af3fdb4edd17e7feb175a23f2220c", func := "loop.example/g03305/laws.FnExactHeightsOf", spec := "fnExactHeightsOf", inPlace := ["internal/bytealg.CountString", "internal/bytealg.IndexByteString", "internal/bytealg.IndexString"], named := ["internal/bytealg.MaxLen"], apart := false }
def FnExactHeightsOfSaid : Prop := fnExactHeightsOfRow.holds Try.pinned (OpenSpec.ofChange fnExactHeightsOfSpec)

/-- ITS FALSE NEIGHBOUR: 'it returns false'. Refute it at one input. -/
def fnExactHeightsOfWrong : ChangeSpec := { name := "fnExactHeightsOf", fn := fun _ => fun
  | [d] => { results := [.lit (.bool false)], args := [d] }
  | _ => none }
def FnExactHeightsOfWrongFalsely : Prop := fnExactHeightsOfRow.holds Try.pinned (OpenSpec.ofChange fnExactHeightsOfWrong)

/-- 'laws.FnExactBridgedStrip': WHATEVER THE INPUT: true; the input reads as it did. -/
def fnExactBridgedStripSpec : ChangeSpec := { name := "fnExactBridgedStrip", fn := fun _ => fun
  | [d1, d2] => { results := [.lit (.bool true)], args := [d1, d2] }
  | _ => none }
def fnExactBridgedStripRow : OpenClaim := { program := "ytjkicfagphielaa", sum := "3848425d487d0cbc2aba775a87a425b2e67af3fdb4edd17e7feb175a23f2220c", func := "loop.example/g03305/laws.FnExactBridgedStrip", spec := "fnExactBridgedStrip", inPlace := ["internal/bytealg.CountString", "internal/bytealg.IndexByteString", "internal/bytealg.IndexString"], named := ["internal/bytealg.MaxLen"], apart := false }
def FnExactBridgedStripSaid : Prop := fnExactBridgedStripRow.holds Try.pinned (OpenSpec.ofChange fnExactBridgedStripSpec)

/-- ITS FALSE NEIGHBOUR: 'it returns false'. Refute it at one input. -/
def fnExactBridgedStripWrong : ChangeSpec := { name := "fnExactBridgedStrip", fn := fun _ => fun
  | [d1, d2] => { results := [.lit (.bool false)], args := [d1, d2] }
  | _ => none }
def FnExactBridgedStripWrongFalsely : Prop := fnExactBridgedStripRow.holds Try.pinned (OpenSpec.ofChange fnExactBridgedStripWrong)

/-- 'laws.FnExactAreaBetween': WHATEVER THE INPUT: true; the input reads as it did. -/
def fnExactAreaBetweenSpec : ChangeSpec := { name := "fnExactAreaBetween", fn := fun _ => fun
  | [d1, d2] => { results := [.lit (.bool true)], args := [d1, d2] }
  | _ => none }
def fnExactAreaBetweenRow : OpenClaim := { program := "ytjkicfagphielaa", sum := "3848425d487d0cbc2aba775a87a425b2e67af3fdb4edd17e7feb175a23f2220c", func := "loop.example/g03305/laws.FnExactAreaBetween", spec := "fnExactAreaBetween", inPlace := ["internal/bytealg.CountString", "internal/bytealg.IndexByteString", "internal/bytealg.IndexString"], named := ["internal/bytealg.MaxLen"], apart := false }
def FnExactAreaBetweenSaid : Prop := fnExactAreaBetweenRow.holds Try.pinned (OpenSpec.ofChange fnExactAreaBetweenSpec)

/-- ITS FALSE NEIGHBOUR: 'it returns false'. Refute it at one input. -/
def fnExactAreaBetweenWrong : ChangeSpec := { name := "fnExactAreaBetween", fn := fun _ => fun
  | [d1, d2] => { results := [.lit (.bool false)], args := [d1, d2] }
  | _ => none }
def FnExactAreaBetweenWrongFalsely : Prop := fnExactAreaBetweenRow.holds Try.pinned (OpenSpec.ofChange fnExactAreaBetweenWrong)

/-- 'laws.FnExactCountAbove': WHATEVER THE INPUT: true; the input reads as it did. -/
def fnExactCountAboveSpec : ChangeSpec := { name := "fnExactCountAbove", fn := fun _ => fun
  | [d] => { results := [.lit (.bool true)], args := [d] }
  | _ => none }
def fnExactCountAboveRow : OpenClaim := { program := "ytjkicfagphielaa", sum := "3848425d487d0cbc2aba775a87a425b2e67af3fdb4edd17e7feb175a23f2220c", func := "loop.example/g03305/laws.FnExactCountAbove", spec := "fnExactCountAbove", inPlace := ["internal/bytealg.CountString", "internal/bytealg.IndexByteString", "internal/bytealg.IndexString"], named := ["internal/bytealg.MaxLen"], apart := false }
def FnExactCountAboveSaid : Prop := fnExactCountAboveRow.holds Try.pinned (OpenSpec.ofChange fnExactCountAboveSpec)

/-- ITS FALSE NEIGHBOUR: 'it returns false'. Refute it at one input. -/
def fnExactCountAboveWrong : ChangeSpec := { name := "fnExactCountAbove", fn := fun _ => fun
  | [d] => { results := [.lit (.bool false)], args := [d] }
  | _ => none }
def FnExactCountAboveWrongFalsely : Prop := fnExactCountAboveRow.holds Try.pinned (OpenSpec.ofChange fnExactCountAboveWrong)

/-- 'laws.FnExactIsLoose': WHATEVER THE INPUT: true; the input reads as it did. -/
def fnExactIsLooseSpec : ChangeSpec := { name := "fnExactIsLoose", fn := fun _ => fun
  | [d1, d2] => { results := [.lit (.bool true)], args := [d1, d2] }
  | _ => none }
def fnExactIsLooseRow : OpenClaim := { program := "ytjkicfagphielaa", sum := "3848425d487d0cbc2aba775a87a425b2e67af3fdb4edd17e7feb175a23f2220c", func := "loop.example/g03305/laws.FnExactIsLoose", spec := "fnExactIsLoose", inPlace := ["internal/bytealg.CountString", "internal/bytealg.IndexByteString", "internal/bytealg.IndexString"], named := ["internal/bytealg.MaxLen"], apart := false }
def FnExactIsLooseSaid : Prop := fnExactIsLooseRow.holds Try.pinned (OpenSpec.ofChange fnExactIsLooseSpec)

/-- ITS FALSE NEIGHBOUR: 'it returns false'. Refute it at one input. -/
def fnExactIsLooseWrong : ChangeSpec := { name := "fnExactIsLoose", fn := fun _ => fun
  | [d1, d2] => { results := [.lit (.bool false)], args := [d1, d2] }
  | _ => none }
def FnExactIsLooseWrongFalsely : Prop := fnExactIsLooseRow.holds Try.pinned (OpenSpec.ofChange fnExactIsLooseWrong)

/-- 'laws.FnExactThickestOf': WHATEVER THE INPUT: true; the input reads as it did. -/
def fnExactThickestOfSpec : ChangeSpec := { name := "fnExactThickestOf", fn := fun _ => fun
  | [d] => { results := [.lit (.bool true)], args := [d] }
  | _ => none }
def fnExactThickestOfRow : OpenClaim := { program := "ytjkicfagphielaa", sum := "3848425d487d0cbc2aba775a87a425b2e67af3fdb4edd17e7feb175a23f2220c", func := "loop.example/g03305/laws.FnExactThickestOf", spec := "fnExactThickestOf", inPlace := ["internal/bytealg.CountString", "internal/bytealg.IndexByteString", "internal/bytealg.IndexString"], named := ["internal/bytealg.MaxLen"], apart := false }
def FnExactThickestOfSaid : Prop := fnExactThickestOfRow.holds Try.pinned (OpenSpec.ofChange fnExactThickestOfSpec)

/-- ITS FALSE NEIGHBOUR: 'it returns false'. Refute it at one input. -/
def fnExactThickestOfWrong : ChangeSpec := { name := "fnExactThickestOf", fn := fun _ => fun
  | [d] => { results := [.lit (.bool false)], args := [d] }
  | _ => none }
def FnExactThickestOfWrongFalsely : Prop := fnExactThickestOfRow.holds Try.pinned (OpenSpec.ofChange fnExactThickestOfWrong)

/-- 'laws.FnExactFreePart': WHATEVER THE INPUT: true; the input reads as it did. -/
def fnExactFreePartSpec : ChangeSpec := { name := "fnExactFreePart", fn := fun _ => fun
  | [d] => { results := [.lit (.bool true)], args := [d] }
  | _ => none }
def fnExactFreePartRow : OpenClaim := { program := "ytjkicfagphielaa", sum := "3848425d487d0cbc2aba775a87a425b2e67af3fdb4edd17e7feb175a23f2220c", func := "loop.example/g03305/laws.FnExactFreePart", spec := "fnExactFreePart", inPlace := ["internal/bytealg.CountString", "internal/bytealg.IndexByteString", "internal/bytealg.IndexString"], named := ["internal/bytealg.MaxLen"], apart := false }
def FnExactFreePartSaid : Prop := fnExactFreePartRow.holds Try.pinned (OpenSpec.ofChange fnExactFreePartSpec)

/-- ITS FALSE NEIGHBOUR: 'it returns false'. Refute it at one input. -/
def fnExactFreePartWrong : ChangeSpec := { name := "fnExactFreePart", fn := fun _ => fun
  | [d] => { results := [.lit (.bool false)], args := [d] }
  | _ => none }
def FnExactFreePartWrongFalsely : Prop := fnExactFreePartRow.holds Try.pinned (OpenSpec.ofChange fnExactFreePartWrong)

/-- 'laws.FnExactLayersOf': WHATEVER THE INPUT: true; the input reads as it did. -/
def fnExactLayersOfSpec : ChangeSpec := { name := "fnExactLayersOf", fn := fun _ => fun
  | [d] => { results := [.lit (.bool true)], args := [d] }
  | _ => none }
def fnExactLayersOfRow : OpenClaim := { program := "ytjkicfagphielaa", sum := "3848425d487d0cbc2aba775a87a425b2e67af3fdb4edd17e7feb175a23f2220c", func := "loop.example/g03305/laws.FnExactLayersOf", spec := "fnExactLayersOf", inPlace := ["internal/bytealg.CountString", "internal/bytealg.IndexByteString", "internal/bytealg.IndexString"], named := ["internal/bytealg.MaxLen"], apart := false }
def FnExactLayersOfSaid : Prop := fnExactLayersOfRow.holds Try.pinned (OpenSpec.ofChange fnExactLayersOfSpec)

/-- ITS FALSE NEIGHBOUR: 'it returns false'. Refute it at one input. -/
def fnExactLayersOfWrong : ChangeSpec := { name := "fnExactLayersOf", fn := fun _ => fun
  | [d] => { results := [.lit (.bool false)], args := [d] }
  | _ => none }
def FnExactLayersOfWrongFalsely : Prop := fnExactLayersOfRow.holds Try.pinned (OpenSpec.ofChange fnExactLayersOfWrong)

/-- 'laws.FnExactWayUp': WHATEVER THE INPUT: true; the input reads as it did. -/
def fnExactWayUpSpec : ChangeSpec := { name := "fnExactWayUp", fn := fun _ => fun
  | [d1, d2] => { results := [.lit (.bool true)], args := [d1, d2] }
  | _ => none }
def fnExactWayUpRow : OpenClaim := { program := "ytjkicfagphielaa", sum := "3848425d487d0cbc2aba775a87a425b2e67af3fdb4edd17e7feb175a23f2220c", func := "loop.example/g03305/laws.FnExactWayUp", spec := "fnExactWayUp", inPlace := ["internal/bytealg.CountString", "internal/bytealg.IndexByteString", "internal/bytealg.IndexString"], named := ["internal/bytealg.MaxLen"], apart := false }
def FnExactWayUpSaid : Prop := fnExactWayUpRow.holds Try.pinned (OpenSpec.ofChange fnExactWayUpSpec)

/-- ITS FALSE NEIGHBOUR: 'it returns false'. Refute it at one input. -/
def fnExactWayUpWrong : ChangeSpec := { name := "fnExactWayUp", fn := fun _ => fun
  | [d1, d2] => { results := [.lit (.bool false)], args := [d1, d2] }
  | _ => none }
def FnExactWayUpWrongFalsely : Prop := fnExactWayUpRow.holds Try.pinned (OpenSpec.ofChange fnExactWayUpWrong)

/-- 'laws.FnExactRoomBetween': WHATEVER THE INPUT: true; the input reads as it did. -/
def fnExactRoomBetweenSpec : ChangeSpec := { name := "fnExactRoomBetween", fn := fun _ => fun
  | [d1, d2] => { results := [.lit (.bool true)], args := [d1, d2] }
  | _ => none }
def fnExactRoomBetweenRow : OpenClaim := { program := "ytjkicfagphielaa", sum := "3848425d487d0cbc2aba775a87a425b2e67af3fdb4edd17e7feb175a23f2220c", func := "loop.example/g03305/laws.FnExactRoomBetween", spec := "fnExactRoomBetween", inPlace := ["internal/bytealg.CountString", "internal/bytealg.IndexByteString", "internal/bytealg.IndexString"], named := ["internal/bytealg.MaxLen"], apart := false }
def FnExactRoomBetweenSaid : Prop := fnExactRoomBetweenRow.holds Try.pinned (OpenSpec.ofChange fnExactRoomBetweenSpec)

/-- ITS FALSE NEIGHBOUR: 'it returns false'. Refute it at one input. -/
def fnExactRoomBetweenWrong : ChangeSpec := { name := "fnExactRoomBetween", fn := fun _ => fun
  | [d1, d2] => { results := [.lit (.bool false)], args := [d1, d2] }
  | _ => none }
def FnExactRoomBetweenWrongFalsely : Prop := fnExactRoomBetweenRow.holds Try.pinned (OpenSpec.ofChange fnExactRoomBetweenWrong)

/-- 'laws.FnExactCountWays': WHATEVER THE INPUT: true; the input reads as it did. -/
def fnExactCountWaysSpec : ChangeSpec := { name := "fnExactCountWays", fn := fun _ => fun
  | [d1, d2] => { results := [.lit (.bool true)], args := [d1, d2] }
  | _ => none }
def fnExactCountWaysRow : OpenClaim := { program := "ytjkicfagphielaa", sum := "3848425d487d0cbc2aba775a87a425b2e67af3fdb4edd17e7feb175a23f2220c", func := "loop.example/g03305/laws.FnExactCountWays", spec := "fnExactCountWays", inPlace := ["internal/bytealg.CountString", "internal/bytealg.IndexByteString", "internal/bytealg.IndexString"], recurses := true, named := ["internal/bytealg.MaxLen"], apart := false }
def FnExactCountWaysSaid : Prop := fnExactCountWaysRow.holds Try.pinned (OpenSpec.ofChange fnExactCountWaysSpec)

/-- ITS FALSE NEIGHBOUR: 'it returns false'. Refute it at one input. -/
def fnExactCountWaysWrong : ChangeSpec := { name := "fnExactCountWays", fn := fun _ => fun
  | [d1, d2] => { results := [.lit (.bool false)], args := [d1, d2] }
  | _ => none }
def FnExactCountWaysWrongFalsely : Prop := fnExactCountWaysRow.holds Try.pinned (OpenSpec.ofChange fnExactCountWaysWrong)

/-- 'laws.FnOrder': WHATEVER THE INPUT: true; the input reads as it did. -/
def fnOrderSpec : ChangeSpec := { name := "fnOrder", fn := fun _ => fun
  | [d] => { results := [.lit (.bool true)], args := [d] }
  | _ => none }
def fnOrderRow : OpenClaim := { program := "ytjkicfagphielaa", sum := "3848425d487d0cbc2aba775a87a425b2e67af3fdb4edd17e7feb175a23f2220c", func := "loop.example/g03305/laws.FnOrder", spec := "fnOrder", inPlace := ["internal/bytealg.CountString", "internal/bytealg.IndexByteString", "internal/bytealg.IndexString"], unfollowed := true, recurses := true, named := ["internal/bytealg.MaxLen"], apart := false }
def FnOrderSaid : Prop := fnOrderRow.holds Try.pinned (OpenSpec.ofChange fnOrderSpec)

/-- ITS FALSE NEIGHBOUR: 'it returns false'. Refute it at one input. -/
def fnOrderWrong : ChangeSpec := { name := "fnOrder", fn := fun _ => fun
  | [d] => { results := [.lit (.bool false)], args := [d] }
  | _ => none }
def FnOrderWrongFalsely : Prop := fnOrderRow.holds Try.pinned (OpenSpec.ofChange fnOrderWrong)

/-- 'laws.FnBridges': WHATEVER THE INPUT: true; the input reads as it did. -/
def fnBridgesSpec : ChangeSpec := { name := "fnBridges", fn := fun _ => fun
  | [d] => { results := [.lit (.bool true)], args := [d] }
  | _ => none }
def fnBridgesRow : OpenClaim := { program := "ytjkicfagphielaa", sum := "3848425d487d0cbc2aba775a87a425b2e67af3fdb4edd17e7feb175a23f2220c", func := "loop.example/g03305/laws.FnBridges", spec := "fnBridges", inPlace := ["internal/bytealg.CountString", "internal/bytealg.IndexByteString", "internal/bytealg.IndexString"], named := ["internal/bytealg.MaxLen"], apart := false }
def FnBridgesSaid : Prop := fnBridgesRow.holds Try.pinned (OpenSpec.ofChange fnBridgesSpec)

/-- ITS FALSE NEIGHBOUR: 'it returns false'. Refute it at one input. -/
def fnBridgesWrong : ChangeSpec := { name := "fnBridges", fn := fun _ => fun
  | [d] => { results := [.lit (.bool false)], args := [d] }
  | _ => none }
def FnBridgesWrongFalsely : Prop := fnBridgesRow.holds Try.pinned (OpenSpec.ofChange fnBridgesWrong)

/-- 'laws.FnFlips': WHATEVER THE INPUT: true; the input reads as it did. -/
def fnFlipsSpec : ChangeSpec := { name := "fnFlips", fn := fun _ => fun
  | [d] => { results := [.lit (.bool true)], args := [d] }
  | _ => none }
def fnFlipsRow : OpenClaim := { program := "ytjkicfagphielaa", sum := "3848425d487d0cbc2aba775a87a425b2e67af3fdb4edd17e7feb175a23f2220c", func := "loop.example/g03305/laws.FnFlips", spec := "fnFlips", inPlace := ["internal/bytealg.CountString", "internal/bytealg.IndexByteString", "internal/bytealg.IndexString"], recurses := true, named := ["internal/bytealg.MaxLen"], apart := false }
def FnFlipsSaid : Prop := fnFlipsRow.holds Try.pinned (OpenSpec.ofChange fnFlipsSpec)

/-- ITS FALSE NEIGHBOUR: 'it returns false'. Refute it at one input. -/
def fnFlipsWrong : ChangeSpec := { name := "fnFlips", fn := fun _ => fun
  | [d] => { results := [.lit (.bool false)], args := [d] }
  | _ => none }
def FnFlipsWrongFalsely : Prop := fnFlipsRow.holds Try.pinned (OpenSpec.ofChange fnFlipsWrong)

/-- 'laws.FnCuts': WHATEVER THE INPUT: true; the input reads as it did. -/
def fnCutsSpec : ChangeSpec := { name := "fnCuts", fn := fun _ => fun
  | [d] => { results := [.lit (.bool true)], args := [d] }
  | _ => none }
def fnCutsRow : OpenClaim := { program := "ytjkicfagphielaa", sum := "3848425d487d0cbc2aba775a87a425b2e67af3fdb4edd17e7feb175a23f2220c", func := "loop.example/g03305/laws.FnCuts", spec := "fnCuts", inPlace := ["internal/bytealg.CountString", "internal/bytealg.IndexByteString", "internal/bytealg.IndexString"], named := ["internal/bytealg.MaxLen"], apart := false }
def FnCutsSaid : Prop := fnCutsRow.holds Try.pinned (OpenSpec.ofChange fnCutsSpec)

/-- ITS FALSE NEIGHBOUR: 'it returns false'. Refute it at one input. -/
def fnCutsWrong : ChangeSpec := { name := "fnCuts", fn := fun _ => fun
  | [d] => { results := [.lit (.bool false)], args := [d] }
  | _ => none }
def FnCutsWrongFalsely : Prop := fnCutsRow.holds Try.pinned (OpenSpec.ofChange fnCutsWrong)

/- THE SECOND FORM. 'bulk': how many values and letters a reading holds, each counted each time it is reached (what is shared counts as often as it is met; a slice's spare places count too). A statement '..UptoSaid' is the law's where the arguments, and the package variables that the reading takes, are together of bulk at most 1048576: NARROWER than '..Said'. Prove '..Said' where nothing that the law and all that it calls make is longer than what came in: it says more and counts as full. Else prove '..UptoSaid'. A law counts once. -/
mutual
def uptoBulk {H : Type} : DataW H → Nat
  | .lit (.string bytes) => bytes.length + 1
  | .lit _ => 1
  | .nil => 1
  | .ptr d => uptoBulk d + 1
  | .slice elems spare => uptoBulkAll elems + uptoBulkAll spare + 1
  | .agg parts => uptoBulkAll parts + 1
  | .iface _ d => uptoBulk d + 1
  | .map entries => uptoBulkEntries entries + 1
  | .held _ => 1
def uptoBulkAll {H : Type} : List (DataW H) → Nat
  | [] => 0
  | d :: r => uptoBulk d + uptoBulkAll r
def uptoBulkEntries {H : Type} : List (Lit × DataW H) → Nat
  | [] => 0
  | x :: r => uptoBulkEntry x + uptoBulkEntries r
def uptoBulkEntry {H : Type} : Lit × DataW H → Nat
  | (.string bytes, d) => bytes.length + uptoBulk d + 1
  | (_, d) => uptoBulk d + 1
 end
def uptoSmall : (H : Type) → List (DataW H) → Bool := fun _ ds => decide (uptoBulkAll ds ≤ 1048576)
def OpenSpec.upto (s : _root_.Go.ChangeSpec) : _root_.Go.OpenSpec := { _root_.Go.OpenSpec.ofChange s with cond := some uptoSmall }

/-- 'laws.FnExactCanRaise', WHERE WHAT IT READS IS OF BULK AT MOST 1048576: true; the input reads as it did. -/
def fnExactCanRaiseUptoRow : OpenClaim := { program := "ytjkicfagphielaa", sum := "3848425d487d0cbc2aba775a87a425b2e67af3fdb4edd17e7feb175a23f2220c", func := "loop.example/g03305/laws.FnExactCanRaise", spec := "fnExactCanRaise", inPlace := ["internal/bytealg.CountString", "internal/bytealg.IndexByteString", "internal/bytealg.IndexString"], named := ["internal/bytealg.MaxLen"], apart := false, narrowed := true }
def FnExactCanRaiseUptoSaid : Prop := fnExactCanRaiseUptoRow.holds Try.pinned (OpenSpec.upto fnExactCanRaiseSpec)

/-- 'laws.FnExactLowerAt', WHERE WHAT IT READS IS OF BULK AT MOST 1048576: true; the input reads as it did. -/
def fnExactLowerAtUptoRow : OpenClaim := { program := "ytjkicfagphielaa", sum := "3848425d487d0cbc2aba775a87a425b2e67af3fdb4edd17e7feb175a23f2220c", func := "loop.example/g03305/laws.FnExactLowerAt", spec := "fnExactLowerAt", inPlace := ["internal/bytealg.CountString", "internal/bytealg.IndexByteString", "internal/bytealg.IndexString"], named := ["internal/bytealg.MaxLen"], apart := false, narrowed := true }
def FnExactLowerAtUptoSaid : Prop := fnExactLowerAtUptoRow.holds Try.pinned (OpenSpec.upto fnExactLowerAtSpec)

/-- 'laws.FnExactRaiseAt', WHERE WHAT IT READS IS OF BULK AT MOST 1048576: true; the input reads as it did. -/
def fnExactRaiseAtUptoRow : OpenClaim := { program := "ytjkicfagphielaa", sum := "3848425d487d0cbc2aba775a87a425b2e67af3fdb4edd17e7feb175a23f2220c", func := "loop.example/g03305/laws.FnExactRaiseAt", spec := "fnExactRaiseAt", inPlace := ["internal/bytealg.CountString", "internal/bytealg.IndexByteString", "internal/bytealg.IndexString"], named := ["internal/bytealg.MaxLen"], apart := false, narrowed := true }
def FnExactRaiseAtUptoSaid : Prop := fnExactRaiseAtUptoRow.holds Try.pinned (OpenSpec.upto fnExactRaiseAtSpec)

/-- 'laws.FnExactTurnStrip', WHERE WHAT IT READS IS OF BULK AT MOST 1048576: true; the input reads as it did. -/
def fnExactTurnStripUptoRow : OpenClaim := { program := "ytjkicfagphielaa", sum := "3848425d487d0cbc2aba775a87a425b2e67af3fdb4edd17e7feb175a23f2220c", func := "loop.example/g03305/laws.FnExactTurnStrip", spec := "fnExactTurnStrip", inPlace := ["internal/bytealg.CountString", "internal/bytealg.IndexByteString", "internal/bytealg.IndexString"], named := ["internal/bytealg.MaxLen"], apart := false, narrowed := true }
def FnExactTurnStripUptoSaid : Prop := fnExactTurnStripUptoRow.holds Try.pinned (OpenSpec.upto fnExactTurnStripSpec)

/-- 'laws.FnExactIsBalanced', WHERE WHAT IT READS IS OF BULK AT MOST 1048576: true; the input reads as it did. -/
def fnExactIsBalancedUptoRow : OpenClaim := { program := "ytjkicfagphielaa", sum := "3848425d487d0cbc2aba775a87a425b2e67af3fdb4edd17e7feb175a23f2220c", func := "loop.example/g03305/laws.FnExactIsBalanced", spec := "fnExactIsBalanced", inPlace := ["internal/bytealg.CountString", "internal/bytealg.IndexByteString", "internal/bytealg.IndexString"], named := ["internal/bytealg.MaxLen"], apart := false, narrowed := true }
def FnExactIsBalancedUptoSaid : Prop := fnExactIsBalancedUptoRow.holds Try.pinned (OpenSpec.upto fnExactIsBalancedSpec)

/-- 'laws.FnExactDepthsOf', WHERE WHAT IT READS IS OF BULK AT MOST 1048576: true; the input reads as it did. -/
def fnExactDepthsOfUptoRow : OpenClaim := { program := "ytjkicfagphielaa", sum := "3848425d487d0cbc2aba775a87a425b2e67af3fdb4edd17e7feb175a23f2220c", func := "loop.example/g03305/laws.FnExactDepthsOf", spec := "fnExactDepthsOf", inPlace := ["internal/bytealg.CountString", "internal/bytealg.IndexByteString", "internal/bytealg.IndexString"], named := ["internal/bytealg.MaxLen"], apart := false, narrowed := true }
def FnExactDepthsOfUptoSaid : Prop := fnExactDepthsOfUptoRow.holds Try.pinned (OpenSpec.upto fnExactDepthsOfSpec)

/-- 'laws.FnExactFromHeights', WHERE WHAT IT READS IS OF BULK AT MOST 1048576: true; the input reads as it did. -/
def fnExactFromHeightsUptoRow : OpenClaim := { program := "ytjkicfagphielaa", sum := "3848425d487d0cbc2aba775a87a425b2e67af3fdb4edd17e7feb175a23f2220c", func := "loop.example/g03305/laws.FnExactFromHeights", spec := "fnExactFromHeights", inPlace := ["internal/abi.NoEscape", "internal/bytealg.MakeNoZero"], apart := false, narrowed := true }
def FnExactFromHeightsUptoSaid : Prop := fnExactFromHeightsUptoRow.holds Try.pinned (OpenSpec.upto fnExactFromHeightsSpec)

/-- 'laws.FnExactRoomUnder', WHERE WHAT IT READS IS OF BULK AT MOST 1048576: true; the input reads as it did. -/
def fnExactRoomUnderUptoRow : OpenClaim := { program := "ytjkicfagphielaa", sum := "3848425d487d0cbc2aba775a87a425b2e67af3fdb4edd17e7feb175a23f2220c", func := "loop.example/g03305/laws.FnExactRoomUnder", spec := "fnExactRoomUnder", inPlace := ["internal/bytealg.CountString", "internal/bytealg.IndexByteString", "internal/bytealg.IndexString"], named := ["internal/bytealg.MaxLen"], apart := false, narrowed := true }
def FnExactRoomUnderUptoSaid : Prop := fnExactRoomUnderUptoRow.holds Try.pinned (OpenSpec.upto fnExactRoomUnderSpec)

/-- 'laws.FnExactRaisesOf', WHERE WHAT IT READS IS OF BULK AT MOST 1048576: true; the input reads as it did. -/
def fnExactRaisesOfUptoRow : OpenClaim := { program := "ytjkicfagphielaa", sum := "3848425d487d0cbc2aba775a87a425b2e67af3fdb4edd17e7feb175a23f2220c", func := "loop.example/g03305/laws.FnExactRaisesOf", spec := "fnExactRaisesOf", inPlace := ["internal/bytealg.CountString", "internal/bytealg.IndexByteString", "internal/bytealg.IndexString"], named := ["internal/bytealg.MaxLen"], apart := false, narrowed := true }
def FnExactRaisesOfUptoSaid : Prop := fnExactRaisesOfUptoRow.holds Try.pinned (OpenSpec.upto fnExactRaisesOfSpec)

/-- 'laws.FnExactBridgeCount', WHERE WHAT IT READS IS OF BULK AT MOST 1048576: true; the input reads as it did. -/
def fnExactBridgeCountUptoRow : OpenClaim := { program := "ytjkicfagphielaa", sum := "3848425d487d0cbc2aba775a87a425b2e67af3fdb4edd17e7feb175a23f2220c", func := "loop.example/g03305/laws.FnExactBridgeCount", spec := "fnExactBridgeCount", inPlace := ["internal/bytealg.CountString", "internal/bytealg.IndexByteString", "internal/bytealg.IndexString"], named := ["internal/bytealg.MaxLen"], apart := false, narrowed := true }
def FnExactBridgeCountUptoSaid : Prop := fnExactBridgeCountUptoRow.holds Try.pinned (OpenSpec.upto fnExactBridgeCountSpec)

/-- 'laws.FnExactBridgeOk', WHERE WHAT IT READS IS OF BULK AT MOST 1048576: true; the input reads as it did. -/
def fnExactBridgeOkUptoRow : OpenClaim := { program := "ytjkicfagphielaa", sum := "3848425d487d0cbc2aba775a87a425b2e67af3fdb4edd17e7feb175a23f2220c", func := "loop.example/g03305/laws.FnExactBridgeOk", spec := "fnExactBridgeOk", inPlace := ["internal/bytealg.CountString", "internal/bytealg.IndexByteString", "internal/bytealg.IndexString"], named := ["internal/bytealg.MaxLen"], apart := false, narrowed := true }
def FnExactBridgeOkUptoSaid : Prop := fnExactBridgeOkUptoRow.holds Try.pinned (OpenSpec.upto fnExactBridgeOkSpec)

/-- 'laws.FnExactHeightsOf', WHERE WHAT IT READS IS OF BULK AT MOST 1048576: true; the input reads as it did. -/
def fnExactHeightsOfUptoRow : OpenClaim := { program := "ytjkicfagphielaa", sum := "3848425d487d0cbc2aba775a87a425b2e67af3fdb4edd17e7feb175a23f2220c", func := "loop.example/g03305/laws.FnExactHeightsOf", spec := "fnExactHeightsOf", inPlace := ["internal/bytealg.CountString", "internal/bytealg.IndexByteString", "internal/bytealg.IndexString"], named := ["internal/bytealg.MaxLen"], apart := false, narrowed := true }
def FnExactHeightsOfUptoSaid : Prop := fnExactHeightsOfUptoRow.holds Try.pinned (OpenSpec.upto fnExactHeightsOfSpec)

/-- 'laws.FnExactBridgedStrip', WHERE WHAT IT READS IS OF BULK AT MOST 1048576: true; the input reads as it did. -/
def fnExactBridgedStripUptoRow : OpenClaim := { program := "ytjkicfagphielaa", sum := "3848425d487d0cbc2aba775a87a425b2e67af3fdb4edd17e7feb175a23f2220c", func := "loop.example/g03305/laws.FnExactBridgedStrip", spec := "fnExactBridgedStrip", inPlace := ["internal/bytealg.CountString", "internal/bytealg.IndexByteString", "internal/bytealg.IndexString"], named := ["internal/bytealg.MaxLen"], apart := false, narrowed := true }
def FnExactBridgedStripUptoSaid : Prop := fnExactBridgedStripUptoRow.holds Try.pinned (OpenSpec.upto fnExactBridgedStripSpec)

/-- 'laws.FnExactAreaBetween', WHERE WHAT IT READS IS OF BULK AT MOST 1048576: true; the input reads as it did. -/
def fnExactAreaBetweenUptoRow : OpenClaim := { program := "ytjkicfagphielaa", sum := "3848425d487d0cbc2aba775a87a425b2e67af3fdb4edd17e7feb175a23f2220c", func := "loop.example/g03305/laws.FnExactAreaBetween", spec := "fnExactAreaBetween", inPlace := ["internal/bytealg.CountString", "internal/bytealg.IndexByteString", "internal/bytealg.IndexString"], named := ["internal/bytealg.MaxLen"], apart := false, narrowed := true }
def FnExactAreaBetweenUptoSaid : Prop := fnExactAreaBetweenUptoRow.holds Try.pinned (OpenSpec.upto fnExactAreaBetweenSpec)

/-- 'laws.FnExactCountAbove', WHERE WHAT IT READS IS OF BULK AT MOST 1048576: true; the input reads as it did. -/
def fnExactCountAboveUptoRow : OpenClaim := { program := "ytjkicfagphielaa", sum := "3848425d487d0cbc2aba775a87a425b2e67af3fdb4edd17e7feb175a23f2220c", func := "loop.example/g03305/laws.FnExactCountAbove", spec := "fnExactCountAbove", inPlace := ["internal/bytealg.CountString", "internal/bytealg.IndexByteString", "internal/bytealg.IndexString"], named := ["internal/bytealg.MaxLen"], apart := false, narrowed := true }
def FnExactCountAboveUptoSaid : Prop := fnExactCountAboveUptoRow.holds Try.pinned (OpenSpec.upto fnExactCountAboveSpec)

/-- 'laws.FnExactIsLoose', WHERE WHAT IT READS IS OF BULK AT MOST 1048576: true; the input reads as it did. -/
def fnExactIsLooseUptoRow : OpenClaim := { program := "ytjkicfagphielaa", sum := "3848425d487d0cbc2aba775a87a425b2e67af3fdb4edd17e7feb175a23f2220c", func := "loop.example/g03305/laws.FnExactIsLoose", spec := "fnExactIsLoose", inPlace := ["internal/bytealg.CountString", "internal/bytealg.IndexByteString", "internal/bytealg.IndexString"], named := ["internal/bytealg.MaxLen"], apart := false, narrowed := true }
def FnExactIsLooseUptoSaid : Prop := fnExactIsLooseUptoRow.holds Try.pinned (OpenSpec.upto fnExactIsLooseSpec)

/-- 'laws.FnExactThickestOf', WHERE WHAT IT READS IS OF BULK AT MOST 1048576: true; the input reads as it did. -/
def fnExactThickestOfUptoRow : OpenClaim := { program := "ytjkicfagphielaa", sum := "3848425d487d0cbc2aba775a87a425b2e67af3fdb4edd17e7feb175a23f2220c", func := "loop.example/g03305/laws.FnExactThickestOf", spec := "fnExactThickestOf", inPlace := ["internal/bytealg.CountString", "internal/bytealg.IndexByteString", "internal/bytealg.IndexString"], named := ["internal/bytealg.MaxLen"], apart := false, narrowed := true }
def FnExactThickestOfUptoSaid : Prop := fnExactThickestOfUptoRow.holds Try.pinned (OpenSpec.upto fnExactThickestOfSpec)

/-- 'laws.FnExactFreePart', WHERE WHAT IT READS IS OF BULK AT MOST 1048576: true; the input reads as it did. -/
def fnExactFreePartUptoRow : OpenClaim := { program := "ytjkicfagphielaa", sum := "3848425d487d0cbc2aba775a87a425b2e67af3fdb4edd17e7feb175a23f2220c", func := "loop.example/g03305/laws.FnExactFreePart", spec := "fnExactFreePart", inPlace := ["internal/bytealg.CountString", "internal/bytealg.IndexByteString", "internal/bytealg.IndexString"], named := ["internal/bytealg.MaxLen"], apart := false, narrowed := true }
def FnExactFreePartUptoSaid : Prop := fnExactFreePartUptoRow.holds Try.pinned (OpenSpec.upto fnExactFreePartSpec)

/-- 'laws.FnExactLayersOf', WHERE WHAT IT READS IS OF BULK AT MOST 1048576: true; the input reads as it did. -/
def fnExactLayersOfUptoRow : OpenClaim := { program := "ytjkicfagphielaa", sum := "3848425d487d0cbc2aba775a87a425b2e67af3fdb4edd17e7feb175a23f2220c", func := "loop.example/g03305/laws.FnExactLayersOf", spec := "fnExactLayersOf", inPlace := ["internal/bytealg.CountString", "internal/bytealg.IndexByteString", "internal/bytealg.IndexString"], named := ["internal/bytealg.MaxLen"], apart := false, narrowed := true }
def FnExactLayersOfUptoSaid : Prop := fnExactLayersOfUptoRow.holds Try.pinned (OpenSpec.upto fnExactLayersOfSpec)

/-- 'laws.FnExactWayUp', WHERE WHAT IT READS IS OF BULK AT MOST 1048576: true; the input reads as it did. -/
def fnExactWayUpUptoRow : OpenClaim := { program := "ytjkicfagphielaa", sum := "3848425d487d0cbc2aba775a87a425b2e67af3fdb4edd17e7feb175a23f2220c", func := "loop.example/g03305/laws.FnExactWayUp", spec := "fnExactWayUp", inPlace := ["internal/bytealg.CountString", "internal/bytealg.IndexByteString", "internal/bytealg.IndexString"], named := ["internal/bytealg.MaxLen"], apart := false, narrowed := true }
def FnExactWayUpUptoSaid : Prop := fnExactWayUpUptoRow.holds Try.pinned (OpenSpec.upto fnExactWayUpSpec)

/-- 'laws.FnExactRoomBetween', WHERE WHAT IT READS IS OF BULK AT MOST 1048576: true; the input reads as it did. -/
def fnExactRoomBetweenUptoRow : OpenClaim := { program := "ytjkicfagphielaa", sum := "3848425d487d0cbc2aba775a87a425b2e67af3fdb4edd17e7feb175a23f2220c", func := "loop.example/g03305/laws.FnExactRoomBetween", spec := "fnExactRoomBetween", inPlace := ["internal/bytealg.CountString", "internal/bytealg.IndexByteString", "internal/bytealg.IndexString"], named := ["internal/bytealg.MaxLen"], apart := false, narrowed := true }
def FnExactRoomBetweenUptoSaid : Prop := fnExactRoomBetweenUptoRow.holds Try.pinned (OpenSpec.upto fnExactRoomBetweenSpec)

/-- 'laws.FnExactCountWays', WHERE WHAT IT READS IS OF BULK AT MOST 1048576: true; the input reads as it did. -/
def fnExactCountWaysUptoRow : OpenClaim := { program := "ytjkicfagphielaa", sum := "3848425d487d0cbc2aba775a87a425b2e67af3fdb4edd17e7feb175a23f2220c", func := "loop.example/g03305/laws.FnExactCountWays", spec := "fnExactCountWays", inPlace := ["internal/bytealg.CountString", "internal/bytealg.IndexByteString", "internal/bytealg.IndexString"], recurses := true, named := ["internal/bytealg.MaxLen"], apart := false, narrowed := true }
def FnExactCountWaysUptoSaid : Prop := fnExactCountWaysUptoRow.holds Try.pinned (OpenSpec.upto fnExactCountWaysSpec)

/-- 'laws.FnOrder', WHERE WHAT IT READS IS OF BULK AT MOST 1048576: true; the input reads as it did. -/
def fnOrderUptoRow : OpenClaim := { program := "ytjkicfagphielaa", sum := "3848425d487d0cbc2aba775a87a425b2e67af3fdb4edd17e7feb175a23f2220c", func := "loop.example/g03305/laws.FnOrder", spec := "fnOrder", inPlace := ["internal/bytealg.CountString", "internal/bytealg.IndexByteString", "internal/bytealg.IndexString"], unfollowed := true, recurses := true, named := ["internal/bytealg.MaxLen"], apart := false, narrowed := true }
def FnOrderUptoSaid : Prop := fnOrderUptoRow.holds Try.pinned (OpenSpec.upto fnOrderSpec)

/-- 'laws.FnBridges', WHERE WHAT IT READS IS OF BULK AT MOST 1048576: true; the input reads as it did. -/
def fnBridgesUptoRow : OpenClaim := { program := "ytjkicfagphielaa", sum := "3848425d487d0cbc2aba775a87a425b2e67af3fdb4edd17e7feb175a23f2220c", func := "loop.example/g03305/laws.FnBridges", spec := "fnBridges", inPlace := ["internal/bytealg.CountString", "internal/bytealg.IndexByteString", "internal/bytealg.IndexString"], named := ["internal/bytealg.MaxLen"], apart := false, narrowed := true }
def FnBridgesUptoSaid : Prop := fnBridgesUptoRow.holds Try.pinned (OpenSpec.upto fnBridgesSpec)

/-- 'laws.FnFlips', WHERE WHAT IT READS IS OF BULK AT MOST 1048576: true; the input reads as it did. -/
def fnFlipsUptoRow : OpenClaim := { program := "ytjkicfagphielaa", sum := "3848425d487d0cbc2aba775a87a425b2e67af3fdb4edd17e7feb175a23f2220c", func := "loop.example/g03305/laws.FnFlips", spec := "fnFlips", inPlace := ["internal/bytealg.CountString", "internal/bytealg.IndexByteString", "internal/bytealg.IndexString"], recurses := true, named := ["internal/bytealg.MaxLen"], apart := false, narrowed := true }
def FnFlipsUptoSaid : Prop := fnFlipsUptoRow.holds Try.pinned (OpenSpec.upto fnFlipsSpec)

/-- 'laws.FnCuts', WHERE WHAT IT READS IS OF BULK AT MOST 1048576: true; the input reads as it did. -/
def fnCutsUptoRow : OpenClaim := { program := "ytjkicfagphielaa", sum := "3848425d487d0cbc2aba775a87a425b2e67af3fdb4edd17e7feb175a23f2220c", func := "loop.example/g03305/laws.FnCuts", spec := "fnCuts", inPlace := ["internal/bytealg.CountString", "internal/bytealg.IndexByteString", "internal/bytealg.IndexString"], named := ["internal/bytealg.MaxLen"], apart := false, narrowed := true }
def FnCutsUptoSaid : Prop := fnCutsUptoRow.holds Try.pinned (OpenSpec.upto fnCutsSpec)

end Rows
end Go.Proofs.Ytjkicfagphielaa
