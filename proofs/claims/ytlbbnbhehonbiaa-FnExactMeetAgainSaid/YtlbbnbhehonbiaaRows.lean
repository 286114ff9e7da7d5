/-
  No cell of these rows narrows 'for every input' (looked for: loops, veiled, ifaces, maps, wideKeys, modest, calm, conditions, laid).
  DERIVED. THE GIVEN ROWS OF THIS SEAT. 12 by the template 'for every input the law returns true; each argument reads behind the call as it read before'; 0 by the template 'total and deterministic' (their statements: YtlbbnbhehonbiaaTotals.lean).
  GIVEN WITH THE SEED: the statements are not yours to turn. If you find one false, say at which input.
  Laid BY PROGRAM, IN A SANDBOX (cutbox-rows.mjs): the forced cells as the released guide's own fill.sh prints them over the translation 01a4e2b8c2aa3293… (all of the seat's roots in one cut). By AI agents, Wed Nov 11 2026. No macro, syntax, notation, axiom, sorry.
-/
import Derived.Test.YtlbbnbhehonbiaaChecked
import GoSem.Claim
import GoSem.ClaimJoined
import GoSem.ClaimMapViews
import Derived.JoinedTies
import Derived.KernelRfl
namespace Go.Proofs.Ytlbbnbhehonbiaa
/- THE CELL 'sum', in the pinned program and in every row, IS THE sha256 OF THE DUMP (.gsa) THAT YtlbbnbhehonbiaaProg.lean LOADS. Nothing in Lean hashes anything: it is a label: what it is worth is what the hold of that sum in a sandbox is worth. -/
noncomputable def Try.pinned : Pinned := { name := "ytlbbnbhehonbiaa", sum := "01a4e2b8c2aa3293806b1fa80b84cad4c44206ead0e1323016238234ec48573f", checked := Try.checked }
namespace Rows
def none {H : Type} : Left H := { results := [], args := [] }

/-- 'laws.FnExactCountBalanced': WHATEVER THE INPUT: true; the input reads as it did. -/
def fnExactCountBalancedSpec : ChangeSpec := { name := "fnExactCountBalanced", fn := fun _ => fun
  | [d] => { results := [.lit (.bool true)], args := [d] }
  | _ => none }
def fnExactCountBalancedRow : OpenClaim := { program := "ytlbbnbhehonbiaa", sum := "01a4e2b8c2aa3293806b1fa80b84cad4c44206ead0e1323016238234ec48573f", func := "loop.example/g03305/laws.FnExactCountBalanced", spec := "fnExactCountBalanced", apart := false }
def FnExactCountBalancedSaid : Prop := fnExactCountBalancedRow.holds Try.pinned (OpenSpec.ofChange fnExactCountBalancedSpec)

/-- ITS FALSE NEIGHBOUR: 'it returns false'. Refute it at one input. -/
def fnExactCountBalancedWrong : ChangeSpec := { name := "fnExactCountBalanced", fn := fun _ => fun
  | [d] => { results := [.lit (.bool false)], args := [d] }
  | _ => none }
def FnExactCountBalancedWrongFalsely : Prop := fnExactCountBalancedRow.holds Try.pinned (OpenSpec.ofChange fnExactCountBalancedWrong)

/-- 'laws.FnExactSliderOk': WHATEVER THE INPUT: true; the input reads as it did. -/
def fnExactSliderOkSpec : ChangeSpec := { name := "fnExactSliderOk", fn := fun _ => fun
  | [d] => { results := [.lit (.bool true)], args := [d] }
  | _ => none }
def fnExactSliderOkRow : OpenClaim := { program := "ytlbbnbhehonbiaa", sum := "01a4e2b8c2aa3293806b1fa80b84cad4c44206ead0e1323016238234ec48573f", func := "loop.example/g03305/laws.FnExactSliderOk", spec := "fnExactSliderOk", apart := false }
def FnExactSliderOkSaid : Prop := fnExactSliderOkRow.holds Try.pinned (OpenSpec.ofChange fnExactSliderOkSpec)

/-- ITS FALSE NEIGHBOUR: 'it returns false'. Refute it at one input. -/
def fnExactSliderOkWrong : ChangeSpec := { name := "fnExactSliderOk", fn := fun _ => fun
  | [d] => { results := [.lit (.bool false)], args := [d] }
  | _ => none }
def FnExactSliderOkWrongFalsely : Prop := fnExactSliderOkRow.holds Try.pinned (OpenSpec.ofChange fnExactSliderOkWrong)

/-- 'laws.FnExactPullSlider': WHATEVER THE INPUT: true; the input reads as it did. -/
def fnExactPullSliderSpec : ChangeSpec := { name := "fnExactPullSlider", fn := fun _ => fun
  | [d1, d2] => { results := [.lit (.bool true)], args := [d1, d2] }
  | _ => none }
def fnExactPullSliderRow : OpenClaim := { program := "ytlbbnbhehonbiaa", sum := "01a4e2b8c2aa3293806b1fa80b84cad4c44206ead0e1323016238234ec48573f", func := "loop.example/g03305/laws.FnExactPullSlider", spec := "fnExactPullSlider", apart := false }
def FnExactPullSliderSaid : Prop := fnExactPullSliderRow.holds Try.pinned (OpenSpec.ofChange fnExactPullSliderSpec)

/-- ITS FALSE NEIGHBOUR: 'it returns false'. Refute it at one input. -/
def fnExactPullSliderWrong : ChangeSpec := { name := "fnExactPullSlider", fn := fun _ => fun
  | [d1, d2] => { results := [.lit (.bool false)], args := [d1, d2] }
  | _ => none }
def FnExactPullSliderWrongFalsely : Prop := fnExactPullSliderRow.holds Try.pinned (OpenSpec.ofChange fnExactPullSliderWrong)

/-- 'laws.FnExactIsSpent': WHATEVER THE INPUT: true; the input reads as it did. -/
def fnExactIsSpentSpec : ChangeSpec := { name := "fnExactIsSpent", fn := fun _ => fun
  | [d] => { results := [.lit (.bool true)], args := [d] }
  | _ => none }
def fnExactIsSpentRow : OpenClaim := { program := "ytlbbnbhehonbiaa", sum := "01a4e2b8c2aa3293806b1fa80b84cad4c44206ead0e1323016238234ec48573f", func := "loop.example/g03305/laws.FnExactIsSpent", spec := "fnExactIsSpent", apart := false }
def FnExactIsSpentSaid : Prop := fnExactIsSpentRow.holds Try.pinned (OpenSpec.ofChange fnExactIsSpentSpec)

/-- ITS FALSE NEIGHBOUR: 'it returns false'. Refute it at one input. -/
def fnExactIsSpentWrong : ChangeSpec := { name := "fnExactIsSpent", fn := fun _ => fun
  | [d] => { results := [.lit (.bool false)], args := [d] }
  | _ => none }
def FnExactIsSpentWrongFalsely : Prop := fnExactIsSpentRow.holds Try.pinned (OpenSpec.ofChange fnExactIsSpentWrong)

/-- 'laws.FnExactDiscOk': WHATEVER THE INPUT: true; the input reads as it did. -/
def fnExactDiscOkSpec : ChangeSpec := { name := "fnExactDiscOk", fn := fun _ => fun
  | [d] => { results := [.lit (.bool true)], args := [d] }
  | _ => none }
def fnExactDiscOkRow : OpenClaim := { program := "ytlbbnbhehonbiaa", sum := "01a4e2b8c2aa3293806b1fa80b84cad4c44206ead0e1323016238234ec48573f", func := "loop.example/g03305/laws.FnExactDiscOk", spec := "fnExactDiscOk", apart := false }
def FnExactDiscOkSaid : Prop := fnExactDiscOkRow.holds Try.pinned (OpenSpec.ofChange fnExactDiscOkSpec)

/-- ITS FALSE NEIGHBOUR: 'it returns false'. Refute it at one input. -/
def fnExactDiscOkWrong : ChangeSpec := { name := "fnExactDiscOk", fn := fun _ => fun
  | [d] => { results := [.lit (.bool false)], args := [d] }
  | _ => none }
def FnExactDiscOkWrongFalsely : Prop := fnExactDiscOkRow.holds Try.pinned (OpenSpec.ofChange fnExactDiscOkWrong)

/-- 'laws.FnExactRoomTable': WHATEVER THE INPUT: true; the input reads as it did. -/
def fnExactRoomTableSpec : ChangeSpec := { name := "fnExactRoomTable", fn := fun _ => fun
  | [d1, d2] => { results := [.lit (.bool true)], args := [d1, d2] }
  | _ => none }
def fnExactRoomTableRow : OpenClaim := { program := "ytlbbnbhehonbiaa", sum := "01a4e2b8c2aa3293806b1fa80b84cad4c44206ead0e1323016238234ec48573f", func := "loop.example/g03305/laws.FnExactRoomTable", spec := "fnExactRoomTable", recurses := true, apart := false }
def FnExactRoomTableSaid : Prop := fnExactRoomTableRow.holds Try.pinned (OpenSpec.ofChange fnExactRoomTableSpec)

/-- ITS FALSE NEIGHBOUR: 'it returns false'. Refute it at one input. -/
def fnExactRoomTableWrong : ChangeSpec := { name := "fnExactRoomTable", fn := fun _ => fun
  | [d1, d2] => { results := [.lit (.bool false)], args := [d1, d2] }
  | _ => none }
def FnExactRoomTableWrongFalsely : Prop := fnExactRoomTableRow.holds Try.pinned (OpenSpec.ofChange fnExactRoomTableWrong)

/-- 'laws.FnExactShownAt': WHATEVER THE INPUT: true; the input reads as it did. -/
def fnExactShownAtSpec : ChangeSpec := { name := "fnExactShownAt", fn := fun _ => fun
  | [d1, d2] => { results := [.lit (.bool true)], args := [d1, d2] }
  | _ => none }
def fnExactShownAtRow : OpenClaim := { program := "ytlbbnbhehonbiaa", sum := "01a4e2b8c2aa3293806b1fa80b84cad4c44206ead0e1323016238234ec48573f", func := "loop.example/g03305/laws.FnExactShownAt", spec := "fnExactShownAt", apart := false }
def FnExactShownAtSaid : Prop := fnExactShownAtRow.holds Try.pinned (OpenSpec.ofChange fnExactShownAtSpec)

/-- ITS FALSE NEIGHBOUR: 'it returns false'. Refute it at one input. -/
def fnExactShownAtWrong : ChangeSpec := { name := "fnExactShownAt", fn := fun _ => fun
  | [d1, d2] => { results := [.lit (.bool false)], args := [d1, d2] }
  | _ => none }
def FnExactShownAtWrongFalsely : Prop := fnExactShownAtRow.holds Try.pinned (OpenSpec.ofChange fnExactShownAtWrong)

/-- 'laws.FnExactMeetAgain': WHATEVER THE INPUT: true; the input reads as it did. -/
def fnExactMeetAgainSpec : ChangeSpec := { name := "fnExactMeetAgain", fn := fun _ => fun
  | [d1, d2] => { results := [.lit (.bool true)], args := [d1, d2] }
  | _ => none }
def fnExactMeetAgainRow : OpenClaim := { program := "ytlbbnbhehonbiaa", sum := "01a4e2b8c2aa3293806b1fa80b84cad4c44206ead0e1323016238234ec48573f", func := "loop.example/g03305/laws.FnExactMeetAgain", spec := "fnExactMeetAgain", apart := false }
def FnExactMeetAgainSaid : Prop := fnExactMeetAgainRow.holds Try.pinned (OpenSpec.ofChange fnExactMeetAgainSpec)

/-- ITS FALSE NEIGHBOUR: 'it returns false'. Refute it at one input. -/
def fnExactMeetAgainWrong : ChangeSpec := { name := "fnExactMeetAgain", fn := fun _ => fun
  | [d1, d2] => { results := [.lit (.bool false)], args := [d1, d2] }
  | _ => none }
def FnExactMeetAgainWrongFalsely : Prop := fnExactMeetAgainRow.holds Try.pinned (OpenSpec.ofChange fnExactMeetAgainWrong)

/-- 'laws.FnExactTurnsToShow': WHATEVER THE INPUT: true; the input reads as it did. -/
def fnExactTurnsToShowSpec : ChangeSpec := { name := "fnExactTurnsToShow", fn := fun _ => fun
  | [d1, d2, d3] => { results := [.lit (.bool true)], args := [d1, d2, d3] }
  | _ => none }
def fnExactTurnsToShowRow : OpenClaim := { program := "ytlbbnbhehonbiaa", sum := "01a4e2b8c2aa3293806b1fa80b84cad4c44206ead0e1323016238234ec48573f", func := "loop.example/g03305/laws.FnExactTurnsToShow", spec := "fnExactTurnsToShow", apart := false }
def FnExactTurnsToShowSaid : Prop := fnExactTurnsToShowRow.holds Try.pinned (OpenSpec.ofChange fnExactTurnsToShowSpec)

/-- ITS FALSE NEIGHBOUR: 'it returns false'. Refute it at one input. -/
def fnExactTurnsToShowWrong : ChangeSpec := { name := "fnExactTurnsToShow", fn := fun _ => fun
  | [d1, d2, d3] => { results := [.lit (.bool false)], args := [d1, d2, d3] }
  | _ => none }
def FnExactTurnsToShowWrongFalsely : Prop := fnExactTurnsToShowRow.holds Try.pinned (OpenSpec.ofChange fnExactTurnsToShowWrong)

/-- 'laws.FnExactLinksOk': WHATEVER THE INPUT: true; the input reads as it did. -/
def fnExactLinksOkSpec : ChangeSpec := { name := "fnExactLinksOk", fn := fun _ => fun
  | [d1, d2] => { results := [.lit (.bool true)], args := [d1, d2] }
  | _ => none }
def fnExactLinksOkRow : OpenClaim := { program := "ytlbbnbhehonbiaa", sum := "01a4e2b8c2aa3293806b1fa80b84cad4c44206ead0e1323016238234ec48573f", func := "loop.example/g03305/laws.FnExactLinksOk", spec := "fnExactLinksOk", apart := false }
def FnExactLinksOkSaid : Prop := fnExactLinksOkRow.holds Try.pinned (OpenSpec.ofChange fnExactLinksOkSpec)

/-- ITS FALSE NEIGHBOUR: 'it returns false'. Refute it at one input. -/
def fnExactLinksOkWrong : ChangeSpec := { name := "fnExactLinksOk", fn := fun _ => fun
  | [d1, d2] => { results := [.lit (.bool false)], args := [d1, d2] }
  | _ => none }
def FnExactLinksOkWrongFalsely : Prop := fnExactLinksOkRow.holds Try.pinned (OpenSpec.ofChange fnExactLinksOkWrong)

/-- 'laws.FnSliders': WHATEVER THE INPUT: true; the input reads as it did. -/
def fnSlidersSpec : ChangeSpec := { name := "fnSliders", fn := fun _ => fun
  | [d] => { results := [.lit (.bool true)], args := [d] }
  | _ => none }
def fnSlidersRow : OpenClaim := { program := "ytlbbnbhehonbiaa", sum := "01a4e2b8c2aa3293806b1fa80b84cad4c44206ead0e1323016238234ec48573f", func := "loop.example/g03305/laws.FnSliders", spec := "fnSliders", unfollowed := true, recurses := true, apart := false }
def FnSlidersSaid : Prop := fnSlidersRow.holds Try.pinned (OpenSpec.ofChange fnSlidersSpec)

/-- ITS FALSE NEIGHBOUR: 'it returns false'. Refute it at one input. -/
def fnSlidersWrong : ChangeSpec := { name := "fnSliders", fn := fun _ => fun
  | [d] => { results := [.lit (.bool false)], args := [d] }
  | _ => none }
def FnSlidersWrongFalsely : Prop := fnSlidersRow.holds Try.pinned (OpenSpec.ofChange fnSlidersWrong)

/-- 'laws.FnExactPullAll': WHATEVER THE INPUT: true; the input reads as it did. -/
def fnExactPullAllSpec : ChangeSpec := { name := "fnExactPullAll", fn := fun _ => fun
  | [d1, d2, d3, d4] => { results := [.lit (.bool true)], args := [d1, d2, d3, d4] }
  | _ => none }
def fnExactPullAllRow : OpenClaim := { program := "ytlbbnbhehonbiaa", sum := "01a4e2b8c2aa3293806b1fa80b84cad4c44206ead0e1323016238234ec48573f", func := "loop.example/g03305/laws.FnExactPullAll", spec := "fnExactPullAll", unfollowed := true, recurses := true, apart := false }
def FnExactPullAllSaid : Prop := fnExactPullAllRow.holds Try.pinned (OpenSpec.ofChange fnExactPullAllSpec)

/-- ITS FALSE NEIGHBOUR: 'it returns false'. Refute it at one input. -/
def fnExactPullAllWrong : ChangeSpec := { name := "fnExactPullAll", fn := fun _ => fun
  | [d1, d2, d3, d4] => { results := [.lit (.bool false)], args := [d1, d2, d3, d4] }
  | _ => none }
def FnExactPullAllWrongFalsely : Prop := fnExactPullAllRow.holds Try.pinned (OpenSpec.ofChange fnExactPullAllWrong)

/- THE SECOND FORM. 'bulk': how many values and letters a reading holds, each counted each time it is reached (what is shared counts as often as it is met; a slice's spare places count too). A statement '..UptoSaid' is the law's where the arguments, and the package variables that the reading takes, are together of bulk at most 1048576: NARROWER than '..Said'. Prove '..Said' where nothing that the law and all that it calls make is longer than what came in: it says more and counts as full. Else prove '..UptoSaid'. A law counts once. -/
mutual
def uptoBulk {H : Type} : DataW H → Nat
  | .lit (.string bytes) => bytes.length + 1
  | .lit _ => 1
  | .nil => 1
  | .ptr d => uptoBulk d + 1
  | .slice elems spare => uptoBulkAll elems + uptoBulkAll spare + 1
  | .agg parts => uptoBulkAll parts + 1
  | .iface _ d => uptoBulk d + 1
  | .map entries => uptoBulkEntries entries + 1
  | .held _ => 1
def uptoBulkAll {H : Type} : List (DataW H) → Nat
  | [] => 0
  | d :: r => uptoBulk d + uptoBulkAll r
def uptoBulkEntries {H : Type} : List (Lit × DataW H) → Nat
  | [] => 0
  | x :: r => uptoBulkEntry x + uptoBulkEntries r
def uptoBulkEntry {H : Type} : Lit × DataW H → Nat
  | (.string bytes, d) => bytes.length + uptoBulk d + 1
  | (_, d) => uptoBulk d + 1
 end
def uptoSmall : (H : Type) → List (DataW H) → Bool := fun _ ds => decide (uptoBulkAll ds ≤ 1048576)
def OpenSpec.upto (s : _root_.Go.ChangeSpec) : _root_.Go.OpenSpec := { _root_.Go.OpenSpec.ofChange s with cond := some uptoSmall }

/-- 'laws.FnExactCountBalanced', WHERE WHAT IT READS IS OF BULK AT MOST 1048576: true; the input reads as it did. -/
def fnExactCountBalancedUptoRow : OpenClaim := { program := "ytlbbnbhehonbiaa", sum := "01a4e2b8c2aa3293806b1fa80b84cad4c44206ead0e1323016238234ec48573f", func := "loop.example/g03305/laws.FnExactCountBalanced", spec := "fnExactCountBalanced", apart := false, narrowed := true }
def FnExactCountBalancedUptoSaid : Prop := fnExactCountBalancedUptoRow.holds Try.pinned (OpenSpec.upto fnExactCountBalancedSpec)

/-- 'laws.FnExactSliderOk', WHERE WHAT IT READS IS OF BULK AT MOST 1048576: true; the input reads as it did. -/
def fnExactSliderOkUptoRow : OpenClaim := { program := "ytlbbnbhehonbiaa", sum := "01a4e2b8c2aa3293806b1fa80b84cad4c44206ead0e1323016238234ec48573f", func := "loop.example/g03305/laws.FnExactSliderOk", spec := "fnExactSliderOk", apart := false, narrowed := true }
def FnExactSliderOkUptoSaid : Prop := fnExactSliderOkUptoRow.holds Try.pinned (OpenSpec.upto fnExactSliderOkSpec)

/-- 'laws.FnExactPullSlider', WHERE WHAT IT READS IS OF BULK AT MOST 1048576: true; the input reads as it did. -/
def fnExactPullSliderUptoRow : OpenClaim := { program := "ytlbbnbhehonbiaa", sum := "01a4e2b8c2aa3293806b1fa80b84cad4c44206ead0e1323016238234ec48573f", func := "loop.example/g03305/laws.FnExactPullSlider", spec := "fnExactPullSlider", apart := false, narrowed := true }
def FnExactPullSliderUptoSaid : Prop := fnExactPullSliderUptoRow.holds Try.pinned (OpenSpec.upto fnExactPullSliderSpec)

/-- 'laws.FnExactIsSpent', WHERE WHAT IT READS IS OF BULK AT MOST 1048576: true; the input reads as it did. -/
def fnExactIsSpentUptoRow : OpenClaim := { program := "ytlbbnbhehonbiaa", sum := "01a4e2b8c2aa3293806b1fa80b84cad4c44206ead0e1323016238234ec48573f", func := "loop.example/g03305/laws.FnExactIsSpent", spec := "fnExactIsSpent", apart := false, narrowed := true }
def FnExactIsSpentUptoSaid : Prop := fnExactIsSpentUptoRow.holds Try.pinned (OpenSpec.upto fnExactIsSpentSpec)

/-- 'laws.FnExactDiscOk', WHERE WHAT IT READS IS OF BULK AT MOST 1048576: true; the input reads as it did. -/
def fnExactDiscOkUptoRow : OpenClaim := { program := "ytlbbnbhehonbiaa", sum := "01a4e2b8c2aa3293806b1fa80b84cad4c44206ead0e1323016238234ec48573f", func := "loop.example/g03305/laws.FnExactDiscOk", spec := "fnExactDiscOk", apart := false, narrowed := true }
def FnExactDiscOkUptoSaid : Prop := fnExactDiscOkUptoRow.holds Try.pinned (OpenSpec.upto fnExactDiscOkSpec)

/-- 'laws.FnExactRoomTable', WHERE WHAT IT READS IS OF BULK AT MOST 1048576: true; the input reads as it did. -/
def fnExactRoomTableUptoRow : OpenClaim := { program := "ytlbbnbhehonbiaa", sum := "01a4e2b8c2aa3293806b1fa80b84cad4c44206ead0e1323016238234ec48573f", func := "loop.example/g03305/laws.FnExactRoomTable", spec := "fnExactRoomTable", recurses := true, apart := false, narrowed := true }
def FnExactRoomTableUptoSaid : Prop := fnExactRoomTableUptoRow.holds Try.pinned (OpenSpec.upto fnExactRoomTableSpec)

/-- 'laws.FnExactShownAt', WHERE WHAT IT READS IS OF BULK AT MOST 1048576: true; the input reads as it did. -/
def fnExactShownAtUptoRow : OpenClaim := { program := "ytlbbnbhehonbiaa", sum := "01a4e2b8c2aa3293806b1fa80b84cad4c44206ead0e1323016238234ec48573f", func := "loop.example/g03305/laws.FnExactShownAt", spec := "fnExactShownAt", apart := false, narrowed := true }
def FnExactShownAtUptoSaid : Prop := fnExactShownAtUptoRow.holds Try.pinned (OpenSpec.upto fnExactShownAtSpec)

/-- 'laws.FnExactMeetAgain', WHERE WHAT IT READS IS OF BULK AT MOST 1048576: true; the input reads as it did. -/
def fnExactMeetAgainUptoRow : OpenClaim := { program := "ytlbbnbhehonbiaa", sum := "01a4e2b8c2aa3293806b1fa80b84cad4c44206ead0e1323016238234ec48573f", func := "loop.example/g03305/laws.FnExactMeetAgain", spec := "fnExactMeetAgain", apart := false, narrowed := true }
def FnExactMeetAgainUptoSaid : Prop := fnExactMeetAgainUptoRow.holds Try.pinned (OpenSpec.upto fnExactMeetAgainSpec)

/-- 'laws.FnExactTurnsToShow', WHERE WHAT IT READS IS OF BULK AT MOST 1048576: true; the input reads as it did. -/
def fnExactTurnsToShowUptoRow : OpenClaim := { program := "ytlbbnbhehonbiaa", sum := "01a4e2b8c2aa3293806b1fa80b84cad4c44206ead0e1323016238234ec48573f", func := "loop.example/g03305/laws.FnExactTurnsToShow", spec := "fnExactTurnsToShow", apart := false, narrowed := true }
def FnExactTurnsToShowUptoSaid : Prop := fnExactTurnsToShowUptoRow.holds Try.pinned (OpenSpec.upto fnExactTurnsToShowSpec)

/-- 'laws.FnExactLinksOk', WHERE WHAT IT READS IS OF BULK AT MOST 1048576: true; the input reads as it did. -/
def fnExactLinksOkUptoRow : OpenClaim := { program := "ytlbbnbhehonbiaa", sum := "01a4e2b8c2aa3293806b1fa80b84cad4c44206ead0e1323016238234ec48573f", func := "loop.example/g03305/laws.FnExactLinksOk", spec := "fnExactLinksOk", apart := false, narrowed := true }
def FnExactLinksOkUptoSaid : Prop := fnExactLinksOkUptoRow.holds Try.pinned (OpenSpec.upto fnExactLinksOkSpec)

/-- 'laws.FnSliders', WHERE WHAT IT READS IS OF BULK AT MOST 1048576: true; the input reads as it did. -/
def fnSlidersUptoRow : OpenClaim := { program := "ytlbbnbhehonbiaa", sum := "01a4e2b8c2aa3293806b1fa80b84cad4c44206ead0e1323016238234ec48573f", func := "loop.example/g03305/laws.FnSliders", spec := "fnSliders", unfollowed := true, recurses := true, apart := false, narrowed := true }
def FnSlidersUptoSaid : Prop := fnSlidersUptoRow.holds Try.pinned (OpenSpec.upto fnSlidersSpec)

/-- 'laws.FnExactPullAll', WHERE WHAT IT READS IS OF BULK AT MOST 1048576: true; the input reads as it did. -/
def fnExactPullAllUptoRow : OpenClaim := { program := "ytlbbnbhehonbiaa", sum := "01a4e2b8c2aa3293806b1fa80b84cad4c44206ead0e1323016238234ec48573f", func := "loop.example/g03305/laws.FnExactPullAll", spec := "fnExactPullAll", unfollowed := true, recurses := true, apart := false, narrowed := true }
def FnExactPullAllUptoSaid : Prop := fnExactPullAllUptoRow.holds Try.pinned (OpenSpec.upto fnExactPullAllSpec)

end Rows
end Go.Proofs.Ytlbbnbhehonbiaa
