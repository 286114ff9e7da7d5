/-
  No cell of these rows narrows 'for every input' (looked for: loops, veiled, ifaces, maps, wideKeys, modest, calm, conditions, laid).
  DERIVED. THE GIVEN ROWS OF THIS SEAT. 9 by the template 'for every input the law returns true; each argument reads behind the call as it read before'; 0 by the template 'total and deterministic' (their statements: YtkhlolhmaoenoaaTotals.lean).
  GIVEN WITH THE SEED: the statements are not yours to turn. If you find one false, say at which input.
  Laid BY PROGRAM, IN A SANDBOX (cutbox-rows.mjs): the forced cells as the released guide's own fill.sh prints them over the translation 81021593745050de… (all of the seat's roots in one cut). By AI agents, Wed Nov 11 2026. No macro, syntax, notation, axiom, sorry.
-/
import Derived.Test.YtkhlolhmaoenoaaChecked
import GoSem.Claim
import GoSem.ClaimJoined
import GoSem.ClaimMapViews
import Derived.JoinedTies
import Derived.KernelRfl
namespace Go.Proofs.Ytkhlolhmaoenoaa
/- THE CELL 'sum', in the pinned program and in every row, IS THE sha256 OF THE DUMP (.gsa) THAT YtkhlolhmaoenoaaProg.lean LOADS. Nothing in Lean hashes anything: it is a label: what it is worth is what the hold of that sum in a sandbox is worth. -/
noncomputable def Try.pinned : Pinned := { name := "ytkhlolhmaoenoaa", sum := "81021593745050de5752c2bd855c2c13b0780aa777e4d179d2ce9bdcb982af6c", checked := Try.checked }
namespace Rows
def none {H : Type} : Left H := { results := [], args := [] }

/-- 'laws.FnExactTurnCard': WHATEVER THE INPUT: true; the input reads as it did. -/
def fnExactTurnCardSpec : ChangeSpec := { name := "fnExactTurnCard", fn := fun _ => fun
  | [d] => { results := [.lit (.bool true)], args := [d] }
  | _ => none }
def fnExactTurnCardRow : OpenClaim := { program := "ytkhlolhmaoenoaa", sum := "81021593745050de5752c2bd855c2c13b0780aa777e4d179d2ce9bdcb982af6c", func := "loop.example/g03305/laws.FnExactTurnCard", spec := "fnExactTurnCard", inPlace := ["internal/bytealg.CountString", "internal/bytealg.IndexByteString", "internal/bytealg.IndexString"], named := ["internal/bytealg.MaxLen"], apart := false }
def FnExactTurnCardSaid : Prop := fnExactTurnCardRow.holds Try.pinned (OpenSpec.ofChange fnExactTurnCardSpec)

/-- ITS FALSE NEIGHBOUR: 'it returns false'. Refute it at one input. -/
def fnExactTurnCardWrong : ChangeSpec := { name := "fnExactTurnCard", fn := fun _ => fun
  | [d] => { results := [.lit (.bool false)], args := [d] }
  | _ => none }
def FnExactTurnCardWrongFalsely : Prop := fnExactTurnCardRow.holds Try.pinned (OpenSpec.ofChange fnExactTurnCardWrong)

/-- 'laws.FnExactFrontView': WHATEVER THE INPUT: true; the input reads as it did. -/
def fnExactFrontViewSpec : ChangeSpec := { name := "fnExactFrontView", fn := fun _ => fun
  | [d] => { results := [.lit (.bool true)], args := [d] }
  | _ => none }
def fnExactFrontViewRow : OpenClaim := { program := "ytkhlolhmaoenoaa", sum := "81021593745050de5752c2bd855c2c13b0780aa777e4d179d2ce9bdcb982af6c", func := "loop.example/g03305/laws.FnExactFrontView", spec := "fnExactFrontView", inPlace := ["internal/bytealg.CountString", "internal/bytealg.IndexByteString", "internal/bytealg.IndexString"], unfollowed := true, recurses := true, named := ["internal/bytealg.MaxLen"], apart := false }
def FnExactFrontViewSaid : Prop := fnExactFrontViewRow.holds Try.pinned (OpenSpec.ofChange fnExactFrontViewSpec)

/-- ITS FALSE NEIGHBOUR: 'it returns false'. Refute it at one input. -/
def fnExactFrontViewWrong : ChangeSpec := { name := "fnExactFrontView", fn := fun _ => fun
  | [d] => { results := [.lit (.bool false)], args := [d] }
  | _ => none }
def FnExactFrontViewWrongFalsely : Prop := fnExactFrontViewRow.holds Try.pinned (OpenSpec.ofChange fnExactFrontViewWrong)

/-- 'laws.FnExactTopView': WHATEVER THE INPUT: true; the input reads as it did. -/
def fnExactTopViewSpec : ChangeSpec := { name := "fnExactTopView", fn := fun _ => fun
  | [d] => { results := [.lit (.bool true)], args := [d] }
  | _ => none }
def fnExactTopViewRow : OpenClaim := { program := "ytkhlolhmaoenoaa", sum := "81021593745050de5752c2bd855c2c13b0780aa777e4d179d2ce9bdcb982af6c", func := "loop.example/g03305/laws.FnExactTopView", spec := "fnExactTopView", inPlace := ["internal/bytealg.CountString", "internal/bytealg.IndexByteString", "internal/bytealg.IndexString"], unfollowed := true, recurses := true, named := ["internal/bytealg.MaxLen"], apart := false }
def FnExactTopViewSaid : Prop := fnExactTopViewRow.holds Try.pinned (OpenSpec.ofChange fnExactTopViewSpec)

/-- ITS FALSE NEIGHBOUR: 'it returns false'. Refute it at one input. -/
def fnExactTopViewWrong : ChangeSpec := { name := "fnExactTopView", fn := fun _ => fun
  | [d] => { results := [.lit (.bool false)], args := [d] }
  | _ => none }
def FnExactTopViewWrongFalsely : Prop := fnExactTopViewRow.holds Try.pinned (OpenSpec.ofChange fnExactTopViewWrong)

/-- 'laws.FnExactLayerTable': WHATEVER THE INPUT: true; the input reads as it did. -/
def fnExactLayerTableSpec : ChangeSpec := { name := "fnExactLayerTable", fn := fun _ => fun
  | [d] => { results := [.lit (.bool true)], args := [d] }
  | _ => none }
def fnExactLayerTableRow : OpenClaim := { program := "ytkhlolhmaoenoaa", sum := "81021593745050de5752c2bd855c2c13b0780aa777e4d179d2ce9bdcb982af6c", func := "loop.example/g03305/laws.FnExactLayerTable", spec := "fnExactLayerTable", inPlace := ["internal/bytealg.CountString", "internal/bytealg.IndexByteString", "internal/bytealg.IndexString"], unfollowed := true, recurses := true, named := ["internal/bytealg.MaxLen"], apart := false }
def FnExactLayerTableSaid : Prop := fnExactLayerTableRow.holds Try.pinned (OpenSpec.ofChange fnExactLayerTableSpec)

/-- ITS FALSE NEIGHBOUR: 'it returns false'. Refute it at one input. -/
def fnExactLayerTableWrong : ChangeSpec := { name := "fnExactLayerTable", fn := fun _ => fun
  | [d] => { results := [.lit (.bool false)], args := [d] }
  | _ => none }
def FnExactLayerTableWrongFalsely : Prop := fnExactLayerTableRow.holds Try.pinned (OpenSpec.ofChange fnExactLayerTableWrong)

/-- 'laws.FnExactBoxesFor': WHATEVER THE INPUT: true; the input reads as it did. -/
def fnExactBoxesForSpec : ChangeSpec := { name := "fnExactBoxesFor", fn := fun _ => fun
  | [d] => { results := [.lit (.bool true)], args := [d] }
  | _ => none }
def fnExactBoxesForRow : OpenClaim := { program := "ytkhlolhmaoenoaa", sum := "81021593745050de5752c2bd855c2c13b0780aa777e4d179d2ce9bdcb982af6c", func := "loop.example/g03305/laws.FnExactBoxesFor", spec := "fnExactBoxesFor", inPlace := ["internal/bytealg.CountString", "internal/bytealg.IndexByteString", "internal/bytealg.IndexString", "internal/abi.NoEscape", "internal/bytealg.MakeNoZero"], named := ["internal/bytealg.MaxLen"], apart := false }
def FnExactBoxesForSaid : Prop := fnExactBoxesForRow.holds Try.pinned (OpenSpec.ofChange fnExactBoxesForSpec)

/-- ITS FALSE NEIGHBOUR: 'it returns false'. Refute it at one input. -/
def fnExactBoxesForWrong : ChangeSpec := { name := "fnExactBoxesFor", fn := fun _ => fun
  | [d] => { results := [.lit (.bool false)], args := [d] }
  | _ => none }
def FnExactBoxesForWrongFalsely : Prop := fnExactBoxesForRow.holds Try.pinned (OpenSpec.ofChange fnExactBoxesForWrong)

/-- 'laws.FnCreases': WHATEVER THE INPUT: true; the input reads as it did. -/
def fnCreasesSpec : ChangeSpec := { name := "fnCreases", fn := fun _ => fun
  | [d] => { results := [.lit (.bool true)], args := [d] }
  | _ => none }
def fnCreasesRow : OpenClaim := { program := "ytkhlolhmaoenoaa", sum := "81021593745050de5752c2bd855c2c13b0780aa777e4d179d2ce9bdcb982af6c", func := "loop.example/g03305/laws.FnCreases", spec := "fnCreases", inPlace := ["internal/bytealg.CountString", "internal/bytealg.IndexByteString", "internal/bytealg.IndexString"], named := ["internal/bytealg.MaxLen"], apart := false }
def FnCreasesSaid : Prop := fnCreasesRow.holds Try.pinned (OpenSpec.ofChange fnCreasesSpec)

/-- ITS FALSE NEIGHBOUR: 'it returns false'. Refute it at one input. -/
def fnCreasesWrong : ChangeSpec := { name := "fnCreases", fn := fun _ => fun
  | [d] => { results := [.lit (.bool false)], args := [d] }
  | _ => none }
def FnCreasesWrongFalsely : Prop := fnCreasesRow.holds Try.pinned (OpenSpec.ofChange fnCreasesWrong)

/-- 'laws.FnLayers': WHATEVER THE INPUT: true; the input reads as it did. -/
def fnLayersSpec : ChangeSpec := { name := "fnLayers", fn := fun _ => fun
  | [d] => { results := [.lit (.bool true)], args := [d] }
  | _ => none }
def fnLayersRow : OpenClaim := { program := "ytkhlolhmaoenoaa", sum := "81021593745050de5752c2bd855c2c13b0780aa777e4d179d2ce9bdcb982af6c", func := "loop.example/g03305/laws.FnLayers", spec := "fnLayers", inPlace := ["internal/bytealg.CountString", "internal/bytealg.IndexByteString", "internal/bytealg.IndexString"], unfollowed := true, recurses := true, named := ["internal/bytealg.MaxLen"], apart := false }
def FnLayersSaid : Prop := fnLayersRow.holds Try.pinned (OpenSpec.ofChange fnLayersSpec)

/-- ITS FALSE NEIGHBOUR: 'it returns false'. Refute it at one input. -/
def fnLayersWrong : ChangeSpec := { name := "fnLayers", fn := fun _ => fun
  | [d] => { results := [.lit (.bool false)], args := [d] }
  | _ => none }
def FnLayersWrongFalsely : Prop := fnLayersRow.holds Try.pinned (OpenSpec.ofChange fnLayersWrong)

/-- 'laws.FnAreas': WHATEVER THE INPUT: true; the input reads as it did. -/
def fnAreasSpec : ChangeSpec := { name := "fnAreas", fn := fun _ => fun
  | [d] => { results := [.lit (.bool true)], args := [d] }
  | _ => none }
def fnAreasRow : OpenClaim := { program := "ytkhlolhmaoenoaa", sum := "81021593745050de5752c2bd855c2c13b0780aa777e4d179d2ce9bdcb982af6c", func := "loop.example/g03305/laws.FnAreas", spec := "fnAreas", inPlace := ["internal/bytealg.CountString", "internal/bytealg.IndexByteString", "internal/bytealg.IndexString"], recurses := true, named := ["internal/bytealg.MaxLen"], apart := false }
def FnAreasSaid : Prop := fnAreasRow.holds Try.pinned (OpenSpec.ofChange fnAreasSpec)

/-- ITS FALSE NEIGHBOUR: 'it returns false'. Refute it at one input. -/
def fnAreasWrong : ChangeSpec := { name := "fnAreas", fn := fun _ => fun
  | [d] => { results := [.lit (.bool false)], args := [d] }
  | _ => none }
def FnAreasWrongFalsely : Prop := fnAreasRow.holds Try.pinned (OpenSpec.ofChange fnAreasWrong)

/-- 'laws.FnViews': WHATEVER THE INPUT: true; the input reads as it did. -/
def fnViewsSpec : ChangeSpec := { name := "fnViews", fn := fun _ => fun
  | [d] => { results := [.lit (.bool true)], args := [d] }
  | _ => none }
def fnViewsRow : OpenClaim := { program := "ytkhlolhmaoenoaa", sum := "81021593745050de5752c2bd855c2c13b0780aa777e4d179d2ce9bdcb982af6c", func := "loop.example/g03305/laws.FnViews", spec := "fnViews", inPlace := ["internal/bytealg.CountString", "internal/bytealg.IndexByteString", "internal/bytealg.IndexString", "internal/abi.NoEscape", "internal/bytealg.MakeNoZero"], unfollowed := true, recurses := true, named := ["internal/bytealg.MaxLen"], apart := false }
def FnViewsSaid : Prop := fnViewsRow.holds Try.pinned (OpenSpec.ofChange fnViewsSpec)

/-- ITS FALSE NEIGHBOUR: 'it returns false'. Refute it at one input. -/
def fnViewsWrong : ChangeSpec := { name := "fnViews", fn := fun _ => fun
  | [d] => { results := [.lit (.bool false)], args := [d] }
  | _ => none }
def FnViewsWrongFalsely : Prop := fnViewsRow.holds Try.pinned (OpenSpec.ofChange fnViewsWrong)

/- THE SECOND FORM. 'bulk': how many values and letters a reading holds, each counted each time it is reached (what is shared counts as often as it is met; a slice's spare places count too). A statement '..UptoSaid' is the law's where the arguments, and the package variables that the reading takes, are together of bulk at most 1048576: NARROWER than '..Said'. Prove '..Said' where nothing that the law and all that it calls make is longer than what came in: it says more and counts as full. Else prove '..UptoSaid'. A law counts once. -/
mutual
def uptoBulk {H : Type} : DataW H → Nat
  | .lit (.string bytes) => bytes.length + 1
  | .lit _ => 1
  | .nil => 1
  | .ptr d => uptoBulk d + 1
  | .slice elems spare => uptoBulkAll elems + uptoBulkAll spare + 1
  | .agg parts => uptoBulkAll parts + 1
  | .iface _ d => uptoBulk d + 1
  | .map entries => uptoBulkEntries entries + 1
  | .held _ => 1
def uptoBulkAll {H : Type} : List (DataW H) → Nat
  | [] => 0
  | d :: r => uptoBulk d + uptoBulkAll r
def uptoBulkEntries {H : Type} : List (Lit × DataW H) → Nat
  | [] => 0
  | x :: r => uptoBulkEntry x + uptoBulkEntries r
def uptoBulkEntry {H : Type} : Lit × DataW H → Nat
  | (.string bytes, d) => bytes.length + uptoBulk d + 1
  | (_, d) => uptoBulk d + 1
 end
def uptoSmall : (H : Type) → List (DataW H) → Bool := fun _ ds => decide (uptoBulkAll ds ≤ 1048576)
def OpenSpec.upto (s : _root_.Go.ChangeSpec) : _root_.Go.OpenSpec := { _root_.Go.OpenSpec.ofChange s with cond := some uptoSmall }

/-- 'laws.FnExactTurnCard', WHERE WHAT IT READS IS OF BULK AT MOST 1048576: true; the input reads as it did. -/
def fnExactTurnCardUptoRow : OpenClaim := { program := "ytkhlolhmaoenoaa", sum := "81021593745050de5752c2bd855c2c13b0780aa777e4d179d2ce9bdcb982af6c", func := "loop.example/g03305/laws.FnExactTurnCard", spec := "fnExactTurnCard", inPlace := ["internal/bytealg.CountString", "internal/bytealg.IndexByteString", "internal/bytealg.IndexString"], named := ["internal/bytealg.MaxLen"], apart := false, narrowed := true }
def FnExactTurnCardUptoSaid : Prop := fnExactTurnCardUptoRow.holds Try.pinned (OpenSpec.upto fnExactTurnCardSpec)

/-- 'laws.FnExactFrontView', WHERE WHAT IT READS IS OF BULK AT MOST 1048576: true; the input reads as it did. -/
def fnExactFrontViewUptoRow : OpenClaim := { program := "ytkhlolhmaoenoaa", sum := "81021593745050de5752c2bd855c2c13b0780aa777e4d179d2ce9bdcb982af6c", func := "loop.example/g03305/laws.FnExactFrontView", spec := "fnExactFrontView", inPlace := ["internal/bytealg.CountString", "internal/bytealg.IndexByteString", "internal/bytealg.IndexString"], unfollowed := true, recurses := true, named := ["internal/bytealg.MaxLen"], apart := false, narrowed := true }
def FnExactFrontViewUptoSaid : Prop := fnExactFrontViewUptoRow.holds Try.pinned (OpenSpec.upto fnExactFrontViewSpec)

/-- 'laws.FnExactTopView', WHERE WHAT IT READS IS OF BULK AT MOST 1048576: true; the input reads as it did. -/
def fnExactTopViewUptoRow : OpenClaim := { program := "ytkhlolhmaoenoaa", sum := "81021593745050de5752c2bd855c2c13b0780aa777e4d179d2ce9bdcb982af6c", func := "loop.example/g03305/laws.FnExactTopView", spec := "fnExactTopView", inPlace := ["internal/bytealg.CountString", "internal/bytealg.IndexByteString", "internal/bytealg.IndexString"], unfollowed := true, recurses := true, named := ["internal/bytealg.MaxLen"], apart := false, narrowed := true }
def FnExactTopViewUptoSaid : Prop := fnExactTopViewUptoRow.holds Try.pinned (OpenSpec.upto fnExactTopViewSpec)

/-- 'laws.FnExactLayerTable', WHERE WHAT IT READS IS OF BULK AT MOST 1048576: true; the input reads as it did. -/
def fnExactLayerTableUptoRow : OpenClaim := { program := "ytkhlolhmaoenoaa", sum := "81021593745050de5752c2bd855c2c13b0780aa777e4d179d2ce9bdcb982af6c", func := "loop.example/g03305/laws.FnExactLayerTable", spec := "fnExactLayerTable", inPlace := ["internal/bytealg.CountString", "internal/bytealg.IndexByteString", "internal/bytealg.IndexString"], unfollowed := true, recurses := true, named := ["internal/bytealg.MaxLen"], apart := false, narrowed := true }
def FnExactLayerTableUptoSaid : Prop := fnExactLayerTableUptoRow.holds Try.pinned (OpenSpec.upto fnExactLayerTableSpec)

/-- 'laws.FnExactBoxesFor', WHERE WHAT IT READS IS OF BULK AT MOST 1048576: true; the input reads as it did. -/
def fnExactBoxesForUptoRow : OpenClaim := { program := "ytkhlolhmaoenoaa", sum := "81021593745050de5752c2bd855c2c13b0780aa777e4d179d2ce9bdcb982af6c", func := "loop.example/g03305/laws.FnExactBoxesFor", spec := "fnExactBoxesFor", inPlace := ["internal/bytealg.CountString", "internal/bytealg.IndexByteString", "internal/bytealg.IndexString", "internal/abi.NoEscape", "internal/bytealg.MakeNoZero"], named := ["internal/bytealg.MaxLen"], apart := false, narrowed := true }
def FnExactBoxesForUptoSaid : Prop := fnExactBoxesForUptoRow.holds Try.pinned (OpenSpec.upto fnExactBoxesForSpec)

/-- 'laws.FnCreases', WHERE WHAT IT READS IS OF BULK AT MOST 1048576: true; the input reads as it did. -/
def fnCreasesUptoRow : OpenClaim := { program := "ytkhlolhmaoenoaa", sum := "81021593745050de5752c2bd855c2c13b0780aa777e4d179d2ce9bdcb982af6c", func := "loop.example/g03305/laws.FnCreases", spec := "fnCreases", inPlace := ["internal/bytealg.CountString", "internal/bytealg.IndexByteString", "internal/bytealg.IndexString"], named := ["internal/bytealg.MaxLen"], apart := false, narrowed := true }
def FnCreasesUptoSaid : Prop := fnCreasesUptoRow.holds Try.pinned (OpenSpec.upto fnCreasesSpec)

/-- 'laws.FnLayers', WHERE WHAT IT READS IS OF BULK AT MOST 1048576: true; the input reads as it did. -/
def fnLayersUptoRow : OpenClaim := { program := "ytkhlolhmaoenoaa", sum := "81021593745050de5752c2bd855c2c13b0780aa777e4d179d2ce9bdcb982af6c", func := "loop.example/g03305/laws.FnLayers", spec := "fnLayers", inPlace := ["internal/bytealg.CountString", "internal/bytealg.IndexByteString", "internal/bytealg.IndexString"], unfollowed := true, recurses := true, named := ["internal/bytealg.MaxLen"], apart := false, narrowed := true }
def FnLayersUptoSaid : Prop := fnLayersUptoRow.holds Try.pinned (OpenSpec.upto fnLayersSpec)

/-- 'laws.FnAreas', WHERE WHAT IT READS IS OF BULK AT MOST 1048576: true; the input reads as it did. -/
def fnAreasUptoRow : OpenClaim := { program := "ytkhlolhmaoenoaa", sum := "81021593745050de5752c2bd855c2c13b0780aa777e4d179d2ce9bdcb982af6c", func := "loop.example/g03305/laws.FnAreas", spec := "fnAreas", inPlace := ["internal/bytealg.CountString", "internal/bytealg.IndexByteString", "internal/bytealg.IndexString"], recurses := true, named := ["internal/bytealg.MaxLen"], apart := false, narrowed := true }
def FnAreasUptoSaid : Prop := fnAreasUptoRow.holds Try.pinned (OpenSpec.upto fnAreasSpec)

/-- 'laws.FnViews', WHERE WHAT IT READS IS OF BULK AT MOST 1048576: true; the input reads as it did. -/
def fnViewsUptoRow : OpenClaim := { program := "ytkhlolhmaoenoaa", sum := "81021593745050de5752c2bd855c2c13b0780aa777e4d179d2ce9bdcb982af6c", func := "loop.example/g03305/laws.FnViews", spec := "fnViews", inPlace := ["internal/bytealg.CountString", "internal/bytealg.IndexByteString", "internal/bytealg.IndexString", "internal/abi.NoEscape", "internal/bytealg.MakeNoZero"], unfollowed := true, recurses := true, named := ["internal/bytealg.MaxLen"], apart := false, narrowed := true }
def FnViewsUptoSaid : Prop := fnViewsUptoRow.holds Try.pinned (OpenSpec.upto fnViewsSpec)

end Rows
end Go.Proofs.Ytkhlolhmaoenoaa
