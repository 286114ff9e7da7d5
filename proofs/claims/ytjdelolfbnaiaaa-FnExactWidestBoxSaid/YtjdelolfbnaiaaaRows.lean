/-
  No cell of these rows narrows 'for every input' (looked for: loops, veiled, ifaces, maps, wideKeys, modest, calm, conditions, laid).
  DERIVED. THE GIVEN ROWS OF THIS SEAT. 9 by the template 'for every input the law returns true; each argument reads behind the call as it read before'; 0 by the template 'total and deterministic' (their statements: YtjdelolfbnaiaaaTotals.lean).
  GIVEN WITH THE SEED: the statements are not yours to turn. If you find one false, say at which input.
  Laid BY PROGRAM, IN A SANDBOX (cutbox-rows.mjs): the forced cells as the released guide's own fill.sh prints them over the translation b62f8536b6183c5c… (all of the seat's roots in one cut). By AI agents, Wed Nov 11 2026. No macro, syntax, notation, axiom, sorry.
-/
import Derived.Test.YtjdelolfbnaiaaaChecked
import GoSem.Claim
import GoSem.ClaimJoined
import GoSem.ClaimMapViews
import Derived.JoinedTies
import Derived.KernelRfl
namespace Go.Proofs.Ytjdelolfbnaiaaa
/- THE CELL 'sum', in the pinned program and in every row, IS THE sha256 OF THE DUMP (.gsa) THAT YtjdelolfbnaiaaaProg.lean LOADS. Nothing in Lean hashes anything: it is a label: what it is worth is what the hold of that sum in a sandbox is worth. -/
noncomputable def Try.pinned : Pinned := { name := "ytjdelolfbnaiaaa", sum := "b62f8536b6183c5cd445afca0aa8d52adfa38bf632c3e77e5f75470c3b2b75ee", checked := Try.checked }
namespace Rows
def none {H : Type} : Left H := { results := [], args := [] }

/-- 'laws.FnExactIsUncut': WHATEVER THE INPUT: true; the input reads as it did. -/
def fnExactIsUncutSpec : ChangeSpec := { name := "fnExactIsUncut", fn := fun _ => fun
  | [d1, d2] => { results := [.lit (.bool true)], args := [d1, d2] }
  | _ => none }
def fnExactIsUncutRow : OpenClaim := { program := "ytjdelolfbnaiaaa", sum := "b62f8536b6183c5cd445afca0aa8d52adfa38bf632c3e77e5f75470c3b2b75ee", func := "loop.example/g03305/laws.FnExactIsUncut", spec := "fnExactIsUncut", inPlace := ["internal/bytealg.CountString", "internal/bytealg.IndexByteString", "internal/bytealg.IndexString"], named := ["internal/bytealg.MaxLen"], apart := false }
def FnExactIsUncutSaid : Prop := fnExactIsUncutRow.holds Try.pinned (OpenSpec.ofChange fnExactIsUncutSpec)

/-- ITS FALSE NEIGHBOUR: 'it returns false'. Refute it at one input. -/
def fnExactIsUncutWrong : ChangeSpec := { name := "fnExactIsUncut", fn := fun _ => fun
  | [d1, d2] => { results := [.lit (.bool false)], args := [d1, d2] }
  | _ => none }
def FnExactIsUncutWrongFalsely : Prop := fnExactIsUncutRow.holds Try.pinned (OpenSpec.ofChange fnExactIsUncutWrong)

/-- 'laws.FnExactReadCreases': WHATEVER THE INPUT: true; the input reads as it did. -/
def fnExactReadCreasesSpec : ChangeSpec := { name := "fnExactReadCreases", fn := fun _ => fun
  | [d1, d2, d3] => { results := [.lit (.bool true)], args := [d1, d2, d3] }
  | _ => none }
def fnExactReadCreasesRow : OpenClaim := { program := "ytjdelolfbnaiaaa", sum := "b62f8536b6183c5cd445afca0aa8d52adfa38bf632c3e77e5f75470c3b2b75ee", func := "loop.example/g03305/laws.FnExactReadCreases", spec := "fnExactReadCreases", inPlace := ["internal/bytealg.CountString", "internal/bytealg.IndexByteString", "internal/bytealg.IndexString"], named := ["internal/bytealg.MaxLen"], apart := false }
def FnExactReadCreasesSaid : Prop := fnExactReadCreasesRow.holds Try.pinned (OpenSpec.ofChange fnExactReadCreasesSpec)

/-- ITS FALSE NEIGHBOUR: 'it returns false'. Refute it at one input. -/
def fnExactReadCreasesWrong : ChangeSpec := { name := "fnExactReadCreases", fn := fun _ => fun
  | [d1, d2, d3] => { results := [.lit (.bool false)], args := [d1, d2, d3] }
  | _ => none }
def FnExactReadCreasesWrongFalsely : Prop := fnExactReadCreasesRow.holds Try.pinned (OpenSpec.ofChange fnExactReadCreasesWrong)

/-- 'laws.FnExactCreaseAt': WHATEVER THE INPUT: true; the input reads as it did. -/
def fnExactCreaseAtSpec : ChangeSpec := { name := "fnExactCreaseAt", fn := fun _ => fun
  | [d1, d2, d3] => { results := [.lit (.bool true)], args := [d1, d2, d3] }
  | _ => none }
def fnExactCreaseAtRow : OpenClaim := { program := "ytjdelolfbnaiaaa", sum := "b62f8536b6183c5cd445afca0aa8d52adfa38bf632c3e77e5f75470c3b2b75ee", func := "loop.example/g03305/laws.FnExactCreaseAt", spec := "fnExactCreaseAt", inPlace := ["internal/bytealg.CountString", "internal/bytealg.IndexByteString", "internal/bytealg.IndexString"], named := ["internal/bytealg.MaxLen"], apart := false }
def FnExactCreaseAtSaid : Prop := fnExactCreaseAtRow.holds Try.pinned (OpenSpec.ofChange fnExactCreaseAtSpec)

/-- ITS FALSE NEIGHBOUR: 'it returns false'. Refute it at one input. -/
def fnExactCreaseAtWrong : ChangeSpec := { name := "fnExactCreaseAt", fn := fun _ => fun
  | [d1, d2, d3] => { results := [.lit (.bool false)], args := [d1, d2, d3] }
  | _ => none }
def FnExactCreaseAtWrongFalsely : Prop := fnExactCreaseAtRow.holds Try.pinned (OpenSpec.ofChange fnExactCreaseAtWrong)

/-- 'laws.FnExactCreaseText': WHATEVER THE INPUT: true; the input reads as it did. -/
def fnExactCreaseTextSpec : ChangeSpec := { name := "fnExactCreaseText", fn := fun _ => fun
  | [d1, d2] => { results := [.lit (.bool true)], args := [d1, d2] }
  | _ => none }
def fnExactCreaseTextRow : OpenClaim := { program := "ytjdelolfbnaiaaa", sum := "b62f8536b6183c5cd445afca0aa8d52adfa38bf632c3e77e5f75470c3b2b75ee", func := "loop.example/g03305/laws.FnExactCreaseText", spec := "fnExactCreaseText", inPlace := ["internal/bytealg.CountString", "internal/bytealg.IndexByteString", "internal/bytealg.IndexString"], named := ["internal/bytealg.MaxLen"], apart := false }
def FnExactCreaseTextSaid : Prop := fnExactCreaseTextRow.holds Try.pinned (OpenSpec.ofChange fnExactCreaseTextSpec)

/-- ITS FALSE NEIGHBOUR: 'it returns false'. Refute it at one input. -/
def fnExactCreaseTextWrong : ChangeSpec := { name := "fnExactCreaseText", fn := fun _ => fun
  | [d1, d2] => { results := [.lit (.bool false)], args := [d1, d2] }
  | _ => none }
def FnExactCreaseTextWrongFalsely : Prop := fnExactCreaseTextRow.holds Try.pinned (OpenSpec.ofChange fnExactCreaseTextWrong)

/-- 'laws.FnExactWidestBox': WHATEVER THE INPUT: true; the input reads as it did. -/
def fnExactWidestBoxSpec : ChangeSpec := { name := "fnExactWidestBox", fn := fun _ => fun
  | [d1, d2, d3] => { results := [.lit (.bool true)], args := [d1, d2, d3] }
  | _ => none }
def fnExactWidestBoxRow : OpenClaim := { program := "ytjdelolfbnaiaaa", sum := "b62f8536b6183c5cd445afca0aa8d52adfa38bf632c3e77e5f75470c3b2b75ee", func := "loop.example/g03305/laws.FnExactWidestBox", spec := "fnExactWidestBox", inPlace := ["internal/bytealg.CountString", "internal/bytealg.IndexByteString", "internal/bytealg.IndexString"], named := ["internal/bytealg.MaxLen"], apart := false }
def FnExactWidestBoxSaid : Prop := fnExactWidestBoxRow.holds Try.pinned (OpenSpec.ofChange fnExactWidestBoxSpec)

/-- ITS FALSE NEIGHBOUR: 'it returns false'. Refute it at one input. -/
def fnExactWidestBoxWrong : ChangeSpec := { name := "fnExactWidestBox", fn := fun _ => fun
  | [d1, d2, d3] => { results := [.lit (.bool false)], args := [d1, d2, d3] }
  | _ => none }
def FnExactWidestBoxWrongFalsely : Prop := fnExactWidestBoxRow.holds Try.pinned (OpenSpec.ofChange fnExactWidestBoxWrong)

/-- 'laws.FnExactCountCreases': WHATEVER THE INPUT: true; the input reads as it did. -/
def fnExactCountCreasesSpec : ChangeSpec := { name := "fnExactCountCreases", fn := fun _ => fun
  | [d] => { results := [.lit (.bool true)], args := [d] }
  | _ => none }
def fnExactCountCreasesRow : OpenClaim := { program := "ytjdelolfbnaiaaa", sum := "b62f8536b6183c5cd445afca0aa8d52adfa38bf632c3e77e5f75470c3b2b75ee", func := "loop.example/g03305/laws.FnExactCountCreases", spec := "fnExactCountCreases", inPlace := ["internal/bytealg.CountString", "internal/bytealg.IndexByteString", "internal/bytealg.IndexString"], named := ["internal/bytealg.MaxLen"], apart := false }
def FnExactCountCreasesSaid : Prop := fnExactCountCreasesRow.holds Try.pinned (OpenSpec.ofChange fnExactCountCreasesSpec)

/-- ITS FALSE NEIGHBOUR: 'it returns false'. Refute it at one input. -/
def fnExactCountCreasesWrong : ChangeSpec := { name := "fnExactCountCreases", fn := fun _ => fun
  | [d] => { results := [.lit (.bool false)], args := [d] }
  | _ => none }
def FnExactCountCreasesWrongFalsely : Prop := fnExactCountCreasesRow.holds Try.pinned (OpenSpec.ofChange fnExactCountCreasesWrong)

/-- 'laws.FnExactCountSteps': WHATEVER THE INPUT: true; the input reads as it did. -/
def fnExactCountStepsSpec : ChangeSpec := { name := "fnExactCountSteps", fn := fun _ => fun
  | [d] => { results := [.lit (.bool true)], args := [d] }
  | _ => none }
def fnExactCountStepsRow : OpenClaim := { program := "ytjdelolfbnaiaaa", sum := "b62f8536b6183c5cd445afca0aa8d52adfa38bf632c3e77e5f75470c3b2b75ee", func := "loop.example/g03305/laws.FnExactCountSteps", spec := "fnExactCountSteps", inPlace := ["internal/bytealg.CountString", "internal/bytealg.IndexByteString", "internal/bytealg.IndexString"], unfollowed := true, recurses := true, named := ["internal/bytealg.MaxLen"], apart := false }
def FnExactCountStepsSaid : Prop := fnExactCountStepsRow.holds Try.pinned (OpenSpec.ofChange fnExactCountStepsSpec)

/-- ITS FALSE NEIGHBOUR: 'it returns false'. Refute it at one input. -/
def fnExactCountStepsWrong : ChangeSpec := { name := "fnExactCountSteps", fn := fun _ => fun
  | [d] => { results := [.lit (.bool false)], args := [d] }
  | _ => none }
def FnExactCountStepsWrongFalsely : Prop := fnExactCountStepsRow.holds Try.pinned (OpenSpec.ofChange fnExactCountStepsWrong)

/-- 'laws.FnExactVolumeOf': WHATEVER THE INPUT: true; the input reads as it did. -/
def fnExactVolumeOfSpec : ChangeSpec := { name := "fnExactVolumeOf", fn := fun _ => fun
  | [d] => { results := [.lit (.bool true)], args := [d] }
  | _ => none }
def fnExactVolumeOfRow : OpenClaim := { program := "ytjdelolfbnaiaaa", sum := "b62f8536b6183c5cd445afca0aa8d52adfa38bf632c3e77e5f75470c3b2b75ee", func := "loop.example/g03305/laws.FnExactVolumeOf", spec := "fnExactVolumeOf", inPlace := ["internal/bytealg.CountString", "internal/bytealg.IndexByteString", "internal/bytealg.IndexString"], named := ["internal/bytealg.MaxLen"], apart := false }
def FnExactVolumeOfSaid : Prop := fnExactVolumeOfRow.holds Try.pinned (OpenSpec.ofChange fnExactVolumeOfSpec)

/-- ITS FALSE NEIGHBOUR: 'it returns false'. Refute it at one input. -/
def fnExactVolumeOfWrong : ChangeSpec := { name := "fnExactVolumeOf", fn := fun _ => fun
  | [d] => { results := [.lit (.bool false)], args := [d] }
  | _ => none }
def FnExactVolumeOfWrongFalsely : Prop := fnExactVolumeOfRow.holds Try.pinned (OpenSpec.ofChange fnExactVolumeOfWrong)

/-- 'laws.FnExactThickness': WHATEVER THE INPUT: true; the input reads as it did. -/
def fnExactThicknessSpec : ChangeSpec := { name := "fnExactThickness", fn := fun _ => fun
  | [d1, d2] => { results := [.lit (.bool true)], args := [d1, d2] }
  | _ => none }
def fnExactThicknessRow : OpenClaim := { program := "ytjdelolfbnaiaaa", sum := "b62f8536b6183c5cd445afca0aa8d52adfa38bf632c3e77e5f75470c3b2b75ee", func := "loop.example/g03305/laws.FnExactThickness", spec := "fnExactThickness", inPlace := ["internal/bytealg.CountString", "internal/bytealg.IndexByteString", "internal/bytealg.IndexString"], named := ["internal/bytealg.MaxLen"], apart := false }
def FnExactThicknessSaid : Prop := fnExactThicknessRow.holds Try.pinned (OpenSpec.ofChange fnExactThicknessSpec)

/-- ITS FALSE NEIGHBOUR: 'it returns false'. Refute it at one input. -/
def fnExactThicknessWrong : ChangeSpec := { name := "fnExactThickness", fn := fun _ => fun
  | [d1, d2] => { results := [.lit (.bool false)], args := [d1, d2] }
  | _ => none }
def FnExactThicknessWrongFalsely : Prop := fnExactThicknessRow.holds Try.pinned (OpenSpec.ofChange fnExactThicknessWrong)

/- THE SECOND FORM. 'bulk': how many values and letters a reading holds, each counted each time it is reached (what is shared counts as often as it is met; a slice's spare places count too). A statement '..UptoSaid' is the law's where the arguments, and the package variables that the reading takes, are together of bulk at most 1048576: NARROWER than '..Said'. Prove '..Said' where nothing that the law and all that it calls make is longer than what came in: it says more and counts as full. Else prove '..UptoSaid'. A law counts once. -/
mutual
def uptoBulk {H : Type} : DataW H → Nat
  | .lit (.string bytes) => bytes.length + 1
  | .lit _ => 1
  | .nil => 1
  | .ptr d => uptoBulk d + 1
  | .slice elems spare => uptoBulkAll elems + uptoBulkAll spare + 1
  | .agg parts => uptoBulkAll parts + 1
  | .iface _ d => uptoBulk d + 1
  | .map entries => uptoBulkEntries entries + 1
  | .held _ => 1
def uptoBulkAll {H : Type} : List (DataW H) → Nat
  | [] => 0
  | d :: r => uptoBulk d + uptoBulkAll r
def uptoBulkEntries {H : Type} : List (Lit × DataW H) → Nat
  | [] => 0
  | x :: r => uptoBulkEntry x + uptoBulkEntries r
def uptoBulkEntry {H : Type} : Lit × DataW H → Nat
  | (.string bytes, d) => bytes.length + uptoBulk d + 1
  | (_, d) => uptoBulk d + 1
 end
def uptoSmall : (H : Type) → List (DataW H) → Bool := fun _ ds => decide (uptoBulkAll ds ≤ 1048576)
def OpenSpec.upto (s : _root_.Go.ChangeSpec) : _root_.Go.OpenSpec := { _root_.Go.OpenSpec.ofChange s with cond := some uptoSmall }

/-- 'laws.FnExactIsUncut', WHERE WHAT IT READS IS OF BULK AT MOST 1048576: true; the input reads as it did. -/
def fnExactIsUncutUptoRow : OpenClaim := { program := "ytjdelolfbnaiaaa", sum := "b62f8536b6183c5cd445afca0aa8d52adfa38bf632c3e77e5f75470c3b2b75ee", func := "loop.example/g03305/laws.FnExactIsUncut", spec := "fnExactIsUncut", inPlace := ["internal/bytealg.CountString", "internal/bytealg.IndexByteString", "internal/bytealg.IndexString"], named := ["internal/bytealg.MaxLen"], apart := false, narrowed := true }
def FnExactIsUncutUptoSaid : Prop := fnExactIsUncutUptoRow.holds Try.pinned (OpenSpec.upto fnExactIsUncutSpec)

/-- 'laws.FnExactReadCreases', WHERE WHAT IT READS IS OF BULK AT MOST 1048576: true; the input reads as it did. -/
def fnExactReadCreasesUptoRow : OpenClaim := { program := "ytjdelolfbnaiaaa", sum := "b62f8536b6183c5cd445afca0aa8d52adfa38bf632c3e77e5f75470c3b2b75ee", func := "loop.example/g03305/laws.FnExactReadCreases", spec := "fnExactReadCreases", inPlace := ["internal/bytealg.CountString", "internal/bytealg.IndexByteString", "internal/bytealg.IndexString"], named := ["internal/bytealg.MaxLen"], apart := false, narrowed := true }
def FnExactReadCreasesUptoSaid : Prop := fnExactReadCreasesUptoRow.holds Try.pinned (OpenSpec.upto fnExactReadCreasesSpec)

/-- 'laws.FnExactCreaseAt', WHERE WHAT IT READS IS OF BULK AT MOST 1048576: true; the input reads as it did. -/
def fnExactCreaseAtUptoRow : OpenClaim := { program := "ytjdelolfbnaiaaa", sum := "b62f8536b6183c5cd445afca0aa8d52adfa38bf632c3e77e5f75470c3b2b75ee", func := "loop.example/g03305/laws.FnExactCreaseAt", spec := "fnExactCreaseAt", inPlace := ["internal/bytealg.CountString", "internal/bytealg.IndexByteString", "internal/bytealg.IndexString"], named := ["internal/bytealg.MaxLen"], apart := false, narrowed := true }
def FnExactCreaseAtUptoSaid : Prop := fnExactCreaseAtUptoRow.holds Try.pinned (OpenSpec.upto fnExactCreaseAtSpec)

/-- 'laws.FnExactCreaseText', WHERE WHAT IT READS IS OF BULK AT MOST 1048576: true; the input reads as it did. -/
def fnExactCreaseTextUptoRow : OpenClaim := { program := "ytjdelolfbnaiaaa", sum := "b62f8536b6183c5cd445afca0aa8d52adfa38bf632c3e77e5f75470c3b2b75ee", func := "loop.example/g03305/laws.FnExactCreaseText", spec := "fnExactCreaseText", inPlace := ["internal/bytealg.CountString", "internal/bytealg.IndexByteString", "internal/bytealg.IndexString"], named := ["internal/bytealg.MaxLen"], apart := false, narrowed := true }
def FnExactCreaseTextUptoSaid : Prop := fnExactCreaseTextUptoRow.holds Try.pinned (OpenSpec.upto fnExactCreaseTextSpec)

/-- 'laws.FnExactWidestBox', WHERE WHAT IT READS IS OF BULK AT MOST 1048576: true; the input reads as it did. -/
def fnExactWidestBoxUptoRow : OpenClaim := { program := "ytjdelolfbnaiaaa", sum := "b62f8536b6183c5cd445afca0aa8d52adfa38bf632c3e77e5f75470c3b2b75ee", func := "loop.example/g03305/laws.FnExactWidestBox", spec := "fnExactWidestBox", inPlace := ["internal/bytealg.CountString", "internal/bytealg.IndexByteString", "internal/bytealg.IndexString"], named := ["internal/bytealg.MaxLen"], apart := false, narrowed := true }
def FnExactWidestBoxUptoSaid : Prop := fnExactWidestBoxUptoRow.holds Try.pinned (OpenSpec.upto fnExactWidestBoxSpec)

/-- 'laws.FnExactCountCreases', WHERE WHAT IT READS IS OF BULK AT MOST 1048576: true; the input reads as it did. -/
def fnExactCountCreasesUptoRow : OpenClaim := { program := "ytjdelolfbnaiaaa", sum := "b62f8536b6183c5cd445afca0aa8d52adfa38bf632c3e77e5f75470c3b2b75ee", func := "loop.example/g03305/laws.FnExactCountCreases", spec := "fnExactCountCreases", inPlace := ["internal/bytealg.CountString", "internal/bytealg.IndexByteString", "internal/bytealg.IndexString"], named := ["internal/bytealg.MaxLen"], apart := false, narrowed := true }
def FnExactCountCreasesUptoSaid : Prop := fnExactCountCreasesUptoRow.holds Try.pinned (OpenSpec.upto fnExactCountCreasesSpec)

/-- 'laws.FnExactCountSteps', WHERE WHAT IT READS IS OF BULK AT MOST 1048576: true; the input reads as it did. -/
def fnExactCountStepsUptoRow : OpenClaim := { program := "ytjdelolfbnaiaaa", sum := "b62f8536b6183c5cd445afca0aa8d52adfa38bf632c3e77e5f75470c3b2b75ee", func := "loop.example/g03305/laws.FnExactCountSteps", spec := "fnExactCountSteps", inPlace := ["internal/bytealg.CountString", "internal/bytealg.IndexByteString", "internal/bytealg.IndexString"], unfollowed := true, recurses := true, named := ["internal/bytealg.MaxLen"], apart := false, narrowed := true }
def FnExactCountStepsUptoSaid : Prop := fnExactCountStepsUptoRow.holds Try.pinned (OpenSpec.upto fnExactCountStepsSpec)

/-- 'laws.FnExactVolumeOf', WHERE WHAT IT READS IS OF BULK AT MOST 1048576: true; the input reads as it did. -/
def fnExactVolumeOfUptoRow : OpenClaim := { program := "ytjdelolfbnaiaaa", sum := "b62f8536b6183c5cd445afca0aa8d52adfa38bf632c3e77e5f75470c3b2b75ee", func := "loop.example/g03305/laws.FnExactVolumeOf", spec := "fnExactVolumeOf", inPlace := ["internal/bytealg.CountString", "internal/bytealg.IndexByteString", "internal/bytealg.IndexString"], named := ["internal/bytealg.MaxLen"], apart := false, narrowed := true }
def FnExactVolumeOfUptoSaid : Prop := fnExactVolumeOfUptoRow.holds Try.pinned (OpenSpec.upto fnExactVolumeOfSpec)

/-- 'laws.FnExactThickness', WHERE WHAT IT READS IS OF BULK AT MOST 1048576: true; the input reads as it did. -/
def fnExactThicknessUptoRow : OpenClaim := { program := "ytjdelolfbnaiaaa", sum := "b62f8536b6183c5cd445afca0aa8d52adfa38bf632c3e77e5f75470c3b2b75ee", func := "loop.example/g03305/laws.FnExactThickness", spec := "fnExactThickness", inPlace := ["internal/bytealg.CountString", "internal/bytealg.IndexByteString", "internal/bytealg.IndexString"], named := ["internal/bytealg.MaxLen"], apart := false, narrowed := true }
def FnExactThicknessUptoSaid : Prop := fnExactThicknessUptoRow.holds Try.pinned (OpenSpec.upto fnExactThicknessSpec)

end Rows
end Go.Proofs.Ytjdelolfbnaiaaa
