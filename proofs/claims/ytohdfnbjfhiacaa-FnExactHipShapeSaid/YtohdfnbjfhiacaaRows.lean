/-
  No cell of these rows narrows 'for every input' (looked for: loops, veiled, ifaces, maps, wideKeys, modest, calm, conditions, laid).
  DERIVED. THE GIVEN ROWS OF THIS SEAT. 6 by the template 'for every input the law returns true; each argument reads behind the call as it read before'; 0 by the template 'total and deterministic' (their statements: YtohdfnbjfhiacaaTotals.lean).
  GIVEN WITH THE SEED: the statements are not yours to turn. If you find one false, say at which input.
  Laid BY PROGRAM, IN A SANDBOX (cutbox-rows.mjs): the forced cells as the released guide's own fill.sh prints them over the translation afa598d7298d16f0… (all of the seat's roots in one cut). By AI agents, Wed Nov 11 2026. No macro, syntax, notation, axiom, sorry.
-/
import Derived.Test.YtohdfnbjfhiacaaChecked
import GoSem.Claim
import GoSem.ClaimJoined
import GoSem.ClaimMapViews
import Derived.JoinedTies
import Derived.KernelRfl
namespace Go.Proofs.Ytohdfnbjfhiacaa
/- THE CELL 'sum', in the pinned program and in every row, IS THE sha256 OF THE DUMP (.gsa) THAT YtohdfnbjfhiacaaProg.lean LOADS. Nothing in Lean hashes anything: it is a label: what it is worth is what the hold of that sum in a sandbox is worth. -/
noncomputable def Try.pinned : Pinned := { name := "ytohdfnbjfhiacaa", sum := "afa598d7298d16f032bf2bf82b44431dd997946f4e649e5193b7f6c4cf7548b0", checked := Try.checked }
namespace Rows
def none {H : Type} : Left H := { results := [], args := [] }

/-- 'laws.FnExactValidShape': WHATEVER THE INPUT: true; the input reads as it did. -/
def fnExactValidShapeSpec : ChangeSpec := { name := "fnExactValidShape", fn := fun _ => fun
  | [d] => { results := [.lit (.bool true)], args := [d] }
  | _ => none }
def fnExactValidShapeRow : OpenClaim := { program := "ytohdfnbjfhiacaa", sum := "afa598d7298d16f032bf2bf82b44431dd997946f4e649e5193b7f6c4cf7548b0", func := "loop.example/g01376/laws.FnExactValidShape", spec := "fnExactValidShape", unfollowed := true, recurses := true, apart := false }
def FnExactValidShapeSaid : Prop := fnExactValidShapeRow.holds Try.pinned (OpenSpec.ofChange fnExactValidShapeSpec)

/-- ITS FALSE NEIGHBOUR: 'it returns false'. Refute it at one input. -/
def fnExactValidShapeWrong : ChangeSpec := { name := "fnExactValidShape", fn := fun _ => fun
  | [d] => { results := [.lit (.bool false)], args := [d] }
  | _ => none }
def FnExactValidShapeWrongFalsely : Prop := fnExactValidShapeRow.holds Try.pinned (OpenSpec.ofChange fnExactValidShapeWrong)

/-- 'laws.FnExactHipShape': WHATEVER THE INPUT: true; the input reads as it did. -/
def fnExactHipShapeSpec : ChangeSpec := { name := "fnExactHipShape", fn := fun _ => fun
  | [d1, d2, d3, d4, d5] => { results := [.lit (.bool true)], args := [d1, d2, d3, d4, d5] }
  | _ => none }
def fnExactHipShapeRow : OpenClaim := { program := "ytohdfnbjfhiacaa", sum := "afa598d7298d16f032bf2bf82b44431dd997946f4e649e5193b7f6c4cf7548b0", func := "loop.example/g01376/laws.FnExactHipShape", spec := "fnExactHipShape", unfollowed := true, recurses := true, apart := false }
def FnExactHipShapeSaid : Prop := fnExactHipShapeRow.holds Try.pinned (OpenSpec.ofChange fnExactHipShapeSpec)

/-- ITS FALSE NEIGHBOUR: 'it returns false'. Refute it at one input. -/
def fnExactHipShapeWrong : ChangeSpec := { name := "fnExactHipShape", fn := fun _ => fun
  | [d1, d2, d3, d4, d5] => { results := [.lit (.bool false)], args := [d1, d2, d3, d4, d5] }
  | _ => none }
def FnExactHipShapeWrongFalsely : Prop := fnExactHipShapeRow.holds Try.pinned (OpenSpec.ofChange fnExactHipShapeWrong)

/-- 'laws.FnExactUnitsOf': WHATEVER THE INPUT: true; the input reads as it did. -/
def fnExactUnitsOfSpec : ChangeSpec := { name := "fnExactUnitsOf", fn := fun _ => fun
  | [d] => { results := [.lit (.bool true)], args := [d] }
  | _ => none }
def fnExactUnitsOfRow : OpenClaim := { program := "ytohdfnbjfhiacaa", sum := "afa598d7298d16f032bf2bf82b44431dd997946f4e649e5193b7f6c4cf7548b0", func := "loop.example/g01376/laws.FnExactUnitsOf", spec := "fnExactUnitsOf", unfollowed := true, recurses := true, apart := false }
def FnExactUnitsOfSaid : Prop := fnExactUnitsOfRow.holds Try.pinned (OpenSpec.ofChange fnExactUnitsOfSpec)

/-- ITS FALSE NEIGHBOUR: 'it returns false'. Refute it at one input. -/
def fnExactUnitsOfWrong : ChangeSpec := { name := "fnExactUnitsOf", fn := fun _ => fun
  | [d] => { results := [.lit (.bool false)], args := [d] }
  | _ => none }
def FnExactUnitsOfWrongFalsely : Prop := fnExactUnitsOfRow.holds Try.pinned (OpenSpec.ofChange fnExactUnitsOfWrong)

/-- 'laws.FnExactMirrorShape': WHATEVER THE INPUT: true; the input reads as it did. -/
def fnExactMirrorShapeSpec : ChangeSpec := { name := "fnExactMirrorShape", fn := fun _ => fun
  | [d] => { results := [.lit (.bool true)], args := [d] }
  | _ => none }
def fnExactMirrorShapeRow : OpenClaim := { program := "ytohdfnbjfhiacaa", sum := "afa598d7298d16f032bf2bf82b44431dd997946f4e649e5193b7f6c4cf7548b0", func := "loop.example/g01376/laws.FnExactMirrorShape", spec := "fnExactMirrorShape", unfollowed := true, recurses := true, apart := false }
def FnExactMirrorShapeSaid : Prop := fnExactMirrorShapeRow.holds Try.pinned (OpenSpec.ofChange fnExactMirrorShapeSpec)

/-- ITS FALSE NEIGHBOUR: 'it returns false'. Refute it at one input. -/
def fnExactMirrorShapeWrong : ChangeSpec := { name := "fnExactMirrorShape", fn := fun _ => fun
  | [d] => { results := [.lit (.bool false)], args := [d] }
  | _ => none }
def FnExactMirrorShapeWrongFalsely : Prop := fnExactMirrorShapeRow.holds Try.pinned (OpenSpec.ofChange fnExactMirrorShapeWrong)

/-- 'laws.FnExactSlideShape': WHATEVER THE INPUT: true; the input reads as it did. -/
def fnExactSlideShapeSpec : ChangeSpec := { name := "fnExactSlideShape", fn := fun _ => fun
  | [d1, d2] => { results := [.lit (.bool true)], args := [d1, d2] }
  | _ => none }
def fnExactSlideShapeRow : OpenClaim := { program := "ytohdfnbjfhiacaa", sum := "afa598d7298d16f032bf2bf82b44431dd997946f4e649e5193b7f6c4cf7548b0", func := "loop.example/g01376/laws.FnExactSlideShape", spec := "fnExactSlideShape", unfollowed := true, recurses := true, apart := false }
def FnExactSlideShapeSaid : Prop := fnExactSlideShapeRow.holds Try.pinned (OpenSpec.ofChange fnExactSlideShapeSpec)

/-- ITS FALSE NEIGHBOUR: 'it returns false'. Refute it at one input. -/
def fnExactSlideShapeWrong : ChangeSpec := { name := "fnExactSlideShape", fn := fun _ => fun
  | [d1, d2] => { results := [.lit (.bool false)], args := [d1, d2] }
  | _ => none }
def FnExactSlideShapeWrongFalsely : Prop := fnExactSlideShapeRow.holds Try.pinned (OpenSpec.ofChange fnExactSlideShapeWrong)

/-- 'laws.FnExactWholeIn': WHATEVER THE INPUT: true; the input reads as it did. -/
def fnExactWholeInSpec : ChangeSpec := { name := "fnExactWholeIn", fn := fun _ => fun
  | [d] => { results := [.lit (.bool true)], args := [d] }
  | _ => none }
def fnExactWholeInRow : OpenClaim := { program := "ytohdfnbjfhiacaa", sum := "afa598d7298d16f032bf2bf82b44431dd997946f4e649e5193b7f6c4cf7548b0", func := "loop.example/g01376/laws.FnExactWholeIn", spec := "fnExactWholeIn", unfollowed := true, recurses := true, apart := false }
def FnExactWholeInSaid : Prop := fnExactWholeInRow.holds Try.pinned (OpenSpec.ofChange fnExactWholeInSpec)

/-- ITS FALSE NEIGHBOUR: 'it returns false'. Refute it at one input. -/
def fnExactWholeInWrong : ChangeSpec := { name := "fnExactWholeIn", fn := fun _ => fun
  | [d] => { results := [.lit (.bool false)], args := [d] }
  | _ => none }
def FnExactWholeInWrongFalsely : Prop := fnExactWholeInRow.holds Try.pinned (OpenSpec.ofChange fnExactWholeInWrong)

/- THE SECOND FORM. 'bulk': how many values and letters a reading holds, each counted each time it is reached (what is shared counts as often as it is met; a slice's spare places count too). A statement '..UptoSaid' is the law's where the arguments, and the package variables that the reading takes, are together of bulk at most 1048576: NARROWER than '..Said'. Prove '..Said' where nothing that the law and all that it calls make is longer than what came in: it says more and counts as full. Else prove '..UptoSaid'. A law counts once. -/
mutual
def uptoBulk {H : Type} : DataW H → Nat
  | .lit (.string bytes) => bytes.length + 1
  | .lit _ => 1
  | .nil => 1
  | .ptr d => uptoBulk d + 1
  | .slice elems spare => uptoBulkAll elems + uptoBulkAll spare + 1
  | .agg parts => uptoBulkAll parts + 1
  | .iface _ d => uptoBulk d + 1
  | .map entries => uptoBulkEntries entries + 1
  | .held _ => 1
def uptoBulkAll {H : Type} : List (DataW H) → Nat
  | [] => 0
  | d :: r => uptoBulk d + uptoBulkAll r
def uptoBulkEntries {H : Type} : List (Lit × DataW H) → Nat
  | [] => 0
  | x :: r => uptoBulkEntry x + uptoBulkEntries r
def uptoBulkEntry {H : Type} : Lit × DataW H → Nat
  | (.string bytes, d) => bytes.length + uptoBulk d + 1
  | (_, d) => uptoBulk d + 1
 end
def uptoSmall : (H : Type) → List (DataW H) → Bool := fun _ ds => decide (uptoBulkAll ds ≤ 1048576)
def OpenSpec.upto (s : _root_.Go.ChangeSpec) : _root_.Go.OpenSpec := { _root_.Go.OpenSpec.ofChange s with cond := some uptoSmall }

/-- 'laws.FnExactValidShape', WHERE WHAT IT READS IS OF BULK AT MOST 1048576: true; the input reads as it did. -/
def fnExactValidShapeUptoRow : OpenClaim := { program := "ytohdfnbjfhiacaa", sum := "afa598d7298d16f032bf2bf82b44431dd997946f4e649e5193b7f6c4cf7548b0", func := "loop.example/g01376/laws.FnExactValidShape", spec := "fnExactValidShape", unfollowed := true, recurses := true, apart := false, narrowed := true }
def FnExactValidShapeUptoSaid : Prop := fnExactValidShapeUptoRow.holds Try.pinned (OpenSpec.upto fnExactValidShapeSpec)

/-- 'laws.FnExactHipShape', WHERE WHAT IT READS IS OF BULK AT MOST 1048576: true; the input reads as it did. -/
def fnExactHipShapeUptoRow : OpenClaim := { program := "ytohdfnbjfhiacaa", sum := "afa598d7298d16f032bf2bf82b44431dd997946f4e649e5193b7f6c4cf7548b0", func := "loop.example/g01376/laws.FnExactHipShape", spec := "fnExactHipShape", unfollowed := true, recurses := true, apart := false, narrowed := true }
def FnExactHipShapeUptoSaid : Prop := fnExactHipShapeUptoRow.holds Try.pinned (OpenSpec.upto fnExactHipShapeSpec)

/-- 'laws.FnExactUnitsOf', WHERE WHAT IT READS IS OF BULK AT MOST 1048576: true; the input reads as it did. -/
def fnExactUnitsOfUptoRow : OpenClaim := { program := "ytohdfnbjfhiacaa", sum := "afa598d7298d16f032bf2bf82b44431dd997946f4e649e5193b7f6c4cf7548b0", func := "loop.example/g01376/laws.FnExactUnitsOf", spec := "fnExactUnitsOf", unfollowed := true, recurses := true, apart := false, narrowed := true }
def FnExactUnitsOfUptoSaid : Prop := fnExactUnitsOfUptoRow.holds Try.pinned (OpenSpec.upto fnExactUnitsOfSpec)

/-- 'laws.FnExactMirrorShape', WHERE WHAT IT READS IS OF BULK AT MOST 1048576: true; the input reads as it did. -/
def fnExactMirrorShapeUptoRow : OpenClaim := { program := "ytohdfnbjfhiacaa", sum := "afa598d7298d16f032bf2bf82b44431dd997946f4e649e5193b7f6c4cf7548b0", func := "loop.example/g01376/laws.FnExactMirrorShape", spec := "fnExactMirrorShape", unfollowed := true, recurses := true, apart := false, narrowed := true }
def FnExactMirrorShapeUptoSaid : Prop := fnExactMirrorShapeUptoRow.holds Try.pinned (OpenSpec.upto fnExactMirrorShapeSpec)

/-- 'laws.FnExactSlideShape', WHERE WHAT IT READS IS OF BULK AT MOST 1048576: true; the input reads as it did. -/
def fnExactSlideShapeUptoRow : OpenClaim := { program := "ytohdfnbjfhiacaa", sum := "afa598d7298d16f032bf2bf82b44431dd997946f4e649e5193b7f6c4cf7548b0", func := "loop.example/g01376/laws.FnExactSlideShape", spec := "fnExactSlideShape", unfollowed := true, recurses := true, apart := false, narrowed := true }
def FnExactSlideShapeUptoSaid : Prop := fnExactSlideShapeUptoRow.holds Try.pinned (OpenSpec.upto fnExactSlideShapeSpec)

/-- 'laws.FnExactWholeIn', WHERE WHAT IT READS IS OF BULK AT MOST 1048576: true; the input reads as it did. -/
def fnExactWholeInUptoRow : OpenClaim := { program := "ytohdfnbjfhiacaa", sum := "afa598d7298d16f032bf2bf82b44431dd997946f4e649e5193b7f6c4cf7548b0", func := "loop.example/g01376/laws.FnExactWholeIn", spec := "fnExactWholeIn", unfollowed := true, recurses := true, apart := false, narrowed := true }
def FnExactWholeInUptoSaid : Prop := fnExactWholeInUptoRow.holds Try.pinned (OpenSpec.upto fnExactWholeInSpec)

end Rows
end Go.Proofs.Ytohdfnbjfhiacaa
