/-
  No cell of these rows narrows 'for every input' (looked for: loops, veiled, ifaces, maps, wideKeys, modest, calm, conditions, laid).
  DERIVED. THE GIVEN ROWS OF THIS SEAT. 6 by the template 'for every input the law returns true; each argument reads behind the call as it read before'; 0 by the template 'total and deterministic' (their statements: YtajopobhpfajfaaTotals.lean).
  GIVEN WITH THE SEED: the statements are not yours to turn. If you find one false, say at which input.
  Laid BY PROGRAM, IN A SANDBOX (cutbox-rows.mjs): the forced cells as the released guide's own fill.sh prints them over the translation 7db7359852c4a9f3… (all of the seat's roots in one cut). By AI agents, Wed Nov 11 2026. No macro, syntax, notation, axiom, sorry.
-/
import Derived.Test.YtajopobhpfajfaaChecked
import GoSem.Claim
import GoSem.ClaimJoined
import GoSem.ClaimMapViews
import Derived.JoinedTies
import Derived.KernelRfl
namespace Go.Proofs.Ytajopobhpfajfaa
/- THE CELL 'sum', in the pinned program and in every row, IS THE sha256 OF THE DUMP (.gsa) THAT YtajopobhpfajfaaProg.lean LOADS. Nothing in Lean hashes anything: it is a label: what it is worth is what the hold of that sum in a sandbox is worth. -/
noncomputable def Try.pinned : Pinned := { name := "ytajopobhpfajfaa", sum := "7db7359852c4a9f3b3e11d856b3db88cb07a72b5790da8d0d6229026c01c0ed1", checked := Try.checked }
namespace Rows
def none {H : Type} : Left H := { results := [], args := [] }

/-- 'laws.FnExactConstants': WHATEVER THE INPUT: true; the input reads as it did. -/
def fnExactConstantsSpec : ChangeSpec := { name := "fnExactConstants", fn := fun _ => fun
  | [] => { results := [.lit (.bool true)], args := [] }
  | _ => none }
def fnExactConstantsRow : OpenClaim := { program := "ytajopobhpfajfaa", sum := "7db7359852c4a9f3b3e11d856b3db88cb07a72b5790da8d0d6229026c01c0ed1", func := "loop.example/g01376/laws.FnExactConstants", spec := "fnExactConstants", apart := false }
def FnExactConstantsSaid : Prop := fnExactConstantsRow.holds Try.pinned (OpenSpec.ofChange fnExactConstantsSpec)

/-- ITS FALSE NEIGHBOUR: 'it returns false'. Refute it at one input. -/
def fnExactConstantsWrong : ChangeSpec := { name := "fnExactConstants", fn := fun _ => fun
  | [] => { results := [.lit (.bool false)], args := [] }
  | _ => none }
def FnExactConstantsWrongFalsely : Prop := fnExactConstantsRow.holds Try.pinned (OpenSpec.ofChange fnExactConstantsWrong)

/-- 'laws.FnExactCodeName': WHATEVER THE INPUT: true; the input reads as it did. -/
def fnExactCodeNameSpec : ChangeSpec := { name := "fnExactCodeName", fn := fun _ => fun
  | [d] => { results := [.lit (.bool true)], args := [d] }
  | _ => none }
def fnExactCodeNameRow : OpenClaim := { program := "ytajopobhpfajfaa", sum := "7db7359852c4a9f3b3e11d856b3db88cb07a72b5790da8d0d6229026c01c0ed1", func := "loop.example/g01376/laws.FnExactCodeName", spec := "fnExactCodeName", apart := false }
def FnExactCodeNameSaid : Prop := fnExactCodeNameRow.holds Try.pinned (OpenSpec.ofChange fnExactCodeNameSpec)

/-- ITS FALSE NEIGHBOUR: 'it returns false'. Refute it at one input. -/
def fnExactCodeNameWrong : ChangeSpec := { name := "fnExactCodeName", fn := fun _ => fun
  | [d] => { results := [.lit (.bool false)], args := [d] }
  | _ => none }
def FnExactCodeNameWrongFalsely : Prop := fnExactCodeNameRow.holds Try.pinned (OpenSpec.ofChange fnExactCodeNameWrong)

/-- 'laws.FnExactSameRoof': WHATEVER THE INPUT: true; the input reads as it did. -/
def fnExactSameRoofSpec : ChangeSpec := { name := "fnExactSameRoof", fn := fun _ => fun
  | [d1, d2] => { results := [.lit (.bool true)], args := [d1, d2] }
  | _ => none }
def fnExactSameRoofRow : OpenClaim := { program := "ytajopobhpfajfaa", sum := "7db7359852c4a9f3b3e11d856b3db88cb07a72b5790da8d0d6229026c01c0ed1", func := "loop.example/g01376/laws.FnExactSameRoof", spec := "fnExactSameRoof", apart := false }
def FnExactSameRoofSaid : Prop := fnExactSameRoofRow.holds Try.pinned (OpenSpec.ofChange fnExactSameRoofSpec)

/-- ITS FALSE NEIGHBOUR: 'it returns false'. Refute it at one input. -/
def fnExactSameRoofWrong : ChangeSpec := { name := "fnExactSameRoof", fn := fun _ => fun
  | [d1, d2] => { results := [.lit (.bool false)], args := [d1, d2] }
  | _ => none }
def FnExactSameRoofWrongFalsely : Prop := fnExactSameRoofRow.holds Try.pinned (OpenSpec.ofChange fnExactSameRoofWrong)

/-- 'laws.FnExactWholeRoof': WHATEVER THE INPUT: true; the input reads as it did. -/
def fnExactWholeRoofSpec : ChangeSpec := { name := "fnExactWholeRoof", fn := fun _ => fun
  | [d1, d2, d3] => { results := [.lit (.bool true)], args := [d1, d2, d3] }
  | _ => none }
def fnExactWholeRoofRow : OpenClaim := { program := "ytajopobhpfajfaa", sum := "7db7359852c4a9f3b3e11d856b3db88cb07a72b5790da8d0d6229026c01c0ed1", func := "loop.example/g01376/laws.FnExactWholeRoof", spec := "fnExactWholeRoof", apart := false }
def FnExactWholeRoofSaid : Prop := fnExactWholeRoofRow.holds Try.pinned (OpenSpec.ofChange fnExactWholeRoofSpec)

/-- ITS FALSE NEIGHBOUR: 'it returns false'. Refute it at one input. -/
def fnExactWholeRoofWrong : ChangeSpec := { name := "fnExactWholeRoof", fn := fun _ => fun
  | [d1, d2, d3] => { results := [.lit (.bool false)], args := [d1, d2, d3] }
  | _ => none }
def FnExactWholeRoofWrongFalsely : Prop := fnExactWholeRoofRow.holds Try.pinned (OpenSpec.ofChange fnExactWholeRoofWrong)

/-- 'laws.FnExactValidRoof': WHATEVER THE INPUT: true; the input reads as it did. -/
def fnExactValidRoofSpec : ChangeSpec := { name := "fnExactValidRoof", fn := fun _ => fun
  | [d] => { results := [.lit (.bool true)], args := [d] }
  | _ => none }
def fnExactValidRoofRow : OpenClaim := { program := "ytajopobhpfajfaa", sum := "7db7359852c4a9f3b3e11d856b3db88cb07a72b5790da8d0d6229026c01c0ed1", func := "loop.example/g01376/laws.FnExactValidRoof", spec := "fnExactValidRoof", apart := false }
def FnExactValidRoofSaid : Prop := fnExactValidRoofRow.holds Try.pinned (OpenSpec.ofChange fnExactValidRoofSpec)

/-- ITS FALSE NEIGHBOUR: 'it returns false'. Refute it at one input. -/
def fnExactValidRoofWrong : ChangeSpec := { name := "fnExactValidRoof", fn := fun _ => fun
  | [d] => { results := [.lit (.bool false)], args := [d] }
  | _ => none }
def FnExactValidRoofWrongFalsely : Prop := fnExactValidRoofRow.holds Try.pinned (OpenSpec.ofChange fnExactValidRoofWrong)

/-- 'laws.FnExactSameShape': WHATEVER THE INPUT: true; the input reads as it did. -/
def fnExactSameShapeSpec : ChangeSpec := { name := "fnExactSameShape", fn := fun _ => fun
  | [d1, d2] => { results := [.lit (.bool true)], args := [d1, d2] }
  | _ => none }
def fnExactSameShapeRow : OpenClaim := { program := "ytajopobhpfajfaa", sum := "7db7359852c4a9f3b3e11d856b3db88cb07a72b5790da8d0d6229026c01c0ed1", func := "loop.example/g01376/laws.FnExactSameShape", spec := "fnExactSameShape", apart := false }
def FnExactSameShapeSaid : Prop := fnExactSameShapeRow.holds Try.pinned (OpenSpec.ofChange fnExactSameShapeSpec)

/-- ITS FALSE NEIGHBOUR: 'it returns false'. Refute it at one input. -/
def fnExactSameShapeWrong : ChangeSpec := { name := "fnExactSameShape", fn := fun _ => fun
  | [d1, d2] => { results := [.lit (.bool false)], args := [d1, d2] }
  | _ => none }
def FnExactSameShapeWrongFalsely : Prop := fnExactSameShapeRow.holds Try.pinned (OpenSpec.ofChange fnExactSameShapeWrong)

/- THE SECOND FORM. 'bulk': how many values and letters a reading holds, each counted each time it is reached (what is shared counts as often as it is met; a slice's spare places count too). A statement '..UptoSaid' is the law's where the arguments, and the package variables that the reading takes, are together of bulk at most 1048576: NARROWER than '..Said'. Prove '..Said' where nothing that the law and all that it calls make is longer than what came in: it says more and counts as full. Else prove '..UptoSaid'. A law counts once. -/
mutual
def uptoBulk {H : Type} : DataW H → Nat
  | .lit (.string bytes) => bytes.length + 1
  | .lit _ => 1
  | .nil => 1
  | .ptr d => uptoBulk d + 1
  | .slice elems spare => uptoBulkAll elems + uptoBulkAll spare + 1
  | .agg parts => uptoBulkAll parts + 1
  | .iface _ d => uptoBulk d + 1
  | .map entries => uptoBulkEntries entries + 1
  | .held _ => 1
def uptoBulkAll {H : Type} : List (DataW H) → Nat
  | [] => 0
  | d :: r => uptoBulk d + uptoBulkAll r
def uptoBulkEntries {H : Type} : List (Lit × DataW H) → Nat
  | [] => 0
  | x :: r => uptoBulkEntry x + uptoBulkEntries r
def uptoBulkEntry {H : Type} : Lit × DataW H → Nat
  | (.string bytes, d) => bytes.length + uptoBulk d + 1
  | (_, d) => uptoBulk d + 1
 end
def uptoSmall : (H : Type) → List (DataW H) → Bool := fun _ ds => decide (uptoBulkAll ds ≤ 1048576)
def OpenSpec.upto (s : _root_.Go.ChangeSpec) : _root_.Go.OpenSpec := { _root_.Go.OpenSpec.ofChange s with cond := some uptoSmall }

/-- 'laws.FnExactConstants', WHERE WHAT IT READS IS OF BULK AT MOST 1048576: true; the input reads as it did. -/
def fnExactConstantsUptoRow : OpenClaim := { program := "ytajopobhpfajfaa", sum := "7db7359852c4a9f3b3e11d856b3db88cb07a72b5790da8d0d6229026c01c0ed1", func := "loop.example/g01376/laws.FnExactConstants", spec := "fnExactConstants", apart := false, narrowed := true }
def FnExactConstantsUptoSaid : Prop := fnExactConstantsUptoRow.holds Try.pinned (OpenSpec.upto fnExactConstantsSpec)

/-- 'laws.FnExactCodeName', WHERE WHAT IT READS IS OF BULK AT MOST 1048576: true; the input reads as it did. -/
def fnExactCodeNameUptoRow : OpenClaim := { program := "ytajopobhpfajfaa", sum := "7db7359852c4a9f3b3e11d856b3db88cb07a72b5790da8d0d6229026c01c0ed1", func := "loop.example/g01376/laws.FnExactCodeName", spec := "fnExactCodeName", apart := false, narrowed := true }
def FnExactCodeNameUptoSaid : Prop := fnExactCodeNameUptoRow.holds Try.pinned (OpenSpec.upto fnExactCodeNameSpec)

/-- 'laws.FnExactSameRoof', WHERE WHAT IT READS IS OF BULK AT MOST 1048576: true; the input reads as it did. -/
def fnExactSameRoofUptoRow : OpenClaim := { program := "ytajopobhpfajfaa", sum := "7db7359852c4a9f3b3e11d856b3db88cb07a72b5790da8d0d6229026c01c0ed1", func := "loop.example/g01376/laws.FnExactSameRoof", spec := "fnExactSameRoof", apart := false, narrowed := true }
def FnExactSameRoofUptoSaid : Prop := fnExactSameRoofUptoRow.holds Try.pinned (OpenSpec.upto fnExactSameRoofSpec)

/-- 'laws.FnExactWholeRoof', WHERE WHAT IT READS IS OF BULK AT MOST 1048576: true; the input reads as it did. -/
def fnExactWholeRoofUptoRow : OpenClaim := { program := "ytajopobhpfajfaa", sum := "7db7359852c4a9f3b3e11d856b3db88cb07a72b5790da8d0d6229026c01c0ed1", func := "loop.example/g01376/laws.FnExactWholeRoof", spec := "fnExactWholeRoof", apart := false, narrowed := true }
def FnExactWholeRoofUptoSaid : Prop := fnExactWholeRoofUptoRow.holds Try.pinned (OpenSpec.upto fnExactWholeRoofSpec)

/-- 'laws.FnExactValidRoof', WHERE WHAT IT READS IS OF BULK AT MOST 1048576: true; the input reads as it did. -/
def fnExactValidRoofUptoRow : OpenClaim := { program := "ytajopobhpfajfaa", sum := "7db7359852c4a9f3b3e11d856b3db88cb07a72b5790da8d0d6229026c01c0ed1", func := "loop.example/g01376/laws.FnExactValidRoof", spec := "fnExactValidRoof", apart := false, narrowed := true }
def FnExactValidRoofUptoSaid : Prop := fnExactValidRoofUptoRow.holds Try.pinned (OpenSpec.upto fnExactValidRoofSpec)

/-- 'laws.FnExactSameShape', WHERE WHAT IT READS IS OF BULK AT MOST 1048576: true; the input reads as it did. -/
def fnExactSameShapeUptoRow : OpenClaim := { program := "ytajopobhpfajfaa", sum := "7db7359852c4a9f3b3e11d856b3db88cb07a72b5790da8d0d6229026c01c0ed1", func := "loop.example/g01376/laws.FnExactSameShape", spec := "fnExactSameShape", apart := false, narrowed := true }
def FnExactSameShapeUptoSaid : Prop := fnExactSameShapeUptoRow.holds Try.pinned (OpenSpec.upto fnExactSameShapeSpec)

end Rows
end Go.Proofs.Ytajopobhpfajfaa
