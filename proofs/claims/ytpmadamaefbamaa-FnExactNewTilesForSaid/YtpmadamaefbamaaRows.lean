/-
  No cell of these rows narrows 'for every input' (looked for: loops, veiled, ifaces, maps, wideKeys, modest, calm, conditions, laid).
  DERIVED. THE GIVEN ROWS OF THIS SEAT. 3 by the template 'for every input the law returns true; each argument reads behind the call as it read before'; 0 by the template 'total and deterministic' (their statements: YtpmadamaefbamaaTotals.lean).
  GIVEN WITH THE SEED: the statements are not yours to turn. If you find one false, say at which input.
  Laid BY PROGRAM, IN A SANDBOX (cutbox-rows.mjs): the forced cells as the released guide's own fill.sh prints them over the translation dbaf7e72465e001c… (all of the seat's roots in one cut). By AI agents, Wed Nov 11 2026. No macro, syntax, notation, axiom, sorry.
-/
import Derived.Test.YtpmadamaefbamaaChecked
import GoSem.Claim
import GoSem.ClaimJoined
import GoSem.ClaimMapViews
import Derived.JoinedTies
import Derived.KernelRfl
namespace Go.Proofs.Ytpmadamaefbamaa
/- THE CELL 'sum', in the pinned program and in every row, IS THE sha256 OF THE DUMP (.gsa) THAT YtpmadamaefbamaaProg.lean LOADS. Nothing in Lean hashes anything: it is a label: what it is worth is what the hold of that sum in a sandbox is worth. -/
noncomputable def Try.pinned : Pinned := { name := "ytpmadamaefbamaa", sum := "dbaf7e72465e001c02ae175adce279ede2eaf769546bde9228ff46577fbecfd7", checked := Try.checked }
namespace Rows
def none {H : Type} : Left H := { results := [], args := [] }

/-- 'laws.FnExactCoverFrom': WHATEVER THE INPUT: true; the input reads as it did. -/
def fnExactCoverFromSpec : ChangeSpec := { name := "fnExactCoverFrom", fn := fun _ => fun
  | [d1, d2] => { results := [.lit (.bool true)], args := [d1, d2] }
  | _ => none }
def fnExactCoverFromRow : OpenClaim := { program := "ytpmadamaefbamaa", sum := "dbaf7e72465e001c02ae175adce279ede2eaf769546bde9228ff46577fbecfd7", func := "loop.example/g01376/laws.FnExactCoverFrom", spec := "fnExactCoverFrom", unfollowed := true, recurses := true, apart := false }
def FnExactCoverFromSaid : Prop := fnExactCoverFromRow.holds Try.pinned (OpenSpec.ofChange fnExactCoverFromSpec)

/-- ITS FALSE NEIGHBOUR: 'it returns false'. Refute it at one input. -/
def fnExactCoverFromWrong : ChangeSpec := { name := "fnExactCoverFrom", fn := fun _ => fun
  | [d1, d2] => { results := [.lit (.bool false)], args := [d1, d2] }
  | _ => none }
def FnExactCoverFromWrongFalsely : Prop := fnExactCoverFromRow.holds Try.pinned (OpenSpec.ofChange fnExactCoverFromWrong)

/-- 'laws.FnExactNewTilesFor': WHATEVER THE INPUT: true; the input reads as it did. -/
def fnExactNewTilesForSpec : ChangeSpec := { name := "fnExactNewTilesFor", fn := fun _ => fun
  | [d1, d2] => { results := [.lit (.bool true)], args := [d1, d2] }
  | _ => none }
def fnExactNewTilesForRow : OpenClaim := { program := "ytpmadamaefbamaa", sum := "dbaf7e72465e001c02ae175adce279ede2eaf769546bde9228ff46577fbecfd7", func := "loop.example/g01376/laws.FnExactNewTilesFor", spec := "fnExactNewTilesFor", unfollowed := true, recurses := true, apart := false }
def FnExactNewTilesForSaid : Prop := fnExactNewTilesForRow.holds Try.pinned (OpenSpec.ofChange fnExactNewTilesForSpec)

/-- ITS FALSE NEIGHBOUR: 'it returns false'. Refute it at one input. -/
def fnExactNewTilesForWrong : ChangeSpec := { name := "fnExactNewTilesFor", fn := fun _ => fun
  | [d1, d2] => { results := [.lit (.bool false)], args := [d1, d2] }
  | _ => none }
def FnExactNewTilesForWrongFalsely : Prop := fnExactNewTilesForRow.holds Try.pinned (OpenSpec.ofChange fnExactNewTilesForWrong)

/-- 'laws.FnExactSameShape': WHATEVER THE INPUT: true; the input reads as it did. -/
def fnExactSameShapeSpec : ChangeSpec := { name := "fnExactSameShape", fn := fun _ => fun
  | [d1, d2] => { results := [.lit (.bool true)], args := [d1, d2] }
  | _ => none }
def fnExactSameShapeRow : OpenClaim := { program := "ytpmadamaefbamaa", sum := "dbaf7e72465e001c02ae175adce279ede2eaf769546bde9228ff46577fbecfd7", func := "loop.example/g01376/laws.FnExactSameShape", spec := "fnExactSameShape", apart := false }
def FnExactSameShapeSaid : Prop := fnExactSameShapeRow.holds Try.pinned (OpenSpec.ofChange fnExactSameShapeSpec)

/-- ITS FALSE NEIGHBOUR: 'it returns false'. Refute it at one input. -/
def fnExactSameShapeWrong : ChangeSpec := { name := "fnExactSameShape", fn := fun _ => fun
  | [d1, d2] => { results := [.lit (.bool false)], args := [d1, d2] }
  | _ => none }
def FnExactSameShapeWrongFalsely : Prop := fnExactSameShapeRow.holds Try.pinned (OpenSpec.ofChange fnExactSameShapeWrong)

/- THE SECOND FORM. 'bulk': how many values and letters a reading holds, each counted each time it is reached (what is shared counts as often as it is met; a slice's spare places count too). A statement '..UptoSaid' is the law's where the arguments, and the package variables that the reading takes, are together of bulk at most 1048576: NARROWER than '..Said'. Prove '..Said' where nothing that the law and all that it calls make is longer than what came in: it says more and counts as full. Else prove '..UptoSaid'. A law counts once. -/
mutual
def uptoBulk {H : Type} : DataW H → Nat
  | .lit (.string bytes) => bytes.length + 1
  | .lit _ => 1
  | .nil => 1
  | .ptr d => uptoBulk d + 1
  | .slice elems spare => uptoBulkAll elems + uptoBulkAll spare + 1
  | .agg parts => uptoBulkAll parts + 1
  | .iface _ d => uptoBulk d + 1
  | .map entries => uptoBulkEntries entries + 1
  | .held _ => 1
def uptoBulkAll {H : Type} : List (DataW H) → Nat
  | [] => 0
  | d :: r => uptoBulk d + uptoBulkAll r
def uptoBulkEntries {H : Type} : List (Lit × DataW H) → Nat
  | [] => 0
  | x :: r => uptoBulkEntry x + uptoBulkEntries r
def uptoBulkEntry {H : Type} : Lit × DataW H → Nat
  | (.string bytes, d) => bytes.length + uptoBulk d + 1
  | (_, d) => uptoBulk d + 1
 end
def uptoSmall : (H : Type) → List (DataW H) → Bool := fun _ ds => decide (uptoBulkAll ds ≤ 1048576)
def OpenSpec.upto (s : _root_.Go.ChangeSpec) : _root_.Go.OpenSpec := { _root_.Go.OpenSpec.ofChange s with cond := some uptoSmall }

/-- 'laws.FnExactCoverFrom', WHERE WHAT IT READS IS OF BULK AT MOST 1048576: true; the input reads as it did. -/
def fnExactCoverFromUptoRow : OpenClaim := { program := "ytpmadamaefbamaa", sum := "dbaf7e72465e001c02ae175adce279ede2eaf769546bde9228ff46577fbecfd7", func := "loop.example/g01376/laws.FnExactCoverFrom", spec := "fnExactCoverFrom", unfollowed := true, recurses := true, apart := false, narrowed := true }
def FnExactCoverFromUptoSaid : Prop := fnExactCoverFromUptoRow.holds Try.pinned (OpenSpec.upto fnExactCoverFromSpec)

/-- 'laws.FnExactNewTilesFor', WHERE WHAT IT READS IS OF BULK AT MOST 1048576: true; the input reads as it did. -/
def fnExactNewTilesForUptoRow : OpenClaim := { program := "ytpmadamaefbamaa", sum := "dbaf7e72465e001c02ae175adce279ede2eaf769546bde9228ff46577fbecfd7", func := "loop.example/g01376/laws.FnExactNewTilesFor", spec := "fnExactNewTilesFor", unfollowed := true, recurses := true, apart := false, narrowed := true }
def FnExactNewTilesForUptoSaid : Prop := fnExactNewTilesForUptoRow.holds Try.pinned (OpenSpec.upto fnExactNewTilesForSpec)

/-- 'laws.FnExactSameShape', WHERE WHAT IT READS IS OF BULK AT MOST 1048576: true; the input reads as it did. -/
def fnExactSameShapeUptoRow : OpenClaim := { program := "ytpmadamaefbamaa", sum := "dbaf7e72465e001c02ae175adce279ede2eaf769546bde9228ff46577fbecfd7", func := "loop.example/g01376/laws.FnExactSameShape", spec := "fnExactSameShape", apart := false, narrowed := true }
def FnExactSameShapeUptoSaid : Prop := fnExactSameShapeUptoRow.holds Try.pinned (OpenSpec.upto fnExactSameShapeSpec)

end Rows
end Go.Proofs.Ytpmadamaefbamaa
