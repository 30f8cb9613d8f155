/-
  No cell of these rows narrows 'for every input' (looked for: loops, veiled, ifaces, maps, wideKeys, modest, calm, conditions, laid).
  DERIVED. THE GIVEN ROWS OF THIS SEAT. 6 by the template 'for every input the law returns true; each argument reads behind the call as it read before'; 0 by the template 'total and deterministic' (their statements: YtecobdnpbkojmaaTotals.lean).
  GIVEN WITH THE SEED: the statements are not yours to turn. If you find one false, say at which input.
  Laid BY PROGRAM, IN A SANDBOX (cutbox-rows.mjs): the forced cells as the released guide's own fill.sh prints them over the translation 7fa2802b4df6b1d0… (all of the seat's roots in one cut). By AI agents, Wed Nov 11 2026. No macro, syntax, notation, axiom, sorry.
-/
import Derived.Test.YtecobdnpbkojmaaChecked
import GoSem.Claim
import GoSem.ClaimJoined
import GoSem.ClaimMapViews
import Derived.JoinedTies
import Derived.KernelRfl
namespace Go.Proofs.Ytecobdnpbkojmaa
/- THE CELL 'sum', in the pinned program and in every row, IS THE sha256 OF THE DUMP (.gsa) THAT YtecobdnpbkojmaaProg.lean LOADS. Nothing in Lean hashes anything: it is a label: what it is worth is what the hold of that sum in a sandbox is worth. -/
noncomputable def Try.pinned : Pinned := { name := "ytecobdnpbkojmaa", sum := "7fa2802b4df6b1d0c9bfa7b4788c28de12db5118606316e5859fe2d4f98f4f72", checked := Try.checked }
namespace Rows
def none {H : Type} : Left H := { results := [], args := [] }

/-- 'laws.FnExactMirrorRoof': WHATEVER THE INPUT: true; the input reads as it did. -/
def fnExactMirrorRoofSpec : ChangeSpec := { name := "fnExactMirrorRoof", fn := fun _ => fun
  | [d] => { results := [.lit (.bool true)], args := [d] }
  | _ => none }
def fnExactMirrorRoofRow : OpenClaim := { program := "ytecobdnpbkojmaa", sum := "7fa2802b4df6b1d0c9bfa7b4788c28de12db5118606316e5859fe2d4f98f4f72", func := "loop.example/g01376/laws.FnExactMirrorRoof", spec := "fnExactMirrorRoof", apart := false }
def FnExactMirrorRoofSaid : Prop := fnExactMirrorRoofRow.holds Try.pinned (OpenSpec.ofChange fnExactMirrorRoofSpec)

/-- ITS FALSE NEIGHBOUR: 'it returns false'. Refute it at one input. -/
def fnExactMirrorRoofWrong : ChangeSpec := { name := "fnExactMirrorRoof", fn := fun _ => fun
  | [d] => { results := [.lit (.bool false)], args := [d] }
  | _ => none }
def FnExactMirrorRoofWrongFalsely : Prop := fnExactMirrorRoofRow.holds Try.pinned (OpenSpec.ofChange fnExactMirrorRoofWrong)

/-- 'laws.FnExactRoofText': WHATEVER THE INPUT: true; the input reads as it did. -/
def fnExactRoofTextSpec : ChangeSpec := { name := "fnExactRoofText", fn := fun _ => fun
  | [d] => { results := [.lit (.bool true)], args := [d] }
  | _ => none }
def fnExactRoofTextRow : OpenClaim := { program := "ytecobdnpbkojmaa", sum := "7fa2802b4df6b1d0c9bfa7b4788c28de12db5118606316e5859fe2d4f98f4f72", func := "loop.example/g01376/laws.FnExactRoofText", spec := "fnExactRoofText", unfollowed := true, recurses := true, apart := false }
def FnExactRoofTextSaid : Prop := fnExactRoofTextRow.holds Try.pinned (OpenSpec.ofChange fnExactRoofTextSpec)

/-- ITS FALSE NEIGHBOUR: 'it returns false'. Refute it at one input. -/
def fnExactRoofTextWrong : ChangeSpec := { name := "fnExactRoofText", fn := fun _ => fun
  | [d] => { results := [.lit (.bool false)], args := [d] }
  | _ => none }
def FnExactRoofTextWrongFalsely : Prop := fnExactRoofTextRow.holds Try.pinned (OpenSpec.ofChange fnExactRoofTextWrong)

/-- 'laws.FnExactCountKind': WHATEVER THE INPUT: true; the input reads as it did. -/
def fnExactCountKindSpec : ChangeSpec := { name := "fnExactCountKind", fn := fun _ => fun
  | [d1, d2] => { results := [.lit (.bool true)], args := [d1, d2] }
  | _ => none }
def fnExactCountKindRow : OpenClaim := { program := "ytecobdnpbkojmaa", sum := "7fa2802b4df6b1d0c9bfa7b4788c28de12db5118606316e5859fe2d4f98f4f72", func := "loop.example/g01376/laws.FnExactCountKind", spec := "fnExactCountKind", unfollowed := true, recurses := true, apart := false }
def FnExactCountKindSaid : Prop := fnExactCountKindRow.holds Try.pinned (OpenSpec.ofChange fnExactCountKindSpec)

/-- ITS FALSE NEIGHBOUR: 'it returns false'. Refute it at one input. -/
def fnExactCountKindWrong : ChangeSpec := { name := "fnExactCountKind", fn := fun _ => fun
  | [d1, d2] => { results := [.lit (.bool false)], args := [d1, d2] }
  | _ => none }
def FnExactCountKindWrongFalsely : Prop := fnExactCountKindRow.holds Try.pinned (OpenSpec.ofChange fnExactCountKindWrong)

/-- 'laws.FnExactTilesOf': WHATEVER THE INPUT: true; the input reads as it did. -/
def fnExactTilesOfSpec : ChangeSpec := { name := "fnExactTilesOf", fn := fun _ => fun
  | [d1, d2] => { results := [.lit (.bool true)], args := [d1, d2] }
  | _ => none }
def fnExactTilesOfRow : OpenClaim := { program := "ytecobdnpbkojmaa", sum := "7fa2802b4df6b1d0c9bfa7b4788c28de12db5118606316e5859fe2d4f98f4f72", func := "loop.example/g01376/laws.FnExactTilesOf", spec := "fnExactTilesOf", unfollowed := true, recurses := true, apart := false }
def FnExactTilesOfSaid : Prop := fnExactTilesOfRow.holds Try.pinned (OpenSpec.ofChange fnExactTilesOfSpec)

/-- ITS FALSE NEIGHBOUR: 'it returns false'. Refute it at one input. -/
def fnExactTilesOfWrong : ChangeSpec := { name := "fnExactTilesOf", fn := fun _ => fun
  | [d1, d2] => { results := [.lit (.bool false)], args := [d1, d2] }
  | _ => none }
def FnExactTilesOfWrongFalsely : Prop := fnExactTilesOfRow.holds Try.pinned (OpenSpec.ofChange fnExactTilesOfWrong)

/-- 'laws.FnExactLongestRun': WHATEVER THE INPUT: true; the input reads as it did. -/
def fnExactLongestRunSpec : ChangeSpec := { name := "fnExactLongestRun", fn := fun _ => fun
  | [d1, d2] => { results := [.lit (.bool true)], args := [d1, d2] }
  | _ => none }
def fnExactLongestRunRow : OpenClaim := { program := "ytecobdnpbkojmaa", sum := "7fa2802b4df6b1d0c9bfa7b4788c28de12db5118606316e5859fe2d4f98f4f72", func := "loop.example/g01376/laws.FnExactLongestRun", spec := "fnExactLongestRun", apart := false }
def FnExactLongestRunSaid : Prop := fnExactLongestRunRow.holds Try.pinned (OpenSpec.ofChange fnExactLongestRunSpec)

/-- ITS FALSE NEIGHBOUR: 'it returns false'. Refute it at one input. -/
def fnExactLongestRunWrong : ChangeSpec := { name := "fnExactLongestRun", fn := fun _ => fun
  | [d1, d2] => { results := [.lit (.bool false)], args := [d1, d2] }
  | _ => none }
def FnExactLongestRunWrongFalsely : Prop := fnExactLongestRunRow.holds Try.pinned (OpenSpec.ofChange fnExactLongestRunWrong)

/-- 'laws.FnExactCellsOf': WHATEVER THE INPUT: true; the input reads as it did. -/
def fnExactCellsOfSpec : ChangeSpec := { name := "fnExactCellsOf", fn := fun _ => fun
  | [d1, d2] => { results := [.lit (.bool true)], args := [d1, d2] }
  | _ => none }
def fnExactCellsOfRow : OpenClaim := { program := "ytecobdnpbkojmaa", sum := "7fa2802b4df6b1d0c9bfa7b4788c28de12db5118606316e5859fe2d4f98f4f72", func := "loop.example/g01376/laws.FnExactCellsOf", spec := "fnExactCellsOf", unfollowed := true, recurses := true, apart := false }
def FnExactCellsOfSaid : Prop := fnExactCellsOfRow.holds Try.pinned (OpenSpec.ofChange fnExactCellsOfSpec)

/-- ITS FALSE NEIGHBOUR: 'it returns false'. Refute it at one input. -/
def fnExactCellsOfWrong : ChangeSpec := { name := "fnExactCellsOf", fn := fun _ => fun
  | [d1, d2] => { results := [.lit (.bool false)], args := [d1, d2] }
  | _ => none }
def FnExactCellsOfWrongFalsely : Prop := fnExactCellsOfRow.holds Try.pinned (OpenSpec.ofChange fnExactCellsOfWrong)

/- THE SECOND FORM. 'bulk': how many values and letters a reading holds, each counted each time it is reached (what is shared counts as often as it is met; a slice's spare places count too). A statement '..UptoSaid' is the law's where the arguments, and the package variables that the reading takes, are together of bulk at most 1048576: NARROWER than '..Said'. Prove '..Said' where nothing that the law and all that it calls make is longer than what came in: it says more and counts as full. Else prove '..UptoSaid'. A law counts once. -/
mutual
def uptoBulk {H : Type} : DataW H → Nat
  | .lit (.string bytes) => bytes.length + 1
  | .lit _ => 1
  | .nil => 1
  | .ptr d => uptoBulk d + 1
  | .slice elems spare => uptoBulkAll elems + uptoBulkAll spare + 1
  | .agg parts => uptoBulkAll parts + 1
  | .iface _ d => uptoBulk d + 1
  | .map entries => uptoBulkEntries entries + 1
  | .held _ => 1
def uptoBulkAll {H : Type} : List (DataW H) → Nat
  | [] => 0
  | d :: r => uptoBulk d + uptoBulkAll r
def uptoBulkEntries {H : Type} : List (Lit × DataW H) → Nat
  | [] => 0
  | x :: r => uptoBulkEntry x + uptoBulkEntries r
def uptoBulkEntry {H : Type} : Lit × DataW H → Nat
  | (.string bytes, d) => bytes.length + uptoBulk d + 1
  | (_, d) => uptoBulk d + 1
 end
def uptoSmall : (H : Type) → List (DataW H) → Bool := fun _ ds => decide (uptoBulkAll ds ≤ 1048576)
def OpenSpec.upto (s : _root_.Go.ChangeSpec) : _root_.Go.OpenSpec := { _root_.Go.OpenSpec.ofChange s with cond := some uptoSmall }

/-- 'laws.FnExactMirrorRoof', WHERE WHAT IT READS IS OF BULK AT MOST 1048576: true; the input reads as it did. -/
def fnExactMirrorRoofUptoRow : OpenClaim := { program := "ytecobdnpbkojmaa", sum := "7fa2802b4df6b1d0c9bfa7b4788c28de12db5118606316e5859fe2d4f98f4f72", func := "loop.example/g01376/laws.FnExactMirrorRoof", spec := "fnExactMirrorRoof", apart := false, narrowed := true }
def FnExactMirrorRoofUptoSaid : Prop := fnExactMirrorRoofUptoRow.holds Try.pinned (OpenSpec.upto fnExactMirrorRoofSpec)

/-- 'laws.FnExactRoofText', WHERE WHAT IT READS IS OF BULK AT MOST 1048576: true; the input reads as it did. -/
def fnExactRoofTextUptoRow : OpenClaim := { program := "ytecobdnpbkojmaa", sum := "7fa2802b4df6b1d0c9bfa7b4788c28de12db5118606316e5859fe2d4f98f4f72", func := "loop.example/g01376/laws.FnExactRoofText", spec := "fnExactRoofText", unfollowed := true, recurses := true, apart := false, narrowed := true }
def FnExactRoofTextUptoSaid : Prop := fnExactRoofTextUptoRow.holds Try.pinned (OpenSpec.upto fnExactRoofTextSpec)

/-- 'laws.FnExactCountKind', WHERE WHAT IT READS IS OF BULK AT MOST 1048576: true; the input reads as it did. -/
def fnExactCountKindUptoRow : OpenClaim := { program := "ytecobdnpbkojmaa", sum := "7fa2802b4df6b1d0c9bfa7b4788c28de12db5118606316e5859fe2d4f98f4f72", func := "loop.example/g01376/laws.FnExactCountKind", spec := "fnExactCountKind", unfollowed := true, recurses := true, apart := false, narrowed := true }
def FnExactCountKindUptoSaid : Prop := fnExactCountKindUptoRow.holds Try.pinned (OpenSpec.upto fnExactCountKindSpec)

/-- 'laws.FnExactTilesOf', WHERE WHAT IT READS IS OF BULK AT MOST 1048576: true; the input reads as it did. -/
def fnExactTilesOfUptoRow : OpenClaim := { program := "ytecobdnpbkojmaa", sum := "7fa2802b4df6b1d0c9bfa7b4788c28de12db5118606316e5859fe2d4f98f4f72", func := "loop.example/g01376/laws.FnExactTilesOf", spec := "fnExactTilesOf", unfollowed := true, recurses := true, apart := false, narrowed := true }
def FnExactTilesOfUptoSaid : Prop := fnExactTilesOfUptoRow.holds Try.pinned (OpenSpec.upto fnExactTilesOfSpec)

/-- 'laws.FnExactLongestRun', WHERE WHAT IT READS IS OF BULK AT MOST 1048576: true; the input reads as it did. -/
def fnExactLongestRunUptoRow : OpenClaim := { program := "ytecobdnpbkojmaa", sum := "7fa2802b4df6b1d0c9bfa7b4788c28de12db5118606316e5859fe2d4f98f4f72", func := "loop.example/g01376/laws.FnExactLongestRun", spec := "fnExactLongestRun", apart := false, narrowed := true }
def FnExactLongestRunUptoSaid : Prop := fnExactLongestRunUptoRow.holds Try.pinned (OpenSpec.upto fnExactLongestRunSpec)

/-- 'laws.FnExactCellsOf', WHERE WHAT IT READS IS OF BULK AT MOST 1048576: true; the input reads as it did. -/
def fnExactCellsOfUptoRow : OpenClaim := { program := "ytecobdnpbkojmaa", sum := "7fa2802b4df6b1d0c9bfa7b4788c28de12db5118606316e5859fe2d4f98f4f72", func := "loop.example/g01376/laws.FnExactCellsOf", spec := "fnExactCellsOf", unfollowed := true, recurses := true, apart := false, narrowed := true }
def FnExactCellsOfUptoSaid : Prop := fnExactCellsOfUptoRow.holds Try.pinned (OpenSpec.upto fnExactCellsOfSpec)

end Rows
end Go.Proofs.Ytecobdnpbkojmaa
