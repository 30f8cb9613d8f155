/-
  No cell of these rows narrows 'for every input' (looked for: loops, veiled, ifaces, maps, wideKeys, modest, calm, conditions, laid).
  DERIVED. THE GIVEN ROWS OF THIS SEAT. 6 by the template 'for every input the law returns true; each argument reads behind the call as it read before'; 0 by the template 'total and deterministic' (their statements: YteglogiabooacaaTotals.lean).
  GIVEN WITH THE SEED: the statements are not yours to turn. If you find one false, say at which input.
  Laid BY PROGRAM, IN A SANDBOX (cutbox-rows.mjs): the forced cells as the released guide's own fill.sh prints them over the translation f410108fcb5c136a… (all of the seat's roots in one cut). By AI agents, Wed Nov 11 2026. No macro, syntax, notation, axiom, sorry.
-/
import Derived.Test.YteglogiabooacaaChecked
import GoSem.Claim
import GoSem.ClaimJoined
import GoSem.ClaimMapViews
import Derived.JoinedTies
import Derived.KernelRfl
namespace Go.Proofs.Yteglogiabooacaa
/- THE CELL 'sum', in the pinned program and in every row, IS THE sha256 OF THE DUMP (.gsa) THAT YteglogiabooacaaProg.lean LOADS. Nothing in Lean hashes anything: it is a label: what it is worth is what the hold of that sum in a sandbox is worth. -/
noncomputable def Try.pinned : Pinned := { name := "yteglogiabooacaa", sum := "f410108fcb5c136ae66270a95955ab3e53810be0b74ecdb50f84e28990c47dc4", checked := Try.checked }
namespace Rows
def none {H : Type} : Left H := { results := [], args := [] }

/-- 'laws.FnExactIsShifted': WHATEVER THE INPUT: true; the input reads as it did. -/
def fnExactIsShiftedSpec : ChangeSpec := { name := "fnExactIsShifted", fn := fun _ => fun
  | [d1, d2] => { results := [.lit (.bool true)], args := [d1, d2] }
  | _ => none }
def fnExactIsShiftedRow : OpenClaim := { program := "yteglogiabooacaa", sum := "f410108fcb5c136ae66270a95955ab3e53810be0b74ecdb50f84e28990c47dc4", func := "loop.example/g01376/laws.FnExactIsShifted", spec := "fnExactIsShifted", apart := false }
def FnExactIsShiftedSaid : Prop := fnExactIsShiftedRow.holds Try.pinned (OpenSpec.ofChange fnExactIsShiftedSpec)

/-- ITS FALSE NEIGHBOUR: 'it returns false'. Refute it at one input. -/
def fnExactIsShiftedWrong : ChangeSpec := { name := "fnExactIsShifted", fn := fun _ => fun
  | [d1, d2] => { results := [.lit (.bool false)], args := [d1, d2] }
  | _ => none }
def FnExactIsShiftedWrongFalsely : Prop := fnExactIsShiftedRow.holds Try.pinned (OpenSpec.ofChange fnExactIsShiftedWrong)

/-- 'laws.FnExactKindAt': WHATEVER THE INPUT: true; the input reads as it did. -/
def fnExactKindAtSpec : ChangeSpec := { name := "fnExactKindAt", fn := fun _ => fun
  | [d1, d2] => { results := [.lit (.bool true)], args := [d1, d2] }
  | _ => none }
def fnExactKindAtRow : OpenClaim := { program := "yteglogiabooacaa", sum := "f410108fcb5c136ae66270a95955ab3e53810be0b74ecdb50f84e28990c47dc4", func := "loop.example/g01376/laws.FnExactKindAt", spec := "fnExactKindAt", apart := false }
def FnExactKindAtSaid : Prop := fnExactKindAtRow.holds Try.pinned (OpenSpec.ofChange fnExactKindAtSpec)

/-- ITS FALSE NEIGHBOUR: 'it returns false'. Refute it at one input. -/
def fnExactKindAtWrong : ChangeSpec := { name := "fnExactKindAt", fn := fun _ => fun
  | [d1, d2] => { results := [.lit (.bool false)], args := [d1, d2] }
  | _ => none }
def FnExactKindAtWrongFalsely : Prop := fnExactKindAtRow.holds Try.pinned (OpenSpec.ofChange fnExactKindAtWrong)

/-- 'laws.FnExactClimbTo': WHATEVER THE INPUT: true; the input reads as it did. -/
def fnExactClimbToSpec : ChangeSpec := { name := "fnExactClimbTo", fn := fun _ => fun
  | [d1, d2] => { results := [.lit (.bool true)], args := [d1, d2] }
  | _ => none }
def fnExactClimbToRow : OpenClaim := { program := "yteglogiabooacaa", sum := "f410108fcb5c136ae66270a95955ab3e53810be0b74ecdb50f84e28990c47dc4", func := "loop.example/g01376/laws.FnExactClimbTo", spec := "fnExactClimbTo", apart := false }
def FnExactClimbToSaid : Prop := fnExactClimbToRow.holds Try.pinned (OpenSpec.ofChange fnExactClimbToSpec)

/-- ITS FALSE NEIGHBOUR: 'it returns false'. Refute it at one input. -/
def fnExactClimbToWrong : ChangeSpec := { name := "fnExactClimbTo", fn := fun _ => fun
  | [d1, d2] => { results := [.lit (.bool false)], args := [d1, d2] }
  | _ => none }
def FnExactClimbToWrongFalsely : Prop := fnExactClimbToRow.holds Try.pinned (OpenSpec.ofChange fnExactClimbToWrong)

/-- 'laws.FnExactSetTile': WHATEVER THE INPUT: true; the input reads as it did. -/
def fnExactSetTileSpec : ChangeSpec := { name := "fnExactSetTile", fn := fun _ => fun
  | [d1, d2, d3] => { results := [.lit (.bool true)], args := [d1, d2, d3] }
  | _ => none }
def fnExactSetTileRow : OpenClaim := { program := "yteglogiabooacaa", sum := "f410108fcb5c136ae66270a95955ab3e53810be0b74ecdb50f84e28990c47dc4", func := "loop.example/g01376/laws.FnExactSetTile", spec := "fnExactSetTile", apart := false }
def FnExactSetTileSaid : Prop := fnExactSetTileRow.holds Try.pinned (OpenSpec.ofChange fnExactSetTileSpec)

/-- ITS FALSE NEIGHBOUR: 'it returns false'. Refute it at one input. -/
def fnExactSetTileWrong : ChangeSpec := { name := "fnExactSetTile", fn := fun _ => fun
  | [d1, d2, d3] => { results := [.lit (.bool false)], args := [d1, d2, d3] }
  | _ => none }
def FnExactSetTileWrongFalsely : Prop := fnExactSetTileRow.holds Try.pinned (OpenSpec.ofChange fnExactSetTileWrong)

/-- 'laws.FnExactCutRoof': WHATEVER THE INPUT: true; the input reads as it did. -/
def fnExactCutRoofSpec : ChangeSpec := { name := "fnExactCutRoof", fn := fun _ => fun
  | [d1, d2, d3] => { results := [.lit (.bool true)], args := [d1, d2, d3] }
  | _ => none }
def fnExactCutRoofRow : OpenClaim := { program := "yteglogiabooacaa", sum := "f410108fcb5c136ae66270a95955ab3e53810be0b74ecdb50f84e28990c47dc4", func := "loop.example/g01376/laws.FnExactCutRoof", spec := "fnExactCutRoof", apart := false }
def FnExactCutRoofSaid : Prop := fnExactCutRoofRow.holds Try.pinned (OpenSpec.ofChange fnExactCutRoofSpec)

/-- ITS FALSE NEIGHBOUR: 'it returns false'. Refute it at one input. -/
def fnExactCutRoofWrong : ChangeSpec := { name := "fnExactCutRoof", fn := fun _ => fun
  | [d1, d2, d3] => { results := [.lit (.bool false)], args := [d1, d2, d3] }
  | _ => none }
def FnExactCutRoofWrongFalsely : Prop := fnExactCutRoofRow.holds Try.pinned (OpenSpec.ofChange fnExactCutRoofWrong)

/-- 'laws.FnExactStackRoofs': WHATEVER THE INPUT: true; the input reads as it did. -/
def fnExactStackRoofsSpec : ChangeSpec := { name := "fnExactStackRoofs", fn := fun _ => fun
  | [d1, d2] => { results := [.lit (.bool true)], args := [d1, d2] }
  | _ => none }
def fnExactStackRoofsRow : OpenClaim := { program := "yteglogiabooacaa", sum := "f410108fcb5c136ae66270a95955ab3e53810be0b74ecdb50f84e28990c47dc4", func := "loop.example/g01376/laws.FnExactStackRoofs", spec := "fnExactStackRoofs", apart := false }
def FnExactStackRoofsSaid : Prop := fnExactStackRoofsRow.holds Try.pinned (OpenSpec.ofChange fnExactStackRoofsSpec)

/-- ITS FALSE NEIGHBOUR: 'it returns false'. Refute it at one input. -/
def fnExactStackRoofsWrong : ChangeSpec := { name := "fnExactStackRoofs", fn := fun _ => fun
  | [d1, d2] => { results := [.lit (.bool false)], args := [d1, d2] }
  | _ => none }
def FnExactStackRoofsWrongFalsely : Prop := fnExactStackRoofsRow.holds Try.pinned (OpenSpec.ofChange fnExactStackRoofsWrong)

/- THE SECOND FORM. 'bulk': how many values and letters a reading holds, each counted each time it is reached (what is shared counts as often as it is met; a slice's spare places count too). A statement '..UptoSaid' is the law's where the arguments, and the package variables that the reading takes, are together of bulk at most 1048576: NARROWER than '..Said'. Prove '..Said' where nothing that the law and all that it calls make is longer than what came in: it says more and counts as full. Else prove '..UptoSaid'. A law counts once. -/
mutual
def uptoBulk {H : Type} : DataW H → Nat
  | .lit (.string bytes) => bytes.length + 1
  | .lit _ => 1
  | .nil => 1
  | .ptr d => uptoBulk d + 1
  | .slice elems spare => uptoBulkAll elems + uptoBulkAll spare + 1
  | .agg parts => uptoBulkAll parts + 1
  | .iface _ d => uptoBulk d + 1
  | .map entries => uptoBulkEntries entries + 1
  | .held _ => 1
def uptoBulkAll {H : Type} : List (DataW H) → Nat
  | [] => 0
  | d :: r => uptoBulk d + uptoBulkAll r
def uptoBulkEntries {H : Type} : List (Lit × DataW H) → Nat
  | [] => 0
  | x :: r => uptoBulkEntry x + uptoBulkEntries r
def uptoBulkEntry {H : Type} : Lit × DataW H → Nat
  | (.string bytes, d) => bytes.length + uptoBulk d + 1
  | (_, d) => uptoBulk d + 1
 end
def uptoSmall : (H : Type) → List (DataW H) → Bool := fun _ ds => decide (uptoBulkAll ds ≤ 1048576)
def OpenSpec.upto (s : _root_.Go.ChangeSpec) : _root_.Go.OpenSpec := { _root_.Go.OpenSpec.ofChange s with cond := some uptoSmall }

/-- 'laws.FnExactIsShifted', WHERE WHAT IT READS IS OF BULK AT MOST 1048576: true; the input reads as it did. -/
def fnExactIsShiftedUptoRow : OpenClaim := { program := "yteglogiabooacaa", sum := "f410108fcb5c136ae66270a95955ab3e53810be0b74ecdb50f84e28990c47dc4", func := "loop.example/g01376/laws.FnExactIsShifted", spec := "fnExactIsShifted", apart := false, narrowed := true }
def FnExactIsShiftedUptoSaid : Prop := fnExactIsShiftedUptoRow.holds Try.pinned (OpenSpec.upto fnExactIsShiftedSpec)

/-- 'laws.FnExactKindAt', WHERE WHAT IT READS IS OF BULK AT MOST 1048576: true; the input reads as it did. -/
def fnExactKindAtUptoRow : OpenClaim := { program := "yteglogiabooacaa", sum := "f410108fcb5c136ae66270a95955ab3e53810be0b74ecdb50f84e28990c47dc4", func := "loop.example/g01376/laws.FnExactKindAt", spec := "fnExactKindAt", apart := false, narrowed := true }
def FnExactKindAtUptoSaid : Prop := fnExactKindAtUptoRow.holds Try.pinned (OpenSpec.upto fnExactKindAtSpec)

/-- 'laws.FnExactClimbTo', WHERE WHAT IT READS IS OF BULK AT MOST 1048576: true; the input reads as it did. -/
def fnExactClimbToUptoRow : OpenClaim := { program := "yteglogiabooacaa", sum := "f410108fcb5c136ae66270a95955ab3e53810be0b74ecdb50f84e28990c47dc4", func := "loop.example/g01376/laws.FnExactClimbTo", spec := "fnExactClimbTo", apart := false, narrowed := true }
def FnExactClimbToUptoSaid : Prop := fnExactClimbToUptoRow.holds Try.pinned (OpenSpec.upto fnExactClimbToSpec)

/-- 'laws.FnExactSetTile', WHERE WHAT IT READS IS OF BULK AT MOST 1048576: true; the input reads as it did. -/
def fnExactSetTileUptoRow : OpenClaim := { program := "yteglogiabooacaa", sum := "f410108fcb5c136ae66270a95955ab3e53810be0b74ecdb50f84e28990c47dc4", func := "loop.example/g01376/laws.FnExactSetTile", spec := "fnExactSetTile", apart := false, narrowed := true }
def FnExactSetTileUptoSaid : Prop := fnExactSetTileUptoRow.holds Try.pinned (OpenSpec.upto fnExactSetTileSpec)

/-- 'laws.FnExactCutRoof', WHERE WHAT IT READS IS OF BULK AT MOST 1048576: true; the input reads as it did. -/
def fnExactCutRoofUptoRow : OpenClaim := { program := "yteglogiabooacaa", sum := "f410108fcb5c136ae66270a95955ab3e53810be0b74ecdb50f84e28990c47dc4", func := "loop.example/g01376/laws.FnExactCutRoof", spec := "fnExactCutRoof", apart := false, narrowed := true }
def FnExactCutRoofUptoSaid : Prop := fnExactCutRoofUptoRow.holds Try.pinned (OpenSpec.upto fnExactCutRoofSpec)

/-- 'laws.FnExactStackRoofs', WHERE WHAT IT READS IS OF BULK AT MOST 1048576: true; the input reads as it did. -/
def fnExactStackRoofsUptoRow : OpenClaim := { program := "yteglogiabooacaa", sum := "f410108fcb5c136ae66270a95955ab3e53810be0b74ecdb50f84e28990c47dc4", func := "loop.example/g01376/laws.FnExactStackRoofs", spec := "fnExactStackRoofs", apart := false, narrowed := true }
def FnExactStackRoofsUptoSaid : Prop := fnExactStackRoofsUptoRow.holds Try.pinned (OpenSpec.upto fnExactStackRoofsSpec)

end Rows
end Go.Proofs.Yteglogiabooacaa
