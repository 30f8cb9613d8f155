/-
  No cell of these rows narrows 'for every input' (looked for: loops, veiled, ifaces, maps, wideKeys, modest, calm, conditions, laid).
  DERIVED. THE GIVEN ROWS OF THIS SEAT. 5 by the template 'for every input the law returns true; each argument reads behind the call as it read before'; 0 by the template 'total and deterministic' (their statements: YtgbihaliiogboaaTotals.lean).
  GIVEN WITH THE SEED: the statements are not yours to turn. If you find one false, say at which input.
  Laid BY PROGRAM, IN A SANDBOX (cutbox-rows.mjs): the forced cells as the released guide's own fill.sh prints them over the translation 13338fd7c3050825… (all of the seat's roots in one cut). By AI agents, Wed Nov 11 2026. No macro, syntax, notation, axiom, sorry.
-/
import Derived.Test.YtgbihaliiogboaaChecked
import GoSem.Claim
import GoSem.ClaimJoined
import GoSem.ClaimMapViews
import Derived.JoinedTies
import Derived.KernelRfl
namespace Go.Proofs.Ytgbihaliiogboaa
/- THE CELL 'sum', in the pinned program and in every row, IS THE sha256 OF THE DUMP (.gsa) THAT YtgbihaliiogboaaProg.lean LOADS. Nothing in Lean hashes anything: it is a label: what it is worth is what the hold of that sum in a sandbox is worth. -/
noncomputable def Try.pinned : Pinned := { name := "ytgbihaliiogboaa", sum := "13338fd7c305082541f1a3c780872efd14e167b0b8ac53739a440a374b9c81c8", checked := Try.checked }
namespace Rows
def none {H : Type} : Left H := { results := [], args := [] }

/-- 'laws.FnExactPiecesIn': WHATEVER THE INPUT: true; the input reads as it did. -/
def fnExactPiecesInSpec : ChangeSpec := { name := "fnExactPiecesIn", fn := fun _ => fun
  | [d1, d2] => { results := [.lit (.bool true)], args := [d1, d2] }
  | _ => none }
def fnExactPiecesInRow : OpenClaim := { program := "ytgbihaliiogboaa", sum := "13338fd7c305082541f1a3c780872efd14e167b0b8ac53739a440a374b9c81c8", func := "loop.example/g01376/laws.FnExactPiecesIn", spec := "fnExactPiecesIn", unfollowed := true, recurses := true, apart := false }
def FnExactPiecesInSaid : Prop := fnExactPiecesInRow.holds Try.pinned (OpenSpec.ofChange fnExactPiecesInSpec)

/-- ITS FALSE NEIGHBOUR: 'it returns false'. Refute it at one input. -/
def fnExactPiecesInWrong : ChangeSpec := { name := "fnExactPiecesIn", fn := fun _ => fun
  | [d1, d2] => { results := [.lit (.bool false)], args := [d1, d2] }
  | _ => none }
def FnExactPiecesInWrongFalsely : Prop := fnExactPiecesInRow.holds Try.pinned (OpenSpec.ofChange fnExactPiecesInWrong)

/-- 'laws.FnExactAllPieces': WHATEVER THE INPUT: true; the input reads as it did. -/
def fnExactAllPiecesSpec : ChangeSpec := { name := "fnExactAllPieces", fn := fun _ => fun
  | [d] => { results := [.lit (.bool true)], args := [d] }
  | _ => none }
def fnExactAllPiecesRow : OpenClaim := { program := "ytgbihaliiogboaa", sum := "13338fd7c305082541f1a3c780872efd14e167b0b8ac53739a440a374b9c81c8", func := "loop.example/g01376/laws.FnExactAllPieces", spec := "fnExactAllPieces", unfollowed := true, recurses := true, apart := false }
def FnExactAllPiecesSaid : Prop := fnExactAllPiecesRow.holds Try.pinned (OpenSpec.ofChange fnExactAllPiecesSpec)

/-- ITS FALSE NEIGHBOUR: 'it returns false'. Refute it at one input. -/
def fnExactAllPiecesWrong : ChangeSpec := { name := "fnExactAllPieces", fn := fun _ => fun
  | [d] => { results := [.lit (.bool false)], args := [d] }
  | _ => none }
def FnExactAllPiecesWrongFalsely : Prop := fnExactAllPiecesRow.holds Try.pinned (OpenSpec.ofChange fnExactAllPiecesWrong)

/-- 'laws.FnExactTilesFor': WHATEVER THE INPUT: true; the input reads as it did. -/
def fnExactTilesForSpec : ChangeSpec := { name := "fnExactTilesFor", fn := fun _ => fun
  | [d] => { results := [.lit (.bool true)], args := [d] }
  | _ => none }
def fnExactTilesForRow : OpenClaim := { program := "ytgbihaliiogboaa", sum := "13338fd7c305082541f1a3c780872efd14e167b0b8ac53739a440a374b9c81c8", func := "loop.example/g01376/laws.FnExactTilesFor", spec := "fnExactTilesFor", unfollowed := true, recurses := true, apart := false }
def FnExactTilesForSaid : Prop := fnExactTilesForRow.holds Try.pinned (OpenSpec.ofChange fnExactTilesForSpec)

/-- ITS FALSE NEIGHBOUR: 'it returns false'. Refute it at one input. -/
def fnExactTilesForWrong : ChangeSpec := { name := "fnExactTilesFor", fn := fun _ => fun
  | [d] => { results := [.lit (.bool false)], args := [d] }
  | _ => none }
def FnExactTilesForWrongFalsely : Prop := fnExactTilesForRow.holds Try.pinned (OpenSpec.ofChange fnExactTilesForWrong)

/-- 'laws.FnExactPairPieces': WHATEVER THE INPUT: true; the input reads as it did. -/
def fnExactPairPiecesSpec : ChangeSpec := { name := "fnExactPairPieces", fn := fun _ => fun
  | [d] => { results := [.lit (.bool true)], args := [d] }
  | _ => none }
def fnExactPairPiecesRow : OpenClaim := { program := "ytgbihaliiogboaa", sum := "13338fd7c305082541f1a3c780872efd14e167b0b8ac53739a440a374b9c81c8", func := "loop.example/g01376/laws.FnExactPairPieces", spec := "fnExactPairPieces", unfollowed := true, recurses := true, apart := false }
def FnExactPairPiecesSaid : Prop := fnExactPairPiecesRow.holds Try.pinned (OpenSpec.ofChange fnExactPairPiecesSpec)

/-- ITS FALSE NEIGHBOUR: 'it returns false'. Refute it at one input. -/
def fnExactPairPiecesWrong : ChangeSpec := { name := "fnExactPairPieces", fn := fun _ => fun
  | [d] => { results := [.lit (.bool false)], args := [d] }
  | _ => none }
def FnExactPairPiecesWrongFalsely : Prop := fnExactPairPiecesRow.holds Try.pinned (OpenSpec.ofChange fnExactPairPiecesWrong)

/-- 'laws.FnExactOffcutsOf': WHATEVER THE INPUT: true; the input reads as it did. -/
def fnExactOffcutsOfSpec : ChangeSpec := { name := "fnExactOffcutsOf", fn := fun _ => fun
  | [d] => { results := [.lit (.bool true)], args := [d] }
  | _ => none }
def fnExactOffcutsOfRow : OpenClaim := { program := "ytgbihaliiogboaa", sum := "13338fd7c305082541f1a3c780872efd14e167b0b8ac53739a440a374b9c81c8", func := "loop.example/g01376/laws.FnExactOffcutsOf", spec := "fnExactOffcutsOf", unfollowed := true, recurses := true, apart := false }
def FnExactOffcutsOfSaid : Prop := fnExactOffcutsOfRow.holds Try.pinned (OpenSpec.ofChange fnExactOffcutsOfSpec)

/-- ITS FALSE NEIGHBOUR: 'it returns false'. Refute it at one input. -/
def fnExactOffcutsOfWrong : ChangeSpec := { name := "fnExactOffcutsOf", fn := fun _ => fun
  | [d] => { results := [.lit (.bool false)], args := [d] }
  | _ => none }
def FnExactOffcutsOfWrongFalsely : Prop := fnExactOffcutsOfRow.holds Try.pinned (OpenSpec.ofChange fnExactOffcutsOfWrong)

/- THE SECOND FORM. 'bulk': how many values and letters a reading holds, each counted each time it is reached (what is shared counts as often as it is met; a slice's spare places count too). A statement '..UptoSaid' is the law's where the arguments, and the package variables that the reading takes, are together of bulk at most 1048576: NARROWER than '..Said'. Prove '..Said' where nothing that the law and all that it calls make is longer than what came in: it says more and counts as full. Else prove '..UptoSaid'. A law counts once. -/
mutual
def uptoBulk {H : Type} : DataW H → Nat
  | .lit (.string bytes) => bytes.length + 1
  | .lit _ => 1
  | .nil => 1
  | .ptr d => uptoBulk d + 1
  | .slice elems spare => uptoBulkAll elems + uptoBulkAll spare + 1
  | .agg parts => uptoBulkAll parts + 1
  | .iface _ d => uptoBulk d + 1
  | .map entries => uptoBulkEntries entries + 1
  | .held _ => 1
def uptoBulkAll {H : Type} : List (DataW H) → Nat
  | [] => 0
  | d :: r => uptoBulk d + uptoBulkAll r
def uptoBulkEntries {H : Type} : List (Lit × DataW H) → Nat
  | [] => 0
  | x :: r => uptoBulkEntry x + uptoBulkEntries r
def uptoBulkEntry {H : Type} : Lit × DataW H → Nat
  | (.string bytes, d) => bytes.length + uptoBulk d + 1
  | (_, d) => uptoBulk d + 1
 end
def uptoSmall : (H : Type) → List (DataW H) → Bool := fun _ ds => decide (uptoBulkAll ds ≤ 1048576)
def OpenSpec.upto (s : _root_.Go.ChangeSpec) : _root_.Go.OpenSpec := { _root_.Go.OpenSpec.ofChange s with cond := some uptoSmall }

/-- 'laws.FnExactPiecesIn', WHERE WHAT IT READS IS OF BULK AT MOST 1048576: true; the input reads as it did. -/
def fnExactPiecesInUptoRow : OpenClaim := { program := "ytgbihaliiogboaa", sum := "13338fd7c305082541f1a3c780872efd14e167b0b8ac53739a440a374b9c81c8", func := "loop.example/g01376/laws.FnExactPiecesIn", spec := "fnExactPiecesIn", unfollowed := true, recurses := true, apart := false, narrowed := true }
def FnExactPiecesInUptoSaid : Prop := fnExactPiecesInUptoRow.holds Try.pinned (OpenSpec.upto fnExactPiecesInSpec)

/-- 'laws.FnExactAllPieces', WHERE WHAT IT READS IS OF BULK AT MOST 1048576: true; the input reads as it did. -/
def fnExactAllPiecesUptoRow : OpenClaim := { program := "ytgbihaliiogboaa", sum := "13338fd7c305082541f1a3c780872efd14e167b0b8ac53739a440a374b9c81c8", func := "loop.example/g01376/laws.FnExactAllPieces", spec := "fnExactAllPieces", unfollowed := true, recurses := true, apart := false, narrowed := true }
def FnExactAllPiecesUptoSaid : Prop := fnExactAllPiecesUptoRow.holds Try.pinned (OpenSpec.upto fnExactAllPiecesSpec)

/-- 'laws.FnExactTilesFor', WHERE WHAT IT READS IS OF BULK AT MOST 1048576: true; the input reads as it did. -/
def fnExactTilesForUptoRow : OpenClaim := { program := "ytgbihaliiogboaa", sum := "13338fd7c305082541f1a3c780872efd14e167b0b8ac53739a440a374b9c81c8", func := "loop.example/g01376/laws.FnExactTilesFor", spec := "fnExactTilesFor", unfollowed := true, recurses := true, apart := false, narrowed := true }
def FnExactTilesForUptoSaid : Prop := fnExactTilesForUptoRow.holds Try.pinned (OpenSpec.upto fnExactTilesForSpec)

/-- 'laws.FnExactPairPieces', WHERE WHAT IT READS IS OF BULK AT MOST 1048576: true; the input reads as it did. -/
def fnExactPairPiecesUptoRow : OpenClaim := { program := "ytgbihaliiogboaa", sum := "13338fd7c305082541f1a3c780872efd14e167b0b8ac53739a440a374b9c81c8", func := "loop.example/g01376/laws.FnExactPairPieces", spec := "fnExactPairPieces", unfollowed := true, recurses := true, apart := false, narrowed := true }
def FnExactPairPiecesUptoSaid : Prop := fnExactPairPiecesUptoRow.holds Try.pinned (OpenSpec.upto fnExactPairPiecesSpec)

/-- 'laws.FnExactOffcutsOf', WHERE WHAT IT READS IS OF BULK AT MOST 1048576: true; the input reads as it did. -/
def fnExactOffcutsOfUptoRow : OpenClaim := { program := "ytgbihaliiogboaa", sum := "13338fd7c305082541f1a3c780872efd14e167b0b8ac53739a440a374b9c81c8", func := "loop.example/g01376/laws.FnExactOffcutsOf", spec := "fnExactOffcutsOf", unfollowed := true, recurses := true, apart := false, narrowed := true }
def FnExactOffcutsOfUptoSaid : Prop := fnExactOffcutsOfUptoRow.holds Try.pinned (OpenSpec.upto fnExactOffcutsOfSpec)

end Rows
end Go.Proofs.Ytgbihaliiogboaa
