/-
  No cell of these rows narrows 'for every input' (looked for: loops, veiled, ifaces, maps, wideKeys, modest, calm, conditions, laid).
  DERIVED. THE GIVEN ROWS OF THIS SEAT. 6 by the template 'for every input the law returns true; each argument reads behind the call as it read before'; 0 by the template 'total and deterministic' (their statements: YtfijinbdpfeceaaTotals.lean).
  GIVEN WITH THE SEED: the statements are not yours to turn. If you find one false, say at which input.
  Laid BY PROGRAM, IN A SANDBOX (cutbox-rows.mjs): the forced cells as the released guide's own fill.sh prints them over the translation 53badbba8bfb8ad9… (all of the seat's roots in one cut). By AI agents, Wed Nov 11 2026. No macro, syntax, notation, axiom, sorry.
-/
import Derived.Test.YtfijinbdpfeceaaChecked
import GoSem.Claim
import GoSem.ClaimJoined
import GoSem.ClaimMapViews
import Derived.JoinedTies
import Derived.KernelRfl
namespace Go.Proofs.Ytfijinbdpfeceaa
/- THE CELL 'sum', in the pinned program and in every row, IS THE sha256 OF THE DUMP (.gsa) THAT YtfijinbdpfeceaaProg.lean LOADS. Nothing in Lean hashes anything: it is a label: what it is worth is what the hold of that sum in a sandbox is worth. -/
noncomputable def Try.pinned : Pinned := { name := "ytfijinbdpfeceaa", sum := "53badbba8bfb8ad948559efdff4d3cf777bde63424586d9b186ca203785960df", checked := Try.checked }
namespace Rows
def none {H : Type} : Left H := { results := [], args := [] }

/-- 'laws.FnExactMendAll': WHATEVER THE INPUT: true; the input reads as it did. -/
def fnExactMendAllSpec : ChangeSpec := { name := "fnExactMendAll", fn := fun _ => fun
  | [d] => { results := [.lit (.bool true)], args := [d] }
  | _ => none }
def fnExactMendAllRow : OpenClaim := { program := "ytfijinbdpfeceaa", sum := "53badbba8bfb8ad948559efdff4d3cf777bde63424586d9b186ca203785960df", func := "loop.example/g01376/laws.FnExactMendAll", spec := "fnExactMendAll", unfollowed := true, recurses := true, apart := false }
def FnExactMendAllSaid : Prop := fnExactMendAllRow.holds Try.pinned (OpenSpec.ofChange fnExactMendAllSpec)

/-- ITS FALSE NEIGHBOUR: 'it returns false'. Refute it at one input. -/
def fnExactMendAllWrong : ChangeSpec := { name := "fnExactMendAll", fn := fun _ => fun
  | [d] => { results := [.lit (.bool false)], args := [d] }
  | _ => none }
def FnExactMendAllWrongFalsely : Prop := fnExactMendAllRow.holds Try.pinned (OpenSpec.ofChange fnExactMendAllWrong)

/-- 'laws.FnExactDifferIn': WHATEVER THE INPUT: true; the input reads as it did. -/
def fnExactDifferInSpec : ChangeSpec := { name := "fnExactDifferIn", fn := fun _ => fun
  | [d1, d2] => { results := [.lit (.bool true)], args := [d1, d2] }
  | _ => none }
def fnExactDifferInRow : OpenClaim := { program := "ytfijinbdpfeceaa", sum := "53badbba8bfb8ad948559efdff4d3cf777bde63424586d9b186ca203785960df", func := "loop.example/g01376/laws.FnExactDifferIn", spec := "fnExactDifferIn", unfollowed := true, recurses := true, apart := false }
def FnExactDifferInSaid : Prop := fnExactDifferInRow.holds Try.pinned (OpenSpec.ofChange fnExactDifferInSpec)

/-- ITS FALSE NEIGHBOUR: 'it returns false'. Refute it at one input. -/
def fnExactDifferInWrong : ChangeSpec := { name := "fnExactDifferIn", fn := fun _ => fun
  | [d1, d2] => { results := [.lit (.bool false)], args := [d1, d2] }
  | _ => none }
def FnExactDifferInWrongFalsely : Prop := fnExactDifferInRow.holds Try.pinned (OpenSpec.ofChange fnExactDifferInWrong)

/-- 'laws.FnExactAboveOf': WHATEVER THE INPUT: true; the input reads as it did. -/
def fnExactAboveOfSpec : ChangeSpec := { name := "fnExactAboveOf", fn := fun _ => fun
  | [d1, d2] => { results := [.lit (.bool true)], args := [d1, d2] }
  | _ => none }
def fnExactAboveOfRow : OpenClaim := { program := "ytfijinbdpfeceaa", sum := "53badbba8bfb8ad948559efdff4d3cf777bde63424586d9b186ca203785960df", func := "loop.example/g01376/laws.FnExactAboveOf", spec := "fnExactAboveOf", apart := false }
def FnExactAboveOfSaid : Prop := fnExactAboveOfRow.holds Try.pinned (OpenSpec.ofChange fnExactAboveOfSpec)

/-- ITS FALSE NEIGHBOUR: 'it returns false'. Refute it at one input. -/
def fnExactAboveOfWrong : ChangeSpec := { name := "fnExactAboveOf", fn := fun _ => fun
  | [d1, d2] => { results := [.lit (.bool false)], args := [d1, d2] }
  | _ => none }
def FnExactAboveOfWrongFalsely : Prop := fnExactAboveOfRow.holds Try.pinned (OpenSpec.ofChange fnExactAboveOfWrong)

/-- 'laws.FnExactBelowOf': WHATEVER THE INPUT: true; the input reads as it did. -/
def fnExactBelowOfSpec : ChangeSpec := { name := "fnExactBelowOf", fn := fun _ => fun
  | [d1, d2] => { results := [.lit (.bool true)], args := [d1, d2] }
  | _ => none }
def fnExactBelowOfRow : OpenClaim := { program := "ytfijinbdpfeceaa", sum := "53badbba8bfb8ad948559efdff4d3cf777bde63424586d9b186ca203785960df", func := "loop.example/g01376/laws.FnExactBelowOf", spec := "fnExactBelowOf", apart := false }
def FnExactBelowOfSaid : Prop := fnExactBelowOfRow.holds Try.pinned (OpenSpec.ofChange fnExactBelowOfSpec)

/-- ITS FALSE NEIGHBOUR: 'it returns false'. Refute it at one input. -/
def fnExactBelowOfWrong : ChangeSpec := { name := "fnExactBelowOf", fn := fun _ => fun
  | [d1, d2] => { results := [.lit (.bool false)], args := [d1, d2] }
  | _ => none }
def FnExactBelowOfWrongFalsely : Prop := fnExactBelowOfRow.holds Try.pinned (OpenSpec.ofChange fnExactBelowOfWrong)

/-- 'laws.FnExactPatchOf': WHATEVER THE INPUT: true; the input reads as it did. -/
def fnExactPatchOfSpec : ChangeSpec := { name := "fnExactPatchOf", fn := fun _ => fun
  | [d1, d2] => { results := [.lit (.bool true)], args := [d1, d2] }
  | _ => none }
def fnExactPatchOfRow : OpenClaim := { program := "ytfijinbdpfeceaa", sum := "53badbba8bfb8ad948559efdff4d3cf777bde63424586d9b186ca203785960df", func := "loop.example/g01376/laws.FnExactPatchOf", spec := "fnExactPatchOf", unfollowed := true, recurses := true, apart := false }
def FnExactPatchOfSaid : Prop := fnExactPatchOfRow.holds Try.pinned (OpenSpec.ofChange fnExactPatchOfSpec)

/-- ITS FALSE NEIGHBOUR: 'it returns false'. Refute it at one input. -/
def fnExactPatchOfWrong : ChangeSpec := { name := "fnExactPatchOf", fn := fun _ => fun
  | [d1, d2] => { results := [.lit (.bool false)], args := [d1, d2] }
  | _ => none }
def FnExactPatchOfWrongFalsely : Prop := fnExactPatchOfRow.holds Try.pinned (OpenSpec.ofChange fnExactPatchOfWrong)

/-- 'laws.FnExactPatchesOf': WHATEVER THE INPUT: true; the input reads as it did. -/
def fnExactPatchesOfSpec : ChangeSpec := { name := "fnExactPatchesOf", fn := fun _ => fun
  | [d1, d2] => { results := [.lit (.bool true)], args := [d1, d2] }
  | _ => none }
def fnExactPatchesOfRow : OpenClaim := { program := "ytfijinbdpfeceaa", sum := "53badbba8bfb8ad948559efdff4d3cf777bde63424586d9b186ca203785960df", func := "loop.example/g01376/laws.FnExactPatchesOf", spec := "fnExactPatchesOf", unfollowed := true, recurses := true, apart := false }
def FnExactPatchesOfSaid : Prop := fnExactPatchesOfRow.holds Try.pinned (OpenSpec.ofChange fnExactPatchesOfSpec)

/-- ITS FALSE NEIGHBOUR: 'it returns false'. Refute it at one input. -/
def fnExactPatchesOfWrong : ChangeSpec := { name := "fnExactPatchesOf", fn := fun _ => fun
  | [d1, d2] => { results := [.lit (.bool false)], args := [d1, d2] }
  | _ => none }
def FnExactPatchesOfWrongFalsely : Prop := fnExactPatchesOfRow.holds Try.pinned (OpenSpec.ofChange fnExactPatchesOfWrong)

/- THE SECOND FORM. 'bulk': how many values and letters a reading holds, each counted each time it is reached (what is shared counts as often as it is met; a slice's spare places count too). A statement '..UptoSaid' is the law's where the arguments, and the package variables that the reading takes, are together of bulk at most 1048576: NARROWER than '..Said'. Prove '..Said' where nothing that the law and all that it calls make is longer than what came in: it says more and counts as full. Else prove '..UptoSaid'. A law counts once. -/
mutual
def uptoBulk {H : Type} : DataW H → Nat
  | .lit (.string bytes) => bytes.length + 1
  | .lit _ => 1
  | .nil => 1
  | .ptr d => uptoBulk d + 1
  | .slice elems spare => uptoBulkAll elems + uptoBulkAll spare + 1
  | .agg parts => uptoBulkAll parts + 1
  | .iface _ d => uptoBulk d + 1
  | .map entries => uptoBulkEntries entries + 1
  | .held _ => 1
def uptoBulkAll {H : Type} : List (DataW H) → Nat
  | [] => 0
  | d :: r => uptoBulk d + uptoBulkAll r
def uptoBulkEntries {H : Type} : List (Lit × DataW H) → Nat
  | [] => 0
  | x :: r => uptoBulkEntry x + uptoBulkEntries r
def uptoBulkEntry {H : Type} : Lit × DataW H → Nat
  | (.string bytes, d) => bytes.length + uptoBulk d + 1
  | (_, d) => uptoBulk d + 1
 end
def uptoSmall : (H : Type) → List (DataW H) → Bool := fun _ ds => decide (uptoBulkAll ds ≤ 1048576)
def OpenSpec.upto (s : _root_.Go.ChangeSpec) : _root_.Go.OpenSpec := { _root_.Go.OpenSpec.ofChange s with cond := some uptoSmall }

/-- 'laws.FnExactMendAll', WHERE WHAT IT READS IS OF BULK AT MOST 1048576: true; the input reads as it did. -/
def fnExactMendAllUptoRow : OpenClaim := { program := "ytfijinbdpfeceaa", sum := "53badbba8bfb8ad948559efdff4d3cf777bde63424586d9b186ca203785960df", func := "loop.example/g01376/laws.FnExactMendAll", spec := "fnExactMendAll", unfollowed := true, recurses := true, apart := false, narrowed := true }
def FnExactMendAllUptoSaid : Prop := fnExactMendAllUptoRow.holds Try.pinned (OpenSpec.upto fnExactMendAllSpec)

/-- 'laws.FnExactDifferIn', WHERE WHAT IT READS IS OF BULK AT MOST 1048576: true; the input reads as it did. -/
def fnExactDifferInUptoRow : OpenClaim := { program := "ytfijinbdpfeceaa", sum := "53badbba8bfb8ad948559efdff4d3cf777bde63424586d9b186ca203785960df", func := "loop.example/g01376/laws.FnExactDifferIn", spec := "fnExactDifferIn", unfollowed := true, recurses := true, apart := false, narrowed := true }
def FnExactDifferInUptoSaid : Prop := fnExactDifferInUptoRow.holds Try.pinned (OpenSpec.upto fnExactDifferInSpec)

/-- 'laws.FnExactAboveOf', WHERE WHAT IT READS IS OF BULK AT MOST 1048576: true; the input reads as it did. -/
def fnExactAboveOfUptoRow : OpenClaim := { program := "ytfijinbdpfeceaa", sum := "53badbba8bfb8ad948559efdff4d3cf777bde63424586d9b186ca203785960df", func := "loop.example/g01376/laws.FnExactAboveOf", spec := "fnExactAboveOf", apart := false, narrowed := true }
def FnExactAboveOfUptoSaid : Prop := fnExactAboveOfUptoRow.holds Try.pinned (OpenSpec.upto fnExactAboveOfSpec)

/-- 'laws.FnExactBelowOf', WHERE WHAT IT READS IS OF BULK AT MOST 1048576: true; the input reads as it did. -/
def fnExactBelowOfUptoRow : OpenClaim := { program := "ytfijinbdpfeceaa", sum := "53badbba8bfb8ad948559efdff4d3cf777bde63424586d9b186ca203785960df", func := "loop.example/g01376/laws.FnExactBelowOf", spec := "fnExactBelowOf", apart := false, narrowed := true }
def FnExactBelowOfUptoSaid : Prop := fnExactBelowOfUptoRow.holds Try.pinned (OpenSpec.upto fnExactBelowOfSpec)

/-- 'laws.FnExactPatchOf', WHERE WHAT IT READS IS OF BULK AT MOST 1048576: true; the input reads as it did. -/
def fnExactPatchOfUptoRow : OpenClaim := { program := "ytfijinbdpfeceaa", sum := "53badbba8bfb8ad948559efdff4d3cf777bde63424586d9b186ca203785960df", func := "loop.example/g01376/laws.FnExactPatchOf", spec := "fnExactPatchOf", unfollowed := true, recurses := true, apart := false, narrowed := true }
def FnExactPatchOfUptoSaid : Prop := fnExactPatchOfUptoRow.holds Try.pinned (OpenSpec.upto fnExactPatchOfSpec)

/-- 'laws.FnExactPatchesOf', WHERE WHAT IT READS IS OF BULK AT MOST 1048576: true; the input reads as it did. -/
def fnExactPatchesOfUptoRow : OpenClaim := { program := "ytfijinbdpfeceaa", sum := "53badbba8bfb8ad948559efdff4d3cf777bde63424586d9b186ca203785960df", func := "loop.example/g01376/laws.FnExactPatchesOf", spec := "fnExactPatchesOf", unfollowed := true, recurses := true, apart := false, narrowed := true }
def FnExactPatchesOfUptoSaid : Prop := fnExactPatchesOfUptoRow.holds Try.pinned (OpenSpec.upto fnExactPatchesOfSpec)

end Rows
end Go.Proofs.Ytfijinbdpfeceaa
