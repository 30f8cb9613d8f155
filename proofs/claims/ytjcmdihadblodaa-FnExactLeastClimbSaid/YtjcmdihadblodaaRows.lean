/-
  No cell of these rows narrows 'for every input' (looked for: loops, veiled, ifaces, maps, wideKeys, modest, calm, conditions, laid).
  DERIVED. THE GIVEN ROWS OF THIS SEAT. 4 by the template 'for every input the law returns true; each argument reads behind the call as it read before'; 0 by the template 'total and deterministic' (their statements: YtjcmdihadblodaaTotals.lean).
  GIVEN WITH THE SEED: the statements are not yours to turn. If you find one false, say at which input.
  Laid BY PROGRAM, IN A SANDBOX (cutbox-rows.mjs): the forced cells as the released guide's own fill.sh prints them over the translation 952df5e4f9040091… (all of the seat's roots in one cut). By AI agents, Wed Nov 11 2026. No macro, syntax, notation, axiom, sorry.
-/
import Derived.Test.YtjcmdihadblodaaChecked
import GoSem.Claim
import GoSem.ClaimJoined
import GoSem.ClaimMapViews
import Derived.JoinedTies
import Derived.KernelRfl
namespace Go.Proofs.Ytjcmdihadblodaa
/- THE CELL 'sum', in the pinned program and in every row, IS THE sha256 OF THE DUMP (.gsa) THAT YtjcmdihadblodaaProg.lean LOADS. Nothing in Lean hashes anything: it is a label: what it is worth is what the hold of that sum in a sandbox is worth. -/
noncomputable def Try.pinned : Pinned := { name := "ytjcmdihadblodaa", sum := "952df5e4f90400916983b58e58ded68105df5dda75f0e96c41c2f17839b9679d", checked := Try.checked }
namespace Rows
def none {H : Type} : Left H := { results := [], args := [] }

/-- 'laws.FnExactDaysFor': WHATEVER THE INPUT: true; the input reads as it did. -/
def fnExactDaysForSpec : ChangeSpec := { name := "fnExactDaysFor", fn := fun _ => fun
  | [d1, d2] => { results := [.lit (.bool true)], args := [d1, d2] }
  | _ => none }
def fnExactDaysForRow : OpenClaim := { program := "ytjcmdihadblodaa", sum := "952df5e4f90400916983b58e58ded68105df5dda75f0e96c41c2f17839b9679d", func := "loop.example/g01376/laws.FnExactDaysFor", spec := "fnExactDaysFor", unfollowed := true, recurses := true, apart := false }
def FnExactDaysForSaid : Prop := fnExactDaysForRow.holds Try.pinned (OpenSpec.ofChange fnExactDaysForSpec)

/-- ITS FALSE NEIGHBOUR: 'it returns false'. Refute it at one input. -/
def fnExactDaysForWrong : ChangeSpec := { name := "fnExactDaysFor", fn := fun _ => fun
  | [d1, d2] => { results := [.lit (.bool false)], args := [d1, d2] }
  | _ => none }
def FnExactDaysForWrongFalsely : Prop := fnExactDaysForRow.holds Try.pinned (OpenSpec.ofChange fnExactDaysForWrong)

/-- 'laws.FnExactFewestDays': WHATEVER THE INPUT: true; the input reads as it did. -/
def fnExactFewestDaysSpec : ChangeSpec := { name := "fnExactFewestDays", fn := fun _ => fun
  | [d1, d2] => { results := [.lit (.bool true)], args := [d1, d2] }
  | _ => none }
def fnExactFewestDaysRow : OpenClaim := { program := "ytjcmdihadblodaa", sum := "952df5e4f90400916983b58e58ded68105df5dda75f0e96c41c2f17839b9679d", func := "loop.example/g01376/laws.FnExactFewestDays", spec := "fnExactFewestDays", unfollowed := true, recurses := true, apart := false }
def FnExactFewestDaysSaid : Prop := fnExactFewestDaysRow.holds Try.pinned (OpenSpec.ofChange fnExactFewestDaysSpec)

/-- ITS FALSE NEIGHBOUR: 'it returns false'. Refute it at one input. -/
def fnExactFewestDaysWrong : ChangeSpec := { name := "fnExactFewestDays", fn := fun _ => fun
  | [d1, d2] => { results := [.lit (.bool false)], args := [d1, d2] }
  | _ => none }
def FnExactFewestDaysWrongFalsely : Prop := fnExactFewestDaysRow.holds Try.pinned (OpenSpec.ofChange fnExactFewestDaysWrong)

/-- 'laws.FnExactClimbsFor': WHATEVER THE INPUT: true; the input reads as it did. -/
def fnExactClimbsForSpec : ChangeSpec := { name := "fnExactClimbsFor", fn := fun _ => fun
  | [d1, d2, d3] => { results := [.lit (.bool true)], args := [d1, d2, d3] }
  | _ => none }
def fnExactClimbsForRow : OpenClaim := { program := "ytjcmdihadblodaa", sum := "952df5e4f90400916983b58e58ded68105df5dda75f0e96c41c2f17839b9679d", func := "loop.example/g01376/laws.FnExactClimbsFor", spec := "fnExactClimbsFor", unfollowed := true, recurses := true, apart := false }
def FnExactClimbsForSaid : Prop := fnExactClimbsForRow.holds Try.pinned (OpenSpec.ofChange fnExactClimbsForSpec)

/-- ITS FALSE NEIGHBOUR: 'it returns false'. Refute it at one input. -/
def fnExactClimbsForWrong : ChangeSpec := { name := "fnExactClimbsFor", fn := fun _ => fun
  | [d1, d2, d3] => { results := [.lit (.bool false)], args := [d1, d2, d3] }
  | _ => none }
def FnExactClimbsForWrongFalsely : Prop := fnExactClimbsForRow.holds Try.pinned (OpenSpec.ofChange fnExactClimbsForWrong)

/-- 'laws.FnExactLeastClimb': WHATEVER THE INPUT: true; the input reads as it did. -/
def fnExactLeastClimbSpec : ChangeSpec := { name := "fnExactLeastClimb", fn := fun _ => fun
  | [d1, d2, d3] => { results := [.lit (.bool true)], args := [d1, d2, d3] }
  | _ => none }
def fnExactLeastClimbRow : OpenClaim := { program := "ytjcmdihadblodaa", sum := "952df5e4f90400916983b58e58ded68105df5dda75f0e96c41c2f17839b9679d", func := "loop.example/g01376/laws.FnExactLeastClimb", spec := "fnExactLeastClimb", unfollowed := true, recurses := true, apart := false }
def FnExactLeastClimbSaid : Prop := fnExactLeastClimbRow.holds Try.pinned (OpenSpec.ofChange fnExactLeastClimbSpec)

/-- ITS FALSE NEIGHBOUR: 'it returns false'. Refute it at one input. -/
def fnExactLeastClimbWrong : ChangeSpec := { name := "fnExactLeastClimb", fn := fun _ => fun
  | [d1, d2, d3] => { results := [.lit (.bool false)], args := [d1, d2, d3] }
  | _ => none }
def FnExactLeastClimbWrongFalsely : Prop := fnExactLeastClimbRow.holds Try.pinned (OpenSpec.ofChange fnExactLeastClimbWrong)

/- THE SECOND FORM. 'bulk': how many values and letters a reading holds, each counted each time it is reached (what is shared counts as often as it is met; a slice's spare places count too). A statement '..UptoSaid' is the law's where the arguments, and the package variables that the reading takes, are together of bulk at most 1048576: NARROWER than '..Said'. Prove '..Said' where nothing that the law and all that it calls make is longer than what came in: it says more and counts as full. Else prove '..UptoSaid'. A law counts once. -/
mutual
def uptoBulk {H : Type} : DataW H → Nat
  | .lit (.string bytes) => bytes.length + 1
  | .lit _ => 1
  | .nil => 1
  | .ptr d => uptoBulk d + 1
  | .slice elems spare => uptoBulkAll elems + uptoBulkAll spare + 1
  | .agg parts => uptoBulkAll parts + 1
  | .iface _ d => uptoBulk d + 1
  | .map entries => uptoBulkEntries entries + 1
  | .held _ => 1
def uptoBulkAll {H : Type} : List (DataW H) → Nat
  | [] => 0
  | d :: r => uptoBulk d + uptoBulkAll r
def uptoBulkEntries {H : Type} : List (Lit × DataW H) → Nat
  | [] => 0
  | x :: r => uptoBulkEntry x + uptoBulkEntries r
def uptoBulkEntry {H : Type} : Lit × DataW H → Nat
  | (.string bytes, d) => bytes.length + uptoBulk d + 1
  | (_, d) => uptoBulk d + 1
 end
def uptoSmall : (H : Type) → List (DataW H) → Bool := fun _ ds => decide (uptoBulkAll ds ≤ 1048576)
def OpenSpec.upto (s : _root_.Go.ChangeSpec) : _root_.Go.OpenSpec := { _root_.Go.OpenSpec.ofChange s with cond := some uptoSmall }

/-- 'laws.FnExactDaysFor', WHERE WHAT IT READS IS OF BULK AT MOST 1048576: true; the input reads as it did. -/
def fnExactDaysForUptoRow : OpenClaim := { program := "ytjcmdihadblodaa", sum := "952df5e4f90400916983b58e58ded68105df5dda75f0e96c41c2f17839b9679d", func := "loop.example/g01376/laws.FnExactDaysFor", spec := "fnExactDaysFor", unfollowed := true, recurses := true, apart := false, narrowed := true }
def FnExactDaysForUptoSaid : Prop := fnExactDaysForUptoRow.holds Try.pinned (OpenSpec.upto fnExactDaysForSpec)

/-- 'laws.FnExactFewestDays', WHERE WHAT IT READS IS OF BULK AT MOST 1048576: true; the input reads as it did. -/
def fnExactFewestDaysUptoRow : OpenClaim := { program := "ytjcmdihadblodaa", sum := "952df5e4f90400916983b58e58ded68105df5dda75f0e96c41c2f17839b9679d", func := "loop.example/g01376/laws.FnExactFewestDays", spec := "fnExactFewestDays", unfollowed := true, recurses := true, apart := false, narrowed := true }
def FnExactFewestDaysUptoSaid : Prop := fnExactFewestDaysUptoRow.holds Try.pinned (OpenSpec.upto fnExactFewestDaysSpec)

/-- 'laws.FnExactClimbsFor', WHERE WHAT IT READS IS OF BULK AT MOST 1048576: true; the input reads as it did. -/
def fnExactClimbsForUptoRow : OpenClaim := { program := "ytjcmdihadblodaa", sum := "952df5e4f90400916983b58e58ded68105df5dda75f0e96c41c2f17839b9679d", func := "loop.example/g01376/laws.FnExactClimbsFor", spec := "fnExactClimbsFor", unfollowed := true, recurses := true, apart := false, narrowed := true }
def FnExactClimbsForUptoSaid : Prop := fnExactClimbsForUptoRow.holds Try.pinned (OpenSpec.upto fnExactClimbsForSpec)

/-- 'laws.FnExactLeastClimb', WHERE WHAT IT READS IS OF BULK AT MOST 1048576: true; the input reads as it did. -/
def fnExactLeastClimbUptoRow : OpenClaim := { program := "ytjcmdihadblodaa", sum := "952df5e4f90400916983b58e58ded68105df5dda75f0e96c41c2f17839b9679d", func := "loop.example/g01376/laws.FnExactLeastClimb", spec := "fnExactLeastClimb", unfollowed := true, recurses := true, apart := false, narrowed := true }
def FnExactLeastClimbUptoSaid : Prop := fnExactLeastClimbUptoRow.holds Try.pinned (OpenSpec.upto fnExactLeastClimbSpec)

end Rows
end Go.Proofs.Ytjcmdihadblodaa
