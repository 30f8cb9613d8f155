/-
  No cell of these rows narrows 'for every input' (looked for: loops, veiled, ifaces, maps, wideKeys, modest, calm, conditions, laid).
  DERIVED. THE GIVEN ROWS OF THIS SEAT. 5 by the template 'for every input the law returns true; each argument reads behind the call as it read before'; 0 by the template 'total and deterministic' (their statements: YtfbgldkdlmipoaaTotals.lean).
  GIVEN WITH THE SEED: the statements are not yours to turn. If you find one false, say at which input.
  Laid BY PROGRAM, IN A SANDBOX (cutbox-rows.mjs): the forced cells as the released guide's own fill.sh prints them over the translation 0169fb7458318edc… (all of the seat's roots in one cut). By AI agents, Wed Nov 11 2026. No macro, syntax, notation, axiom, sorry.
-/
import Derived.Test.YtfbgldkdlmipoaaChecked
import GoSem.Claim
import GoSem.ClaimJoined
import GoSem.ClaimMapViews
import Derived.JoinedTies
import Derived.KernelRfl
namespace Go.Proofs.Ytfbgldkdlmipoaa
/- THE CELL 'sum', in the pinned program and in every row, IS THE sha256 OF THE DUMP (.gsa) THAT YtfbgldkdlmipoaaProg.lean LOADS. Nothing in Lean hashes anything: it is a label: what it is worth is what the hold of that sum in a sandbox is worth. -/
noncomputable def Try.pinned : Pinned := { name := "ytfbgldkdlmipoaa", sum := "0169fb7458318edcf974f8436f2af26dd1e92ed1299171db4c3e0653ae71b77e", checked := Try.checked }
namespace Rows
def none {H : Type} : Left H := { results := [], args := [] }

/-- 'laws.FnExactIsUpward': WHATEVER THE INPUT: true; the input reads as it did. -/
def fnExactIsUpwardSpec : ChangeSpec := { name := "fnExactIsUpward", fn := fun _ => fun
  | [d1, d2] => { results := [.lit (.bool true)], args := [d1, d2] }
  | _ => none }
def fnExactIsUpwardRow : OpenClaim := { program := "ytfbgldkdlmipoaa", sum := "0169fb7458318edcf974f8436f2af26dd1e92ed1299171db4c3e0653ae71b77e", func := "loop.example/g01376/laws.FnExactIsUpward", spec := "fnExactIsUpward", unfollowed := true, recurses := true, apart := false }
def FnExactIsUpwardSaid : Prop := fnExactIsUpwardRow.holds Try.pinned (OpenSpec.ofChange fnExactIsUpwardSpec)

/-- ITS FALSE NEIGHBOUR: 'it returns false'. Refute it at one input. -/
def fnExactIsUpwardWrong : ChangeSpec := { name := "fnExactIsUpward", fn := fun _ => fun
  | [d1, d2] => { results := [.lit (.bool false)], args := [d1, d2] }
  | _ => none }
def FnExactIsUpwardWrongFalsely : Prop := fnExactIsUpwardRow.holds Try.pinned (OpenSpec.ofChange fnExactIsUpwardWrong)

/-- 'laws.FnExactLiftedFor': WHATEVER THE INPUT: true; the input reads as it did. -/
def fnExactLiftedForSpec : ChangeSpec := { name := "fnExactLiftedFor", fn := fun _ => fun
  | [d1, d2] => { results := [.lit (.bool true)], args := [d1, d2] }
  | _ => none }
def fnExactLiftedForRow : OpenClaim := { program := "ytfbgldkdlmipoaa", sum := "0169fb7458318edcf974f8436f2af26dd1e92ed1299171db4c3e0653ae71b77e", func := "loop.example/g01376/laws.FnExactLiftedFor", spec := "fnExactLiftedFor", unfollowed := true, recurses := true, apart := false }
def FnExactLiftedForSaid : Prop := fnExactLiftedForRow.holds Try.pinned (OpenSpec.ofChange fnExactLiftedForSpec)

/-- ITS FALSE NEIGHBOUR: 'it returns false'. Refute it at one input. -/
def fnExactLiftedForWrong : ChangeSpec := { name := "fnExactLiftedFor", fn := fun _ => fun
  | [d1, d2] => { results := [.lit (.bool false)], args := [d1, d2] }
  | _ => none }
def FnExactLiftedForWrongFalsely : Prop := fnExactLiftedForRow.holds Try.pinned (OpenSpec.ofChange fnExactLiftedForWrong)

/-- 'laws.FnExactFirstUpward': WHATEVER THE INPUT: true; the input reads as it did. -/
def fnExactFirstUpwardSpec : ChangeSpec := { name := "fnExactFirstUpward", fn := fun _ => fun
  | [d1, d2] => { results := [.lit (.bool true)], args := [d1, d2] }
  | _ => none }
def fnExactFirstUpwardRow : OpenClaim := { program := "ytfbgldkdlmipoaa", sum := "0169fb7458318edcf974f8436f2af26dd1e92ed1299171db4c3e0653ae71b77e", func := "loop.example/g01376/laws.FnExactFirstUpward", spec := "fnExactFirstUpward", unfollowed := true, recurses := true, apart := false }
def FnExactFirstUpwardSaid : Prop := fnExactFirstUpwardRow.holds Try.pinned (OpenSpec.ofChange fnExactFirstUpwardSpec)

/-- ITS FALSE NEIGHBOUR: 'it returns false'. Refute it at one input. -/
def fnExactFirstUpwardWrong : ChangeSpec := { name := "fnExactFirstUpward", fn := fun _ => fun
  | [d1, d2] => { results := [.lit (.bool false)], args := [d1, d2] }
  | _ => none }
def FnExactFirstUpwardWrongFalsely : Prop := fnExactFirstUpwardRow.holds Try.pinned (OpenSpec.ofChange fnExactFirstUpwardWrong)

/-- 'laws.FnExactLeastLifted': WHATEVER THE INPUT: true; the input reads as it did. -/
def fnExactLeastLiftedSpec : ChangeSpec := { name := "fnExactLeastLifted", fn := fun _ => fun
  | [d1, d2] => { results := [.lit (.bool true)], args := [d1, d2] }
  | _ => none }
def fnExactLeastLiftedRow : OpenClaim := { program := "ytfbgldkdlmipoaa", sum := "0169fb7458318edcf974f8436f2af26dd1e92ed1299171db4c3e0653ae71b77e", func := "loop.example/g01376/laws.FnExactLeastLifted", spec := "fnExactLeastLifted", unfollowed := true, recurses := true, apart := false }
def FnExactLeastLiftedSaid : Prop := fnExactLeastLiftedRow.holds Try.pinned (OpenSpec.ofChange fnExactLeastLiftedSpec)

/-- ITS FALSE NEIGHBOUR: 'it returns false'. Refute it at one input. -/
def fnExactLeastLiftedWrong : ChangeSpec := { name := "fnExactLeastLifted", fn := fun _ => fun
  | [d1, d2] => { results := [.lit (.bool false)], args := [d1, d2] }
  | _ => none }
def FnExactLeastLiftedWrongFalsely : Prop := fnExactLeastLiftedRow.holds Try.pinned (OpenSpec.ofChange fnExactLeastLiftedWrong)

/-- 'laws.FnExactJobTime': WHATEVER THE INPUT: true; the input reads as it did. -/
def fnExactJobTimeSpec : ChangeSpec := { name := "fnExactJobTime", fn := fun _ => fun
  | [d1, d2, d3, d4] => { results := [.lit (.bool true)], args := [d1, d2, d3, d4] }
  | _ => none }
def fnExactJobTimeRow : OpenClaim := { program := "ytfbgldkdlmipoaa", sum := "0169fb7458318edcf974f8436f2af26dd1e92ed1299171db4c3e0653ae71b77e", func := "loop.example/g01376/laws.FnExactJobTime", spec := "fnExactJobTime", unfollowed := true, recurses := true, apart := false }
def FnExactJobTimeSaid : Prop := fnExactJobTimeRow.holds Try.pinned (OpenSpec.ofChange fnExactJobTimeSpec)

/-- ITS FALSE NEIGHBOUR: 'it returns false'. Refute it at one input. -/
def fnExactJobTimeWrong : ChangeSpec := { name := "fnExactJobTime", fn := fun _ => fun
  | [d1, d2, d3, d4] => { results := [.lit (.bool false)], args := [d1, d2, d3, d4] }
  | _ => none }
def FnExactJobTimeWrongFalsely : Prop := fnExactJobTimeRow.holds Try.pinned (OpenSpec.ofChange fnExactJobTimeWrong)

/- THE SECOND FORM. 'bulk': how many values and letters a reading holds, each counted each time it is reached (what is shared counts as often as it is met; a slice's spare places count too). A statement '..UptoSaid' is the law's where the arguments, and the package variables that the reading takes, are together of bulk at most 1048576: NARROWER than '..Said'. Prove '..Said' where nothing that the law and all that it calls make is longer than what came in: it says more and counts as full. Else prove '..UptoSaid'. A law counts once. -/
mutual
def uptoBulk {H : Type} : DataW H → Nat
  | .lit (.string bytes) => bytes.length + 1
  | .lit _ => 1
  | .nil => 1
  | .ptr d => uptoBulk d + 1
  | .slice elems spare => uptoBulkAll elems + uptoBulkAll spare + 1
  | .agg parts => uptoBulkAll parts + 1
  | .iface _ d => uptoBulk d + 1
  | .map entries => uptoBulkEntries entries + 1
  | .held _ => 1
def uptoBulkAll {H : Type} : List (DataW H) → Nat
  | [] => 0
  | d :: r => uptoBulk d + uptoBulkAll r
def uptoBulkEntries {H : Type} : List (Lit × DataW H) → Nat
  | [] => 0
  | x :: r => uptoBulkEntry x + uptoBulkEntries r
def uptoBulkEntry {H : Type} : Lit × DataW H → Nat
  | (.string bytes, d) => bytes.length + uptoBulk d + 1
  | (_, d) => uptoBulk d + 1
 end
def uptoSmall : (H : Type) → List (DataW H) → Bool := fun _ ds => decide (uptoBulkAll ds ≤ 1048576)
def OpenSpec.upto (s : _root_.Go.ChangeSpec) : _root_.Go.OpenSpec := { _root_.Go.OpenSpec.ofChange s with cond := some uptoSmall }

/-- 'laws.FnExactIsUpward', WHERE WHAT IT READS IS OF BULK AT MOST 1048576: true; the input reads as it did. -/
def fnExactIsUpwardUptoRow : OpenClaim := { program := "ytfbgldkdlmipoaa", sum := "0169fb7458318edcf974f8436f2af26dd1e92ed1299171db4c3e0653ae71b77e", func := "loop.example/g01376/laws.FnExactIsUpward", spec := "fnExactIsUpward", unfollowed := true, recurses := true, apart := false, narrowed := true }
def FnExactIsUpwardUptoSaid : Prop := fnExactIsUpwardUptoRow.holds Try.pinned (OpenSpec.upto fnExactIsUpwardSpec)

/-- 'laws.FnExactLiftedFor', WHERE WHAT IT READS IS OF BULK AT MOST 1048576: true; the input reads as it did. -/
def fnExactLiftedForUptoRow : OpenClaim := { program := "ytfbgldkdlmipoaa", sum := "0169fb7458318edcf974f8436f2af26dd1e92ed1299171db4c3e0653ae71b77e", func := "loop.example/g01376/laws.FnExactLiftedFor", spec := "fnExactLiftedFor", unfollowed := true, recurses := true, apart := false, narrowed := true }
def FnExactLiftedForUptoSaid : Prop := fnExactLiftedForUptoRow.holds Try.pinned (OpenSpec.upto fnExactLiftedForSpec)

/-- 'laws.FnExactFirstUpward', WHERE WHAT IT READS IS OF BULK AT MOST 1048576: true; the input reads as it did. -/
def fnExactFirstUpwardUptoRow : OpenClaim := { program := "ytfbgldkdlmipoaa", sum := "0169fb7458318edcf974f8436f2af26dd1e92ed1299171db4c3e0653ae71b77e", func := "loop.example/g01376/laws.FnExactFirstUpward", spec := "fnExactFirstUpward", unfollowed := true, recurses := true, apart := false, narrowed := true }
def FnExactFirstUpwardUptoSaid : Prop := fnExactFirstUpwardUptoRow.holds Try.pinned (OpenSpec.upto fnExactFirstUpwardSpec)

/-- 'laws.FnExactLeastLifted', WHERE WHAT IT READS IS OF BULK AT MOST 1048576: true; the input reads as it did. -/
def fnExactLeastLiftedUptoRow : OpenClaim := { program := "ytfbgldkdlmipoaa", sum := "0169fb7458318edcf974f8436f2af26dd1e92ed1299171db4c3e0653ae71b77e", func := "loop.example/g01376/laws.FnExactLeastLifted", spec := "fnExactLeastLifted", unfollowed := true, recurses := true, apart := false, narrowed := true }
def FnExactLeastLiftedUptoSaid : Prop := fnExactLeastLiftedUptoRow.holds Try.pinned (OpenSpec.upto fnExactLeastLiftedSpec)

/-- 'laws.FnExactJobTime', WHERE WHAT IT READS IS OF BULK AT MOST 1048576: true; the input reads as it did. -/
def fnExactJobTimeUptoRow : OpenClaim := { program := "ytfbgldkdlmipoaa", sum := "0169fb7458318edcf974f8436f2af26dd1e92ed1299171db4c3e0653ae71b77e", func := "loop.example/g01376/laws.FnExactJobTime", spec := "fnExactJobTime", unfollowed := true, recurses := true, apart := false, narrowed := true }
def FnExactJobTimeUptoSaid : Prop := fnExactJobTimeUptoRow.holds Try.pinned (OpenSpec.upto fnExactJobTimeSpec)

end Rows
end Go.Proofs.Ytfbgldkdlmipoaa
