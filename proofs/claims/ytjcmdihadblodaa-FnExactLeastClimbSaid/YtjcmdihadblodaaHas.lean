/- Cells of tiles, tiles of cells; a place looked for in a list. -/
import Derived.Test.YtjcmdihadblodaaPlaces
import Derived.Test.YtjcmdihadblodaaLawP
import Derived.Test.YtjcmdihadblodaaList
import Derived.Laws.StructEq
namespace Go.Proofs.Ytjcmdihadblodaa
open Go.RowKit
set_option linter.unusedSimpArgs false
set_option linter.unusedVariables false

/-- The first cell of a tile. -/
def firstOf (r : Rf) (c t : Int) : Int := 2 * t + shiftOf r c
/-- The tile that covers a cell of a course, or -1. -/
def tileOf (r : Rf) (d n : Int) : Int := if 0 ≤ n - shiftOf r d ∧ n - shiftOf r d ≤ 2 * r.w - 1 then (n - shiftOf r d) / 2 else -1
theorem run_eql_place (w : World) (a b c d : Int) : (binOp .eql 58 (.agg #[.int .i8 a, .int .i8 b]) (.agg #[.int .i8 c, .int .i8 d])).run Try.prog w = .ok (.bool (decide ((a, b) = (c, d)))) w := by
  have u3 := Try.underlying29
  have a3 : ∀ w, (isAgg 29).run Try.prog w = .ok false w := fun w => by kernel_rfl
  have hS : Try.prog.underlying 58 = some (.struct (Try.prog.fieldsOf 58)) := by kernel_rfl
  have hp : Try.prog.stoodInHeld 58 = false := by kernel_rfl
  rw [run_eql_struct, show (10000 : Nat) = 9999 + 1 from rfl, run_equalIn_struct w 9999 58 _ _ hS hp]
  simp only [Program.fieldsOf, Try.underlying58]
  go_simp
  by_cases h1 : a = c <;> by_cases h2 : b = d <;> simp [h1, h2]
end Go.Proofs.Ytjcmdihadblodaa
