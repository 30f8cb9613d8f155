/- The places of a roof that are as told, by a function value. -/
import Derived.Test.YtjcmdihadblodaaAll
import Derived.Shelf.Abstract
import Derived.Deep.Onto
namespace Go.Proofs.Ytjcmdihadblodaa
open Go.RowKit
set_option linter.unusedSimpArgs false
set_option linter.unusedVariables false

/-- The places that are as told. -/
def pickL (f : Int → Int → Bool) (l : List (Int × Int)) : List (Int × Int) := l.filter fun p => f p.1 p.2
theorem pickL_yes {f : Int → Int → Bool} {l : List (Int × Int)} {c t : Int} (h : f c t = true) : pickL f (l ++ [(c, t)]) = pickL f l ++ [(c, t)] := by simp [pickL, h]
theorem pickL_no {f : Int → Int → Bool} {l : List (Int × Int)} {c t : Int} (h : f c t = false) : pickL f (l ++ [(c, t)]) = pickL f l := by simp [pickL, h]
theorem pickL_len (f : Int → Int → Bool) (l : List (Int × Int)) : (pickL f l).length ≤ l.length := List.length_filter_le _ _
/-- A function value that tells of places, in all worlds above a world. -/
def Tells (g : Nat) (fst cap : Array Value) (f : Int → Int → Bool) (r : Rf) (w : World) : Prop :=
  ∀ (W : World) (c t : Int), 0 ≤ c ∧ c < r.h → 0 ≤ t ∧ t < r.w → Below w.heap.size w W → Calls Try.prog g (fst ++ #[.agg #[.int .i8 c, .int .i8 t]] ++ cap) W fun e w' => e = .returned (.bool (f c t)) ∧ Below W.heap.size W w'
end Go.Proofs.Ytjcmdihadblodaa
