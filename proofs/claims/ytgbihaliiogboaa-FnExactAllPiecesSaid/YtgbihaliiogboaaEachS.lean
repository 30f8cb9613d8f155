/- each over spans: the program's, at a function value. -/
import Derived.Test.YtgbihaliiogboaaShp
import Derived.Test.YtgbihaliiogboaaEachII
import Derived.Shelf.Abstract
namespace Go.Proofs.Ytgbihaliiogboaa
open Go.RowKit
set_option linter.unusedSimpArgs false
set_option linter.unusedVariables false

theorem cell_two_new' (W : World) (a b : Value) (T : TypeId) : ∀ j u, [a, b][j]? = some u → (W.alloc (.cells #[a, b] T)).cell? ((⟨W.heap.size, 0, none⟩ : Addr).add j) = some u := fun j u hj => by
  match j, hj with
  | 0, hj =>
    obtain rfl : a = u := by simpa using hj
    have : (⟨W.heap.size, 0, none⟩ : Addr).add 0 = ⟨W.heap.size, 0, none⟩ := by simp [Addr.add]
    rw [this]; exact cell_block (block_new1 W _ rfl) rfl
  | 1, hj =>
    obtain rfl : b = u := by simpa using hj
    have : (⟨W.heap.size, 0, none⟩ : Addr).add 1 = ⟨W.heap.size, 1, none⟩ := by simp [Addr.add]
    rw [this]; exact cell_block (block_new1 W _ rfl) rfl
/-- A function value that turns the spans of a list, in all worlds above a world. -/
def TurnsSI (g : Nat) (fst cap : Array Value) (f : Int × Int → Int) (l : List (Int × Int)) (w : World) : Prop :=
  ∀ (W : World) (p : Int × Int), p ∈ l → Below w.heap.size w W → Calls Try.prog g (fst ++ #[.agg #[.int .i16 p.1, .int .i16 p.2]] ++ cap) W fun e w' => e = .returned (.int .i64 (f p)) ∧ Below W.heap.size W w'
/-- A function value that turns the spans of a list, in all worlds above a world. -/
def TurnsSS (g : Nat) (fst cap : Array Value) (f : Int × Int → Int × Int) (l : List (Int × Int)) (w : World) : Prop :=
  ∀ (W : World) (p : Int × Int), p ∈ l → Below w.heap.size w W → Calls Try.prog g (fst ++ #[.agg #[.int .i16 p.1, .int .i16 p.2]] ++ cap) W fun e w' => e = .returned (.agg #[.int .i16 (f p).1, .int .i16 (f p).2]) ∧ Below W.heap.size W w'
end Go.Proofs.Ytgbihaliiogboaa
