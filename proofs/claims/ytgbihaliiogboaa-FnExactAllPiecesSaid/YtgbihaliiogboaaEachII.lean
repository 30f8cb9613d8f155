/- each over numbers: the program's, at a function value. -/
import Derived.Test.YtgbihaliiogboaaSli
import Derived.Shelf.Abstract
namespace Go.Proofs.Ytgbihaliiogboaa
open Go.RowKit
set_option linter.unusedSimpArgs false
set_option linter.unusedVariables false

theorem owns_below' {w w' : World} {base : Nat} {e : TypeId} {size : Nat} {v : Value} {n : Nat} {xs : List Value} (h : w.ownsRow base e size v n xs) (hb : Below w.heap.size w w') : w'.ownsRow base e size v n xs :=
  h.kept (row := none) ⟨hb.os, hb.tape, hb.output, hb.size, fun k hk _ => hb.block k hk⟩ (Classical.em _)
theorem cell_one_new' (W : World) (v : Value) (T : TypeId) : ∀ j u, [v][j]? = some u → (W.alloc (.cells #[v] T)).cell? ((⟨W.heap.size, 0, none⟩ : Addr).add j) = some u := fun j u hj => by
  match j, hj with
  | 0, hj =>
    obtain rfl : v = u := by simpa using hj
    have : (⟨W.heap.size, 0, none⟩ : Addr).add 0 = ⟨W.heap.size, 0, none⟩ := by simp [Addr.add]
    rw [this]; exact cell_block (block_new1 W _ rfl) rfl
/-- A function value that turns numbers into numbers, in all worlds above a world. -/
def TurnsI (g : Nat) (fst cap : Array Value) (f : Int → Int) (l : List Int) (w : World) : Prop :=
  ∀ (W : World) (n : Int), n ∈ l → Below w.heap.size w W → Calls Try.prog g (fst ++ #[.int .i64 n] ++ cap) W fun e w' => e = .returned (.int .i64 (f n)) ∧ Below W.heap.size W w'
end Go.Proofs.Ytgbihaliiogboaa
