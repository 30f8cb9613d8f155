/- The kind of a tile: read and replaced. -/
import Derived.Test.YtgbihaliiogboaaCode
import Derived.Test.YtgbihaliiogboaaEqv
namespace Go.Proofs.Ytgbihaliiogboaa
open Go.RowKit
set_option linter.unusedSimpArgs false
set_option linter.unusedVariables false

theorem roof_cell {W : World} {b : Nat} {r : Rf} (hr : r.Ok) {T : TypeId} {fr : Nat × Nat} (hb : W.heap[b]? = some (.cells (rcells r) T fr)) (i k : Nat) (hi : i < 8) (hk : k < 8) : W.cell? ⟨b, 3 + i * 8 + k, none⟩ = some (.int .u8 (r.at i k)) := by
  have := rct r hr (8 * i + k) (by omega)
  have e : 3 + i * 8 + k = 3 + (8 * i + k) := by omega
  rw [cell_of_row W b _ _ _ _ hb, e]; exact this
end Go.Proofs.Ytgbihaliiogboaa
