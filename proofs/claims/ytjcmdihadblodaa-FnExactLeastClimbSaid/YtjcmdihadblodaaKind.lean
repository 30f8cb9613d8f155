/- The kind of a tile: read and replaced. -/
import Derived.Test.YtjcmdihadblodaaCode
import Derived.Test.YtjcmdihadblodaaEqv
namespace Go.Proofs.Ytjcmdihadblodaa
open Go.RowKit
set_option linter.unusedSimpArgs false
set_option linter.unusedVariables false

theorem roof_cell {W : World} {b : Nat} {r : Rf} (hr : r.Ok) {T : TypeId} {fr : Nat × Nat} (hb : W.heap[b]? = some (.cells (rcells r) T fr)) (i k : Nat) (hi : i < 8) (hk : k < 8) : W.cell? ⟨b, 3 + i * 8 + k, none⟩ = some (.int .u8 (r.at i k)) := by
  have := rct r hr (8 * i + k) (by omega)
  have e : 3 + i * 8 + k = 3 + (8 * i + k) := by omega
  rw [cell_of_row W b _ _ _ _ hb, e]; exact this
theorem c_toPlace (c t : Int) (w : World) : Calls Try.prog 33 #[.agg #[.int .i8 c, .int .i8 t]] w fun e w' => e = .returned (.agg #[.int .i8 c, .int .i8 t]) ∧ Below w.heap.size w w' := by
  go_enter Try.func33, Try.ntmps33
  go_wp2_with fail
  refine bodyPost_ret (v := .agg #[.int .i8 c, .int .i8 t]) (by simp [results, Try.results33, go_sem]) rfl ⟨rfl, ?_⟩
  exact (((Below.refl _ w).alloc (Nat.le_refl _) _).alloc (by simp) _).alloc (by simp; omega) _
end Go.Proofs.Ytjcmdihadblodaa
