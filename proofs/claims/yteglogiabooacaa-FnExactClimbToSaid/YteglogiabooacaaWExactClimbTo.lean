/- The walk of FnExactClimbTo. -/
import Derived.Test.YteglogiabooacaaClimbTo
namespace Go.Proofs.Yteglogiabooacaa
open Go.RowKit
set_option linter.unusedSimpArgs false
set_option linter.unusedVariables false
theorem Try.infoLRoof : (Try.prog.info? 26).map (·.size) = some 67 := by kernel_rfl
set_option maxRecDepth 100000 in
theorem w_FnExactClimbTo (r : Rf) (hr : r.Ok) (c t : Int) (hc : -128 ≤ c ∧ c ≤ 127) (ht : -128 ≤ t ∧ t ≤ 127) (w : World) : Calls Try.prog 5 #[.agg (rcells r), .agg #[.int .i8 c, .int .i8 t]] w fun e w' => e = .returned (.bool true) ∧ Below w.heap.size w w' := by
  have hB : Hid (w.heap.size + 2 ≤ ((w.alloc (.cells (rcells r) 26)).alloc (.cells #[.int .i8 c, .int .i8 t] 33)).heap.size) := by simp [Hid]
  have L0 : ∀ x : Ext (w.heap.size + 2) ((w.alloc (.cells (rcells r) 26)).alloc (.cells #[.int .i8 c, .int .i8 t] 33)), (Instr.loadAt 26 (.pointer (some ⟨w.heap.size, 0, none⟩))).run Try.prog x.out = .ok (.agg (rcells r)) x.out := fun x =>
    run_load_roof 26 Try.underlying26 rfl Try.infoLRoof hr (block_below x.h (block_alloc (block_new1 w _ rfl) _) (by omega))
  have R0 := hid L0; clear L0
  have l0 : w.heap.size < w.heap.size + 2 := by omega
  have l1 : w.heap.size + 1 < w.heap.size + 2 := by omega
  go_enter Try.func5, Try.ntmps5
  go_wp2_with fail
  refine wp_region_ext (w.heap.size + 2) (by kernel_rfl) (by kernel_rfl) ?_
  repeat (first
    | ((with_reducible refine wpQuiet_run (N := 10) rfl rfl (.agg (rcells r)) ?_ ?_); (rintro _ ⟨x, rfl⟩; exact execOp_load rfl rfl (R0.out x)); go_simp)
    | go_big_quiet_step (first
      | (go_at_call 10; with_reducible exact Calls.ext hB.out (c_toRoof r hr _))
      | (go_at_call 13; with_reducible exact Calls.ext hB.out (c_toPlace c t _))
      | (go_at_call 15; with_reducible exact Calls.ext hB.out (c_sClimbTo r hr c t hc ht _))))
  refine wpQuiet_nil ?_
  intro x
  go_wp2_with fail
  refine wp_region_ext' (by kernel_rfl) (by kernel_rfl) ?_
  repeat (first
    | ((with_reducible refine wpQuiet_run (N := 18) rfl rfl (.agg (rcells r)) ?_ ?_); (rintro _ ⟨x, rfl⟩; exact execOp_load rfl rfl (R0.out x)); go_simp)
    | go_big_quiet_step (first
      | (go_at_call 10; with_reducible exact Calls.ext hB.out (c_toRoof r hr _))
      | (go_at_call 13; with_reducible exact Calls.ext hB.out (c_toPlace c t _))
      | (go_at_call 16; with_reducible exact Calls.ext hB.out (c_ClimbTo r hr c t hc ht _))))
  refine wpQuiet_nil ?_
  intro y
  go_wp2_with fail
  go_ret
  exact ⟨rfl, (((Below.refl _ w).alloc (Nat.le_refl _) _).alloc (by simp) _).trans (y.h.mono (by omega))⟩
end Go.Proofs.Yteglogiabooacaa
