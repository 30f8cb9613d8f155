/- The walk of FnExactSameRoof. -/
import Derived.Test.YtajopobhpfajfaaSame
namespace Go.Proofs.Ytajopobhpfajfaa
open Go.RowKit
set_option linter.unusedSimpArgs false
set_option linter.unusedVariables false
theorem Try.infoLRoof : (Try.prog.info? 29).map (·.size) = some 67 := by kernel_rfl
set_option maxRecDepth 100000 in
theorem w_FnExactSameRoof (a : Rf) (ha : a.Ok) (b : Rf) (hb : b.Ok) (w : World) : Calls Try.prog 5 #[.agg (rcells a), .agg (rcells b)] w fun e w' => e = .returned (.bool true) ∧ Below w.heap.size w w' := by
  have L0 : ∀ x : Ext (w.heap.size + 1 + 1) ((w.alloc (.cells (rcells a) 29)).alloc (.cells (rcells b) 29)), (Instr.loadAt 29 (.pointer (some ⟨w.heap.size, 0, none⟩))).run Try.prog x.out = .ok (.agg (rcells a)) x.out := fun x =>
    run_load_roof 29 Try.underlying29 rfl Try.infoLRoof ha (block_below x.h (block_alloc (block_new1 w _ rfl) _) (by omega))
  have L1 : ∀ x : Ext (w.heap.size + 1 + 1) ((w.alloc (.cells (rcells a) 29)).alloc (.cells (rcells b) 29)), (Instr.loadAt 29 (.pointer (some ⟨w.heap.size + 1, 0, none⟩))).run Try.prog x.out = .ok (.agg (rcells b)) x.out := fun x =>
    run_load_roof 29 Try.underlying29 rfl Try.infoLRoof hb (block_below x.h (block_new1 _ _ (by simp)) (by omega))
  have H0 := hid L0; clear L0
  have H1 := hid L1; clear L1
  have hB : w.heap.size + 1 + 1 ≤ ((w.alloc (.cells (rcells a) 29)).alloc (.cells (rcells b) 29)).heap.size := by simp
  have HB := hid hB; clear hB
  go_enter Try.func5, Try.ntmps5
  go_wp2_with fail
  refine wp_region_ext (w.heap.size + 1 + 1) (by kernel_rfl) (by kernel_rfl) ?_
  repeat (first
    | ((with_reducible refine wpQuiet_run (N := 7) rfl rfl (.agg (rcells a)) ?_ ?_); (rintro _ ⟨x, rfl⟩; exact execOp_load rfl rfl (H0.out x)); go_simp)
    | ((with_reducible refine wpQuiet_run (N := 9) rfl rfl (.agg (rcells b)) ?_ ?_); (rintro _ ⟨x, rfl⟩; exact execOp_load rfl rfl (H1.out x)); go_simp)
    | go_big_quiet_step (first | (go_at_call 12; first | with_reducible exact Calls.ext HB.out (c_toRoof a ha _) | with_reducible exact Calls.ext HB.out (c_toRoof b hb _)) | (go_at_call 11; exact Calls.ext HB.out (c_sSameRoof a b ha hb _))))
  refine wpQuiet_nil ?_
  intro x
  go_wp2_with fail
  refine wp_region_ext' (by kernel_rfl) (by kernel_rfl) ?_
  repeat (first
    | ((with_reducible refine wpQuiet_run (N := 12) rfl rfl (.agg (rcells a)) ?_ ?_); (rintro _ ⟨x, rfl⟩; exact execOp_load rfl rfl (H0.out x)); go_simp)
    | ((with_reducible refine wpQuiet_run (N := 14) rfl rfl (.agg (rcells b)) ?_ ?_); (rintro _ ⟨x, rfl⟩; exact execOp_load rfl rfl (H1.out x)); go_simp)
    | go_big_quiet_step (first | (go_at_call 12; first | with_reducible exact Calls.ext HB.out (c_toRoof a ha _) | with_reducible exact Calls.ext HB.out (c_toRoof b hb _)) | (go_at_call 13; exact Calls.ext HB.out (c_SameRoof a b ha hb _))))
  refine wpQuiet_nil ?_
  intro y
  go_wp2_with fail
  go_ret
  exact ⟨rfl, (((Below.refl _ w).alloc (Nat.le_refl _) _).alloc (by simp) _).trans (y.h.mono (by omega))⟩
end Go.Proofs.Ytajopobhpfajfaa
