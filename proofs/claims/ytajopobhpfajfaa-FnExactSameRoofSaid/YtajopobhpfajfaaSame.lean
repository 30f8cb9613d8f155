/- SameRoof and WholeRoof, the program's and the reference's. -/
import Derived.Test.YtajopobhpfajfaaEq
import Derived.Test.YtajopobhpfajfaaEqv
import Derived.Test.YtajopobhpfajfaaNum
namespace Go.Proofs.Ytajopobhpfajfaa
open Go.RowKit
set_option linter.unusedSimpArgs false
set_option linter.unusedVariables false

theorem Try.guardRoof : Try.prog.eqGuardType Try.prog.depth 31 = false := by kernel_rfl
set_option maxRecDepth 100000 in
theorem c_SameRoof (a b : Rf) (ha : a.Ok) (hb : b.Ok) (w : World) : Calls Try.prog 13 #[.agg (rcells a), .agg (rcells b)] w fun e w' => e = .returned (.bool (eqRf a b)) ∧ Below w.heap.size w w' := by
  go_enter Try.func13, Try.ntmps13
  go_wp2_with (first
    | ((with_reducible refine gate (N := 5) rfl ?_); refine wp_roof 31 Try.underlying31 rfl Try.infoRoof rfl (.tmp 2) rfl w.heap.size rfl a ha (block_alloc (block_new1 w _ rfl) _) ?_)
    | ((with_reducible refine gate (N := 6) rfl ?_); refine wp_roof 31 Try.underlying31 rfl Try.infoRoof rfl (.tmp 3) rfl (w.heap.size + 1) rfl b hb (block_new1 _ _ (by simp)) ?_)
    | ((with_reducible refine gate (N := 7) rfl ?_); refine wpList_run rfl _ (execOp_eql rfl rfl rfl Try.guardRoof (run_eql_roof _ a b ha hb)) ?_))
  go_ret
  exact ⟨rfl, ((Below.refl _ w).alloc (Nat.le_refl _) _).alloc (by simp) _⟩
set_option maxRecDepth 100000 in
theorem c_sSameRoof (a b : Rf) (ha : a.Ok) (hb : b.Ok) (w : World) : Calls Try.prog 11 #[.agg (rcells a), .agg (rcells b)] w fun e w' => e = .returned (.bool (eqRf a b)) ∧ Below w.heap.size w w' := by
  go_enter Try.func11, Try.ntmps11
  go_wp2_with (first
    | ((with_reducible refine gate (N := 5) rfl ?_); refine wp_roof 31 Try.underlying31 rfl Try.infoRoof rfl (.tmp 2) rfl w.heap.size rfl a ha (block_alloc (block_new1 w _ rfl) _) ?_)
    | ((with_reducible refine gate (N := 6) rfl ?_); refine wp_roof 31 Try.underlying31 rfl Try.infoRoof rfl (.tmp 3) rfl (w.heap.size + 1) rfl b hb (block_new1 _ _ (by simp)) ?_)
    | ((with_reducible refine gate (N := 7) rfl ?_); refine wpList_run rfl _ (execOp_eql rfl rfl rfl Try.guardRoof (run_eql_roof _ a b ha hb)) ?_))
  go_ret
  exact ⟨rfl, ((Below.refl _ w).alloc (Nat.le_refl _) _).alloc (by simp) _⟩
end Go.Proofs.Ytajopobhpfajfaa
