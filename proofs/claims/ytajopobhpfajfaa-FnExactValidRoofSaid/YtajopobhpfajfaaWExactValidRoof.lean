/- The walk of FnExactValidRoof. -/
import Derived.Test.YtajopobhpfajfaaVal
import Derived.Test.YtajopobhpfajfaaConv
namespace Go.Proofs.Ytajopobhpfajfaa
open Go.RowKit
theorem Try.infoLRoof : (Try.prog.info? 29).map (·.size) = some 67 := by kernel_rfl
set_option maxRecDepth 100000 in
theorem w_FnExactValidRoof (r : Rf) (hr : r.Ok) (w : World) : Calls Try.prog 7 #[.agg (rcells r)] w fun e w' => e = .returned (.bool true) ∧ Below w.heap.size w w' := by
  have HB : Hid (Below (w.heap.size + 1) (w.alloc (.cells (rcells r) 29)) (w.alloc (.cells (rcells r) 29))) := Below.refl _ _
  have hB : Hid (w.heap.size + 1 ≤ (w.alloc (.cells (rcells r) 29)).heap.size) := by simp [Hid]
  go_enter Try.func7, Try.ntmps7
  go_wp2_with (first
    | ((with_reducible refine gate (N := 5) rfl ?_); refine wp_roof 29 Try.underlying29 rfl Try.infoLRoof rfl (.tmp 1) rfl w.heap.size rfl r hr (block_below HB.out (block_new1 w _ rfl) (by omega)) ?_)
    | ((with_reducible refine gate (N := 8) rfl ?_); refine wp_roof 29 Try.underlying29 rfl Try.infoLRoof rfl (.tmp 1) rfl w.heap.size rfl r hr (block_below HB.out (block_new1 w _ rfl) (by omega)) ?_)
    | (go_at_call 12; (refine (c_toRoof r hr _).mono ?_; rintro e w1 ⟨rfl, hb1⟩); replace HB := hstep hB HB hb1; clear hb1)
    | (go_at_call 17; (refine (c_sValidRoof r hr _).mono ?_; rintro e w1 ⟨rfl, hb1⟩); replace HB := hstep hB HB hb1; clear hb1)
    | (go_at_call 18; (refine (c_ValidRoof r hr _).mono ?_; rintro e w1 ⟨rfl, hb1⟩); replace HB := hstep hB HB hb1; clear hb1))
  go_ret
  exact ⟨rfl, ((Below.refl _ w).alloc (Nat.le_refl _) _).trans (HB.out.mono (by omega))⟩
end Go.Proofs.Ytajopobhpfajfaa
