/- The walk of FnExactRoofText. -/
import Derived.Test.YtecobdnpbkojmaaText
namespace Go.Proofs.Ytecobdnpbkojmaa
open Go.RowKit
set_option linter.unusedSimpArgs false
set_option linter.unusedVariables false
theorem Try.infoLRoof : (Try.prog.info? 26).map (·.size) = some 67 := by kernel_rfl
set_option maxRecDepth 100000 in
theorem w_FnExactRoofText (r : Rf) (hr : r.Ok) (w : World) : Calls Try.prog 4 #[.agg (rcells r)] w fun e w' => e = .returned (.bool true) ∧ Below w.heap.size w w' := by
  have HB : Hid (Below (w.heap.size + 1) (w.alloc (.cells (rcells r) 26)) (w.alloc (.cells (rcells r) 26))) := Below.refl _ _
  have hB : Hid (w.heap.size + 1 ≤ (w.alloc (.cells (rcells r) 26)).heap.size) := by simp [Hid]
  obtain ⟨t, ht⟩ : ∃ t, t = textV r := ⟨_, rfl⟩
  have HC1 := hid (c_RoofText r hr)
  have HC2 := hid (c_sRoofText r hr)
  rw [← ht] at HC1 HC2
  clear ht
  go_enter Try.func4, Try.ntmps4
  go_wp2_with (first
    | ((with_reducible refine gate (N := 5) rfl ?_); refine wp_roof 26 Try.underlying26 rfl Try.infoLRoof rfl (.tmp 1) rfl w.heap.size rfl r hr (block_below HB.out (block_new1 w _ rfl) (by omega)) ?_)
    | ((with_reducible refine gate (N := 8) rfl ?_); refine wp_roof 26 Try.underlying26 rfl Try.infoLRoof rfl (.tmp 1) rfl w.heap.size rfl r hr (block_below HB.out (block_new1 w _ rfl) (by omega)) ?_)
    | (go_at_call 10; ((with_reducible refine (c_toRoof r hr _).mono ?_); rintro e w1 ⟨rfl, hb1⟩); replace HB := hstep hB HB hb1; clear hb1)
    | (go_at_call 13; ((with_reducible refine (HC2.out _).mono ?_); rintro e w1 ⟨rfl, hb1⟩); replace HB := hstep hB HB hb1; clear hb1)
    | (go_at_call 14; ((with_reducible refine (HC1.out _).mono ?_); rintro e w1 ⟨rfl, hb1⟩); replace HB := hstep hB HB hb1; clear hb1))
  go_ret
  exact ⟨rfl, ((Below.refl _ w).alloc (Nat.le_refl _) _).trans (HB.out.mono (by omega))⟩
end Go.Proofs.Ytecobdnpbkojmaa
