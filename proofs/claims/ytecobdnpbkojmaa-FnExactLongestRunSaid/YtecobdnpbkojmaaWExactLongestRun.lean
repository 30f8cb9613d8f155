/- The walk of FnExactLongestRun. -/
import Derived.Test.YtecobdnpbkojmaaRun
import Derived.Test.YtecobdnpbkojmaaSl
namespace Go.Proofs.Ytecobdnpbkojmaa
open Go.RowKit
set_option linter.unusedSimpArgs false
set_option linter.unusedVariables false
set_option maxRecDepth 100000 in
theorem w_FnExactLongestRun (r : Rf) (hr : r.Ok) (n : Int) (hn : -9223372036854775808 ≤ n ∧ n ≤ 9223372036854775807) (w : World) : Calls Try.prog 7 #[.agg (rcells r), .int .i64 n] w fun e w' => e = .returned (.bool true) ∧ Below w.heap.size w w' := by
  have HB : Hid (Below (w.heap.size + 1) (w.alloc (.cells (rcells r) 26)) (w.alloc (.cells (rcells r) 26))) := Below.refl _ _
  have hB : Hid (w.heap.size + 1 ≤ (w.alloc (.cells (rcells r) 26)).heap.size) := by simp [Hid]
  have HC1 := hid (c_sLongestRun r hr n hn)
  have HC2 := hid (c_LongestRun r hr n hn)
  clear hn
  go_enter Try.func7, Try.ntmps7
  go_wp2_with (first
    | ((with_reducible refine gate (N := 12) rfl ?_); refine wp_roof 26 Try.underlying26 rfl Try.infoLRoof rfl (.tmp 2) rfl w.heap.size rfl r hr (block_below HB.out (block_new1 w _ rfl) (by omega)) ?_)
    | ((with_reducible refine gate (N := 20) rfl ?_); refine wp_roof 26 Try.underlying26 rfl Try.infoLRoof rfl (.tmp 2) rfl w.heap.size rfl r hr (block_below HB.out (block_new1 w _ rfl) (by omega)) ?_)
    | (go_at_call 10; ((with_reducible refine (c_toRoof r hr _).mono ?_); rintro e wt ⟨rfl, hb1⟩); (try have P0 := hid (block_below hb1 P0.out (block_lt P0.out))); replace HB := hstep hB HB hb1; clear hb1)
    | (go_at_call 22; ((with_reducible refine (HC1.out _).mono ?_); rintro e ws ⟨c, t, m, k, hL, rfl, hb1⟩); have HL := hid hL; replace HB := hstep hB HB hb1; have HB0 := HB; replace HB : Hid (Below (w.heap.size + 1) (w.alloc (.cells (rcells r) 26)) (ws.alloc (.cells #[.int .i8 c, .int .i8 t] 43))) := HB.out.alloc (Nat.le_trans hB.out HB.out.size) _; have P0 := hid (block_new1 ws (.cells #[.int .i8 c, .int .i8 t] 43) rfl); clear hb1 hL HC1)
    | (go_at_call 23; ((with_reducible refine (HC2.out _).mono ?_); rintro e wi ⟨c2, t2, m2, k2, hL, rfl, hb1⟩); obtain ⟨rfl, rfl, rfl, rfl⟩ := HL.out.unique hL; have P1 := hid (block_below hb1 P0.out (block_lt P0.out)); replace HB := hstep hB HB hb1; have g0 := cell_block P1.out (j := 0) rfl; have g1 := cell_block P1.out (j := 1) rfl; have lw := block_lt P1.out; clear hb1 hL HC2)
    | (go_at_call 24; ((with_reducible refine (c_eqPlace c t _).mono ?_); rintro e w7 ⟨rfl, hb1⟩); have HB7 := hid (Below.trans (HB.out.alloc (Nat.le_trans hB.out HB.out.size) _) (hb1.mono (Nat.le_trans hB.out (Nat.le_trans HB.out.size (by simp))))); clear hb1))
  go_ret
  exact ⟨rfl, ((Below.refl _ w).alloc (Nat.le_refl _) _).trans (HB7.out.mono (by omega))⟩
end Go.Proofs.Ytecobdnpbkojmaa
