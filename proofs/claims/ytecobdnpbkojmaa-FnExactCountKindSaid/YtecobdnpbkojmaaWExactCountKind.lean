/- The walk of FnExactCountKind. -/
import Derived.Test.YtecobdnpbkojmaaTiles
namespace Go.Proofs.Ytecobdnpbkojmaa
open Go.RowKit
set_option linter.unusedSimpArgs false
set_option linter.unusedVariables false
set_option maxRecDepth 100000 in
theorem w_FnExactCountKind (r : Rf) (hr : r.Ok) (n : Int) (hn : -9223372036854775808 ≤ n ∧ n ≤ 9223372036854775807) (w : World) : Calls Try.prog 5 #[.agg (rcells r), .int .i64 n] w fun e w' => e = .returned (.bool true) ∧ Below w.heap.size w w' := by
  have HB : Hid (Below (w.heap.size + 1) (w.alloc (.cells (rcells r) 26)) (w.alloc (.cells (rcells r) 26))) := Below.refl _ _
  have hB : Hid (w.heap.size + 1 ≤ (w.alloc (.cells (rcells r) 26)).heap.size) := by simp [Hid]
  obtain ⟨k, hk⟩ : ∃ k, k = codeOf (validB r) (inB n 0 3) := ⟨_, rfl⟩
  obtain ⟨m, hm⟩ : ∃ m, m = ((tilesOfV r n).length : Int) := ⟨_, rfl⟩
  have HC1 := hid (c_sCountKind r hr n hn)
  have HC2 := hid (c_CountKind r hr n hn)
  rw [← hk, ← hm] at HC1 HC2
  clear hk hm hn
  go_enter Try.func5, Try.ntmps5
  go_wp2_with (first
    | ((with_reducible refine gate (N := 10) rfl ?_); refine wp_roof 26 Try.underlying26 rfl Try.infoLRoof rfl (.tmp 2) rfl w.heap.size rfl r hr (block_below HB.out (block_new1 w _ rfl) (by omega)) ?_)
    | ((with_reducible refine gate (N := 17) rfl ?_); refine wp_roof 26 Try.underlying26 rfl Try.infoLRoof rfl (.tmp 2) rfl w.heap.size rfl r hr (block_below HB.out (block_new1 w _ rfl) (by omega)) ?_)
    | (go_at_call 10; ((with_reducible refine (c_toRoof r hr _).mono ?_); rintro e w1 ⟨rfl, hb1⟩); replace HB := hstep hB HB hb1; clear hb1)
    | (go_at_call 15; ((with_reducible refine (HC1.out _).mono ?_); rintro e w1 ⟨rfl, hb1⟩); replace HB := hstep hB HB hb1; clear hb1)
    | (go_at_call 16; ((with_reducible refine (HC2.out _).mono ?_); rintro e w1 ⟨rfl, hb1⟩); replace HB := hstep hB HB hb1; clear hb1))
  go_ret
  exact ⟨rfl, ((Below.refl _ w).alloc (Nat.le_refl _) _).trans (HB.out.mono (by omega))⟩
end Go.Proofs.Ytecobdnpbkojmaa
