/- The walk of FnExactTilesOf. -/
import Derived.Test.YtecobdnpbkojmaaTiles
namespace Go.Proofs.Ytecobdnpbkojmaa
open Go.RowKit
set_option linter.unusedSimpArgs false
set_option linter.unusedVariables false
set_option maxHeartbeats 1600000 in
set_option maxRecDepth 100000 in
theorem w_FnExactTilesOf (r : Rf) (hr : r.Ok) (n : Int) (hn : -9223372036854775808 ≤ n ∧ n ≤ 9223372036854775807) (w : World) : Calls Try.prog 6 #[.agg (rcells r), .int .i64 n] w fun e w' => e = .returned (.bool true) ∧ Below w.heap.size w w' := by
  have HB : Hid (Below (w.heap.size + 1) (w.alloc (.cells (rcells r) 26)) (w.alloc (.cells (rcells r) 26))) := Below.refl _ _
  have hB : Hid (w.heap.size + 1 ≤ (w.alloc (.cells (rcells r) 26)).heap.size) := by simp [Hid]
  obtain ⟨k, hk⟩ : ∃ k, k = codeOf (validB r) (inB n 0 3) := ⟨_, rfl⟩
  have HL : Hid ((tilesOfV r n).length ≤ 1000000) := Nat.le_trans (tilesOfV_len r n) (by decide)
  obtain ⟨l, hl⟩ : ∃ l, l = tilesOfV r n := ⟨_, rfl⟩
  have HC1 := hid (c_sTilesOf r hr n hn)
  have HC2 := hid (c_TilesOf r hr n hn)
  rw [← hl] at HL
  rw [← hk, ← hl] at HC1 HC2
  clear hk hl hn
  go_enter Try.func6, Try.ntmps6
  go_wp2_with (first
    | ((with_reducible refine gate (N := 14) rfl ?_); refine wp_roof 26 Try.underlying26 rfl Try.infoLRoof rfl (.tmp 2) rfl w.heap.size rfl r hr (block_below HB.out (block_new1 w _ rfl) (by omega)) ?_)
    | ((with_reducible refine gate (N := 21) rfl ?_); refine wp_roof 26 Try.underlying26 rfl Try.infoLRoof rfl (.tmp 2) rfl w.heap.size rfl r hr (block_below HB.out (block_new1 w _ rfl) (by omega)) ?_)
    | ((with_reducible refine gate (N := 48) rfl ?_); refine wp_roof 26 Try.underlying26 rfl Try.infoLRoof rfl (.tmp 2) rfl w.heap.size rfl r hr (block_below HB.out (block_new1 w _ rfl) (by omega)) ?_)
    | (go_at_call 10; ((with_reducible refine (c_toRoof r hr _).mono ?_); rintro e wt ⟨rfl, hb1⟩); (try have O0 := hid (O0.out.below hb1)); (try have O1 := hid (O1.out.below hb1)); replace HB := hstep hB HB hb1; clear hb1)
    | (go_at_call 17; ((with_reducible refine (HC1.out _).mono ?_); rintro e ws ⟨v0, rfl, hb1, ho1⟩); have O0 := hid (OwQ.of ho1 hb1); replace HB := hstep hB HB hb1; obtain ⟨A0, c0, rfl⟩ := owns_slice ho1; clear hb1 ho1 HC1)
    | (go_at_call 18; ((with_reducible refine (HC2.out _).mono ?_); rintro e w2 ⟨v1, rfl, hb1, ho1⟩); have O2 := hid (OwQ.of ho1 hb1); have O0 := hid (O0.out.below hb1); have O1 := hid (O1.out.below hb1); replace HB := hstep hB HB hb1; obtain ⟨A2, c2, rfl⟩ := owns_slice ho1; clear hb1 ho1)
    | (go_at_call 18; ((with_reducible refine (HC2.out _).mono ?_); rintro e w1 ⟨v1, rfl, hb1, ho1⟩); have O1 := hid (OwQ.of ho1 hb1); have HS := hid O0.out.2.2; have O0 := hid (O0.out.below hb1); have HLo := hid (HB.out.size); replace HB := hstep hB HB hb1; obtain ⟨A1, c1, rfl⟩ := owns_slice ho1; clear hb1 ho1)
    | (go_at_call 19; ((with_reducible refine (q_eqPlaceS HL.out O2.out O0.out).mono ?_); rintro e wt ⟨rfl, hb1⟩); have O0 := hid (O0.out.below hb1); have O1 := hid (O1.out.below hb1); replace HB := hstep hB HB hb1; clear hb1)
    | (go_at_call 19; ((with_reducible refine (q_eqPlaceS HL.out O1.out O0.out).mono ?_); rintro e wt ⟨rfl, hb1⟩); have O0 := hid (O0.out.below hb1); have O1 := hid (O1.out.below hb1); replace HB := hstep hB HB hb1; clear hb1)
    | (go_at_call 20; ((with_reducible refine (q_markPlaceS HL.out O1.out).mono ?_); rintro e wm ⟨rfl, hb1, om⟩); have O1 := hid om; have O0 := hid (O0.out.below' hb1 HS.out); replace HB := hstepB HB hb1 (Nat.le_trans hB.out HLo.out); clear hb1 om)
    | (go_at_call 21; ((with_reducible refine (q_heldPlaceS HL.out O1.out).mono ?_); rintro e wt ⟨rfl, hb1⟩); have O0 := hid (O0.out.below hb1); have O1 := hid (O1.out.below hb1); replace HB := hstep hB HB hb1; clear hb1))
  go_ret
  exact ⟨rfl, ((Below.refl _ w).alloc (Nat.le_refl _) _).trans (HB.out.mono (by omega))⟩
end Go.Proofs.Ytecobdnpbkojmaa
