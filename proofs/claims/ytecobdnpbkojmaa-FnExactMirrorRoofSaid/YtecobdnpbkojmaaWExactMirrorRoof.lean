/- The walk of FnExactMirrorRoof. -/
import Derived.Test.YtecobdnpbkojmaaMirror
namespace Go.Proofs.Ytecobdnpbkojmaa
open Go.RowKit
set_option linter.unusedSimpArgs false
set_option linter.unusedVariables false
theorem Try.infoLRoof : (Try.prog.info? 26).map (·.size) = some 67 := by kernel_rfl
set_option maxRecDepth 100000 in
theorem w_FnExactMirrorRoof (r : Rf) (hr : r.Ok) (w : World) : Calls Try.prog 3 #[.agg (rcells r)] w fun e w' => e = .returned (.bool true) ∧ Below w.heap.size w w' := by
  have hok := mirV_ok hr
  have HB : Hid (Below (w.heap.size + 1) (w.alloc (.cells (rcells r) 26)) (w.alloc (.cells (rcells r) 26))) := Below.refl _ _
  have hB : Hid (w.heap.size + 1 ≤ (w.alloc (.cells (rcells r) 26)).heap.size) := by simp [Hid]
  go_enter Try.func3, Try.ntmps3
  go_wp2_with (first
    | ((with_reducible refine gate (N := 8) rfl ?_); refine wp_roof 26 Try.underlying26 rfl Try.infoLRoof rfl (.tmp 1) rfl w.heap.size rfl r hr (block_below HB.out (block_new1 w _ rfl) (by omega)) ?_)
    | ((with_reducible refine gate (N := 14) rfl ?_); refine wp_roof 26 Try.underlying26 rfl Try.infoLRoof rfl (.tmp 1) rfl w.heap.size rfl r hr (block_below HB.out (block_new1 w _ rfl) (by omega)) ?_)
    | (go_at_call 10; ((with_reducible refine (c_toRoof r hr _).mono ?_); rintro e w1 ⟨rfl, hb1⟩); (try have HP := hid (block_below hb1 HP.out (block_lt HP.out))); replace HB := hstep hB HB hb1; clear hb1)
    | (go_at_call 9; ((with_reducible refine (c_sMirrorRoof r hr _).mono ?_); rintro e w2 ⟨rfl, hb1⟩); replace HB := hstep hB HB hb1; clear hb1)
    | (go_at_call 11; ((with_reducible refine (c_MirrorRoof r hr _).mono ?_); rintro e w5 ⟨rfl, hb1⟩); (have HP := hid (block_below hb1 HP.out (block_lt HP.out))); replace HB := hstep hB HB hb1; clear hb1)
    | ((with_reducible refine gateN rfl ?_); refine wp_store_roof rfl (.tmp 3) (.tmp 11) rfl w2.heap.size Rf.zero _ Rf.zero_ok hok (block_new1 w2 _ rfl) rfl rfl ?_; intro w3 hw3 hg hsz; have HP := hid hw3; clear hw3; replace HB := hstore hB HB hg; clear hg hsz)
    | ((with_reducible refine gateN rfl ?_); refine wp_store_roof rfl (.tmp 5) (.tmp 17) rfl w5.heap.size Rf.zero _ Rf.zero_ok hok (block_new1 w5 _ rfl) rfl rfl ?_; intro w6 hw6 hg hsz; have HQ := hid hw6; clear hw6; (have hlt := block_lt HP.out); (have HP := hid (block_grown hg (block_alloc HP.out _) (by omega))); replace HB := hstore hB HB hg; clear hg hsz hlt)
    | ((with_reducible refine gate (N := 19) rfl ?_); refine wp_roof 27 Try.underlying27 rfl Try.infoRoof rfl (.tmp 5) rfl w5.heap.size rfl _ hok HQ.out ?_)
    | ((with_reducible refine gate (N := 20) rfl ?_); refine wp_roof 27 Try.underlying27 rfl Try.infoRoof rfl (.tmp 3) rfl w2.heap.size rfl _ hok HP.out ?_)
    | (go_at_call 12; ((with_reducible refine (c_eqRoof _ hok _).mono ?_); rintro e w7 ⟨rfl, hb1⟩); replace HB := hstep hB HB hb1; clear hb1))
  all_goals
    go_ret
    exact ⟨rfl, ((Below.refl _ w).alloc (Nat.le_refl _) _).trans (HB.out.mono (by omega))⟩
end Go.Proofs.Ytecobdnpbkojmaa
