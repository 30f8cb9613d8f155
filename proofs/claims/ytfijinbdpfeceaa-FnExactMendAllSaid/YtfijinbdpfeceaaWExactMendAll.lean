/- The walk of FnExactMendAll. -/
import Derived.Test.YtfijinbdpfeceaaMend
namespace Go.Proofs.Ytfijinbdpfeceaa
open Go.RowKit
set_option linter.unusedSimpArgs false
set_option linter.unusedVariables false
set_option maxRecDepth 100000 in
theorem w_FnExactMendAll (r : Rf) (hr : r.Ok) (w : World) : Calls Try.prog 3 #[.agg (rcells r)] w fun e w' => e = .returned (.bool true) ∧ Below w.heap.size w w' := by
  have hok := mendV_ok hr
  have HB : Hid (Below (w.heap.size + 1) (w.alloc (.cells (rcells r) 26)) (w.alloc (.cells (rcells r) 26))) := Below.refl _ _
  have hB : Hid (w.heap.size + 1 ≤ (w.alloc (.cells (rcells r) 26)).heap.size) := by simp [Hid]
  obtain ⟨V, hV⟩ : ∃ V, V = mendV r := ⟨_, rfl⟩
  obtain ⟨n, hn⟩ : ∃ n, n = mendN r := ⟨_, rfl⟩
  obtain ⟨k, hk⟩ : ∃ k, k = mendC r := ⟨_, rfl⟩
  have HC1 := hid (c_sMendAll r hr)
  have HC2 := hid (c_MendAll r hr)
  rw [← hV, ← hn, ← hk] at HC1 HC2
  rw [← hV] at hok
  clear hV hn hk
  go_enter Try.func3, Try.ntmps3
  go_wp2_with (first
    | ((with_reducible refine gate (N := 10) rfl ?_); refine wp_roof 26 Try.underlying26 rfl Try.infoLRoof rfl (.tmp 1) rfl w.heap.size rfl r hr (block_below HB.out (block_new1 w _ rfl) (by omega)) ?_)
    | ((with_reducible refine gate (N := 17) rfl ?_); refine wp_roof 26 Try.underlying26 rfl Try.infoLRoof rfl (.tmp 1) rfl w.heap.size rfl r hr (block_below HB.out (block_new1 w _ rfl) (by omega)) ?_)
    | (go_at_call 10; ((with_reducible refine (c_toRoof r hr _).mono ?_); rintro e w1 ⟨rfl, hb1⟩); (try have HP := hid (block_below hb1 HP.out (block_lt HP.out))); replace HB := hstep hB HB hb1; clear hb1)
    | (go_at_call 9; ((with_reducible refine (HC1.out _).mono ?_); rintro e w2 ⟨rfl, hb1⟩); replace HB := hstep hB HB hb1; clear hb1)
    | (go_at_call 11; ((with_reducible refine (HC2.out _).mono ?_); rintro e w5 ⟨rfl, hb1⟩); (have HP := hid (block_below hb1 HP.out (block_lt HP.out))); replace HB := hstep hB HB hb1; clear hb1)
    | ((with_reducible refine gateN rfl ?_); refine wp_store_roof rfl (.tmp 3) (.tmp 13) rfl w2.heap.size Rf.zero _ Rf.zero_ok hok (block_new1 w2 _ rfl) rfl rfl ?_; intro w3 hw3 hg hsz; have HP := hid hw3; clear hw3; replace HB := hstore hB HB hg; clear hg hsz)
    | ((with_reducible refine gateN rfl ?_); refine wp_store_roof rfl (.tmp 6) (.tmp 20) rfl w5.heap.size Rf.zero _ Rf.zero_ok hok (block_new1 w5 _ rfl) rfl rfl ?_; intro w6 hw6 hg hsz; have HQ := hid hw6; clear hw6; (have hlt := block_lt HP.out); (have HP := hid (block_grown hg (block_alloc HP.out _) (by omega))); replace HB := hstore hB HB hg; clear hg hsz hlt)
    | ((with_reducible refine gate (N := 23) rfl ?_); refine wp_roof 27 Try.underlying27 rfl Try.infoRoof rfl (.tmp 6) rfl w5.heap.size rfl _ hok HQ.out ?_)
    | ((with_reducible refine gate (N := 24) rfl ?_); refine wp_roof 27 Try.underlying27 rfl Try.infoRoof rfl (.tmp 3) rfl w2.heap.size rfl _ hok HP.out ?_)
    | (go_at_call 12; ((with_reducible refine (c_eqRoof _ hok _).mono ?_); rintro e w7 ⟨rfl, hb1⟩); replace HB := hstep hB HB hb1; clear hb1))
  all_goals
    go_ret
    exact ⟨rfl, ((Below.refl _ w).alloc (Nat.le_refl _) _).trans (HB.out.mono (by omega))⟩
end Go.Proofs.Ytfijinbdpfeceaa
