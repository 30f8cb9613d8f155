/- The walk of FnExactCutRoof. -/
import Derived.Test.YteglogiabooacaaCut
namespace Go.Proofs.Yteglogiabooacaa
open Go.RowKit
set_option linter.unusedSimpArgs false
set_option linter.unusedVariables false
theorem Try.infoLRoof : (Try.prog.info? 26).map (·.size) = some 67 := by kernel_rfl
theorem hstore {B : Nat} {W0 wr w2 : World} {cs : Array Value} {T : TypeId} (hB : Hid (B ≤ W0.heap.size)) (h : Hid (Below B W0 wr)) (hg : (wr.alloc (.cells cs T)).grownBy w2 (some wr.heap.size)) : Hid (Below B W0 w2) :=
  (h.out.alloc (Nat.le_trans hB.out h.out.size) _).grown hg (by have := Nat.le_trans hB.out h.out.size; simp; omega) (fun k hk => by cases hk; exact Nat.le_trans hB.out h.out.size)
set_option maxRecDepth 100000 in
theorem w_FnExactCutRoof (r : Rf) (hr : r.Ok) (c : Int) (hc : -9223372036854775808 ≤ c ∧ c ≤ 9223372036854775807) (n : Int) (_hn : -9223372036854775808 ≤ n ∧ n ≤ 9223372036854775807) (w : World) : Calls Try.prog 7 #[.agg (rcells r), .int .i64 c, .int .i64 n] w fun e w' => e = .returned (.bool true) ∧ Below w.heap.size w w' := by
  have hok := cutV_ok hr c n
  have HB : Hid (Below (w.heap.size + 1) (w.alloc (.cells (rcells r) 26)) (w.alloc (.cells (rcells r) 26))) := Below.refl _ _
  have hB : Hid (w.heap.size + 1 ≤ (w.alloc (.cells (rcells r) 26)).heap.size) := by simp [Hid]
  have HC := hid hc; clear hc _hn
  go_enter Try.func7, Try.ntmps7
  go_wp2_with (first
    | ((with_reducible refine gate (N := 12) rfl ?_); refine wp_roof 26 Try.underlying26 rfl Try.infoLRoof rfl (.tmp 3) rfl w.heap.size rfl r hr (block_below HB.out (block_new1 w _ rfl) (by omega)) ?_)
    | ((with_reducible refine gate (N := 20) rfl ?_); refine wp_roof 26 Try.underlying26 rfl Try.infoLRoof rfl (.tmp 3) rfl w.heap.size rfl r hr (block_below HB.out (block_new1 w _ rfl) (by omega)) ?_)
    | (go_at_call 10; ((with_reducible refine (c_toRoof r hr _).mono ?_); rintro e w1 ⟨rfl, hb1⟩); (try have HP := hid (block_below hb1 HP.out (block_lt HP.out))); replace HB := hstep hB HB hb1; clear hb1)
    | (go_at_call 20; ((with_reducible refine (c_sCutRoof r hr c n HC.out _).mono ?_); rintro e w2 ⟨rfl, hb1⟩); replace HB := hstep hB HB hb1; clear hb1)
    | (go_at_call 21; ((with_reducible refine (c_CutRoof r hr c n _).mono ?_); rintro e w5 ⟨rfl, hb1⟩); (have HP := hid (block_below hb1 HP.out (block_lt HP.out))); replace HB := hstep hB HB hb1; clear hb1)
    | ((with_reducible refine gateN rfl ?_); refine wp_store_roof rfl (.tmp 7) (.tmp 17) rfl w2.heap.size Rf.zero _ Rf.zero_ok hok (block_new1 w2 _ rfl) rfl rfl ?_; intro w3 hw3 hg hsz; have HP := hid hw3; clear hw3; replace HB := hstore hB HB hg; clear hg hsz)
    | ((with_reducible refine gateN rfl ?_); refine wp_store_roof rfl (.tmp 9) (.tmp 25) rfl w5.heap.size Rf.zero _ Rf.zero_ok hok (block_new1 w5 _ rfl) rfl rfl ?_; intro w6 hw6 hg hsz; have HQ := hid hw6; clear hw6; (have hlt := block_lt HP.out); (have HP := hid (block_grown hg (block_alloc HP.out _) (by omega))); replace HB := hstore hB HB hg; clear hg hsz hlt)
    | ((with_reducible refine gate (N := 27) rfl ?_); refine wp_roof 29 Try.underlying29 rfl Try.infoRoof rfl (.tmp 9) rfl w5.heap.size rfl _ hok HQ.out ?_)
    | ((with_reducible refine gate (N := 28) rfl ?_); refine wp_roof 29 Try.underlying29 rfl Try.infoRoof rfl (.tmp 7) rfl w2.heap.size rfl _ hok HP.out ?_)
    | (go_at_call 19; ((with_reducible refine (c_eqRoof _ hok _).mono ?_); rintro e w7 ⟨rfl, hb1⟩); replace HB := hstep hB HB hb1; clear hb1))
  go_ret
  exact ⟨rfl, ((Below.refl _ w).alloc (Nat.le_refl _) _).trans (HB.out.mono (by omega))⟩
end Go.Proofs.Yteglogiabooacaa
