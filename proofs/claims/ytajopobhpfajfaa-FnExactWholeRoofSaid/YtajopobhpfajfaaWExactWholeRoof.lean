/- The walk of FnExactWholeRoof. -/
import Derived.Test.YtajopobhpfajfaaSame
namespace Go.Proofs.Ytajopobhpfajfaa
open Go.RowKit
set_option linter.unusedSimpArgs false
set_option linter.unusedVariables false
set_option maxRecDepth 100000 in
theorem w_FnExactWholeRoof (a : Int) (ha : -9223372036854775808 ≤ a ∧ a ≤ 9223372036854775807) (b : Int) (hb : -9223372036854775808 ≤ b ∧ b ≤ 9223372036854775807) (c : Int) (hc : -9223372036854775808 ≤ c ∧ c ≤ 9223372036854775807) (w : World) :
    Calls Try.prog 6 #[.int .i64 a, .int .i64 b, .int .i64 c] w fun e w' => e = .returned (.bool true) ∧ Below w.heap.size w w' := by
  clear ha hb hc
  have hok := wholeR_ok a b c
  go_enter Try.func6, Try.ntmps6
  go_wp2_with (first
    | (go_at_call 14; ((with_reducible refine (c_sWholeRoof a b c _).mono ?_); rintro e w1 ⟨rfl, hb1⟩))
    | (go_at_call 15; ((with_reducible refine (c_WholeRoof a b c _).mono ?_); rintro e w3 ⟨rfl, hb3⟩))
    | ((with_reducible refine gateN rfl ?_); refine wp_store_roof rfl (.tmp 7) (.tmp 16) rfl w1.heap.size Rf.zero _ Rf.zero_ok hok (block_new1 w1 _ rfl) rfl rfl ?_; intro w2 hw2 hg hsz; have HW := hid hw2; clear hw2)
    | ((with_reducible refine gateN rfl ?_); refine wp_store_roof rfl (.tmp 9) (.tmp 23) rfl w3.heap.size Rf.zero _ Rf.zero_ok hok (block_new1 w3 _ rfl) rfl rfl ?_; intro w4 hw4 hg4 hsz4; have HW4 := hid hw4; clear hw4)
    | ((with_reducible refine gate (N := 25) rfl ?_); refine wp_roof 31 Try.underlying31 rfl Try.infoRoof rfl (.tmp 9) rfl w3.heap.size rfl _ hok HW4.out ?_)
    | ((with_reducible refine gate (N := 26) rfl ?_); refine wp_roof 31 Try.underlying31 rfl Try.infoRoof rfl (.tmp 7) rfl w1.heap.size rfl _ hok (block_grown hg4 (block_alloc (block_below hb3 HW.out (block_lt HW.out)) _) (by have := block_lt HW.out; have := hb3.size; omega)) ?_)
    | (go_at_call 16; ((with_reducible refine (c_eqRoof _ hok _).mono ?_); rintro e w5 ⟨rfl, hb5⟩)))
  go_ret
  refine ⟨rfl, ?_⟩
  have b1 := (hb1.alloc hb1.size _).grown hg (by have := hb1.size; simp; omega) (fun k hk => by cases hk; exact hb1.size)
  have b3 := b1.trans (hb3.mono b1.size)
  have b4 := (b3.alloc b3.size _).grown hg4 (by have := b3.size; simp; omega) (fun k hk => by cases hk; exact b3.size)
  exact b4.trans (hb5.mono b4.size)
end Go.Proofs.Ytajopobhpfajfaa
