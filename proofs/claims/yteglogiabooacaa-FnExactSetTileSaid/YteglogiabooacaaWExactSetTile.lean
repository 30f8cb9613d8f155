/- The walk of FnExactSetTile. -/
import Derived.Test.YteglogiabooacaaSetTile
import Derived.Test.YteglogiabooacaaReg
namespace Go.Proofs.Yteglogiabooacaa
open Go.RowKit
set_option linter.unusedSimpArgs false
set_option linter.unusedVariables false
theorem Try.infoLRoof : (Try.prog.info? 26).map (·.size) = some 67 := by kernel_rfl
set_option maxRecDepth 100000 in
theorem w_FnExactSetTile (r : Rf) (hr : r.Ok) (c t : Int) (hc : -128 ≤ c ∧ c ≤ 127) (ht : -128 ≤ t ∧ t ≤ 127) (n : Int) (_hn : -9223372036854775808 ≤ n ∧ n ≤ 9223372036854775807) (w : World) : Calls Try.prog 6 #[.agg (rcells r), .agg #[.int .i8 c, .int .i8 t], .int .i64 n] w fun e w' => e = .returned (.bool true) ∧ Below w.heap.size w w' := by
  have hok := setTile_ok hr c t n
  have hB : Hid (w.heap.size + 2 ≤ ((w.alloc (.cells (rcells r) 26)).alloc (.cells #[.int .i8 c, .int .i8 t] 33)).heap.size) := by simp [Hid]
  have HA : Hid (Below w.heap.size w ((w.alloc (.cells (rcells r) 26)).alloc (.cells #[.int .i8 c, .int .i8 t] 33))) := ((Below.refl _ w).alloc (Nat.le_refl _) _).alloc (by simp) _
  have HR : Hid (((w.alloc (.cells (rcells r) 26)).alloc (.cells #[.int .i8 c, .int .i8 t] 33)).heap[w.heap.size]? = some (.cells (rcells r) 26 (0,0))) := block_alloc (block_new1 w _ rfl) _
  have l0 : w.heap.size < w.heap.size + 2 := by omega
  have l1 : w.heap.size + 1 < w.heap.size + 2 := by omega
  go_enter Try.func6, Try.ntmps6
  go_wp2_with fail
  refine wp_region_law0 (w.heap.size + 2) ?s1 9 10 7 _ _ 29 (.tmp 18) (rcells Rf.zero) (rcells (setTileV r c t n)) (by kernel_rfl) (by kernel_rfl) (by kernel_rfl) rfl rfl rfl rfl rfl rfl (by kernel_rfl) (by kernel_rfl) rfl Try.allocRoof (by rw [Try.infoRoof, size_rcells, hok.len]) (rcells_one _) (by rw [size_rcells, size_rcells, hok.len]; rfl) hB.out ?q1 ?v1 ?h1
  case q1 =>
    intro S hSn
    simp only [List.map_cons, List.map_nil, mute, isQ, if_true, Bool.false_eq_true, if_false]
    repeat (first
      | ((with_reducible refine wpQuiet_run (N := 12) rfl rfl (.agg (rcells r)) ?_ ?_); (rintro _ ⟨x, rfl⟩; exact execOp_load rfl rfl (run_load_roof 26 Try.underlying26 rfl Try.infoLRoof hr (block_below x.h HR.out l0))); go_simp)
      | go_big_quiet_step (first
        | (go_at_call 10; with_reducible exact Calls.extS hB.out (c_toRoof r hr _))
        | (go_at_call 13; with_reducible exact Calls.extS hB.out (c_toPlace c t _))
        | (go_at_call 17; with_reducible exact Calls.extS hB.out (c_sSetTile r hr c t hc ht n _))))
    refine wpQuiet_nil ?_
    exact rfl
  case v1 => rfl
  intro x p hp hxp
  have HP := hid hxp; clear hxp
  have HX := hid x.h
  have HR2 : Hid (x.out.heap[w.heap.size]? = some (.cells (rcells r) 26 (0,0))) := block_below x.h HR.out l0
  have l0' : w.heap.size < x.out.heap.size := block_lt HR2.out
  have l1' : w.heap.size + 1 < x.out.heap.size := by have := x.h.size; have := hB.out; exact Nat.lt_of_lt_of_le (by omega) (Nat.le_trans hB.out x.h.size)
  go_wp2_with fail
  refine wp_region_law0 x.out.heap.size ?s2 9 10 9 _ _ 29 (.tmp 27) (rcells Rf.zero) (rcells (setTileV r c t n)) (by kernel_rfl) (by kernel_rfl) (by kernel_rfl) rfl rfl rfl rfl rfl rfl (by kernel_rfl) (by kernel_rfl) rfl Try.allocRoof (by rw [Try.infoRoof, size_rcells, hok.len]) (rcells_one _) (by rw [size_rcells, size_rcells, hok.len]; rfl) (Nat.le_refl _) ?q2 ?v2 ?h2
  case q2 =>
    intro S hSn
    simp only [List.map_cons, List.map_nil, mute, isQ, if_true, Bool.false_eq_true, if_false]
    repeat (first
      | ((with_reducible refine wpQuiet_run (N := 21) rfl rfl (.agg (rcells r)) ?_ ?_); (rintro _ ⟨z, rfl⟩; exact execOp_load rfl rfl (run_load_roof 26 Try.underlying26 rfl Try.infoLRoof hr (block_below z.h HR2.out l0'))); go_simp)
      | go_big_quiet_step (first
        | (go_at_call 10; with_reducible exact Calls.extS (Nat.le_refl _) (c_toRoof r hr _))
        | (go_at_call 13; with_reducible exact Calls.extS (Nat.le_refl _) (c_toPlace c t _))
        | (go_at_call 18; with_reducible exact Calls.extS (Nat.le_refl _) (c_SetTile r hr c t hc ht n _))))
    refine wpQuiet_nil ?_
    exact rfl
  case v2 => rfl
  intro y q hq hyq
  have HQ := hid hyq; clear hyq
  have HY := hid y.h
  have HP2 := hid (block_below y.h HP.out (block_lt HP.out))
  go_wp2_with (first
    | ((with_reducible refine gate (N := 29) rfl ?_); refine wp_roof 29 Try.underlying29 rfl Try.infoRoof rfl (.tmp 9) rfl q rfl _ hok HQ.out ?_)
    | ((with_reducible refine gate (N := 30) rfl ?_); refine wp_roof 29 Try.underlying29 rfl Try.infoRoof rfl (.tmp 7) rfl p rfl _ hok HP2.out ?_)
    | (go_at_call 19; ((with_reducible refine (c_eqRoof _ hok _).mono ?_); rintro e w5 ⟨rfl, hb5⟩)))
  go_ret
  have b1 := HA.out.trans (HX.out.mono (by omega))
  have b2 := b1.trans (HY.out.mono b1.size)
  exact ⟨rfl, b2.trans (hb5.mono b2.size)⟩
end Go.Proofs.Yteglogiabooacaa
