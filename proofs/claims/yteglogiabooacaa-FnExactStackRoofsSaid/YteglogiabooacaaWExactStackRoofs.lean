/- The walk of FnExactStackRoofs. -/
import Derived.Test.YteglogiabooacaaStack
namespace Go.Proofs.Yteglogiabooacaa
open Go.RowKit
set_option linter.unusedSimpArgs false
set_option linter.unusedVariables false
theorem Try.infoLRoof : (Try.prog.info? 26).map (·.size) = some 67 := by kernel_rfl
set_option maxRecDepth 100000 in
theorem w_FnExactStackRoofs (r : Rf) (hr : r.Ok) (s : Rf) (hs : s.Ok) (w : World) : Calls Try.prog 8 #[.agg (rcells r), .agg (rcells s)] w fun e w' => e = .returned (.bool true) ∧ Below w.heap.size w w' := by
  have hok := stackV_ok hr hs
  have hB : Hid (w.heap.size + 2 ≤ ((w.alloc (.cells (rcells r) 26)).alloc (.cells (rcells s) 26)).heap.size) := by simp [Hid]
  have HA : Hid (Below w.heap.size w ((w.alloc (.cells (rcells r) 26)).alloc (.cells (rcells s) 26))) := ((Below.refl _ w).alloc (Nat.le_refl _) _).alloc (by simp) _
  have HR : Hid (((w.alloc (.cells (rcells r) 26)).alloc (.cells (rcells s) 26)).heap[w.heap.size]? = some (.cells (rcells r) 26 (0,0))) := block_alloc (block_new1 w _ rfl) _
  have HS : Hid (((w.alloc (.cells (rcells r) 26)).alloc (.cells (rcells s) 26)).heap[w.heap.size + 1]? = some (.cells (rcells s) 26 (0,0))) := block_new1 _ _ (by simp)
  have l0 : w.heap.size < w.heap.size + 2 := by omega
  have l1 : w.heap.size + 1 < w.heap.size + 2 := by omega
  go_enter Try.func8, Try.ntmps8
  go_wp2_with fail
  refine wp_region_law0 (w.heap.size + 2) ?s1 8 9 5 _ _ 29 (.tmp 15) (rcells Rf.zero) (rcells (stackV r s)) (by kernel_rfl) (by kernel_rfl) (by kernel_rfl) rfl rfl rfl rfl rfl rfl (by kernel_rfl) (by kernel_rfl) rfl Try.allocRoof (by rw [Try.infoRoof, size_rcells, hok.len]) (rcells_one _) (by rw [size_rcells, size_rcells, hok.len]; rfl) hB.out ?q1 ?v1 ?h1
  case q1 =>
    intro S hSn
    simp only [List.map_cons, List.map_nil, mute, isQ, if_true, Bool.false_eq_true, if_false]
    repeat (first
      | ((with_reducible refine wpQuiet_run (N := 10) rfl rfl (.agg (rcells r)) ?_ ?_); (rintro _ ⟨x, rfl⟩; exact execOp_load rfl rfl (run_load_roof 26 Try.underlying26 rfl Try.infoLRoof hr (block_below x.h HR.out l0))); go_simp)
      | ((with_reducible refine wpQuiet_run (N := 12) rfl rfl (.agg (rcells s)) ?_ ?_); (rintro _ ⟨x, rfl⟩; exact execOp_load rfl rfl (run_load_roof 26 Try.underlying26 rfl Try.infoLRoof hs (block_below x.h HS.out l1))); go_simp)
      | go_big_quiet_step (first
        | (go_at_call 10; first | (with_reducible exact Calls.extS hB.out (c_toRoof r hr _)) | (with_reducible exact Calls.extS hB.out (c_toRoof s hs _)))
        | (go_at_call 22; with_reducible exact Calls.extS hB.out (c_sStackRoofs r s hr hs _))))
    refine wpQuiet_nil ?_
    exact rfl
  case v1 => rfl
  intro x p hp hxp
  have HP := hid hxp; clear hxp
  have HX := hid x.h
  have HR2 : Hid (x.out.heap[w.heap.size]? = some (.cells (rcells r) 26 (0,0))) := block_below x.h HR.out l0
  have HS2 : Hid (x.out.heap[w.heap.size + 1]? = some (.cells (rcells s) 26 (0,0))) := block_below x.h HS.out l1
  have l0' : w.heap.size < x.out.heap.size := block_lt HR2.out
  have l1' : w.heap.size + 1 < x.out.heap.size := block_lt HS2.out
  go_wp2_with fail
  refine wp_region_law0 x.out.heap.size ?s2 8 9 7 _ _ 29 (.tmp 23) (rcells Rf.zero) (rcells (stackV r s)) (by kernel_rfl) (by kernel_rfl) (by kernel_rfl) rfl rfl rfl rfl rfl rfl (by kernel_rfl) (by kernel_rfl) rfl Try.allocRoof (by rw [Try.infoRoof, size_rcells, hok.len]) (rcells_one _) (by rw [size_rcells, size_rcells, hok.len]; rfl) (Nat.le_refl _) ?q2 ?v2 ?h2
  case q2 =>
    intro S hSn
    simp only [List.map_cons, List.map_nil, mute, isQ, if_true, Bool.false_eq_true, if_false]
    repeat (first
      | ((with_reducible refine wpQuiet_run (N := 18) rfl rfl (.agg (rcells r)) ?_ ?_); (rintro _ ⟨z, rfl⟩; exact execOp_load rfl rfl (run_load_roof 26 Try.underlying26 rfl Try.infoLRoof hr (block_below z.h HR2.out l0'))); go_simp)
      | ((with_reducible refine wpQuiet_run (N := 20) rfl rfl (.agg (rcells s)) ?_ ?_); (rintro _ ⟨z, rfl⟩; exact execOp_load rfl rfl (run_load_roof 26 Try.underlying26 rfl Try.infoLRoof hs (block_below z.h HS2.out l1'))); go_simp)
      | go_big_quiet_step (first
        | (go_at_call 10; first | (with_reducible exact Calls.extS (Nat.le_refl _) (c_toRoof r hr _)) | (with_reducible exact Calls.extS (Nat.le_refl _) (c_toRoof s hs _)))
        | (go_at_call 23; with_reducible exact Calls.extS (Nat.le_refl _) (c_StackRoofs r s hr hs _))))
    refine wpQuiet_nil ?_
    exact rfl
  case v2 => rfl
  intro y q hq hyq
  have HQ := hid hyq; clear hyq
  have HY := hid y.h
  have HP2 := hid (block_below y.h HP.out (block_lt HP.out))
  go_wp2_with (first
    | ((with_reducible refine gate (N := 25) rfl ?_); refine wp_roof 29 Try.underlying29 rfl Try.infoRoof rfl (.tmp 7) rfl q rfl _ hok HQ.out ?_)
    | ((with_reducible refine gate (N := 26) rfl ?_); refine wp_roof 29 Try.underlying29 rfl Try.infoRoof rfl (.tmp 5) rfl p rfl _ hok HP2.out ?_)
    | (go_at_call 19; ((with_reducible refine (c_eqRoof _ hok _).mono ?_); rintro e w5 ⟨rfl, hb5⟩)))
  go_ret
  have b1 := HA.out.trans (HX.out.mono (by omega))
  have b2 := b1.trans (HY.out.mono b1.size)
  exact ⟨rfl, b2.trans (hb5.mono b2.size)⟩
end Go.Proofs.Yteglogiabooacaa
