/- The laws' own comparisons of roofs, at one roof and itself. -/
import Derived.Test.YtecobdnpbkojmaaConv
namespace Go.Proofs.Ytecobdnpbkojmaa
open Go.RowKit
set_option linter.unusedSimpArgs false
set_option linter.unusedVariables false

set_option maxRecDepth 100000 in
theorem c_eqByteA8 (t : List Int) (ht : t.length = 8) (w : World) : Calls Try.prog 55 #[.agg (tcells t), .agg (tcells t)] w fun e w' => e = .returned (.bool true) ∧ Below w.heap.size w w' := by
  go_enter Try.func55, Try.ntmps55
  go_wp2_with fail
  go_loopw [5] (fun i wr => ∃ k : Nat, k ≤ 8 ∧ i = .int .i64 k ∧ Below w.heap.size w wr ∧ wr.heap[w.heap.size]? = some (.cells (tcells t) 23 (0, 0)) ∧ wr.heap[w.heap.size + 1]? = some (.cells (tcells t) 23 (0, 0))) (fun i _ => 8 - (intOf i).toNat)
  case atStart => exact ⟨0, by omega, rfl, ((Below.refl _ w).alloc (Nat.le_refl _) _).alloc (by simp) _, block_alloc (block_new1 w _ rfl) _, block_new1 _ _ (by simp)⟩
  case round =>
    obtain ⟨k, hk, rfl, hb, h0, h1⟩ := hrel
    by_cases hlt : k < 8
    · have hk8 : decide ((k : Int) < 8) = true := decide_eq_true (by omega)
      have hlt' : (k : Int) < 8 := by omega
      have hnn : (0 : Int) ≤ (k : Int) := by omega
      have l0 : w.heap.size < wr.heap.size := block_lt h0
      have l1 : w.heap.size + 1 < wr.heap.size := block_lt h1
      obtain ⟨v, hv⟩ : ∃ v, v = t.getD k 0 := ⟨_, rfl⟩
      have hc0 := cell_block h0 (tc_at t k (by omega))
      have hc1 := cell_block h1 (tc_at t k (by omega))
      rw [← hv] at hc0 hc1
      have H0 := hid h0; clear h0
      have H1 := hid h1; clear h1
      clear hv
      go_wp2_with fail
      refine wp_region_ext wr.heap.size (by kernel_rfl) (by kernel_rfl) ?_
      repeat (go_big_quiet_step (fail))
      refine wpQuiet_nil ?_
      intro x
      go_wp2_with fail
      go_roundw
      case rel => exact ⟨k + 1, by omega, by go_num, hb.trans (x.h.mono hb.size), block_below x.h H0.out l0, block_below x.h H1.out l1⟩
      case measure => simp [intOf]; omega
    · obtain rfl : k = 8 := by omega
      clear h0 h1
      go_wp2_with fail
      go_ret
      exact ⟨rfl, hb⟩
set_option maxRecDepth 100000 in
theorem c_eqByteA8A8 (t : List Int) (ht : t.length = 64) (w : World) : Calls Try.prog 34 #[.agg (tcells t), .agg (tcells t)] w fun e w' => e = .returned (.bool true) ∧ Below w.heap.size w w' := by
  go_enter Try.func34, Try.ntmps34
  go_wp2_with fail
  go_loopw [5] (fun i wr => ∃ k : Nat, k ≤ 8 ∧ i = .int .i64 k ∧ Below w.heap.size w wr ∧ wr.heap[w.heap.size]? = some (.cells (tcells t) 24 (0, 0)) ∧ wr.heap[w.heap.size + 1]? = some (.cells (tcells t) 24 (0, 0))) (fun i _ => 8 - (intOf i).toNat)
  case atStart => exact ⟨0, by omega, rfl, ((Below.refl _ w).alloc (Nat.le_refl _) _).alloc (by simp) _, block_alloc (block_new1 w _ rfl) _, block_new1 _ _ (by simp)⟩
  case round =>
    obtain ⟨k, hk, rfl, hb, h0, h1⟩ := hrel
    by_cases hlt : k < 8
    · have hk8 : decide ((k : Int) < 8) = true := decide_eq_true (by omega)
      have hlt' : (k : Int) < 8 := by omega
      have hnn : (0 : Int) ≤ (k : Int) := by omega
      have l0 : w.heap.size < wr.heap.size := block_lt h0
      have l1 : w.heap.size + 1 < wr.heap.size := block_lt h1
      have H0 := hid h0; clear h0
      have H1 := hid h1; clear h1
      have hr0 : ∀ x : Ext wr.heap.size wr, x.out.rangeAt w.heap.size (k * 8) ((trow t k).map (Value.int .u8)) := fun x => by
        have := range_mid (o := 0) (block_below x.h H0.out l0) (fun j hj => by rw [Nat.zero_add]; exact tc_at t j hj) k ht hlt
        rwa [Nat.zero_add] at this
      have hr1 : ∀ x : Ext wr.heap.size wr, x.out.rangeAt (w.heap.size + 1) (k * 8) ((trow t k).map (Value.int .u8)) := fun x => by
        have := range_mid (o := 0) (block_below x.h H1.out l1) (fun j hj => by rw [Nat.zero_add]; exact tc_at t j hj) k ht hlt
        rwa [Nat.zero_add] at this
      have R0 := hid hr0; clear hr0
      have R1 := hid hr1; clear hr1
      go_wp2_with fail
      refine wp_region_ext wr.heap.size (by kernel_rfl) (by kernel_rfl) ?_
      repeat (first
        | ((with_reducible refine wpQuiet_run (N := 12) rfl rfl (.agg (tcells (trow t k))) ?_ ?_); (rintro _ ⟨x, rfl⟩; exact execOp_load rfl rfl (run_load_mid8 (len_trow t ht k hlt) (R0.out x))); go_simp)
        | ((with_reducible refine wpQuiet_run (N := 15) rfl rfl (.agg (tcells (trow t k))) ?_ ?_); (rintro _ ⟨x, rfl⟩; exact execOp_load rfl rfl (run_load_mid8 (len_trow t ht k hlt) (R1.out x))); go_simp)
        | go_big_quiet_step ((go_at_call 55; exact Calls.ext (Nat.le_refl _) (c_eqByteA8 (trow t k) (len_trow t ht k hlt) _))))
      refine wpQuiet_nil ?_
      intro x
      go_wp2_with fail
      go_roundw
      case rel => exact ⟨k + 1, by omega, by go_num, hb.trans (x.h.mono hb.size), block_below x.h H0.out l0, block_below x.h H1.out l1⟩
      case measure => simp [intOf]; omega
    · obtain rfl : k = 8 := by omega
      clear h0 h1
      go_wp2_with fail
      go_ret
      exact ⟨rfl, hb⟩
set_option maxRecDepth 100000 in
theorem c_eqRoof (r : Rf) (hr : r.Ok) (w : World) : Calls Try.prog 12 #[.agg (rcells r), .agg (rcells r)] w fun e w' => e = .returned (.bool true) ∧ Below w.heap.size w w' := by
  go_enter Try.func12, Try.ntmps12
  go_wp2_with (first
    | ((with_reducible refine gate (N := 21) rfl ?_); refine wp_tiles rfl (.tmp 20) rfl w.heap.size rfl r hr (block_alloc (block_new1 w _ rfl) _) ?_)
    | ((with_reducible refine gate (N := 23) rfl ?_); refine wp_tiles rfl (.tmp 22) rfl (w.heap.size + 1) rfl r hr (block_new1 _ _ (by simp)) ?_)
    | (go_at_call 34; (refine (c_eqByteA8A8 r.t hr.len _).mono ?_; rintro e w1 ⟨rfl, hb1⟩)))
  go_ret
  exact ⟨rfl, (((Below.refl _ w).alloc (Nat.le_refl _) _).alloc (by simp) _).trans (hb1.mono (by simp; omega))⟩
end Go.Proofs.Ytecobdnpbkojmaa
