/- The kind of a tile: read and replaced. -/
import Derived.Test.YtecobdnpbkojmaaCode
import Derived.Test.YtecobdnpbkojmaaEqv
namespace Go.Proofs.Ytecobdnpbkojmaa
open Go.RowKit
set_option linter.unusedSimpArgs false
set_option linter.unusedVariables false

theorem roof_cell {W : World} {b : Nat} {r : Rf} (hr : r.Ok) {T : TypeId} {fr : Nat × Nat} (hb : W.heap[b]? = some (.cells (rcells r) T fr)) (i k : Nat) (hi : i < 8) (hk : k < 8) : W.cell? ⟨b, 3 + i * 8 + k, none⟩ = some (.int .u8 (r.at i k)) := by
  have := rct r hr (8 * i + k) (by omega)
  have e : 3 + i * 8 + k = 3 + (8 * i + k) := by omega
  rw [cell_of_row W b _ _ _ _ hb, e]; exact this
set_option maxRecDepth 100000 in
theorem c_kind (r : Rf) (hr : r.Ok) (c t : Int) (hc : 0 ≤ c ∧ c ≤ 7) (ht : 0 ≤ t ∧ t ≤ 7) (w : World) : Calls Try.prog 63 #[.agg (rcells r), .agg #[.int .i8 c, .int .i8 t]] w fun e w' => e = .returned (.int .u8 (r.at c.toNat t.toNat)) ∧ Below w.heap.size w w' := by
  obtain ⟨i, rfl⟩ := Int.eq_ofNat_of_zero_le hc.1
  obtain ⟨k, rfl⟩ := Int.eq_ofNat_of_zero_le ht.1
  rw [Int.toNat_natCast, Int.toNat_natCast]
  have i8 : i < 8 := by omega
  have k8 : k < 8 := by omega
  have i1 : (i : Int) < 8 := by omega
  have k1 : (k : Int) < 8 := by omega
  have i0 : (0 : Int) ≤ (i : Int) := by omega
  have k0 : (0 : Int) ≤ (k : Int) := by omega
  have hcell : ((w.alloc (.cells (rcells r) 27)).alloc (.cells #[.int .i8 (i : Int), .int .i8 (k : Int)] 43)).cell? ⟨w.heap.size, 3 + i * 8 + k, none⟩ = some (.int .u8 (r.at i k)) := roof_cell hr (block_alloc (block_new1 w _ rfl) _) i k i8 k8
  obtain ⟨v, hv⟩ : ∃ v, v = r.at i k := ⟨_, rfl⟩
  rw [← hv] at hcell ⊢
  clear hv hc ht
  have l0 : w.heap.size < w.heap.size + 1 + 1 := by omega
  have l1 : w.heap.size + 1 < w.heap.size + 1 + 1 := by omega
  go_enter Try.func63, Try.ntmps63
  go_wp2_with fail
  refine wp_region_ext (w.heap.size + 1 + 1) (by kernel_rfl) (by kernel_rfl) ?_
  repeat (go_big_quiet_step (fail))
  refine wpQuiet_nil ?_
  intro x
  go_wp2_with fail
  go_ret
  exact ⟨rfl, (((Below.refl _ w).alloc (Nat.le_refl _) _).alloc (by simp) _).trans (x.h.mono (by omega))⟩
set_option maxRecDepth 100000 in
theorem c_l01At (r : Rf) (hr : r.Ok) (b : Nat) (c t : Int) (hc : 0 ≤ c ∧ c ≤ 7) (ht : 0 ≤ t ∧ t ≤ 7) (w : World) (hb : w.heap[b]? = some (.cells (rcells r) 27 (0,0))) : Calls Try.prog 45 #[.pointer (some ⟨b,0,none⟩), .agg #[.int .i8 c, .int .i8 t]] w fun e w' => e = .returned (.int .i64 (r.at c.toNat t.toNat)) ∧ Below w.heap.size w w' := by
  obtain ⟨i, rfl⟩ := Int.eq_ofNat_of_zero_le hc.1
  obtain ⟨k, rfl⟩ := Int.eq_ofNat_of_zero_le ht.1
  rw [Int.toNat_natCast, Int.toNat_natCast]
  have i8 : i < 8 := by omega
  have k8 : k < 8 := by omega
  have i1 : (i : Int) < 8 := by omega
  have k1 : (k : Int) < 8 := by omega
  have i0 : (0 : Int) ≤ (i : Int) := by omega
  have k0 : (0 : Int) ≤ (k : Int) := by omega
  have hcell : w.cell? ⟨b, 3 + i * 8 + k, none⟩ = some (.int .u8 (r.at i k)) := roof_cell hr hb i k i8 k8
  have hat := hr.at i k
  have hlt := block_lt hb
  have hlt' : b < w.heap.size + 1 := by omega
  obtain ⟨v, hv⟩ : ∃ v, v = r.at i k := ⟨_, rfl⟩
  rw [← hv] at hcell hat ⊢
  clear hv hc ht hb
  have e1 : IntKind.i64.wrap v = v := IntWalk.i64_in _ (by omega)
  have l0 : w.heap.size < w.heap.size + 1 := by omega
  go_enter Try.func45, Try.ntmps45
  go_wp2_with fail
  refine wp_region_ext (w.heap.size + 1) (by kernel_rfl) (by kernel_rfl) ?_
  repeat (go_big_quiet_step (fail))
  refine wpQuiet_nil ?_
  intro x
  go_wp2_with fail
  go_ret
  exact ⟨rfl, ((Below.refl _ w).alloc (Nat.le_refl _) _).trans (x.h.mono (by omega))⟩
theorem c_toPlace (c t : Int) (w : World) : Calls Try.prog 26 #[.agg #[.int .i8 c, .int .i8 t]] w fun e w' => e = .returned (.agg #[.int .i8 c, .int .i8 t]) ∧ Below w.heap.size w w' := by
  go_enter Try.func26, Try.ntmps26
  go_wp2_with fail
  refine bodyPost_ret (v := .agg #[.int .i8 c, .int .i8 t]) (by simp [results, Try.results26, go_sem]) rfl ⟨rfl, ?_⟩
  exact (((Below.refl _ w).alloc (Nat.le_refl _) _).alloc (by simp) _).alloc (by simp; omega) _
end Go.Proofs.Ytecobdnpbkojmaa
