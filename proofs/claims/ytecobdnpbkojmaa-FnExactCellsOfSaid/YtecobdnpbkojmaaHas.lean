/- Cells of tiles, tiles of cells; a place looked for in a list. -/
import Derived.Test.YtecobdnpbkojmaaPlaces
import Derived.Test.YtecobdnpbkojmaaLawP
import Derived.Test.YtecobdnpbkojmaaList
import Derived.Laws.StructEq
namespace Go.Proofs.Ytecobdnpbkojmaa
open Go.RowKit
set_option linter.unusedSimpArgs false
set_option linter.unusedVariables false

/-- The first cell of a tile. -/
def firstOf (r : Rf) (c t : Int) : Int := 2 * t + shiftOf r c
/-- The tile that covers a cell of a course, or -1. -/
def tileOf (r : Rf) (d n : Int) : Int := if 0 ≤ n - shiftOf r d ∧ n - shiftOf r d ≤ 2 * r.w - 1 then (n - shiftOf r d) / 2 else -1
set_option maxRecDepth 100000 in
theorem c_cellsOf (r : Rf) (hr : r.Ok) (c t : Int) (hc : 0 ≤ c ∧ c ≤ 7) (ht : 0 ≤ t ∧ t ≤ 7) (w : World) : Calls Try.prog 50 #[.agg (rcells r), .agg #[.int .i8 c, .int .i8 t]] w fun e w' =>
    ∃ g, e = .returned (.slice (some ⟨g, 0, none⟩) 2 2) ∧ Below w.heap.size w w' ∧ w.heap.size ≤ g ∧ w'.heap[g]? = some (.cells #[.int .i64 (firstOf r c t), .int .i64 (firstOf r c t + 1)] 3 (0,0)) := by
  have hs := shiftOf_01 r c
  have HC := hid (c_shift r hr c ⟨hc.1, by omega⟩)
  have e : firstOf r c t = 2 * t + shiftOf r c := rfl
  rw [e]
  obtain ⟨s, hse⟩ : ∃ s, s = shiftOf r c := ⟨_, rfl⟩
  rw [← hse] at hs HC ⊢
  clear hse e
  obtain ⟨c1, c2⟩ := hc
  obtain ⟨t1, t2⟩ := ht
  have HB : Hid (w.heap.size + 2 ≤ ((w.alloc (.cells (rcells r) 27)).alloc (.cells #[.int .i8 c, .int .i8 t] 43)).heap.size) := by simp [Hid]
  have HP := hid (block_alloc (block_new1 w (.cells (rcells r) 27) rfl) (.cells #[.int .i8 c, .int .i8 t] 43))
  have R0 : Hid (∀ x : Ext (w.heap.size + 2) ((w.alloc (.cells (rcells r) 27)).alloc (.cells #[.int .i8 c, .int .i8 t] 43)), (Instr.loadAt 27 (.pointer (some ⟨w.heap.size, 0, none⟩))).run Try.prog x.out = .ok (.agg (rcells r)) x.out) := fun x =>
    run_load_roof 27 Try.underlying27 rfl Try.infoRoof hr (block_below x.below HP.out (by omega))
  have HW : Hid (Below w.heap.size w ((w.alloc (.cells (rcells r) 27)).alloc (.cells #[.int .i8 c, .int .i8 t] 43))) := ((Below.refl _ w).alloc (Nat.le_refl _) _).alloc (by simp) _
  have l1 : w.heap.size + 1 < w.heap.size + 2 := by omega
  have e1 : IntKind.i64.wrap c = c := IntWalk.i64_in _ (by omega)
  have e2 : IntKind.i64.wrap t = t := IntWalk.i64_in _ (by omega)
  have e3 : IntKind.i64.wrap (2 * t) = 2 * t := IntWalk.i64_in _ (by omega)
  have e4 : IntKind.i64.wrap (2 * t + s) = 2 * t + s := IntWalk.i64_in _ (by omega)
  go_enter Try.func50, Try.ntmps50
  go_wp2_with fail
  refine wp_region_ext (w.heap.size + 2) (by kernel_rfl) (by kernel_rfl) ?_
  repeat (first
    | ((with_reducible refine wpQuiet_run (N := 10) rfl rfl (.agg (rcells r)) ?_ ?_); (rintro _ ⟨x, rfl⟩; exact execOp_load rfl rfl (R0.out x)); go_simp)
    | go_big_quiet_step ((go_at_call 59; with_reducible exact Calls.ext HB.out (HC.out _))))
  refine wpQuiet_nil ?_
  intro x
  have hb := HW.out.trans (x.below.mono (by omega))
  have HX := hid hb
  clear hb
  go_wp2_with fail
  go_ret
  exact ⟨x.out.heap.size, rfl, HX.out.alloc HX.out.size _, HX.out.size, block_new1 x.out _ rfl⟩
theorem run_eql_place (w : World) (a b c d : Int) : (binOp .eql 43 (.agg #[.int .i8 a, .int .i8 b]) (.agg #[.int .i8 c, .int .i8 d])).run Try.prog w = .ok (.bool (decide ((a, b) = (c, d)))) w := by
  have u3 := Try.underlying22
  have a3 : ∀ w, (isAgg 22).run Try.prog w = .ok false w := fun w => by kernel_rfl
  have hS : Try.prog.underlying 43 = some (.struct (Try.prog.fieldsOf 43)) := by kernel_rfl
  have hp : Try.prog.stoodInHeld 43 = false := by kernel_rfl
  rw [run_eql_struct, show (10000 : Nat) = 9999 + 1 from rfl, run_equalIn_struct w 9999 43 _ _ hS hp]
  simp only [Program.fieldsOf, Try.underlying43]
  go_simp
  by_cases h1 : a = c <;> by_cases h2 : b = d <;> simp [h1, h2]
end Go.Proofs.Ytecobdnpbkojmaa
