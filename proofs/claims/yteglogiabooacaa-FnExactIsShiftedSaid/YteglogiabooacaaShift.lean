/- IsShifted, the program's and the reference's. -/
import Derived.Test.YteglogiabooacaaKind
namespace Go.Proofs.Yteglogiabooacaa
open Go.RowKit
set_option linter.unusedSimpArgs false
set_option linter.unusedVariables false

/-- What IsShifted returns. -/
def isShiftedV (r : Rf) (n : Int) : Bool := (codeOf (validB r) (inB n 0 (r.h - 1)) == 0) && (shiftOf r n == 1)
set_option maxRecDepth 100000 in
theorem c_IsShifted (r : Rf) (hr : r.Ok) (n : Int) (w : World) : Calls Try.prog 11 #[.agg (rcells r), .int .i64 n] w fun e w' => e = .returned (.tuple #[.bool (isShiftedV r n), .int .i64 (codeOf (validB r) (inB n 0 (r.h - 1)))]) ∧ Below w.heap.size w w' := by
  have key : ∀ k : Int, codeOf (validB r) (inB n 0 (r.h - 1)) = k → (k = 0 → 0 ≤ n ∧ n ≤ 1000000) → (k = 1 ∨ k = 2 ∨ k = 0) → Calls Try.prog 11 #[.agg (rcells r), .int .i64 n] w fun e w' => e = .returned (.tuple #[.bool ((k == 0) && (shiftOf r n == 1)), .int .i64 k]) ∧ Below w.heap.size w w' := by
    intro k hk h0 hc
    have HK := hid hk; clear hk
    have H0 := hid h0; clear h0
    have L0 : ∀ x : Ext (w.heap.size + 1) (w.alloc (.cells (rcells r) 29)), (Instr.loadAt 29 (.pointer (some ⟨w.heap.size, 0, none⟩))).run Try.prog x.out = .ok (.agg (rcells r)) x.out := fun x =>
      run_load_roof 29 Try.underlying29 rfl Try.infoRoof hr (block_below x.h (block_new1 w _ rfl) (by omega))
    have R0 := hid L0; clear L0
    have HB : Hid (w.heap.size + 1 ≤ (w.alloc (.cells (rcells r) 29)).heap.size) := by simp [Hid]
    rcases hc with rfl | rfl | rfl
    all_goals
      try have hn0 := hid (H0.out rfl)
      clear H0
      go_enter Try.func11, Try.ntmps11
      go_wp2_with fail
      refine wp_region_ext (w.heap.size + 1) (by kernel_rfl) (by kernel_rfl) ?_
      repeat (first
        | ((with_reducible refine wpQuiet_run (N := 7) rfl rfl (.agg (rcells r)) ?_ ?_); (rintro _ ⟨x, rfl⟩; exact execOp_load rfl rfl (R0.out x)); go_simp)
        | ((with_reducible refine wpQuiet_run (N := 8) rfl rfl (.agg (rcells r)) ?_ ?_); (rintro _ ⟨x, rfl⟩; exact execOp_load rfl rfl (R0.out x)); go_simp)
        | go_big_quiet_step (first | (go_at_call 29; with_reducible exact Calls.ext HB.out (c_isCourse r hr n _ _ rfl)) | (go_at_call 28; with_reducible exact Calls.ext HB.out (c_roofCodeK r hr _ _ HK.out _))))
      refine wpQuiet_nil ?_
      intro x
      go_wp2_with (first
        | ((with_reducible refine gate (N := 15) rfl ?_); refine wp_roof 29 Try.underlying29 rfl Try.infoRoof rfl (.tmp 2) rfl w.heap.size rfl r hr (block_below x.h (block_new1 w _ rfl) (by omega)) ?_)
        | (go_at_call 30; ((with_reducible refine (c_shift r hr n hn0.out _).mono ?_); rintro e w1 ⟨rfl, hb1⟩)))
      go_ret2
      first
        | exact ⟨rfl, ((Below.refl _ w).alloc (Nat.le_refl _) _).trans (x.h.mono (by omega))⟩
        | (have b1 := ((Below.refl _ w).alloc (Nat.le_refl _) (.cells (rcells r) 29)).trans (x.h.mono (by omega)); exact ⟨by simp, b1.trans (hb1.mono b1.size)⟩)
  unfold isShiftedV
  refine key _ rfl (fun h => ?_) ?_
  · rcases codeOf_cases (validB r) (inB n 0 (r.h - 1)) with ⟨_, h1⟩ | ⟨_, _, h1⟩ | ⟨h1, h2, _⟩
    · rw [h1] at h; cases h
    · rw [h1] at h; cases h
    · have := valid_head h1; have := inB_iff.1 h2; omega
  · rcases codeOf_cases (validB r) (inB n 0 (r.h - 1)) with ⟨_, h1⟩ | ⟨_, _, h1⟩ | ⟨_, _, h1⟩ <;> simp [h1]
set_option maxRecDepth 100000 in
theorem c_sIsShifted (r : Rf) (hr : r.Ok) (n : Int) (w : World) : Calls Try.prog 9 #[.agg (rcells r), .int .i64 n] w fun e w' => e = .returned (.tuple #[.bool (isShiftedV r n), .int .i64 (codeOf (validB r) (inB n 0 (r.h - 1)))]) ∧ Below w.heap.size w w' := by
  have key : ∀ k : Int, codeOf (validB r) (inB n 0 (r.h - 1)) = k → (k = 0 → 0 ≤ n ∧ n ≤ 1000000) → (k = 1 ∨ k = 2 ∨ k = 0) → Calls Try.prog 9 #[.agg (rcells r), .int .i64 n] w fun e w' => e = .returned (.tuple #[.bool ((k == 0) && (shiftOf r n == 1)), .int .i64 k]) ∧ Below w.heap.size w w' := by
    intro k hk h0 hc
    have HK := hid hk; clear hk
    have H0 := hid h0; clear h0
    have HR := hid (block_new1 w (.cells (rcells r) 29) rfl)
    rcases hc with rfl | rfl | rfl
    all_goals
      try have hn0 := hid (H0.out rfl)
      clear H0
      go_enter Try.func9, Try.ntmps9
      go_wp2_with (first
        | (go_at_call 25; ((with_reducible refine (c_l01Course r hr _ n _ HR.out _ rfl).mono ?_); rintro e w1 ⟨rfl, rfl⟩))
        | (go_at_call 24; ((with_reducible refine (c_l01ToldK r hr _ _ _ HK.out _ HR.out).mono ?_); rintro e w1 ⟨rfl, hb1⟩))
        | (go_at_call 26; ((with_reducible refine (c_l01By r hr _ n hn0.out _ (block_below hb1 HR.out (by simp))).mono ?_); rintro e w2 ⟨rfl, rfl⟩)))
      go_ret2
      exact ⟨by simp, ((Below.refl _ w).alloc (Nat.le_refl _) _).trans (hb1.mono (by simp))⟩
  unfold isShiftedV
  refine key _ rfl (fun h => ?_) ?_
  · rcases codeOf_cases (validB r) (inB n 0 (r.h - 1)) with ⟨_, h1⟩ | ⟨_, _, h1⟩ | ⟨h1, h2, _⟩
    · rw [h1] at h; cases h
    · rw [h1] at h; cases h
    · have := valid_head h1; have := inB_iff.1 h2; omega
  · rcases codeOf_cases (validB r) (inB n 0 (r.h - 1)) with ⟨_, h1⟩ | ⟨_, _, h1⟩ | ⟨_, _, h1⟩ <;> simp [h1]
end Go.Proofs.Yteglogiabooacaa
