/- KindAt, the program's and the reference's. -/
import Derived.Test.YteglogiabooacaaKind
namespace Go.Proofs.Yteglogiabooacaa
open Go.RowKit
set_option linter.unusedSimpArgs false
set_option linter.unusedVariables false

/-- What KindAt returns. -/
def kindAtV (r : Rf) (c t : Int) : Int := if codeOf (validB r) (isPl r c t) = 0 then r.at c.toNat t.toNat else 0
theorem codeOf_pl0 {r : Rf} {c t : Int} (h : codeOf (validB r) (isPl r c t) = 0) : validB r = true ∧ (0 ≤ c ∧ c ≤ r.h - 1 ∧ 0 ≤ t ∧ t ≤ r.w - 1) ∧ (0 ≤ c ∧ c ≤ 7) ∧ (0 ≤ t ∧ t ≤ 7) := by
  rcases codeOf_cases (validB r) (isPl r c t) with ⟨_, h1⟩ | ⟨_, _, h1⟩ | ⟨h1, h2, _⟩
  · rw [h1] at h; cases h
  · rw [h1] at h; cases h
  · have := valid_head h1; have := isPl_iff.1 h2; exact ⟨h1, by omega⟩
theorem codeOf_012 (v g : Bool) : codeOf v g = 1 ∨ codeOf v g = 2 ∨ codeOf v g = 0 := by cases v <;> cases g <;> simp [codeOf]
set_option maxRecDepth 100000 in
theorem c_KindAt (r : Rf) (hr : r.Ok) (c t : Int) (hc : -128 ≤ c ∧ c ≤ 127) (ht : -128 ≤ t ∧ t ≤ 127) (w : World) : Calls Try.prog 14 #[.agg (rcells r), .agg #[.int .i8 c, .int .i8 t]] w fun e w' => e = .returned (.tuple #[.int .i64 (kindAtV r c t), .int .i64 (codeOf (validB r) (isPl r c t))]) ∧ Below w.heap.size w w' := by
  have key : ∀ k v : Int, codeOf (validB r) (hasB r c t) = k → (k = 0 → ((0 ≤ c ∧ c ≤ 7) ∧ (0 ≤ t ∧ t ≤ 7)) ∧ v = r.at c.toNat t.toNat) → (k = 1 ∨ k = 2 ∨ k = 0) → Calls Try.prog 14 #[.agg (rcells r), .agg #[.int .i8 c, .int .i8 t]] w fun e w' => e = .returned (.tuple #[.int .i64 (if k = 0 then v else 0), .int .i64 k]) ∧ Below w.heap.size w w' := by
    intro k v hk h0 hcs
    have HK := hid hk; clear hk
    have H0 := hid h0; clear h0
    have L0 : ∀ x : Ext (w.heap.size + 2) ((w.alloc (.cells (rcells r) 29)).alloc (.cells #[.int .i8 c, .int .i8 t] 36)), (Instr.loadAt 29 (.pointer (some ⟨w.heap.size, 0, none⟩))).run Try.prog x.out = .ok (.agg (rcells r)) x.out := fun x =>
      run_load_roof 29 Try.underlying29 rfl Try.infoRoof hr (block_below x.h (block_alloc (block_new1 w _ rfl) _) (by omega))
    have R0 := hid L0; clear L0
    have HB : Hid (w.heap.size + 2 ≤ ((w.alloc (.cells (rcells r) 29)).alloc (.cells #[.int .i8 c, .int .i8 t] 36)).heap.size) := by simp [Hid]
    have l0 : w.heap.size < w.heap.size + 2 := by omega
    have l1 : w.heap.size + 1 < w.heap.size + 2 := by omega
    rcases hcs with rfl | rfl | rfl
    all_goals
      try have hv0 := hid (H0.out rfl).2
      try have hn0 := hid (H0.out rfl).1
      have hat := hr.at c.toNat t.toNat
      clear H0
      go_enter Try.func14, Try.ntmps14
      go_wp2_with fail
      refine wp_region_ext (w.heap.size + 2) (by kernel_rfl) (by kernel_rfl) ?_
      repeat (first
        | ((with_reducible refine wpQuiet_run (N := 7) rfl rfl (.agg (rcells r)) ?_ ?_); (rintro _ ⟨x, rfl⟩; exact execOp_load rfl rfl (R0.out x)); go_simp)
        | ((with_reducible refine wpQuiet_run (N := 8) rfl rfl (.agg (rcells r)) ?_ ?_); (rintro _ ⟨x, rfl⟩; exact execOp_load rfl rfl (R0.out x)); go_simp)
        | go_big_quiet_step (first | (go_at_call 33; with_reducible exact Calls.ext HB.out (c_has r hr c t hc ht _)) | (go_at_call 28; with_reducible exact Calls.ext HB.out (c_roofCodeK r hr _ _ HK.out _))))
      refine wpQuiet_nil ?_
      intro x
      go_wp2_with (first
        | ((with_reducible refine gate (N := 15) rfl ?_); refine wp_roof 29 Try.underlying29 rfl Try.infoRoof rfl (.tmp 2) rfl w.heap.size rfl r hr (block_below x.h (block_alloc (block_new1 w _ rfl) _) (by omega)) ?_)
        | (go_at_call 34; ((with_reducible refine (c_kind r hr c t hn0.out.1 hn0.out.2 _).mono ?_); rintro e w1 ⟨rfl, hb1⟩)))
      go_ret2
      first
        | (have b1 := (((Below.refl _ w).alloc (Nat.le_refl _) (.cells (rcells r) 29)).alloc (by simp) (.cells #[.int .i8 c, .int .i8 t] 36)).trans (x.h.mono (by omega)); exact ⟨by simp, b1⟩)
        | (have b1 := (((Below.refl _ w).alloc (Nat.le_refl _) (.cells (rcells r) 29)).alloc (by simp) (.cells #[.int .i8 c, .int .i8 t] 36)).trans (x.h.mono (by omega)); rw [hv0.out]; exact ⟨by simp, b1.trans (hb1.mono b1.size)⟩)
  have e : codeOf (validB r) (hasB r c t) = codeOf (validB r) (isPl r c t) := by have := codeOf_has r c t true; simpa using this
  unfold kindAtV
  refine key _ _ e (fun h => ⟨(codeOf_pl0 h).2.2, rfl⟩) (codeOf_012 _ _)
set_option maxRecDepth 100000 in
theorem c_sKindAt (r : Rf) (hr : r.Ok) (c t : Int) (hc : -128 ≤ c ∧ c ≤ 127) (ht : -128 ≤ t ∧ t ≤ 127) (w : World) : Calls Try.prog 12 #[.agg (rcells r), .agg #[.int .i8 c, .int .i8 t]] w fun e w' => e = .returned (.tuple #[.int .i64 (kindAtV r c t), .int .i64 (codeOf (validB r) (isPl r c t))]) ∧ Below w.heap.size w w' := by
  have key : ∀ k v : Int, codeOf (validB r) (isPl r c t && true) = k → (k = 0 → ((0 ≤ c ∧ c ≤ 7) ∧ (0 ≤ t ∧ t ≤ 7)) ∧ v = r.at c.toNat t.toNat) → (k = 1 ∨ k = 2 ∨ k = 0) → Calls Try.prog 12 #[.agg (rcells r), .agg #[.int .i8 c, .int .i8 t]] w fun e w' => e = .returned (.tuple #[.int .i64 (if k = 0 then v else 0), .int .i64 k]) ∧ Below w.heap.size w w' := by
    intro k v hk h0 hcs
    have HK := hid hk; clear hk
    have H0 := hid h0; clear h0
    have HR := hid (block_alloc (block_new1 w (.cells (rcells r) 29) rfl) (.cells #[.int .i8 c, .int .i8 t] 36))
    have l0 : w.heap.size < w.heap.size + 1 + 1 := by omega
    have l1 : w.heap.size + 1 < w.heap.size + 1 + 1 := by omega
    rcases hcs with rfl | rfl | rfl
    all_goals
      try have hv0 := hid (H0.out rfl).2
      try have hn0 := hid (H0.out rfl).1
      clear H0
      go_enter Try.func12, Try.ntmps12
      go_wp2_with (first
        | (go_at_call 31; ((with_reducible refine (c_l01AskedK r hr _ c t hc ht _ _ HK.out _ HR.out).mono ?_); rintro e w1 ⟨rfl, hb1⟩); have cw1 := hb1.cell (p := ⟨w.heap.size + 1, 0, none⟩) (by simp); have cw2 := hb1.cell (p := ⟨w.heap.size + 1, 1, none⟩) (by simp); simp [go_sem] at cw1 cw2)
        | (go_at_call 32; ((with_reducible refine (c_l01At r hr _ c t hn0.out.1 hn0.out.2 _ (block_below hb1 HR.out (by simp; omega))).mono ?_); rintro e w2 ⟨rfl, hb2⟩)))
      go_ret2
      have b1 := (((Below.refl _ w).alloc (Nat.le_refl _) (.cells (rcells r) 29)).alloc (by simp) (.cells #[.int .i8 c, .int .i8 t] 36)).trans (hb1.mono (by simp; omega))
      first
        | exact ⟨by simp, b1⟩
        | (rw [hv0.out]; exact ⟨by first | rfl | simp, b1.trans (hb2.mono b1.size)⟩)
  unfold kindAtV
  have := key (codeOf (validB r) (isPl r c t)) (r.at c.toNat t.toNat) (by rw [Bool.and_true]) (fun h => ⟨(codeOf_pl0 h).2.2, rfl⟩) (codeOf_012 _ _)
  exact this
end Go.Proofs.Yteglogiabooacaa
