/- SetTile, the program's and the reference's. -/
import Derived.Test.YteglogiabooacaaKindAt
import Derived.Test.YteglogiabooacaaWith
namespace Go.Proofs.Yteglogiabooacaa
open Go.RowKit
set_option linter.unusedSimpArgs false
set_option linter.unusedVariables false

/-- What SetTile returns. -/
def setTileC (r : Rf) (c t n : Int) : Int := codeOf (validB r) (isPl r c t && inB n 0 3)
def setTileV (r : Rf) (c t n : Int) : Rf := if setTileC r c t n = 0 then r.set c.toNat t.toNat n else Rf.zero
theorem setTile0 {r : Rf} {c t n : Int} (h : setTileC r c t n = 0) : validB r = true ∧ (0 ≤ c ∧ c ≤ 7) ∧ (0 ≤ t ∧ t ≤ 7) ∧ (0 ≤ n ∧ n ≤ 3) := by
  unfold setTileC at h
  rcases codeOf_cases (validB r) (isPl r c t && inB n 0 3) with ⟨_, h1⟩ | ⟨_, _, h1⟩ | ⟨h1, h2, _⟩
  · rw [h1] at h; cases h
  · rw [h1] at h; cases h
  · rw [Bool.and_eq_true] at h2
    have := valid_head h1; have := isPl_iff.1 h2.1; have := inB_iff.1 h2.2; exact ⟨h1, by omega⟩
theorem setTile_ok {r : Rf} (hr : r.Ok) (c t n : Int) : (setTileV r c t n).Ok := by
  unfold setTileV
  split
  · rename_i h; have := setTile0 h; exact Rf.set_ok hr _ _ (by omega)
  · exact Rf.zero_ok
set_option maxRecDepth 100000 in
theorem c_SetTile (r : Rf) (hr : r.Ok) (c t : Int) (hc : -128 ≤ c ∧ c ≤ 127) (ht : -128 ≤ t ∧ t ≤ 127) (n : Int) (w : World) : Calls Try.prog 18 #[.agg (rcells r), .agg #[.int .i8 c, .int .i8 t], .int .i64 n] w fun e w' => e = .returned (.tuple #[.agg (rcells (setTileV r c t n)), .int .i64 (setTileC r c t n)]) ∧ Below w.heap.size w w' := by
  have key : ∀ (g1 g2 : Bool) (k : Int) (R : Rf), hasB r c t = g1 → inB n 0 3 = g2 → codeOf (validB r) (g1 && g2) = k → R.Ok → (k = 0 → ((0 ≤ c ∧ c ≤ 7) ∧ (0 ≤ t ∧ t ≤ 7) ∧ (0 ≤ n ∧ n ≤ 3)) ∧ R = r.set c.toNat t.toNat n) → (k ≠ 0 → R = Rf.zero) → (k = 1 ∨ k = 2 ∨ k = 0) →
      Calls Try.prog 18 #[.agg (rcells r), .agg #[.int .i8 c, .int .i8 t], .int .i64 n] w fun e w' => e = .returned (.tuple #[.agg (rcells R), .int .i64 k]) ∧ Below w.heap.size w w' := by
    intro g1 g2 k R h1 h2 hk hok h0 hn0 hcs
    have H1 := hid h1; have H2 := hid h2; have HOK := hid hok
    clear h1 h2 hok
    have H0 := hid h0; clear h0
    have H9 := hid hn0; clear hn0
    have HW := hid (block_new1 (n := w.heap.size + 1 + 1) ((w.alloc (.cells (rcells r) 29)).alloc (.cells #[.int .i8 c, .int .i8 t] 36)) (.cells (rcells Rf.zero) 29) (by simp))
    have L0 : ∀ x : Ext (w.heap.size + 3) (((w.alloc (.cells (rcells r) 29)).alloc (.cells #[.int .i8 c, .int .i8 t] 36)).alloc (.cells (rcells Rf.zero) 29)), (Instr.loadAt 29 (.pointer (some ⟨w.heap.size, 0, none⟩))).run Try.prog x.out = .ok (.agg (rcells r)) x.out := fun x =>
      run_load_roof 29 Try.underlying29 rfl Try.infoRoof hr (block_below x.h (block_alloc (block_alloc (block_new1 w _ rfl) _) _) (by omega))
    have R0 := hid L0; clear L0
    have HB : Hid (w.heap.size + 3 ≤ (((w.alloc (.cells (rcells r) 29)).alloc (.cells #[.int .i8 c, .int .i8 t] 36)).alloc (.cells (rcells Rf.zero) 29)).heap.size) := by simp [Hid]
    have HA : Hid (Below w.heap.size w (((w.alloc (.cells (rcells r) 29)).alloc (.cells #[.int .i8 c, .int .i8 t] 36)).alloc (.cells (rcells Rf.zero) 29))) := (((Below.refl _ w).alloc (Nat.le_refl _) _).alloc (by simp) _).alloc (by simp; omega) _
    have l0 : w.heap.size < w.heap.size + 3 := by omega
    have l1 : w.heap.size + 1 < w.heap.size + 3 := by omega
    cases g1
    all_goals
      have HK := hid hk
      clear hk
      simp only [Bool.true_and, Bool.false_and] at HK
      rcases hcs with rfl | rfl | rfl
    case false.inr.inr => have := HK.out; unfold codeOf at this; split at this <;> simp at this
    case true.inr.inr =>
      obtain ⟨⟨q1, q2, ⟨q3, q4⟩⟩, rfl⟩ := H0.out rfl
      clear H0 H9
      have Q1 := hid q1; have Q2 := hid q2; clear q1 q2
      have q5 : IntKind.u8.wrap n = n := IntWalk.u8_in _ (by omega)
      go_enter Try.func18, Try.ntmps18
      go_wp2_with fail
      refine wp_region_ext (w.heap.size + 3) (by kernel_rfl) (by kernel_rfl) ?_
      repeat (first
        | ((with_reducible refine wpQuiet_run (N := 9) rfl rfl (.agg (rcells r)) ?_ ?_); (rintro _ ⟨x, rfl⟩; exact execOp_load rfl rfl (R0.out x)); go_simp)
        | ((with_reducible refine wpQuiet_run (N := 10) rfl rfl (.agg (rcells r)) ?_ ?_); (rintro _ ⟨x, rfl⟩; exact execOp_load rfl rfl (R0.out x)); go_simp)
        | go_big_quiet_step (first | (go_at_call 33; with_reducible exact Calls.ext HB.out (H1.out ▸ c_has r hr c t hc ht _)) | (go_at_call 39; with_reducible exact Calls.ext_same (c_isKind n _ _ H2.out)) | (go_at_call 28; with_reducible exact Calls.ext HB.out (c_roofCodeK r hr _ _ HK.out _))))
      refine wpQuiet_nil ?_
      intro x
      go_wp2_with (first
        | ((with_reducible refine gate (N := 22) rfl ?_); refine wp_roof 29 Try.underlying29 rfl Try.infoRoof rfl (.tmp 3) rfl w.heap.size rfl r hr (block_below x.h (block_alloc (block_alloc (block_new1 w _ rfl) _) _) (by omega)) ?_)
        | (go_at_call 40; ((with_reducible refine (c_with r hr c t n Q1.out Q2.out (by omega) _).mono ?_); rintro e w1 ⟨rfl, hb1⟩))
        | ((with_reducible refine gateN rfl ?_); refine wp_store_roof rfl (.tmp 6) (.tmp 26) rfl (w.heap.size + 1 + 1) Rf.zero _ Rf.zero_ok HOK.out (block_below hb1 (block_below x.h HW.out (by omega)) (Nat.lt_of_lt_of_le (by omega) (Nat.le_trans HB.out x.h.size))) rfl rfl ?_; intro w2 hw2 hg hsz; have HV := hid hw2; clear hw2))
      have b1 := HA.out.trans (x.h.mono (by omega))
      have b2 := b1.trans (hb1.mono b1.size)
      exact bodyPost_ret (res_roof rfl _ _ (w.heap.size + 1 + 1) _ HOK.out _ rfl HV.out rfl) rfl ⟨rfl, b2.grown hg b2.size (fun k hk => by cases hk; omega)⟩
    all_goals
      obtain rfl := H9.out (by decide)
      clear H0 H9
      go_enter Try.func18, Try.ntmps18
      go_wp2_with fail
      refine wp_region_ext (w.heap.size + 3) (by kernel_rfl) (by kernel_rfl) ?_
      repeat (first
        | ((with_reducible refine wpQuiet_run (N := 9) rfl rfl (.agg (rcells r)) ?_ ?_); (rintro _ ⟨x, rfl⟩; exact execOp_load rfl rfl (R0.out x)); go_simp)
        | ((with_reducible refine wpQuiet_run (N := 10) rfl rfl (.agg (rcells r)) ?_ ?_); (rintro _ ⟨x, rfl⟩; exact execOp_load rfl rfl (R0.out x)); go_simp)
        | go_big_quiet_step (first | (go_at_call 33; with_reducible exact Calls.ext HB.out (H1.out ▸ c_has r hr c t hc ht _)) | (go_at_call 39; with_reducible exact Calls.ext_same (c_isKind n _ _ H2.out)) | (go_at_call 28; with_reducible exact Calls.ext HB.out (c_roofCodeK r hr _ _ HK.out _))))
      refine wpQuiet_nil ?_
      intro x
      go_wp2_with (first
        | ((with_reducible refine gate (N := 20) rfl ?_); refine wpList_run rfl (.agg (rcells Rf.zero)) (by unfold execOp; go_simp; exact run_build_zero _) ?_)
        | ((with_reducible refine gateN rfl ?_); refine wp_store_roof rfl (.tmp 6) (.tmp 20) rfl (w.heap.size + 1 + 1) Rf.zero _ Rf.zero_ok Rf.zero_ok (block_below x.h HW.out (by omega)) rfl rfl ?_; intro w2 hw2 hg hsz; have HV := hid hw2; clear hw2))
      have b1 := HA.out.trans (x.h.mono (by omega))
      exact bodyPost_ret (res_roof rfl _ _ (w.heap.size + 1 + 1) _ Rf.zero_ok _ rfl HV.out rfl) rfl ⟨rfl, b1.grown hg b1.size (fun k hk => by cases hk; omega)⟩
  have e : codeOf (validB r) (hasB r c t && inB n 0 3) = setTileC r c t n := codeOf_has r c t (inB n 0 3)
  refine key _ _ _ _ rfl rfl e (setTile_ok hr c t n) (fun h => ⟨(setTile0 h).2, ?_⟩) (fun h => ?_) ?_
  · unfold setTileV; rw [if_pos h]
  · unfold setTileV; rw [if_neg h]
  · exact codeOf_012 _ _
set_option maxRecDepth 100000 in
theorem c_sSetTile (r : Rf) (hr : r.Ok) (c t : Int) (hc : -128 ≤ c ∧ c ≤ 127) (ht : -128 ≤ t ∧ t ≤ 127) (n : Int) (w : World) : Calls Try.prog 17 #[.agg (rcells r), .agg #[.int .i8 c, .int .i8 t], .int .i64 n] w fun e w' => e = .returned (.tuple #[.agg (rcells (setTileV r c t n)), .int .i64 (setTileC r c t n)]) ∧ Below w.heap.size w w' := by
  have key : ∀ (g2 : Bool) (k : Int) (R : Rf), inB n 0 3 = g2 → codeOf (validB r) (isPl r c t && g2) = k → R.Ok → (k = 0 → ((0 ≤ c ∧ c ≤ 7) ∧ (0 ≤ t ∧ t ≤ 7) ∧ (0 ≤ n ∧ n ≤ 3)) ∧ R = r.set c.toNat t.toNat n) → (k ≠ 0 → R = Rf.zero) → (k = 1 ∨ k = 2 ∨ k = 0) →
      Calls Try.prog 17 #[.agg (rcells r), .agg #[.int .i8 c, .int .i8 t], .int .i64 n] w fun e w' => e = .returned (.tuple #[.agg (rcells R), .int .i64 k]) ∧ Below w.heap.size w w' := by
    intro g2 k R h2 hk hok h0 hn0 hcs
    have H2 := hid h2; have HOK := hid hok
    clear h2 hok
    have H0 := hid h0; clear h0
    have H9 := hid hn0; clear hn0
    have HK := hid hk; clear hk
    have HW := hid (block_new1 (n := w.heap.size + 1 + 1) ((w.alloc (.cells (rcells r) 29)).alloc (.cells #[.int .i8 c, .int .i8 t] 36)) (.cells (rcells Rf.zero) 29) (by simp))
    have HR : Hid ((((w.alloc (.cells (rcells r) 29)).alloc (.cells #[.int .i8 c, .int .i8 t] 36)).alloc (.cells (rcells Rf.zero) 29)).heap[w.heap.size]? = some (.cells (rcells r) 29 (0,0))) := block_alloc (block_alloc (block_new1 w _ rfl) _) _
    have HB : Hid (w.heap.size + 3 ≤ (((w.alloc (.cells (rcells r) 29)).alloc (.cells #[.int .i8 c, .int .i8 t] 36)).alloc (.cells (rcells Rf.zero) 29)).heap.size) := by simp [Hid]
    have HA : Hid (Below w.heap.size w (((w.alloc (.cells (rcells r) 29)).alloc (.cells #[.int .i8 c, .int .i8 t] 36)).alloc (.cells (rcells Rf.zero) 29))) := (((Below.refl _ w).alloc (Nat.le_refl _) _).alloc (by simp) _).alloc (by simp; omega) _
    have l0 : w.heap.size < w.heap.size + 3 := by omega
    have l1 : w.heap.size + 1 < w.heap.size + 3 := by omega
    rcases hcs with rfl | rfl | rfl
    case inr.inr =>
      obtain ⟨⟨q1, q2, ⟨q3, q4⟩⟩, rfl⟩ := H0.out rfl
      clear H0 H9
      obtain ⟨i, rfl⟩ := Int.eq_ofNat_of_zero_le q1.1
      obtain ⟨k, rfl⟩ := Int.eq_ofNat_of_zero_le q2.1
      simp only [Int.toNat_natCast] at HOK ⊢
      have i8 : i < 8 := by omega
      have k8 : k < 8 := by omega
      have i1 : (i : Int) < 8 := by omega
      have k1 : (k : Int) < 8 := by omega
      have i0 : (0 : Int) ≤ (i : Int) := by omega
      have k0 : (0 : Int) ≤ (k : Int) := by omega
      have q5 : IntKind.u8.wrap n = n := IntWalk.u8_in _ (by omega)
      have HT : Hid (∀ x : Ext (w.heap.size + 3) (((w.alloc (.cells (rcells r) 29)).alloc (.cells #[.int .i8 (i : Int), .int .i8 (k : Int)] 36)).alloc (.cells (rcells Rf.zero) 29)), x.out.cell? ⟨w.heap.size, 3 + i * 8 + k, none⟩ = some (.int .u8 (r.at i k))) := fun x => roof_cell hr (block_below x.h HR.out l0) i k i8 k8
      obtain ⟨u, hu⟩ : ∃ v, v = r.at i k := ⟨_, rfl⟩
      rw [← hu] at HT
      clear hu q1 q2
      have HS := hid (rset r hr i k n)
      go_enter Try.func17, Try.ntmps17
      go_wp2_with fail
      refine wp_region_ext (w.heap.size + 3) (by kernel_rfl) (by kernel_rfl) ?_
      repeat (go_big_quiet_step (first | (go_at_call 38; with_reducible exact Calls.ext_same (c_l01Kind n _ _ H2.out)) | (go_at_call 31; with_reducible exact Calls.ext HB.out (c_l01AskedK r hr _ _ _ hc ht _ _ HK.out _ (block_below (Ext.h _) HR.out l0)))))
      refine wpQuiet_nil ?_
      intro x
      have hx := HT.out x
      have hxb := hid (block_below x.h HR.out l0)
      have hxw := hid (block_below x.h HW.out (by omega))
      have hxB := hid x.h
      go_wp2_with fail
      refine wp_region_tail 9 (by kernel_rfl) (by kernel_rfl) ?_
      simp only [List.take_succ_cons, List.take_zero, List.drop_succ_cons, List.drop_zero]
      repeat still_step
      refine wpStill_nil ?_
      go_wp2_with (first
        | ((with_reducible refine gate (N := 26) rfl ?_); refine wp_roof 29 Try.underlying29 rfl Try.infoRoof rfl (.tmp 3) rfl w.heap.size rfl _ HOK.out (T := 29) (fr := (0, 0)) (by rw [← HS.out]; exact heap_setCell_same _ _ _ _ _ _ hxb.out) ?_)
        | ((with_reducible refine gateN rfl ?_); refine wp_store_roof rfl (.tmp 6) (.tmp 26) rfl (w.heap.size + 1 + 1) Rf.zero _ Rf.zero_ok HOK.out (T := 29) (block_set_other (W := x.out) hxw.out _ (by simp; omega)) rfl rfl ?_; intro w2 hw2 hg hsz; have HV := hid hw2; clear hw2))
      have b1 := HA.out.trans (hxB.out.mono (by omega))
      have b2 := Below.setCell b1 (p := ⟨w.heap.size, 3 + i * 8 + k, none⟩) (Nat.le_refl _) (.int .u8 n)
      exact bodyPost_ret (res_roof rfl _ _ (w.heap.size + 1 + 1) _ HOK.out _ rfl HV.out rfl) rfl ⟨rfl, b2.drew.grown hg b2.size (fun k hk => by cases hk; omega)⟩
    all_goals
      obtain rfl := H9.out (by decide)
      clear H0 H9
      go_enter Try.func17, Try.ntmps17
      go_wp2_with fail
      refine wp_region_ext (w.heap.size + 3) (by kernel_rfl) (by kernel_rfl) ?_
      repeat (go_big_quiet_step (first | (go_at_call 38; with_reducible exact Calls.ext_same (c_l01Kind n _ _ H2.out)) | (go_at_call 31; with_reducible exact Calls.ext HB.out (c_l01AskedK r hr _ c t hc ht _ _ HK.out _ (block_below (Ext.h _) HR.out l0)))))
      refine wpQuiet_nil ?_
      intro x
      go_wp2_with (first
        | ((with_reducible refine gate (N := 15) rfl ?_); refine wpList_run rfl (.agg (rcells Rf.zero)) (by unfold execOp; go_simp; exact run_build_zero _) ?_)
        | ((with_reducible refine gateN rfl ?_); refine wp_store_roof rfl (.tmp 6) (.tmp 15) rfl (w.heap.size + 1 + 1) Rf.zero _ Rf.zero_ok Rf.zero_ok (block_below x.h HW.out (by omega)) rfl rfl ?_; intro w2 hw2 hg hsz; have HV := hid hw2; clear hw2))
      have b1 := HA.out.trans (x.h.mono (by omega))
      exact bodyPost_ret (res_roof rfl _ _ (w.heap.size + 1 + 1) _ Rf.zero_ok _ rfl HV.out rfl) rfl ⟨rfl, b1.grown hg b1.size (fun k hk => by cases hk; omega)⟩
  refine key _ _ _ rfl rfl (setTile_ok hr c t n) (fun h => ⟨(setTile0 h).2, ?_⟩) (fun h => ?_) ?_
  · unfold setTileV; rw [if_pos h]
  · unfold setTileV; rw [if_neg h]
  · exact codeOf_012 _ _
end Go.Proofs.Yteglogiabooacaa
