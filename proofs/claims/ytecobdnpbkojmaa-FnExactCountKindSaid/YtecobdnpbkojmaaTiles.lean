/- TilesOf and CountKind, the program's and the reference's. -/
import Derived.Test.YtecobdnpbkojmaaPlaces
import Derived.Test.YtecobdnpbkojmaaLawP
namespace Go.Proofs.Ytecobdnpbkojmaa
open Go.RowKit
set_option linter.unusedSimpArgs false
set_option linter.unusedVariables false

theorem owns_of_alloc {w w' : World} {o : Obj} {T : TypeId} {v : Value} {n : Nat} {xs : List Value} (h : w'.ownsRow (w.alloc o).heap.size T 2 v n xs) : w'.ownsRow w.heap.size T 2 v n xs := h.mono (by simp)
set_option maxRecDepth 100000 in
theorem c_ofKindClo (r : Rf) (hr : r.Ok) (n c t : Int) (hc : 0 ≤ c ∧ c ≤ 7) (ht : 0 ≤ t ∧ t ≤ 7) (b1 b2 : Nat) (w : World) (h1 : w.heap[b1]? = some (.cells (rcells r) 27 (0,0))) (h2 : w.heap[b2]? = some (.cells #[.int .u8 n] 5 (0,0))) :
    Calls Try.prog 62 #[.agg #[.int .i8 c, .int .i8 t], .pointer (some ⟨b1,0,none⟩), .pointer (some ⟨b2,0,none⟩)] w fun e w' => e = .returned (.bool (decide (r.at c.toNat t.toNat = n))) ∧ Below w.heap.size w w' := by
  have l1 := block_lt h1
  have l2 := block_lt h2
  have l1' : b1 < w.heap.size + 1 := by omega
  have l2' : b2 < w.heap.size + 1 := by omega
  have l0 : w.heap.size < w.heap.size + 1 := by omega
  have c2 : (w.alloc (.cells #[.int .i8 c, .int .i8 t] 43)).cell? ⟨b2, 0, none⟩ = some (.int .u8 n) := cell_block (block_alloc h2 _) rfl
  have HB : Hid (w.heap.size + 1 ≤ (w.alloc (.cells #[.int .i8 c, .int .i8 t] 43)).heap.size) := by simp [Hid]
  have L0 : ∀ x : Ext (w.heap.size + 1) (w.alloc (.cells #[.int .i8 c, .int .i8 t] 43)), (Instr.loadAt 27 (.pointer (some ⟨b1, 0, none⟩))).run Try.prog x.out = .ok (.agg (rcells r)) x.out := fun x =>
    run_load_roof 27 Try.underlying27 rfl Try.infoRoof hr (block_below x.h (block_alloc h1 _) (by omega))
  have R0 := hid L0; clear L0
  clear h1 h2
  go_enter Try.func62, Try.ntmps62
  go_wp2_with fail
  refine wp_region_ext (w.heap.size + 1) (by kernel_rfl) (by kernel_rfl) ?_
  repeat (first
    | ((with_reducible refine wpQuiet_run (N := 5) rfl rfl (.agg (rcells r)) ?_ ?_); (rintro _ ⟨x, rfl⟩; exact execOp_load rfl rfl (R0.out x)); go_simp)
    | go_big_quiet_step ((go_at_call 63; with_reducible exact Calls.ext HB.out (c_kind r hr c t hc ht _))))
  refine wpQuiet_nil ?_
  intro x
  go_wp2_with fail
  go_ret
  exact ⟨by simp; rfl, ((Below.refl _ w).alloc (Nat.le_refl _) _).trans (x.h.mono (by omega))⟩
set_option maxRecDepth 100000 in
theorem c_ofKind (r : Rf) (hr : r.Ok) (hv : validB r = true) (n : Int) (w : World) :
    Calls Try.prog 42 #[.agg (rcells r), .int .u8 n] w fun e w' => ∃ v, e = .returned v ∧ Below w.heap.size w w' ∧ w'.ownsRow w.heap.size 43 2 v (tilesL r n (allUp r.w.toNat r.h.toNat 0)).length (pcells (tilesL r n (allUp r.w.toNat r.h.toNat 0))) := by
  have vh := valid_head hv
  have HV := hid hv; clear hv
  have HR := hid (block_alloc (block_new1 w (.cells (rcells r) 27) rfl) (.cells #[.int .u8 n] 5))
  have HN := hid (block_new1 (w.alloc (.cells (rcells r) 27)) (.cells #[.int .u8 n] 5) rfl)
  have HT : Hid (Tells 62 #[.pointer (some ⟨w.heap.size,0,none⟩), .pointer (some ⟨w.heap.size + 1,0,none⟩)] (fun c t => decide (r.at c.toNat t.toNat = n)) r ((w.alloc (.cells (rcells r) 27)).alloc (.cells #[.int .u8 n] 5))) := by
    intro W c t hc ht hb
    refine c_ofKindClo r hr n c t (by omega) (by omega) _ _ W (block_below hb HR.out (by simp; omega)) (block_below hb ?_ (by simp))
    have := HN.out; simpa using this
  have HC := hid (c_places 62 _ (enters_of Try.func62 (by kernel_rfl) rfl) _ r hr HV.out _ HT.out)
  clear vh
  go_enter Try.func42, Try.ntmps42
  go_wp2_with (first
    | ((with_reducible refine gate (N := 5) rfl ?_); refine wp_roof 27 Try.underlying27 rfl Try.infoRoof rfl (.tmp 2) rfl w.heap.size rfl r hr HR.out ?_)
    | (go_at_call 61; ((with_reducible refine HC.out.mono ?_); rintro e w1 ⟨v, rfl, hb1, ho1⟩)))
  go_ret
  exact ⟨v, rfl, (((Below.refl _ w).alloc (Nat.le_refl _) _).alloc (by simp) _).trans (hb1.mono (by simp; omega)), ho1.mono (by simp; omega)⟩
/-- What TilesOf returns. -/
def tilesOfV (r : Rf) (n : Int) : List (Int × Int) := if codeOf (validB r) (inB n 0 3) = 0 then tilesL r n (allUp r.w.toNat r.h.toNat 0) else []
theorem tilesOfV_yes {r : Rf} {n : Int} (h : codeOf (validB r) (inB n 0 3) = 0) : tilesOfV r n = tilesL r n (allUp r.w.toNat r.h.toNat 0) := if_pos h
theorem tilesOfV_no {r : Rf} {n : Int} (h : codeOf (validB r) (inB n 0 3) ≠ 0) : tilesOfV r n = [] := if_neg h
theorem tilesOfV_len (r : Rf) (n : Int) : (tilesOfV r n).length ≤ 64 := by
  unfold tilesOfV
  split
  · rename_i h
    have hv : validB r = true := by
      rcases codeOf_cases (validB r) (inB n 0 3) with ⟨_, h1⟩ | ⟨_, _, h1⟩ | ⟨h1, _, _⟩
      · rw [h1] at h; cases h
      · rw [h1] at h; cases h
      · exact h1
    have := valid_head hv
    refine Nat.le_trans (List.length_filter_le _ _) ?_
    rw [allUp_len]
    have := Nat.mul_le_mul (by omega : r.h.toNat ≤ 8) (by omega : r.w.toNat ≤ 8)
    omega
  · simp
set_option maxRecDepth 100000 in
theorem c_TilesOf (r : Rf) (hr : r.Ok) (n : Int) (hn : -9223372036854775808 ≤ n ∧ n ≤ 9223372036854775807) (w : World) : Calls Try.prog 18 #[.agg (rcells r), .int .i64 n] w (RetP w (tilesOfV r n) (codeOf (validB r) (inB n 0 3))) := by
  have key : ∀ (k : Int) (g : Bool), inB n 0 3 = g → codeOf (validB r) g = k → (k = 1 ∨ k = 2 ∨ k = 0) → Calls Try.prog 18 #[.agg (rcells r), .int .i64 n] w (RetP w (tilesOfV r n) k) := by
    intro k g hg hk hcs
    have HG := hid hg
    have HK := hid hk
    have HV0 : Hid (k = 0 → validB r = true ∧ IntKind.u8.wrap n = n) := by
      intro h0
      subst h0
      have := codeOf_zero hk
      rw [this.2, inB_iff] at hg
      refine ⟨this.1, ?_⟩
      simp [IntKind.wrap, IntKind.bits, IntKind.signed]; omega
    have HL : Hid (tilesOfV r n = if k = 0 then tilesL r n (allUp r.w.toNat r.h.toNat 0) else []) := by rw [Hid, tilesOfV, hg, hk]
    clear hg hk hn
    have L0 : ∀ x : Ext (w.heap.size + 1) (w.alloc (.cells (rcells r) 27)), (Instr.loadAt 27 (.pointer (some ⟨w.heap.size, 0, none⟩))).run Try.prog x.out = .ok (.agg (rcells r)) x.out := fun x =>
      run_load_roof 27 Try.underlying27 rfl Try.infoRoof hr (block_below x.h (block_new1 w _ rfl) (by omega))
    have R0 := hid L0; clear L0
    have HB : Hid (w.heap.size + 1 ≤ (w.alloc (.cells (rcells r) 27)).heap.size) := by simp [Hid]
    have l0 : w.heap.size < w.heap.size + 1 := by omega
    rcases hcs with rfl | rfl | rfl
    all_goals
      try have HU := hid (HV0.out rfl).2
      try have HVr := hid (HV0.out rfl).1
      clear HV0
      go_enter Try.func18, Try.ntmps18
      go_wp2_with fail
      refine wp_region_ext (w.heap.size + 1) (by kernel_rfl) (by kernel_rfl) ?_
      repeat (first
        | ((with_reducible refine wpQuiet_run (N := 7) rfl rfl (.agg (rcells r)) ?_ ?_); (rintro _ ⟨x, rfl⟩; exact execOp_load rfl rfl (R0.out x)); go_simp)
        | go_big_quiet_step (first | (go_at_call 41; with_reducible exact Calls.ext_same (c_isKind n _ _ HG.out)) | (go_at_call 40; with_reducible exact Calls.ext HB.out (c_roofCodeK r hr _ _ HK.out _))))
      refine wpQuiet_nil ?_
      intro x
      try have hu := HU.out
      go_wp2_with (first
        | ((with_reducible refine gate (N := 14) rfl ?_); refine wp_roof 27 Try.underlying27 rfl Try.infoRoof rfl (.tmp 2) rfl w.heap.size rfl r hr (block_below x.h (block_new1 w _ rfl) (by omega)) ?_)
        | (go_at_call 42; ((with_reducible refine (c_ofKind r hr HVr.out n _).mono ?_); rintro e w1 ⟨v, rfl, hb1, ho1⟩)))
      go_ret2
      first
        | (refine ⟨_, rfl, ((Below.refl _ w).alloc (Nat.le_refl _) _).trans (x.h.mono (by omega)), ?_⟩; rw [HL.out]; exact World.ownsRow_nil _ _ _ _)
        | (have b1 := ((Below.refl _ w).alloc (Nat.le_refl _) (.cells (rcells r) 27)).trans (x.h.mono (by omega)); refine ⟨_, rfl, b1.trans (hb1.mono b1.size), ?_⟩; rw [HL.out, if_pos (by trivial)]; exact ho1.mono b1.size)
  exact key _ _ rfl rfl (codeOf_012 _ _)
set_option maxRecDepth 100000 in
theorem c_sTilesOf (r : Rf) (hr : r.Ok) (n : Int) (hn : -9223372036854775808 ≤ n ∧ n ≤ 9223372036854775807) (w : World) : Calls Try.prog 17 #[.agg (rcells r), .int .i64 n] w (RetP w (tilesOfV r n) (codeOf (validB r) (inB n 0 3))) := by
  have key : ∀ (k : Int) (g : Bool), inB n 0 3 = g → codeOf (validB r) g = k → (k = 1 ∨ k = 2 ∨ k = 0) → Calls Try.prog 17 #[.agg (rcells r), .int .i64 n] w (RetP w (tilesOfV r n) k) := by
    intro k g hg hk hcs
    have HG := hid hg
    have HK := hid hk
    have HV0 : Hid (k = 0 → validB r = true) := fun h0 => by
      subst h0
      exact (codeOf_zero hk).1
    have HL : Hid (tilesOfV r n = if k = 0 then tilesL r n (allUp r.w.toNat r.h.toNat 0) else []) := by rw [Hid, tilesOfV, hg, hk]
    clear hg hk hn
    have HR := hid (block_new1 w (.cells (rcells r) 27) rfl)
    have HB : Hid (w.heap.size + 1 ≤ (w.alloc (.cells (rcells r) 27)).heap.size) := by simp [Hid]
    have l0 : w.heap.size < w.heap.size + 1 := by omega
    rcases hcs with rfl | rfl | rfl
    all_goals
      try have HVr := hid (HV0.out rfl)
      clear HV0
      go_enter Try.func17, Try.ntmps17
      go_wp2_with (first
        | (go_at_call 38; ((with_reducible refine (c_l01Kind n _ _ HG.out).mono ?_); rintro e w1 ⟨rfl, rfl⟩))
        | (go_at_call 37; ((with_reducible refine (c_l01ToldK r hr _ _ _ HK.out _ HR.out).mono ?_); rintro e w1 ⟨rfl, hb1⟩))
        | (go_at_call 39; ((with_reducible refine (c_l01Tiles r hr HVr.out _ n _ (block_below hb1 HR.out (by simp))).mono ?_); rintro e w2 ⟨v, rfl, hb2, ho2⟩)))
      go_ret2
      have b1 := ((Below.refl _ w).alloc (Nat.le_refl _) (.cells (rcells r) 27)).trans (hb1.mono (by simp))
      first
        | (refine ⟨_, rfl, b1.alloc b1.size _, ?_⟩; rw [HL.out]; exact World.ownsRow_made w1 #[] 0 b1.size (by decide) rfl)
        | (refine ⟨_, rfl, b1.trans (hb2.mono b1.size), ?_⟩; rw [HL.out, if_pos (by trivial)]; exact ho2.mono b1.size)
  exact key _ _ rfl rfl (codeOf_012 _ _)
set_option maxRecDepth 100000 in
theorem c_CountKind (r : Rf) (hr : r.Ok) (n : Int) (hn : -9223372036854775808 ≤ n ∧ n ≤ 9223372036854775807) (w : World) : Calls Try.prog 16 #[.agg (rcells r), .int .i64 n] w fun e w' => e = .returned (.tuple #[.int .i64 ((tilesOfV r n).length : Int), .int .i64 (codeOf (validB r) (inB n 0 3))]) ∧ Below w.heap.size w w' := by
  obtain ⟨k, hk⟩ : ∃ k, k = codeOf (validB r) (inB n 0 3) := ⟨_, rfl⟩
  have hc := c_TilesOf r hr n hn (w.alloc (.cells (rcells r) 27))
  rw [← hk] at hc ⊢
  have HC := hid hc; clear hc hk
  go_enter Try.func16, Try.ntmps16
  go_wp2_with (first
    | ((with_reducible refine gate (N := 9) rfl ?_); refine wp_roof 27 Try.underlying27 rfl Try.infoRoof rfl (.tmp 2) rfl w.heap.size rfl r hr (block_new1 w _ rfl) ?_)
    | (go_at_call 18; ((with_reducible refine HC.out.mono ?_); rintro e w1 ⟨v, rfl, hb1, ho1⟩; obtain ⟨A, c, rfl⟩ := owns_slice ho1)))
  go_ret2
  exact ⟨rfl, ((Below.refl _ w).alloc (Nat.le_refl _) _).trans (hb1.mono (by simp))⟩
set_option maxRecDepth 100000 in
theorem c_sCountKind (r : Rf) (hr : r.Ok) (n : Int) (hn : -9223372036854775808 ≤ n ∧ n ≤ 9223372036854775807) (w : World) : Calls Try.prog 15 #[.agg (rcells r), .int .i64 n] w fun e w' => e = .returned (.tuple #[.int .i64 ((tilesOfV r n).length : Int), .int .i64 (codeOf (validB r) (inB n 0 3))]) ∧ Below w.heap.size w w' := by
  have key : ∀ (k : Int) (g : Bool), inB n 0 3 = g → codeOf (validB r) g = k → (k = 1 ∨ k = 2 ∨ k = 0) → Calls Try.prog 15 #[.agg (rcells r), .int .i64 n] w fun e w' => e = .returned (.tuple #[.int .i64 ((tilesOfV r n).length : Int), .int .i64 k]) ∧ Below w.heap.size w w' := by
    intro k g hg hk hcs
    have HG := hid hg
    have HK := hid hk
    have HV0 : Hid (k = 0 → validB r = true) := fun h0 => by
      subst h0
      exact (codeOf_zero hk).1
    have HL : Hid (tilesOfV r n = if k = 0 then tilesL r n (allUp r.w.toNat r.h.toNat 0) else []) := by rw [Hid, tilesOfV, hg, hk]
    clear hg hk hn
    have HR := hid (block_new1 w (.cells (rcells r) 27) rfl)
    have HB : Hid (w.heap.size + 1 ≤ (w.alloc (.cells (rcells r) 27)).heap.size) := by simp [Hid]
    have l0 : w.heap.size < w.heap.size + 1 := by omega
    rcases hcs with rfl | rfl | rfl
    all_goals
      try have HVr := hid (HV0.out rfl)
      clear HV0
      go_enter Try.func15, Try.ntmps15
      go_wp2_with (first
        | (go_at_call 38; ((with_reducible refine (c_l01Kind n _ _ HG.out).mono ?_); rintro e w1 ⟨rfl, rfl⟩))
        | (go_at_call 37; ((with_reducible refine (c_l01ToldK r hr _ _ _ HK.out _ HR.out).mono ?_); rintro e w1 ⟨rfl, hb1⟩))
        | (go_at_call 39; ((with_reducible refine (c_l01Tiles r hr HVr.out _ n _ (block_below hb1 HR.out (by simp))).mono ?_); rintro e w2 ⟨v, rfl, hb2, ho2⟩; obtain ⟨A, c, rfl⟩ := owns_slice ho2)))
      go_ret2
      have b1 := ((Below.refl _ w).alloc (Nat.le_refl _) (.cells (rcells r) 27)).trans (hb1.mono (by simp))
      first
        | (refine ⟨?_, b1⟩; rw [HL.out]; rfl)
        | (refine ⟨?_, b1.trans (hb2.mono b1.size)⟩; rw [HL.out, if_pos (by trivial)]; rfl)
  exact key _ _ rfl rfl (codeOf_012 _ _)
end Go.Proofs.Ytecobdnpbkojmaa
