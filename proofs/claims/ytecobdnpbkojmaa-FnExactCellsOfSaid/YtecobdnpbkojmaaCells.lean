/- CellsOf, the program's and the reference's. -/
import Derived.Test.YtecobdnpbkojmaaEachII
import Derived.Test.YtecobdnpbkojmaaAbove
namespace Go.Proofs.Ytecobdnpbkojmaa
open Go.RowKit
set_option linter.unusedSimpArgs false
set_option linter.unusedVariables false

/-- What CellsOf returns. -/
def cellL (r : Rf) (c t : Int) : List Int := if codeOf (validB r) (isPl r c t) = 0 then [firstOf r c t, firstOf r c t + 1] else []
theorem cellL_len (r : Rf) (c t : Int) : (cellL r c t).length ≤ 64 := by unfold cellL; split <;> simp
theorem slI_two {w : World} {g : Nat} {a b : Int} {T : TypeId} {fr : Nat × Nat} (h : w.heap[g]? = some (.cells #[.int .i64 a, .int .i64 b] T fr)) : SlI w (some ⟨g, 0, none⟩) [a, b] := fun j n hj => by
  refine ⟨g, 0, rfl, block_lt h, ?_⟩
  match j, hj with
  | 0, hj => obtain rfl : a = n := by simpa using hj
             exact cell_block h rfl
  | 1, hj => obtain rfl : b = n := by simpa using hj
             exact cell_block h rfl
theorem c_wide (n : Int) (w : World) : Calls Try.prog 51 #[.int .i64 n] w fun e w' => e = .returned (.int .i64 n) ∧ w = w' := by
  go_enter Try.func51, Try.ntmps51
  go_wp2_with fail
  go_ret
  exact ⟨rfl, rfl⟩
set_option maxRecDepth 100000 in
theorem c_CellsOf (r : Rf) (hr : r.Ok) (c t : Int) (hc : -128 ≤ c ∧ c ≤ 127) (ht : -128 ≤ t ∧ t ≤ 127) (w : World) : Calls Try.prog 27 #[.agg (rcells r), .agg #[.int .i8 c, .int .i8 t]] w (RetI w (cellL r c t) (codeOf (validB r) (isPl r c t))) := by
  have key : ∀ k : Int, codeOf (validB r) (hasB r c t) = k → codeOf (validB r) (isPl r c t) = k → (k = 1 ∨ k = 2 ∨ k = 0) → Calls Try.prog 27 #[.agg (rcells r), .agg #[.int .i8 c, .int .i8 t]] w (RetI w (cellL r c t) k) := by
    intro k hk hk' hcs
    have HK := hid hk
    have HL : Hid (cellL r c t = if k = 0 then [firstOf r c t, firstOf r c t + 1] else []) := by
      show _ = _
      unfold cellL; rw [hk']
    have HV0 : Hid (k = 0 → validB r = true ∧ (0 ≤ c ∧ c ≤ 7) ∧ (0 ≤ t ∧ t ≤ 7)) := fun h0 => codeOf_pl (hk'.trans h0)
    clear hk hk'
    have HP := hid (block_alloc (block_new1 w (.cells (rcells r) 27) rfl) (.cells #[.int .i8 c, .int .i8 t] 43))
    have HW : Hid (Below w.heap.size w ((w.alloc (.cells (rcells r) 27)).alloc (.cells #[.int .i8 c, .int .i8 t] 43))) := ((Below.refl _ w).alloc (Nat.le_refl _) _).alloc (by simp) _
    have R0 : Hid (∀ x : Ext (w.heap.size + 2) ((w.alloc (.cells (rcells r) 27)).alloc (.cells #[.int .i8 c, .int .i8 t] 43)), (Instr.loadAt 27 (.pointer (some ⟨w.heap.size, 0, none⟩))).run Try.prog x.out = .ok (.agg (rcells r)) x.out) := fun x =>
      run_load_roof 27 Try.underlying27 rfl Try.infoRoof hr (block_below x.below HP.out (by omega))
    have HB : Hid (w.heap.size + 2 ≤ ((w.alloc (.cells (rcells r) 27)).alloc (.cells #[.int .i8 c, .int .i8 t] 43)).heap.size) := by simp [Hid]
    have l0 : w.heap.size < w.heap.size + 2 := by omega
    have l1 : w.heap.size + 1 < w.heap.size + 2 := by omega
    have HCC := hid hc
    have HTT := hid ht
    rcases hcs with rfl | rfl | rfl
    all_goals
      try have HVr := hid (HV0.out rfl).1
      try have HCr := hid (HV0.out rfl).2.1
      try have HTr := hid (HV0.out rfl).2.2
      clear HV0
      go_enter Try.func27, Try.ntmps27
      go_wp2_with fail
      refine wp_region_ext (w.heap.size + 2) (by kernel_rfl) (by kernel_rfl) ?_
      repeat (first
        | ((with_reducible refine wpQuiet_run (N := 7) rfl rfl (.agg (rcells r)) ?_ ?_); (rintro _ ⟨x, rfl⟩; exact execOp_load rfl rfl (R0.out x)); go_simp)
        | ((with_reducible refine wpQuiet_run (N := 8) rfl rfl (.agg (rcells r)) ?_ ?_); (rintro _ ⟨x, rfl⟩; exact execOp_load rfl rfl (R0.out x)); go_simp)
        | go_big_quiet_step (first | (go_at_call 48; with_reducible exact Calls.ext HB.out (c_has r hr c t HCC.out HTT.out _)) | (go_at_call 40; with_reducible exact Calls.ext HB.out (c_roofCodeK r hr _ _ HK.out _))))
      refine wpQuiet_nil ?_
      intro x
      have HWx := hid (HW.out.trans (x.below.mono (by omega)))
      go_wp2_with (first
        | ((with_reducible refine gate (N := 15) rfl ?_); refine wp_roof 27 Try.underlying27 rfl Try.infoRoof rfl (.tmp 2) rfl w.heap.size rfl r hr (block_below x.below HP.out (by omega)) ?_)
        | (go_at_call 50; ((with_reducible refine (c_cellsOf r hr c t HCr.out HTr.out _).mono ?_); rintro e w1 ⟨g, rfl, hb1, hg, hG⟩))
        | (go_at_call 49; ((refine (c_eachII 51 #[] #[] (enters_of Try.func51 (by kernel_rfl) rfl) (fun n => n) (some ⟨g, 0, none⟩) 2 [firstOf r c t, firstOf r c t + 1] (by simp) w1 (slI_two hG) (fun W n _ _ => Calls.below (c_wide n W))).mono ?_); rintro e w2 ⟨v, rfl, hb2, ho2⟩)))
      go_ret2
      first
        | (refine ⟨_, rfl, HWx.out, ?_⟩; rw [HL.out]; exact World.ownsRow_nil _ _ _ _)
        | (have b1 := HWx.out.trans (hb1.mono HWx.out.size); refine ⟨_, rfl, b1.trans (hb2.mono b1.size), ?_⟩; rw [HL.out, if_pos (by trivial)]; have := ho2.mono b1.size; simpa using this)
  have e : codeOf (validB r) (hasB r c t) = codeOf (validB r) (isPl r c t) := by have := codeOf_has r c t true; simpa using this
  exact key _ e rfl (codeOf_012 _ _)
set_option maxRecDepth 100000 in
theorem c_sCellsOf (r : Rf) (hr : r.Ok) (c t : Int) (hc : -128 ≤ c ∧ c ≤ 127) (ht : -128 ≤ t ∧ t ≤ 127) (w : World) : Calls Try.prog 25 #[.agg (rcells r), .agg #[.int .i8 c, .int .i8 t]] w (RetI w (cellL r c t) (codeOf (validB r) (isPl r c t))) := by
  have key : ∀ k : Int, codeOf (validB r) (isPl r c t && true) = k → codeOf (validB r) (isPl r c t) = k → (k = 1 ∨ k = 2 ∨ k = 0) → Calls Try.prog 25 #[.agg (rcells r), .agg #[.int .i8 c, .int .i8 t]] w (RetI w (cellL r c t) k) := by
    intro k hk hk' hcs
    have HK := hid hk
    have HL : Hid (cellL r c t = if k = 0 then [firstOf r c t, firstOf r c t + 1] else []) := by
      show _ = _
      unfold cellL; rw [hk']
    have HV0 : Hid (k = 0 → validB r = true ∧ (0 ≤ c ∧ c ≤ 7) ∧ (0 ≤ t ∧ t ≤ 7)) := fun h0 => codeOf_pl (hk'.trans h0)
    clear hk hk'
    have HP := hid (block_alloc (block_new1 w (.cells (rcells r) 27) rfl) (.cells #[.int .i8 c, .int .i8 t] 43))
    have HQ := hid (block_new1 (w.alloc (.cells (rcells r) 27)) (.cells #[.int .i8 c, .int .i8 t] 43) (n := w.heap.size + 1) (by simp))
    have HW : Hid (Below w.heap.size w ((w.alloc (.cells (rcells r) 27)).alloc (.cells #[.int .i8 c, .int .i8 t] 43))) := ((Below.refl _ w).alloc (Nat.le_refl _) _).alloc (by simp) _
    have HS : Hid (w.heap.size + 2 ≤ ((w.alloc (.cells (rcells r) 27)).alloc (.cells #[.int .i8 c, .int .i8 t] 43)).heap.size) := by simp [Hid]
    have HCC := hid hc
    have HTT := hid ht
    have hs0 := shiftOf_01 r c
    rcases hcs with rfl | rfl | rfl
    all_goals
      try have HVr := hid (HV0.out rfl).1
      try have HCr := hid (HV0.out rfl).2.1
      try have HTr := hid (HV0.out rfl).2.2
      try have hff : 0 ≤ firstOf r c t ∧ firstOf r c t ≤ 15 := by have := HTr.out; unfold firstOf; omega
      clear HV0 hs0
      obtain ⟨f, hfe⟩ : ∃ f, f = firstOf r c t := ⟨_, rfl⟩
      have HFe := hid hfe
      try rw [← hfe] at hff
      rw [← hfe] at HL
      clear hfe
      go_enter Try.func25, Try.ntmps25
      go_wp2_with (first
        | (go_at_call 46; ((with_reducible refine (c_l01AskedK r hr w.heap.size c t HCC.out HTT.out true _ HK.out _ HP.out).mono ?_); rintro e w1 ⟨rfl, hb1⟩); have b1 := hid hb1; have HQ1 := hid (block_below hb1 HQ.out (by have := HS.out; omega)); have q0 := cell_block HQ1.out (j := 0) rfl; have q1 := cell_block HQ1.out (j := 1) rfl; clear hb1)
        | (go_at_call 47; ((with_reducible refine (c_l01First r hr w.heap.size c t HCr.out HTr.out _ (block_below b1.out HP.out (by have := HS.out; omega))).mono ?_); rintro e w2 ⟨rfl, hb2⟩); rw [← HFe.out]))
      have b2 := hid (HW.out.trans (b1.out.mono HW.out.size))
      go_ret2
      first
        | (refine ⟨_, rfl, b2.out.alloc b2.out.size _, ?_⟩; rw [HL.out]; exact World.ownsRow_made w1 #[] 0 b2.out.size (by decide) rfl)
        | (have b3 := b2.out.trans (hb2.mono b2.out.size); refine ⟨_, rfl, b3.alloc b3.size _, ?_⟩; rw [HL.out, if_pos (by trivial)]; exact ⟨rfl, .inr ⟨w2.heap.size, 2, #[.int .i64 f, .int .i64 (f + 1)], rfl, b3.size, block_new1 w2 _ rfl, Nat.le_refl _, by decide, rfl, rfl⟩⟩)
  have e : codeOf (validB r) (isPl r c t && true) = codeOf (validB r) (isPl r c t) := by rw [Bool.and_true]
  exact key _ e rfl (codeOf_012 _ _)
end Go.Proofs.Ytecobdnpbkojmaa
