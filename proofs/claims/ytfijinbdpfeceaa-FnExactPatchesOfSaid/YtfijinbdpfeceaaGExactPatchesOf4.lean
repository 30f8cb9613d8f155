/- Texts of the claim FnExactPatchesOf, part 4 of 5. -/
import Derived.Test.YtfijinbdpfeceaaGExactPatchesOf3
/- AboveOf and BelowOf, the program's and the reference's. -/
namespace Go.Proofs.Ytfijinbdpfeceaa
open Go.RowKit
set_option linter.unusedSimpArgs false
set_option linter.unusedVariables false

/-- What AboveOf and BelowOf return. -/
def besL (r : Rf) (c t b : Int) : List (Int × Int) := if codeOf (validB r) (isPl r c t) = 0 then lapL r c t (c + b) else []
theorem besL_len (r : Rf) (c t b : Int) : (besL r c t b).length ≤ 64 := by
  unfold besL; split
  · have := lapL_len r c t (c + b); omega
  · simp
theorem codeOf_pl {r : Rf} {c t : Int} (h : codeOf (validB r) (isPl r c t) = 0) : validB r = true ∧ (0 ≤ c ∧ c ≤ 7) ∧ (0 ≤ t ∧ t ≤ 7) := by
  have := codeOf_zero h
  have h1 := valid_head this.1
  have h2 := isPl_iff.1 this.2
  exact ⟨this.1, by omega, by omega⟩
set_option maxRecDepth 100000 in
theorem c_l01First (r : Rf) (hr : r.Ok) (b : Nat) (c t : Int) (hc : 0 ≤ c ∧ c ≤ 7) (ht : 0 ≤ t ∧ t ≤ 7) (w : World) (hb : w.heap[b]? = some (.cells (rcells r) 27 (0,0))) :
    Calls Try.prog 64 #[.pointer (some ⟨b,0,none⟩), .agg #[.int .i8 c, .int .i8 t]] w fun e w' => e = .returned (.int .i64 (firstOf r c t)) ∧ Below w.heap.size w w' := by
  have hs := shiftOf_01 r c
  have lb := block_lt hb
  have lb' : b < w.heap.size + 1 := by omega
  have HP := hid (block_alloc hb (.cells #[.int .i8 c, .int .i8 t] 42))
  have HC := hid (fun W hW => c_l01By r hr b c ⟨hc.1, by omega⟩ W hW)
  have e : firstOf r c t = 2 * t + shiftOf r c := rfl
  rw [e]
  obtain ⟨s, hse⟩ : ∃ s, s = shiftOf r c := ⟨_, rfl⟩
  rw [← hse] at hs HC ⊢
  clear hse e hb
  obtain ⟨c1, c2⟩ := hc
  obtain ⟨t1, t2⟩ := ht
  have HB : Hid (w.heap.size + 1 ≤ (w.alloc (.cells #[.int .i8 c, .int .i8 t] 42)).heap.size) := by simp [Hid]
  have l1 : w.heap.size < w.heap.size + 1 := by omega
  have HX : Hid (∀ x : Ext (w.heap.size + 1) (w.alloc (.cells #[.int .i8 c, .int .i8 t] 42)), x.out.heap[b]? = some (.cells (rcells r) 27 (0,0))) := fun x => block_below x.below HP.out lb'
  have e1 : IntKind.i64.wrap c = c := IntWalk.i64_in _ (by omega)
  have e2 : IntKind.i64.wrap t = t := IntWalk.i64_in _ (by omega)
  have e3 : IntKind.i64.wrap (2 * t) = 2 * t := IntWalk.i64_in _ (by omega)
  have e4 : IntKind.i64.wrap (2 * t + s) = 2 * t + s := IntWalk.i64_in _ (by omega)
  go_enter Try.func64, Try.ntmps64
  go_wp2_with fail
  refine wp_region_ext (w.heap.size + 1) (by kernel_rfl) (by kernel_rfl) ?_
  repeat (go_big_quiet_step ((go_at_call 76; with_reducible exact Calls.ext_same (HC.out _ (HX.out _)))))
  refine wpQuiet_nil ?_
  intro x
  go_wp2_with fail
  go_ret
  exact ⟨rfl, ((Below.refl _ w).alloc (Nat.le_refl _) _).trans (x.below.mono (by omega))⟩
set_option maxRecDepth 100000 in
theorem c_l01Tile (r : Rf) (hr : r.Ok) (hv : validB r = true) (b : Nat) (d n : Int) (hd : 0 ≤ d ∧ d ≤ 7) (hn : 0 ≤ n ∧ n ≤ 100) (w : World) (hb : w.heap[b]? = some (.cells (rcells r) 27 (0,0))) :
    Calls Try.prog 65 #[.pointer (some ⟨b,0,none⟩), .int .i64 d, .int .i64 n] w fun e w' => e = .returned (.int .i64 (tileOf r d n)) ∧ w = w' := by
  have hs := shiftOf_01 r d
  have vh := valid_head hv
  have HC := hid (c_l01By r hr b d ⟨hd.1, by omega⟩ w hb)
  have e : tileOf r d n = if 0 ≤ n - shiftOf r d ∧ n - shiftOf r d ≤ 2 * r.w - 1 then (n - shiftOf r d) / 2 else -1 := rfl
  have c0 := cell_block hb (rc0 r)
  rw [e]
  obtain ⟨s, hse⟩ : ∃ s, s = shiftOf r d := ⟨_, rfl⟩
  obtain ⟨W, hW⟩ : ∃ W, W = r.w := ⟨_, rfl⟩
  rw [← hse] at hs HC ⊢
  rw [← hW] at vh c0 ⊢
  clear hse e hW hb
  have e1 : IntKind.i64.wrap W = W := IntWalk.i64_in _ (by omega)
  by_cases h0 : n - s < 0
  · rw [if_neg (by omega)]
    go_enter Try.func65, Try.ntmps65
    go_wp2_with (go_at_call 76; ((with_reducible refine HC.out.mono ?_); rintro e w1 ⟨rfl, rfl⟩))
    go_ret
    exact ⟨rfl, rfl⟩
  · have h0' : 0 ≤ n - s := by omega
    by_cases h1 : W ≤ (n - s) / 2
    · rw [if_neg (by omega)]
      clear h0
      go_enter Try.func65, Try.ntmps65
      go_wp2_with (go_at_call 76; ((with_reducible refine HC.out.mono ?_); rintro e w1 ⟨rfl, rfl⟩))
      go_ret
      exact ⟨rfl, rfl⟩
    · have h1' : (n - s) / 2 < W := by omega
      rw [if_pos (by omega)]
      clear h0 h1
      go_enter Try.func65, Try.ntmps65
      go_wp2_with (go_at_call 76; ((with_reducible refine HC.out.mono ?_); rintro e w1 ⟨rfl, rfl⟩))
      go_ret
      exact ⟨rfl, rfl⟩
set_option maxRecDepth 100000 in
theorem c_AboveOf (r : Rf) (hr : r.Ok) (c t : Int) (hc : -128 ≤ c ∧ c ≤ 127) (ht : -128 ≤ t ∧ t ≤ 127) (w : World) : Calls Try.prog 20 #[.agg (rcells r), .agg #[.int .i8 c, .int .i8 t]] w (RetP w (besL r c t (-1)) (codeOf (validB r) (isPl r c t))) := by
  have key : ∀ k : Int, codeOf (validB r) (hasB r c t) = k → codeOf (validB r) (isPl r c t) = k → (k = 1 ∨ k = 2 ∨ k = 0) → Calls Try.prog 20 #[.agg (rcells r), .agg #[.int .i8 c, .int .i8 t]] w (RetP w (besL r c t (-1)) k) := by
    intro k hk hk' hcs
    have HK := hid hk
    have HL : Hid (besL r c t (-1) = if k = 0 then lapL r c t (c - 1) else []) := by
      have e : c + -1 = c - 1 := by omega
      show _ = _
      unfold besL; rw [hk', e]
    have HV0 : Hid (k = 0 → validB r = true ∧ (0 ≤ c ∧ c ≤ 7) ∧ (0 ≤ t ∧ t ≤ 7)) := fun h0 => codeOf_pl (hk'.trans h0)
    clear hk hk'
    have HP := hid (block_alloc (block_new1 w (.cells (rcells r) 27) rfl) (.cells #[.int .i8 c, .int .i8 t] 42))
    have HW : Hid (Below w.heap.size w ((w.alloc (.cells (rcells r) 27)).alloc (.cells #[.int .i8 c, .int .i8 t] 42))) := ((Below.refl _ w).alloc (Nat.le_refl _) _).alloc (by simp) _
    have R0 : Hid (∀ x : Ext (w.heap.size + 2) ((w.alloc (.cells (rcells r) 27)).alloc (.cells #[.int .i8 c, .int .i8 t] 42)), (Instr.loadAt 27 (.pointer (some ⟨w.heap.size, 0, none⟩))).run Try.prog x.out = .ok (.agg (rcells r)) x.out) := fun x =>
      run_load_roof 27 Try.underlying27 rfl Try.infoRoof hr (block_below x.below HP.out (by omega))
    have HB : Hid (w.heap.size + 2 ≤ ((w.alloc (.cells (rcells r) 27)).alloc (.cells #[.int .i8 c, .int .i8 t] 42)).heap.size) := by simp [Hid]
    have l0 : w.heap.size < w.heap.size + 2 := by omega
    have l1 : w.heap.size + 1 < w.heap.size + 2 := by omega
    have e1 : IntKind.i64.wrap c = c := IntWalk.i64_in _ (by omega)
    have HCC := hid hc
    have HTT := hid ht
    rcases hcs with rfl | rfl | rfl
    all_goals
      try have HVr := hid (HV0.out rfl).1
      try have HCr := hid (HV0.out rfl).2.1
      try have HTr := hid (HV0.out rfl).2.2
      clear HV0
      go_enter Try.func20, Try.ntmps20
      go_wp2_with fail
      refine wp_region_ext (w.heap.size + 2) (by kernel_rfl) (by kernel_rfl) ?_
      repeat (first
        | ((with_reducible refine wpQuiet_run (N := 7) rfl rfl (.agg (rcells r)) ?_ ?_); (rintro _ ⟨x, rfl⟩; exact execOp_load rfl rfl (R0.out x)); go_simp)
        | ((with_reducible refine wpQuiet_run (N := 8) rfl rfl (.agg (rcells r)) ?_ ?_); (rintro _ ⟨x, rfl⟩; exact execOp_load rfl rfl (R0.out x)); go_simp)
        | go_big_quiet_step (first | (go_at_call 47; with_reducible exact Calls.ext HB.out (c_has r hr c t HCC.out HTT.out _)) | (go_at_call 46; with_reducible exact Calls.ext HB.out (c_roofCodeK r hr _ _ HK.out _))))
      refine wpQuiet_nil ?_
      intro x
      have HWx := hid (HW.out.trans (x.below.mono (by omega)))
      go_wp2_with (first
        | ((with_reducible refine gate (N := 15) rfl ?_); refine wp_roof 27 Try.underlying27 rfl Try.infoRoof rfl (.tmp 2) rfl w.heap.size rfl r hr (block_below x.below HP.out (by omega)) ?_)
        | (go_at_call 48; ((with_reducible refine (c_lapped r hr HVr.out c t (c - 1) HCr.out HTr.out (by have := HCr.out; omega) _).mono ?_); rintro e w1 ⟨v, rfl, hb1, ho1⟩)))
      go_ret2
      first
        | (refine ⟨_, rfl, HWx.out, ?_⟩; rw [HL.out]; exact World.ownsRow_nil _ _ _ _)
        | (refine ⟨_, rfl, HWx.out.trans (hb1.mono HWx.out.size), ?_⟩; rw [HL.out, if_pos (by trivial)]; exact ho1.mono HWx.out.size)
  have e : codeOf (validB r) (hasB r c t) = codeOf (validB r) (isPl r c t) := by have := codeOf_has r c t true; simpa using this
  exact key _ e rfl (codeOf_012 _ _)
set_option maxRecDepth 100000 in
theorem c_BelowOf (r : Rf) (hr : r.Ok) (c t : Int) (hc : -128 ≤ c ∧ c ≤ 127) (ht : -128 ≤ t ∧ t ≤ 127) (w : World) : Calls Try.prog 22 #[.agg (rcells r), .agg #[.int .i8 c, .int .i8 t]] w (RetP w (besL r c t 1) (codeOf (validB r) (isPl r c t))) := by
  have key : ∀ k : Int, codeOf (validB r) (hasB r c t) = k → codeOf (validB r) (isPl r c t) = k → (k = 1 ∨ k = 2 ∨ k = 0) → Calls Try.prog 22 #[.agg (rcells r), .agg #[.int .i8 c, .int .i8 t]] w (RetP w (besL r c t 1) k) := by
    intro k hk hk' hcs
    have HK := hid hk
    have HL : Hid (besL r c t 1 = if k = 0 then lapL r c t (c + 1) else []) := by
      show _ = _
      unfold besL; rw [hk']
    have HV0 : Hid (k = 0 → validB r = true ∧ (0 ≤ c ∧ c ≤ 7) ∧ (0 ≤ t ∧ t ≤ 7)) := fun h0 => codeOf_pl (hk'.trans h0)
    clear hk hk'
    have HP := hid (block_alloc (block_new1 w (.cells (rcells r) 27) rfl) (.cells #[.int .i8 c, .int .i8 t] 42))
    have HW : Hid (Below w.heap.size w ((w.alloc (.cells (rcells r) 27)).alloc (.cells #[.int .i8 c, .int .i8 t] 42))) := ((Below.refl _ w).alloc (Nat.le_refl _) _).alloc (by simp) _
    have R0 : Hid (∀ x : Ext (w.heap.size + 2) ((w.alloc (.cells (rcells r) 27)).alloc (.cells #[.int .i8 c, .int .i8 t] 42)), (Instr.loadAt 27 (.pointer (some ⟨w.heap.size, 0, none⟩))).run Try.prog x.out = .ok (.agg (rcells r)) x.out) := fun x =>
      run_load_roof 27 Try.underlying27 rfl Try.infoRoof hr (block_below x.below HP.out (by omega))
    have HB : Hid (w.heap.size + 2 ≤ ((w.alloc (.cells (rcells r) 27)).alloc (.cells #[.int .i8 c, .int .i8 t] 42)).heap.size) := by simp [Hid]
    have l0 : w.heap.size < w.heap.size + 2 := by omega
    have l1 : w.heap.size + 1 < w.heap.size + 2 := by omega
    have e1 : IntKind.i64.wrap c = c := IntWalk.i64_in _ (by omega)
    have HCC := hid hc
    have HTT := hid ht
    rcases hcs with rfl | rfl | rfl
    all_goals
      try have HVr := hid (HV0.out rfl).1
      try have HCr := hid (HV0.out rfl).2.1
      try have HTr := hid (HV0.out rfl).2.2
      clear HV0
      go_enter Try.func22, Try.ntmps22
      go_wp2_with fail
      refine wp_region_ext (w.heap.size + 2) (by kernel_rfl) (by kernel_rfl) ?_
      repeat (first
        | ((with_reducible refine wpQuiet_run (N := 7) rfl rfl (.agg (rcells r)) ?_ ?_); (rintro _ ⟨x, rfl⟩; exact execOp_load rfl rfl (R0.out x)); go_simp)
        | ((with_reducible refine wpQuiet_run (N := 8) rfl rfl (.agg (rcells r)) ?_ ?_); (rintro _ ⟨x, rfl⟩; exact execOp_load rfl rfl (R0.out x)); go_simp)
        | go_big_quiet_step (first | (go_at_call 47; with_reducible exact Calls.ext HB.out (c_has r hr c t HCC.out HTT.out _)) | (go_at_call 46; with_reducible exact Calls.ext HB.out (c_roofCodeK r hr _ _ HK.out _))))
      refine wpQuiet_nil ?_
      intro x
      have HWx := hid (HW.out.trans (x.below.mono (by omega)))
      go_wp2_with (first
        | ((with_reducible refine gate (N := 15) rfl ?_); refine wp_roof 27 Try.underlying27 rfl Try.infoRoof rfl (.tmp 2) rfl w.heap.size rfl r hr (block_below x.below HP.out (by omega)) ?_)
        | (go_at_call 48; ((with_reducible refine (c_lapped r hr HVr.out c t (c + 1) HCr.out HTr.out (by have := HCr.out; omega) _).mono ?_); rintro e w1 ⟨v, rfl, hb1, ho1⟩)))
      go_ret2
      first
        | (refine ⟨_, rfl, HWx.out, ?_⟩; rw [HL.out]; exact World.ownsRow_nil _ _ _ _)
        | (refine ⟨_, rfl, HWx.out.trans (hb1.mono HWx.out.size), ?_⟩; rw [HL.out, if_pos (by trivial)]; exact ho1.mono HWx.out.size)
  have e : codeOf (validB r) (hasB r c t) = codeOf (validB r) (isPl r c t) := by have := codeOf_has r c t true; simpa using this
  exact key _ e rfl (codeOf_012 _ _)
theorem lapK_small {r : Rf} (hv : validB r = true) {c t d : Int} {k : Nat} (hk : k < 2) : lapK r c t d k = [] ∨ ∃ u, lapK r c t d k = [(d, u)] ∧ 0 ≤ u ∧ u ≤ 7 := by
  have hl := lapK_len r c t d k
  have hm := lapK_mem hv (c := c) (t := t) (d := d) k
  have vh := valid_head hv
  cases hL : lapK r c t d k with
  | nil => exact .inl rfl
  | cons p l =>
    rw [hL] at hl hm
    have : l = [] := List.eq_nil_of_length_eq_zero (by simp at hl; omega)
    subst this
    have := hm p (List.mem_cons_self ..)
    obtain ⟨p1, p2⟩ := p
    dsimp only at this
    exact .inr ⟨p2, by rw [this.1], by omega, by omega⟩
set_option maxHeartbeats 1600000 in
set_option maxRecDepth 100000 in
theorem c_l01Laps (r : Rf) (hr : r.Ok) (hv : validB r = true) (b : Nat) (c t y : Int) (hc : 0 ≤ c ∧ c ≤ 7) (ht : 0 ≤ t ∧ t ≤ 7) (hy : -1 ≤ y ∧ y ≤ 1) (w : World) (hb : w.heap[b]? = some (.cells (rcells r) 27 (0,0))) :
    Calls Try.prog 45 #[.pointer (some ⟨b,0,none⟩), .agg #[.int .i8 c, .int .i8 t], .int .i8 y] w (RetS w (lapL r c t (c + y))) := by
  obtain ⟨i0, hi, hz0, hz1, hz2⟩ := info_parts Try.infoPlace
  have vh := valid_head hv
  have HV := hid hv
  have lb := block_lt hb
  have HP := hid (block_alloc (block_alloc hb (.cells #[.int .i8 c, .int .i8 t] 42)) (.cells #[] 42))
  have HCc := hid hc
  have HTt := hid ht
  obtain ⟨d, hd⟩ : ∃ d, d = c + y := ⟨_, rfl⟩
  rw [← hd]
  have ed : IntKind.i8.wrap (c + y) = d := by rw [hd]; exact IntWalk.i8_in _ (by omega)
  have ed6 : IntKind.i64.wrap d = d := IntWalk.i64_in _ (by omega)
  have hcy : -1 ≤ c + y ∧ c + y ≤ 8 := by omega
  have HD := hid hd
  have HH : Hid (r.h ≤ 8 ∧ r.w ≤ 8) := ⟨by omega, by omega⟩
  have HB0 : Hid (Below (w.heap.size + 1) (w.alloc (.cells #[.int .i8 c, .int .i8 t] 42)) ((w.alloc (.cells #[.int .i8 c, .int .i8 t] 42)).alloc (.cells #[] 42))) := (Below.refl _ _).alloc (by simp) _
  have HN0 : Hid (((w.alloc (.cells #[.int .i8 c, .int .i8 t] 42)).alloc (.cells #[] 42)).ownsRow (w.heap.size + 1) 42 2 (.slice (some ⟨w.heap.size + 1, 0, none⟩) 0 0) 0 []) := by
    have := World.ownsRow_made (base := w.heap.size + 1) (e := 42) (size := 2) (w.alloc (.cells #[.int .i8 c, .int .i8 t] 42)) #[] 0 (by simp) (by decide) rfl
    simpa [Hid] using this
  clear vh hd hv
  by_cases hin : inB d 0 (r.h - 1) = true
  · have HI := hid hin
    have hl : lapL r c t d = lapK r c t d 2 := by unfold lapL; rw [if_pos hin]
    rw [hl]
    have hd7 : 0 ≤ d ∧ d ≤ 7 := by have := HH.out; rw [inB_iff] at hin; omega
    have HD7 := hid hd7
    have hs0 := shiftOf_01 r c
    have hf : 0 ≤ firstOf r c t ∧ firstOf r c t ≤ 15 := by unfold firstOf; omega
    have HCF := hid (fun W hW => c_l01First r hr b c t hc ht W hW)
    have HK2 : Hid (∀ k, lapK r c t d (k + 1) = lapStep d (tileOf r d (firstOf r c t + k)) (lapK r c t d k)) := fun k => rfl
    obtain ⟨f, hfe⟩ : ∃ f, f = firstOf r c t := ⟨_, rfl⟩
    rw [← hfe] at hf HCF HK2
    clear hin hl hs0 hc ht hd7 hb hfe
    go_enter Try.func45, Try.ntmps45
    go_wp2_with (first
      | (go_at_call 63; ((with_reducible refine (c_l01Course r hr b d _ HP.out _ HI.out).mono ?_); rintro e w1 ⟨rfl, rfl⟩))
      | (go_at_call 64; ((with_reducible refine (HCF.out _ HP.out).mono ?_); rintro e w1 ⟨rfl, hb1⟩); have b1 := hid hb1; clear hb1))
    have HN1 : Hid (w1.ownsRow (w.heap.size + 1) 42 2 (.slice (some ⟨w.heap.size + 1, 0, none⟩) 0 0) 0 []) := owns_below HN0.out b1.out
    have HB1 : Hid (Below (w.heap.size + 1) (w.alloc (.cells #[.int .i8 c, .int .i8 t] 42)) w1) := HB0.out.trans (b1.out.mono (by simp))
    have HP1 : Hid (∀ wr, Below (w.heap.size + 1) (w.alloc (.cells #[.int .i8 c, .int .i8 t] 42)) wr → wr.heap[b]? = some (.cells (rcells r) 27 (0,0))) := fun wr hbr => by
      have h0 := HP.out
      rw [heap_alloc_old _ _ (by simp; omega)] at h0
      exact block_below hbr h0 (by omega)
    clear HB0 HN0 b1
    go_loopw [7, 10] (fun v i wr => ∃ k : Nat, k ≤ 2 ∧ i = .int .i64 (f + k) ∧ Hid (Below (w.heap.size + 1) (w.alloc (.cells #[.int .i8 c, .int .i8 t] 42)) wr) ∧ Hid (wr.ownsRow (w.heap.size + 1) 42 2 v (lapK r c t d k).length (pcells (lapK r c t d k)))) (fun _ i _ => (f + 2 - intOf i).toNat)
    case atStart => exact ⟨0, by omega, by simp, HB1, HN1⟩
    case round =>
      clear HN1 HB1
      obtain ⟨k, hk, rfl, hb, hO⟩ := hrel
      obtain ⟨n, hn⟩ : ∃ n, n = f + (k : Int) := ⟨_, rfl⟩
      rw [← hn]
      have HNn := hid hn
      by_cases hk2 : k < 2
      · have hle : n ≤ f + 1 := by omega
        have hn1 : 0 ≤ n ∧ n ≤ 100 := by omega
        have HT := hid (c_l01Tile r hr HV.out b d n HD7.out hn1 wr (HP1.out wr hb.out))
        have hu := tileOf_le HV.out d n
        have HY0 := hid (HK2.out k)
        rw [← hn] at HY0
        obtain ⟨u, hue⟩ : ∃ u, u = tileOf r d n := ⟨_, rfl⟩
        rw [← hue] at hu HT HY0
        have eu : IntKind.i8.wrap u = u := IntWalk.i8_in _ (by omega)
        have h7 : u ≤ 7 := hu.2.1
        have h1 : -1 ≤ u := hu.1
        have hs1 : Hid (w.heap.size + 1 ≤ wr.heap.size) := by have := hb.out.size; simpa [Hid] using this
        have hnl : 0 ≤ n := hn1.1
        have hnh : n ≤ 100 := hn1.2
        clear hn hue hu hn1
        have hsm := lapK_small HV.out (c := c) (t := t) (d := d) hk2
        obtain ⟨L, hL⟩ : ∃ L, L = lapK r c t d k := ⟨_, rfl⟩
        rw [← hL] at hsm hO HY0
        have HLk := hid hL
        clear hL
        by_cases hm1 : u < 0
        · have HYY : Hid (lapK r c t d (k + 1) = L) := by
            rw [Hid, HY0.out]; unfold lapStep; rw [if_neg (fun h => h.1 (by omega))]
          clear hsm
          go_wp2_with (go_at_call 65; ((with_reducible refine HT.out.mono ?_); rintro e w3 ⟨rfl, rfl⟩))
          refine ⟨⟨k + 1, by omega, congrArg (Value.int .i64) (by have := HNn.out; omega), hb, ?_⟩, by have := HNn.out; simp [intOf]; omega⟩
          show World.ownsRow _ _ _ _ _ _ _
          rw [HYY.out]; exact hO.out
        · have hm0 : 0 ≤ u := by omega
          clear hm1
          rcases hsm with rfl | ⟨u0, rfl, hu0, hu7⟩
          · obtain ⟨A, cc, rfl⟩ := owns_slice hO.out
            have HYY : Hid (lapK r c t d (k + 1) = [(d, u)]) := by
              rw [Hid, HY0.out]; unfold lapStep; rw [if_pos ⟨by omega, by simp⟩]; rfl
            go_wp2_with (first
              | (go_at_call 65; ((with_reducible refine HT.out.mono ?_); rintro e w3 ⟨rfl, rfl⟩))
              | ((with_reducible refine gate (N := 60) rfl ?_); refine wpList_append_own _ rfl (.tmp 54) (.tmp 59) 33 rfl (w.heap.size + 1) 42 i0 (.agg #[.int .i8 0, .int .i8 0]) 2 2 Try.underlying33 hi hz0 hz1 hz2 rfl (by decide) _ _ _ rfl (hO.out.alloc _) ⟨wr.heap.size, 0, none⟩ 1 1 [.int .i8 d, .int .i8 u] rfl rfl (cell_two_new wr _ _ _) (by simp [Value.oneCell']) (by decide) (by decide) (Nat.le_trans hs1.out (by simp)) ?_; intro v' w5 hown5 hgrow _))
            refine ⟨⟨k + 1, by omega, congrArg (Value.int .i64) (by have := HNn.out; omega), (hb.out.alloc hs1.out _).grown hgrow (by have := hs1.out; simp; omega) (fun k hk => (hO.out.lt k hk).1), ?_⟩, by have := HNn.out; simp [intOf]; omega⟩
            show World.ownsRow _ _ _ _ _ _ _
            rw [HYY.out]; exact hown5
          · obtain ⟨A, cc, rfl, hsl⟩ := slp_of hO.out
            obtain ⟨ob, oo, rfl, o1, o2, o3⟩ := hsl 0 (d, u0) rfl
            simp only [Nat.zero_mul, Nat.add_zero] at o2 o3
            have eu0 : IntKind.i64.wrap u0 = u0 := IntWalk.i64_in _ (by omega)
            clear hsl
            by_cases hq : u0 = u
            · have hne : (u0 != u) = false := by simp [hq]
              have HYY : Hid (lapK r c t d (k + 1) = [(d, u0)]) := by
                rw [Hid, HY0.out]; unfold lapStep; rw [if_neg (fun h => h.2 (by simp [hq]))]
              clear hq
              go_wp2_with (go_at_call 65; ((with_reducible refine HT.out.mono ?_); rintro e w3 ⟨rfl, rfl⟩))
              refine ⟨⟨k + 1, by omega, congrArg (Value.int .i64) (by have := HNn.out; omega), hb, ?_⟩, by have := HNn.out; simp [intOf]; omega⟩
              show World.ownsRow _ _ _ _ _ _ _
              rw [HYY.out]; exact hO.out
            · have hne : (u0 != u) = true := by simpa using hq
              have HYY : Hid (lapK r c t d (k + 1) = [(d, u0), (d, u)]) := by
                rw [Hid, HY0.out]; unfold lapStep; rw [if_pos ⟨by omega, by simp; exact fun h => hq h.symm⟩]; rfl
              clear hq
              go_wp2_with (first
                | (go_at_call 65; ((with_reducible refine HT.out.mono ?_); rintro e w3 ⟨rfl, rfl⟩))
                | ((with_reducible refine gate (N := 60) rfl ?_); refine wpList_append_own _ rfl (.tmp 54) (.tmp 59) 33 rfl (w.heap.size + 1) 42 i0 (.agg #[.int .i8 0, .int .i8 0]) 2 2 Try.underlying33 hi hz0 hz1 hz2 rfl (by decide) _ _ _ rfl (hO.out.alloc _) ⟨wr.heap.size, 0, none⟩ 1 1 [.int .i8 d, .int .i8 u] rfl rfl (cell_two_new wr _ _ _) (by simp [Value.oneCell']) (show 1 + 1 ≤ maxLen by decide) (show (1 + 1) * 2 ≤ 140737488355328 by decide) (Nat.le_trans hs1.out (by simp)) ?_; intro v' w5 hown5 hgrow _))
              refine ⟨⟨k + 1, by omega, congrArg (Value.int .i64) (by have := HNn.out; omega), (hb.out.alloc hs1.out _).grown hgrow (by have := hs1.out; simp; omega) (fun k hk => (hO.out.lt k hk).1), ?_⟩, by have := HNn.out; simp [intOf]; omega⟩
              show World.ownsRow _ _ _ _ _ _ _
              rw [HYY.out]; exact hown5
      · obtain rfl : k = 2 := by omega
        have hgt : f + 1 < n := by omega
        clear hn
        go_wp2_with fail
        go_ret
        exact ⟨_, rfl, ((Below.refl _ w).alloc (Nat.le_refl _) _).trans (hb.out.mono (by omega)), hO.out.mono (by omega)⟩
  · have hin' : inB d 0 (r.h - 1) = false := by simpa using hin
    have HI := hid hin'
    have hl : lapL r c t d = [] := by unfold lapL; rw [if_neg hin]
    rw [hl]
    clear hin hin' hl hc ht hb
    go_enter Try.func45, Try.ntmps45
    go_wp2_with (go_at_call 63; ((with_reducible refine (c_l01Course r hr b d _ HP.out _ HI.out).mono ?_); rintro e w1 ⟨rfl, rfl⟩))
    go_ret
    exact ⟨_, rfl, ((Below.refl _ w).alloc (Nat.le_refl _) _).trans (HB0.out.mono (by omega)), HN0.out.mono (by omega)⟩
set_option maxRecDepth 100000 in
theorem c_sAboveOf (r : Rf) (hr : r.Ok) (c t : Int) (hc : -128 ≤ c ∧ c ≤ 127) (ht : -128 ≤ t ∧ t ≤ 127) (w : World) : Calls Try.prog 18 #[.agg (rcells r), .agg #[.int .i8 c, .int .i8 t]] w (RetP w (besL r c t (-1)) (codeOf (validB r) (isPl r c t))) := by
  have key : ∀ k : Int, codeOf (validB r) (isPl r c t && true) = k → codeOf (validB r) (isPl r c t) = k → (k = 1 ∨ k = 2 ∨ k = 0) → Calls Try.prog 18 #[.agg (rcells r), .agg #[.int .i8 c, .int .i8 t]] w (RetP w (besL r c t (-1)) k) := by
    intro k hk hk' hcs
    have HK := hid hk
    have HL : Hid (besL r c t (-1) = if k = 0 then lapL r c t (c + (-1)) else []) := by
      show _ = _
      unfold besL; rw [hk']
    have HV0 : Hid (k = 0 → validB r = true ∧ (0 ≤ c ∧ c ≤ 7) ∧ (0 ≤ t ∧ t ≤ 7)) := fun h0 => codeOf_pl (hk'.trans h0)
    clear hk hk'
    have HP := hid (block_alloc (block_new1 w (.cells (rcells r) 27) rfl) (.cells #[.int .i8 c, .int .i8 t] 42))
    have HQ := hid (block_new1 (w.alloc (.cells (rcells r) 27)) (.cells #[.int .i8 c, .int .i8 t] 42) (n := w.heap.size + 1) (by simp))
    have HW : Hid (Below w.heap.size w ((w.alloc (.cells (rcells r) 27)).alloc (.cells #[.int .i8 c, .int .i8 t] 42))) := ((Below.refl _ w).alloc (Nat.le_refl _) _).alloc (by simp) _
    have HS : Hid (w.heap.size + 2 ≤ ((w.alloc (.cells (rcells r) 27)).alloc (.cells #[.int .i8 c, .int .i8 t] 42)).heap.size) := by simp [Hid]
    have HCC := hid hc
    have HTT := hid ht
    rcases hcs with rfl | rfl | rfl
    all_goals
      try have HVr := hid (HV0.out rfl).1
      try have HCr := hid (HV0.out rfl).2.1
      try have HTr := hid (HV0.out rfl).2.2
      clear HV0
      go_enter Try.func18, Try.ntmps18
      go_wp2_with (first
        | (go_at_call 44; ((with_reducible refine (c_l01AskedK r hr w.heap.size c t HCC.out HTT.out true _ HK.out _ HP.out).mono ?_); rintro e w1 ⟨rfl, hb1⟩); have b1 := hid hb1; have HQ1 := hid (block_below hb1 HQ.out (by have := HS.out; omega)); have q0 := cell_block HQ1.out (j := 0) rfl; have q1 := cell_block HQ1.out (j := 1) rfl; clear hb1)
        | (go_at_call 45; ((with_reducible refine (c_l01Laps r hr HVr.out w.heap.size c t (-1) HCr.out HTr.out (by omega) _ (block_below b1.out HP.out (by have := HS.out; omega))).mono ?_); rintro e w2 ⟨v, rfl, hb2, ho2⟩)))
      have b2 := hid (HW.out.trans (b1.out.mono HW.out.size))
      go_ret2
      first
        | (refine ⟨_, rfl, b2.out.alloc b2.out.size _, ?_⟩; rw [HL.out]; exact World.ownsRow_made w1 #[] 0 b2.out.size (by decide) rfl)
        | (refine ⟨_, rfl, b2.out.trans (hb2.mono b2.out.size), ?_⟩; rw [HL.out, if_pos (by trivial)]; exact ho2.mono b2.out.size)
  have e : codeOf (validB r) (isPl r c t && true) = codeOf (validB r) (isPl r c t) := by rw [Bool.and_true]
  exact key _ e rfl (codeOf_012 _ _)
set_option maxRecDepth 100000 in
theorem c_sBelowOf (r : Rf) (hr : r.Ok) (c t : Int) (hc : -128 ≤ c ∧ c ≤ 127) (ht : -128 ≤ t ∧ t ≤ 127) (w : World) : Calls Try.prog 21 #[.agg (rcells r), .agg #[.int .i8 c, .int .i8 t]] w (RetP w (besL r c t 1) (codeOf (validB r) (isPl r c t))) := by
  have key : ∀ k : Int, codeOf (validB r) (isPl r c t && true) = k → codeOf (validB r) (isPl r c t) = k → (k = 1 ∨ k = 2 ∨ k = 0) → Calls Try.prog 21 #[.agg (rcells r), .agg #[.int .i8 c, .int .i8 t]] w (RetP w (besL r c t 1) k) := by
    intro k hk hk' hcs
    have HK := hid hk
    have HL : Hid (besL r c t 1 = if k = 0 then lapL r c t (c + 1) else []) := by
      show _ = _
      unfold besL; rw [hk']
    have HV0 : Hid (k = 0 → validB r = true ∧ (0 ≤ c ∧ c ≤ 7) ∧ (0 ≤ t ∧ t ≤ 7)) := fun h0 => codeOf_pl (hk'.trans h0)
    clear hk hk'
    have HP := hid (block_alloc (block_new1 w (.cells (rcells r) 27) rfl) (.cells #[.int .i8 c, .int .i8 t] 42))
    have HQ := hid (block_new1 (w.alloc (.cells (rcells r) 27)) (.cells #[.int .i8 c, .int .i8 t] 42) (n := w.heap.size + 1) (by simp))
    have HW : Hid (Below w.heap.size w ((w.alloc (.cells (rcells r) 27)).alloc (.cells #[.int .i8 c, .int .i8 t] 42))) := ((Below.refl _ w).alloc (Nat.le_refl _) _).alloc (by simp) _
    have HS : Hid (w.heap.size + 2 ≤ ((w.alloc (.cells (rcells r) 27)).alloc (.cells #[.int .i8 c, .int .i8 t] 42)).heap.size) := by simp [Hid]
    have HCC := hid hc
    have HTT := hid ht
    rcases hcs with rfl | rfl | rfl
    all_goals
      try have HVr := hid (HV0.out rfl).1
      try have HCr := hid (HV0.out rfl).2.1
      try have HTr := hid (HV0.out rfl).2.2
      clear HV0
      go_enter Try.func21, Try.ntmps21
      go_wp2_with (first
        | (go_at_call 44; ((with_reducible refine (c_l01AskedK r hr w.heap.size c t HCC.out HTT.out true _ HK.out _ HP.out).mono ?_); rintro e w1 ⟨rfl, hb1⟩); have b1 := hid hb1; have HQ1 := hid (block_below hb1 HQ.out (by have := HS.out; omega)); have q0 := cell_block HQ1.out (j := 0) rfl; have q1 := cell_block HQ1.out (j := 1) rfl; clear hb1)
        | (go_at_call 45; ((with_reducible refine (c_l01Laps r hr HVr.out w.heap.size c t 1 HCr.out HTr.out (by omega) _ (block_below b1.out HP.out (by have := HS.out; omega))).mono ?_); rintro e w2 ⟨v, rfl, hb2, ho2⟩)))
      have b2 := hid (HW.out.trans (b1.out.mono HW.out.size))
      go_ret2
      first
        | (refine ⟨_, rfl, b2.out.alloc b2.out.size _, ?_⟩; rw [HL.out]; exact World.ownsRow_made w1 #[] 0 b2.out.size (by decide) rfl)
        | (refine ⟨_, rfl, b2.out.trans (hb2.mono b2.out.size), ?_⟩; rw [HL.out, if_pos (by trivial)]; exact ho2.mono b2.out.size)
  have e : codeOf (validB r) (isPl r c t && true) = codeOf (validB r) (isPl r c t) := by rw [Bool.and_true]
  exact key _ e rfl (codeOf_012 _ _)
end Go.Proofs.Ytfijinbdpfeceaa

/- The tiles beside a tile, the reference's. -/
namespace Go.Proofs.Ytfijinbdpfeceaa
open Go.RowKit
set_option linter.unusedSimpArgs false
set_option linter.unusedVariables false

/-- What stands when some of the operations have been carried out. -/
def BesS (B : Nat) (L1 L2 : List (Int × Int)) (res : Nat → Option Value) (V : World) : Prop :=
  (∀ v, res 2 = some v → res 6 = none → RowQ B V v L1) ∧ (∀ v, res 5 = some v → res 6 = none → RowQ B V v L2) ∧ (∀ v v', res 2 = some v → res 5 = some v' → res 6 = none → Apart v v') ∧ (∀ v, res 6 = some v → RowQ B V v (L1 ++ L2)) ∧ (∀ v, res 7 = some v → res 6 = some v)
theorem two_at (c t : Int) {k : Nat} (hk : k < 2) : (twoL c t)[k]? = some (c, t + (2 * (k : Int) - 1)) := by
  match k, hk with
  | 0, _ => simp [twoL]; omega
  | 1, _ => simp [twoL]
set_option maxHeartbeats 3200000 in
set_option maxRecDepth 100000 in
theorem c_l01Beside (r : Rf) (hr : r.Ok) (hv : validB r = true) (b : Nat) (c t : Int) (hc : 0 ≤ c ∧ c ≤ 7) (ht : 0 ≤ t ∧ t ≤ 7) (w : World) (hX : w.heap[b]? = some (.cells (rcells r) 27 (0, 0))) :
    Calls Try.prog 70 #[.pointer (some ⟨b,0,none⟩), .agg #[.int .i8 c, .int .i8 t]] w (RetS w (besideL r c t)) := by
  have HX := hid (block_alloc hX (.cells #[.int .i8 c, .int .i8 t] 42))
  have HP := hid (block_new1 w (.cells #[.int .i8 c, .int .i8 t] 42) rfl)
  have LX := hid (block_lt hX)
  obtain ⟨W0, hW0⟩ : ∃ W0, W0 = w.alloc (.cells #[.int .i8 c, .int .i8 t] 42) := ⟨_, rfl⟩
  have HW : Hid (Below w.heap.size w W0) := by rw [hW0]; exact (Below.refl _ w).alloc (Nat.le_refl _) _
  have HS : Hid (w.heap.size + 1 ≤ W0.heap.size) := by rw [hW0]; simp [Hid]
  rw [← hW0] at HX HP
  obtain ⟨L1, hL1⟩ : ∃ L, L = lapL r c t (c - 1) := ⟨_, rfl⟩
  obtain ⟨L2, hL2⟩ : ∃ L, L = lapL r c t (c + 1) := ⟨_, rfl⟩
  have HLA : Hid (L1.length ≤ 2 ∧ L2.length ≤ 2) := by rw [hL1, hL2]; exact ⟨lapL_len _ _ _ _, lapL_len _ _ _ _⟩
  have HC1 := fun W h => hid (c_l01Laps r hr hv b c t (-1) hc ht (by omega) W h)
  have HC2 := fun W h => hid (c_l01Laps r hr hv b c t 1 hc ht (by omega) W h)
  rw [show c + -1 = c - 1 by omega, ← hL1] at HC1
  rw [← hL2] at HC2
  have HE : Hid (besideL r c t = (L1 ++ L2) ++ (twoL c t).filter (hasQ r)) := by rw [hL1, hL2]; rfl
  have HCX := hid HC1
  have HCY := hid HC2
  have HV := hid hv
  clear hL1 hL2 HC1 HC2 hv hX
  go_enter Try.func70, Try.ntmps70
  go_wp2_with fail
  rw [← hW0]
  clear hW0
  refine wp_region_wildK (w.heap.size + 1) [0, 1, 3, 4] [2, 5, 6, 7] ?s1 (BesS (w.heap.size + 1) L1 L2) (by kernel_rfl) (by kernel_rfl) (by kernel_rfl) (by kernel_rfl) HS.out ?pre1 ?zero1 ?mono1 ?step1 ?end1
  case pre1 =>
    intro B' W' hb hB hS
    have l1 : w.heap.size < B' := by omega
    have HPb := hid (block_below hb HP.out (by omega))
    have q0 : W'.cell? ⟨w.heap.size, 0, none⟩ = some (.int .i8 c) := cell_block HPb.out rfl
    have q1 : W'.cell? ⟨w.heap.size, 1, none⟩ = some (.int .i8 t) := cell_block HPb.out rfl
    change wpQuiet _ _ _ _ [_, _, _, _] _
    repeat (go_big_quiet_step (fail))
    refine wpQuiet_nil ?_
    exact rfl
  case zero1 => exact fun w' _ => ⟨fun v h => (by cases h), fun v h => (by cases h), fun v v' h => (by cases h), fun v h => (by cases h), fun v h => (by cases h)⟩
  case mono1 =>
    rintro res V V' ⟨h1, h2, h3, h4, h5⟩ hb
    exact ⟨fun v a b => (h1 v a b).below hb (Nat.le_refl _), fun v a b => (h2 v a b).below hb (Nat.le_refl _), h3, fun v a => (h4 v a).below hb (Nat.le_refl _), h5⟩
  case step1 =>
    intro i o hi ho res a wq hn hRq hbq hBq hey hdep
    simp only [List.mem_cons, List.not_mem_nil, or_false] at hi
    obtain ⟨h1, h2, h3, h4, h5⟩ := hRq
    have HXq := hid (block_below hbq HX.out (by have := LX.out; omega))
    rcases hi with rfl | rfl | rfl | rfl
    · obtain rfl := Option.some.inj ho
      have e8 : a.eval (.tmp 8) = .pointer (some ⟨b, 0, none⟩) := (hey 8 (by decide)).2 (by decide)
      have e9 : a.eval (.tmp 9) = .agg #[.int .i8 c, .int .i8 t] := (hey 9 (by decide)).2 (by decide)
      refine .inl ⟨45, #[.pointer (some ⟨b, 0, none⟩), .agg #[.int .i8 c, .int .i8 t], .int .i8 (-1)], fun W => by unfold execOp; go_simp; exact ⟨(getD_q a 8).trans e8, (getD_q a 9).trans e9⟩, ?_⟩
      refine (HCX.out wq HXq.out).out.mono ?_
      rintro e w' ⟨v, rfl, hb', hr'⟩
      refine ⟨v, rfl, ⟨fun u hu _ => ?_, fun u hu h14 => (h2 u hu h14).below hb' (Nat.le_refl _), fun u u' hu hu' h14 g hg hg' => ?_, fun u hu => (h4 u hu).below hb' (Nat.le_refl _), h5⟩, hbq.trans (hb'.mono hBq)⟩
      · obtain rfl : v = u := Option.some.inj hu
        exact World.ownsRow.mono hr' hBq
      · obtain rfl : v = u := Option.some.inj hu
        have a1 := (World.ownsRow.lt hr' g hg).1
        have a2 := (World.ownsRow.lt (h2 u' hu' h14) g hg').2
        omega
    · obtain rfl := Option.some.inj ho
      have e11 : a.eval (.tmp 11) = .pointer (some ⟨b, 0, none⟩) := (hey 11 (by decide)).2 (by decide)
      have e12 : a.eval (.tmp 12) = .agg #[.int .i8 c, .int .i8 t] := (hey 12 (by decide)).2 (by decide)
      refine .inl ⟨45, #[.pointer (some ⟨b, 0, none⟩), .agg #[.int .i8 c, .int .i8 t], .int .i8 1], fun W => by unfold execOp; go_simp; exact ⟨(getD_q a 11).trans e11, (getD_q a 12).trans e12⟩, ?_⟩
      refine (HCY.out wq HXq.out).out.mono ?_
      rintro e w' ⟨v, rfl, hb', hr'⟩
      refine ⟨v, rfl, ⟨fun u hu h14 => (h1 u hu h14).below hb' (Nat.le_refl _), fun u hu _ => ?_, fun u u' hu hu' h14 g hg hg' => ?_, fun u hu => (h4 u hu).below hb' (Nat.le_refl _), h5⟩, hbq.trans (hb'.mono hBq)⟩
      · obtain rfl : v = u := Option.some.inj hu
        exact World.ownsRow.mono hr' hBq
      · obtain rfl : v = u' := Option.some.inj hu'
        have a1 := (World.ownsRow.lt hr' g hg').1
        have a2 := (World.ownsRow.lt (h1 u hu h14) g hg).2
        omega
    · obtain rfl := Option.some.inj ho
      have r6 := (hey 10 (by decide)).1 2 (by decide) (by decide)
      have r13 := (hey 13 (by decide)).1 5 (by decide) (by decide)
      have hO1 := h1 _ r6 hn
      have hO2 := h2 _ r13 hn
      obtain ⟨A2, c2, e2'⟩ := owns_slc hO2
      have e14 : a.eval (.tmp 10) = a.tmps.getD 10 undef := rfl
      have e21 : a.eval (.tmp 13) = .slice A2 L2.length c2 := e2'
      rw [e2'] at hO2
      obtain ⟨v', w', hrun, hown, hg⟩ := run_appQ 33 (w.heap.size + 1) wq _ L1 L2 hO1 A2 c2 hO2.pairs (by have := HLA.out; omega) hBq
      refine .inr (.inl ⟨v', w', exec_append rfl e14 e21 hrun, ⟨fun u hu h14 => (by cases h14), fun u hu h14 => (by cases h14), fun u u' hu hu' h14 => (by cases h14), fun u hu => ?_, fun u hu => ?_⟩, hbq.trans (hO1.belowG hg hBq)⟩)
      · obtain rfl : v' = u := Option.some.inj hu
        exact hown
      · exact absurd (h5 u hu) (by rw [hn]; simp)
    · obtain rfl := Option.some.inj ho
      have r14 := (hey 14 (by decide)).1 6 (by decide) (by decide)
      refine .inr (.inl ⟨a.tmps.getD 14 undef, wq, by unfold execOp; go_simp, ⟨h1, h2, h3, h4, fun u hu => ?_⟩, hbq⟩)
      obtain rfl := Option.some.inj hu
      exact r14
  case end1 =>
    intro val wq hRq hbq
    obtain ⟨_, _, _, h4, h5⟩ := hRq
    have hv4 : RowQ (w.heap.size + 1) wq (val 6) (L1 ++ L2) := h4 (val 6) rfl
    have hv5 : val 6 = val 7 := Option.some.inj (h5 (val 7) rfl)
    rw [hv5] at hv4
    obtain ⟨vo, hvo⟩ : ∃ v, v = val 7 := ⟨_, rfl⟩
    rw [← hvo] at hv4
    have hBq : w.heap.size + 1 ≤ wq.heap.size := Nat.le_trans HS.out hbq.size
    have HXq := hid (block_below hbq HX.out (by have := LX.out; omega))
    have HPq := hid (block_below hbq HP.out (by omega))
    have HV1 : Hid (RowQ (w.heap.size + 1) wq vo (L1 ++ L2 ++ ((twoL c t).take 0).filter (hasQ r))) := by
      simp only [List.take_zero, List.filter_nil, List.append_nil]
      exact hv4
    have HWq := hid (HW.out.trans (hbq.mono (by omega)))
    clear h4 h5 hv4 hbq HCX HCY
    change Exit.then _ _ _ (((((_ : Act).put (some 10) (val 2)).put (some 13) (val 5)).put (some 14) (val 6)).put (some 5) (val 7)) _
    rw [← hvo]
    simp only [Act.put, List.setIfInBounds_toArray, List.set_cons_zero, List.set_cons_succ]
    clear hv5 hvo
    go_wp2_with fail
    go_loopw [5, 6] (fun v i wr => ∃ k : Nat, k ≤ 2 ∧ i = .int .i8 (2 * (k : Int) - 1) ∧ Hid (RowQ (w.heap.size + 1) wr v (L1 ++ L2 ++ ((twoL c t).take k).filter (hasQ r))) ∧ Hid (wr.heap[w.heap.size]? = some (.cells #[.int .i8 c, .int .i8 t] 42 (0, 0))) ∧ Hid (wr.heap[b]? = some (.cells (rcells r) 27 (0, 0))) ∧ Hid (Below w.heap.size w wr)) (fun _ i _ => (3 - intOf i).toNat)
    case atStart => exact ⟨0, by omega, rfl, HV1.out, HPq.out, HXq.out, HWq.out⟩
    case round =>
      clear HV1 HPq HXq HWq
      obtain ⟨k, hk, rfl, hro, hpk, hx, hb⟩ := hrel
      obtain ⟨Ao, co, rfl⟩ := owns_slc hro.out
      have hol : (L1 ++ L2 ++ ((twoL c t).take k).filter (hasQ r)).length ≤ 6 := by
        have h1 := HLA.out
        have h2 := List.length_filter_le (hasQ r) ((twoL c t).take k)
        have h3 : ((twoL c t).take k).length ≤ 2 := by rw [List.length_take]; simp [twoL]; omega
        rw [List.length_append, List.length_append]; omega
      obtain ⟨O, hO⟩ : ∃ O, O = L1 ++ L2 ++ ((twoL c t).take k).filter (hasQ r) := ⟨_, rfl⟩
      have LWr : w.heap.size + 1 ≤ wr.heap.size := block_lt hpk.out
      by_cases hk2 : k < 2
      · obtain ⟨y, hy⟩ : ∃ y, y = 2 * (k : Int) - 1 := ⟨_, rfl⟩
        have hyb : -1 ≤ y ∧ y ≤ 1 := by omega
        have hd : decide (y ≤ 1) = true := decide_eq_true (by omega)
        have hp := two_at c t hk2
        rw [← hy] at hp ⊢
        have HTK := hid (two_take r c t hp)
        obtain ⟨p2, hp2⟩ : ∃ p, p = t + y := ⟨_, rfl⟩
        rw [← hp2] at HTK
        have ep : IntKind.i8.wrap (t + y) = p2 := by rw [hp2]; exact IntWalk.i8_in _ (by omega)
        have ey : IntKind.i8.wrap (y + 2) = y + 2 := IntWalk.i8_in _ (by omega)
        have hyk : y + 2 = 2 * ((k + 1 : Nat) : Int) - 1 := by omega
        have q0 : wr.cell? ⟨w.heap.size, 0, none⟩ = some (.int .i8 c) := cell_block hpk.out rfl
        have q1 : wr.cell? ⟨w.heap.size, 1, none⟩ = some (.int .i8 t) := cell_block hpk.out rfl
        have HIS := fun W h => hid (c_l01Is c p2 (by omega) (by omega) r hr b W h _ rfl)
        obtain ⟨bb, hbb⟩ : ∃ b, b = isPl r c p2 := ⟨_, rfl⟩
        rw [← hbb] at HIS
        have HBB : Hid (hasQ r (c, p2) = bb) := by rw [hbb]; exact hasB_valid HV.out c p2
        have HXn := hid (block_alloc hx.out (.cells #[.int .i8 c, .int .i8 p2] 42))
        have HNn := hid (block_new1 wr (.cells #[.int .i8 c, .int .i8 p2] 42) rfl)
        have Hbn := hid ((Below.refl wr.heap.size wr).alloc (Nat.le_refl _) (.cells #[.int .i8 c, .int .i8 p2] 42))
        have k0 : (wr.alloc (.cells #[.int .i8 c, .int .i8 p2] 42)).cell? ⟨wr.heap.size, 0, none⟩ = some (.int .i8 c) := cell_block HNn.out rfl
        have k1 : (wr.alloc (.cells #[.int .i8 c, .int .i8 p2] 42)).cell? ⟨wr.heap.size, 1, none⟩ = some (.int .i8 p2) := cell_block HNn.out rfl
        rw [← hO] at hro hol ⊢
        have HO := hid hO
        have HYK := hid hyk
        have HYB := hid hyb
        have HK2 := hid hk2
        clear hp hbb hO hp2 hy hyk
        cases bb with
        | true =>
          go_wp2_with (first
            | (go_at_call 57; ((refine (HIS _ HXn.out).out.mono ?_); rintro e w5 ⟨rfl, hb5⟩); have HB5 := hid (Hbn.out.trans (hb5.mono Hbn.out.size)); have HN5 := hid (block_below hb5 HNn.out (by simp)); have z0 : w5.cell? ⟨wr.heap.size, 0, none⟩ = some (.int .i8 c) := cell_block HN5.out rfl; have z1 : w5.cell? ⟨wr.heap.size, 1, none⟩ = some (.int .i8 p2) := cell_block HN5.out rfl; have HRO5 := hid (hro.out.below HB5.out (Nat.le_refl _)); have HPK5 := hid (block_below HB5.out hpk.out (block_lt hpk.out)); have HX5 := hid (block_below HB5.out hx.out (block_lt hx.out)); have LB5' := Nat.le_trans LWr HB5.out.size; clear hb5)
            | ((with_reducible refine gate (N := 32) rfl ?_); (refine wp_app1Q rfl (.tmp 29) (.tmp 31) rfl (w.heap.size + 1) (.slice Ao O.length co) O c p2 HRO5.out rfl w5.heap.size rfl (Nat.le_trans hol (by decide)) LB5' rfl ?_); intro v' w6 hown hg; obtain ⟨A6, c6, rfl⟩ := owns_slc hown; have HG6 := hid hg; have HRO6 := hid hown; clear hg hown))
          have hb6 : Below (w.heap.size + 1) w5 w6 := HRO5.out.belowG HG6.out LB5'
          refine ⟨⟨k + 1, HK2.out, congrArg (Value.int .i8) HYK.out, ?_, block_below hb6 HPK5.out (Nat.lt_succ_self _), block_below hb6 HX5.out (by have := LX.out; omega), (hb.out.trans (HB5.out.mono hb.out.size)).trans (hb6.mono (Nat.le_succ _))⟩, by have := HYB.out; simp [intOf]; omega⟩
          show RowQ _ _ _ _
          rw [HTK.out, if_pos HBB.out, ← List.append_assoc, ← HO.out]
          have := HRO6.out
          rw [List.length_append] at this
          exact this
        | false =>
          go_wp2_with (go_at_call 57; ((refine (HIS _ HXn.out).out.mono ?_); rintro e w5 ⟨rfl, hb5⟩); have HB5 := hid (Hbn.out.trans (hb5.mono Hbn.out.size)); clear hb5)
          refine ⟨⟨k + 1, HK2.out, congrArg (Value.int .i8) HYK.out, ?_, block_below HB5.out hpk.out (block_lt hpk.out), block_below HB5.out hx.out (block_lt hx.out), hb.out.trans (HB5.out.mono hb.out.size)⟩, by have := HYB.out; simp [intOf]; omega⟩
          show RowQ _ _ _ _
          rw [HTK.out, if_neg (by rw [HBB.out]; simp), List.append_nil, ← HO.out]
          exact hro.out.below HB5.out (Nat.le_refl _)
      · obtain rfl : k = 2 := by omega
        have hd : decide ((2 : Int) * ((2 : Nat) : Int) - 1 ≤ 1) = false := rfl
        have HRO : Hid (RowQ w.heap.size wr (.slice Ao O.length co) (besideL r c t)) := by
          rw [HE.out]
          have h1 : (twoL c t).take 2 = twoL c t := rfl
          rw [h1] at hO hro
          rw [← hO] at hro ⊢
          exact World.ownsRow.mono hro.out (by omega)
        rw [← hO]
        clear hO hro hol
        go_wp2_with fail
        go_ret
        exact ⟨_, rfl, hb.out, HRO.out⟩
end Go.Proofs.Ytfijinbdpfeceaa

/- The patch of a tile, the reference's. -/
namespace Go.Proofs.Ytfijinbdpfeceaa
open Go.RowKit
set_option linter.unusedSimpArgs false
set_option linter.unusedVariables false

/-- The marks: a cell is true just where its place is in S. -/
def mcells (S : List (Int × Int)) : Array Value := ((List.range 64).map fun n => Value.bool (decide ((((n / 8 : Nat) : Int), ((n % 8 : Nat) : Int)) ∈ S))).toArray
theorem mcells_get (S : List (Int × Int)) {i k : Nat} (hi : i < 8) (hk : k < 8) : (mcells S)[i * 8 + k]? = some (.bool (decide (((i : Int), (k : Int)) ∈ S))) := by
  unfold mcells
  rw [List.getElem?_toArray, List.getElem?_map, List.getElem?_range (by omega)]
  simp only [Option.map_some]
  rw [show (i * 8 + k) / 8 = i by omega, show (i * 8 + k) % 8 = k by omega]
theorem mcells_set (S : List (Int × Int)) {i k : Nat} (hi : i < 8) (hk : k < 8) : (mcells S).setIfInBounds (i * 8 + k) (.bool true) = mcells (S ++ [((i : Int), (k : Int))]) := by
  apply Array.ext
  · simp [mcells]
  · intro n h1 h2
    have hn : n < 64 := by simpa [mcells] using h2
    have hs : n < (mcells S).size := by simpa [mcells] using hn
    rw [Array.getElem_setIfInBounds hs]
    have e1 : (mcells S)[n]'hs = .bool (decide ((((n / 8 : Nat) : Int), ((n % 8 : Nat) : Int)) ∈ S)) := by simp [mcells]
    have e2 : (mcells (S ++ [((i : Int), (k : Int))]))[n]'h2 = .bool (decide ((((n / 8 : Nat) : Int), ((n % 8 : Nat) : Int)) ∈ S ++ [((i : Int), (k : Int))])) := by simp [mcells]
    rw [e1, e2]
    by_cases h : i * 8 + k = n
    · rw [if_pos h]
      congr 1
      symm
      rw [decide_eq_true_iff]
      refine List.mem_append.2 (.inr ?_)
      rw [List.mem_singleton, Prod.mk.injEq]
      constructor <;> omega
    · rw [if_neg h]
      congr 1
      rw [decide_eq_decide, List.mem_append, List.mem_singleton, Prod.mk.injEq]
      constructor
      · exact Or.inl
      · rintro (h' | ⟨h1, h2⟩)
        · exact h'
        · omega
theorem mcells_one (S : List (Int × Int)) : (mcells S).all (·.oneCell') = true := by
  rw [Array.all_eq_true]
  intro i hi
  simp [mcells, Value.oneCell']
theorem mcells_size (S : List (Int × Int)) : (mcells S).size = 64 := by simp [mcells]
@[go_sem high] theorem Try.zeroMarks (w : World) : (zeroValue 87).run Try.prog w = .ok (.agg (mcells [])) w := by kernel_rfl
theorem marks_lit : mcells [] = ((#[.bool false, .bool false, .bool false, .bool false, .bool false, .bool false, .bool false, .bool false, .bool false, .bool false, .bool false, .bool false, .bool false, .bool false, .bool false, .bool false, .bool false, .bool false, .bool false, .bool false, .bool false, .bool false, .bool false, .bool false, .bool false, .bool false, .bool false, .bool false, .bool false, .bool false, .bool false, .bool false, .bool false, .bool false, .bool false, .bool false, .bool false, .bool false, .bool false, .bool false, .bool false, .bool false, .bool false, .bool false, .bool false, .bool false, .bool false, .bool false, .bool false, .bool false, .bool false, .bool false, .bool false, .bool false, .bool false, .bool false, .bool false, .bool false, .bool false, .bool false, .bool false, .bool false, .bool false, .bool false]) : Array Value) := by kernel_rfl
theorem exec_build_marks (a : Act) (dst : Option Tmp) (ty : TypeId) (pos : String) (after : Array Edge) (guard : Option (Nat × Bool)) (w : World) : (execOp a.eval { dst, op := .build 87 #[], type := ty, pos, after, guard }).run Try.prog w = .ok (.value (.agg (mcells []))) w := by kernel_rfl
theorem Try.infoMarks : (Try.prog.info? 87).map (·.size) = some 64 := by kernel_rfl
/-- How the world stands in the reference's search: the roof, the place and the marks lie where they lay. -/
def PatW (w : World) (r : Rf) (b : Nat) (c t : Int) (S : List (Int × Int)) (V : World) : Prop :=
  V.heap[b]? = some (.cells (rcells r) 27 (0, 0)) ∧ V.heap[w.heap.size]? = some (.cells #[.int .i8 c, .int .i8 t] 42 (0, 0)) ∧ V.heap[w.heap.size + 1]? = some (.cells (mcells S) 87 (0, 0)) ∧ Below w.heap.size w V ∧ w.heap.size + 2 ≤ V.heap.size
theorem PatW.below {w : World} {r : Rf} {b : Nat} {c t : Int} {S : List (Int × Int)} {V V' : World} (h : PatW w r b c t S V) (hb : b < w.heap.size) {B : Nat} (h2 : Below B V V') (hB : w.heap.size + 2 ≤ B) : PatW w r b c t S V' :=
  ⟨block_below h2 h.1 (by omega), block_below h2 h.2.1 (by omega), block_below h2 h.2.2.1 (by omega), h.2.2.2.1.trans (h2.mono (by omega)), Nat.le_trans h.2.2.2.2 h2.size⟩
theorem PatW.put {w : World} {r : Rf} {b : Nat} {c t : Int} {S : List (Int × Int)} {V : World} (h : PatW w r b c t S V) (hb : b < w.heap.size) {i k : Nat} (hi : i < 8) (hk : k < 8) :
    PatW w r b c t (S ++ [((i : Int), (k : Int))]) (V.setCell ⟨w.heap.size + 1, i * 8 + k, none⟩ (.bool true)) := by
  refine ⟨block_set_other h.1 _ (by simp; omega), block_set_other h.2.1 _ (by simp), ?_, h.2.2.2.1.setCell (p := ⟨w.heap.size + 1, i * 8 + k, none⟩) (by simp) _, by simpa [World.setCell] using h.2.2.2.2⟩
  rw [← mcells_set S hi hk]
  exact heap_setCell_same V _ _ _ _ _ h.2.2.1
theorem PatW.cell {w : World} {r : Rf} {b : Nat} {c t : Int} {S : List (Int × Int)} {V : World} (h : PatW w r b c t S V) {i k : Nat} (hi : i < 8) (hk : k < 8) :
    V.cell? ⟨w.heap.size + 1, i * 8 + k, none⟩ = some (.bool (decide (((i : Int), (k : Int)) ∈ S))) ∧ V.frozen? ⟨w.heap.size + 1, i * 8 + k, none⟩ = false :=
  ⟨cell_block h.2.2.1 (mcells_get S hi hk), frozen_of_row _ _ _ _ _ h.2.2.1⟩
theorem PatW.place {w : World} {r : Rf} {b : Nat} {c t : Int} {S : List (Int × Int)} {V : World} (h : PatW w r b c t S V) : V.cell? ⟨w.heap.size, 0, none⟩ = some (.int .i8 c) ∧ V.cell? ⟨w.heap.size, 1, none⟩ = some (.int .i8 t) :=
  ⟨cell_block h.2.1 rfl, cell_block h.2.1 rfl⟩
theorem PatW.drew {w : World} {r : Rf} {b : Nat} {c t : Int} {S : List (Int × Int)} {V : World} (h : PatW w r b c t S V) : PatW w r b c t S V.drew := ⟨h.1, h.2.1, h.2.2.1, h.2.2.2.1.drew, h.2.2.2.2⟩
theorem PatW.alloc {w : World} {r : Rf} {b : Nat} {c t : Int} {S : List (Int × Int)} {V : World} (h : PatW w r b c t S V) (o : Obj) : PatW w r b c t S (V.alloc o) :=
  ⟨block_alloc h.1 o, block_alloc h.2.1 o, block_alloc h.2.2.1 o, h.2.2.2.1.alloc h.2.2.2.1.size o, by have := h.2.2.2.2; simp; omega⟩
set_option maxHeartbeats 12800000 in
set_option maxRecDepth 100000 in
theorem c_l01Patch (r : Rf) (hr : r.Ok) (hv : validB r = true) (b : Nat) (c t : Int) (hin : InR r (c, t)) (w : World) (hX : w.heap[b]? = some (.cells (rcells r) 27 (0, 0))) :
    Calls Try.prog 49 #[.pointer (some ⟨b, 0, none⟩), .agg #[.int .i8 c, .int .i8 t]] w (RetS w (patchL r c t)) := by
  have vh := valid_head hv
  have hct : (0 ≤ c ∧ c ≤ 7) ∧ (0 ≤ t ∧ t ≤ 7) := by unfold InR at hin; omega
  have lbX := block_lt hX
  obtain ⟨ci, hci⟩ := Int.eq_ofNat_of_zero_le hct.1.1
  obtain ⟨ti, hti⟩ := Int.eq_ofNat_of_zero_le hct.2.1
  subst hci
  subst hti
  have HP := hid (block_new1 w (.cells #[.int .i8 (ci : Int), .int .i8 (ti : Int)] 42) rfl)
  have HN1 := hid (block_new1 (w.alloc (.cells #[.int .i8 (ci : Int), .int .i8 (ti : Int)] 42)) (.cells (mcells []) 87) (n := w.heap.size + 1) (by simp))
  have HPa := hid (block_alloc HP.out (.cells (mcells []) 87))
  have HXa := hid (block_alloc (block_alloc hX (.cells #[.int .i8 (ci : Int), .int .i8 (ti : Int)] 42)) (.cells (mcells []) 87))
  have HWa : Hid (Below w.heap.size w ((w.alloc (.cells #[.int .i8 (ci : Int), .int .i8 (ti : Int)] 42)).alloc (.cells (mcells []) 87))) := ((Below.refl _ w).alloc (Nat.le_refl _) _).alloc (by simp) _
  obtain ⟨Wa, hWa⟩ : ∃ Wa, Wa = (w.alloc (.cells #[.int .i8 (ci : Int), .int .i8 (ti : Int)] 42)).alloc (.cells (mcells []) 87) := ⟨_, rfl⟩
  have HSa : Hid (Wa.heap.size = w.heap.size + 2) := by rw [hWa]; simp [Hid]
  rw [← hWa] at HN1 HPa HXa HWa
  have ci8 : ci < 8 := by omega
  have ti8 : ti < 8 := by omega
  have i1 : (ci : Int) < 8 := by omega
  have i2 : (ti : Int) < 8 := by omega
  have i3 : (0 : Int) ≤ (ci : Int) := by omega
  have i4 : (0 : Int) ≤ (ti : Int) := by omega
  have HV := hid hv
  obtain ⟨kd, hkd⟩ : ∃ k, k = r.at (ci : Int).toNat (ti : Int).toNat := ⟨_, rfl⟩
  have HKA := fun W h => hid (c_l01At r hr b (ci : Int) (ti : Int) hct.1 hct.2 W h)
  rw [← hkd] at HKA
  obtain ⟨F, hF⟩ : ∃ F, F = patchF r (ci : Int) (ti : Int) := ⟨_, rfl⟩
  have HF : Hid (bfsQ r kd (65 - 0) 0 [((ci : Int), (ti : Int))] = F) := by rw [hF, hkd]; rfl
  have HG1 : Hid (GoodQ r [((ci : Int), (ti : Int))]) := ⟨by simp, fun p hp => by simp at hp; subst hp; exact hin⟩
  have HPL : Hid (patchL r (ci : Int) (ti : Int) = sortP F) := by rw [hF]; rfl
  have LBX := hid lbX
  clear hkd hF hv hin hct vh hX lbX
  go_enter Try.func49, Try.ntmps49
  go_wp2_with (first
    | ((with_reducible refine gate (N := 13) rfl ?_); refine wpList_run rfl (.agg (mcells [])) (exec_build_marks _ _ _ _ _ _ _) ?_)
    | ((with_reducible refine gateN rfl ?_); rw [← marks_lit, ← hWa]; refine wpList_store_block rfl 87 (.tmp 5) (.tmp 13) rfl (w.heap.size + 1) 0 _ (mcells []) (mcells []) _ HN1.out rfl rfl (by rw [mcells_size]; omega) (by rw [Try.infoMarks, mcells_size]) (mcells_one []) (setAll_whole rfl) ?_; intro w2 hw2 hg2 hs2; have HM2 := hid hw2; have HG2 := hid hg2; have HS2 := hid hs2; clear hw2 hg2 hs2))
  have HWP : Hid (PatW w r b ci ti [] w2) := by
    refine ⟨block_grown HG2.out HXa.out (by have := LBX.out; omega), block_grown HG2.out HPa.out (by omega), HM2.out, ?_, by have := HS2.out; have := HSa.out; omega⟩
    exact HWa.out.grown HG2.out HWa.out.size (fun k hk => by cases hk; omega)
  clear HP HN1 HXa HPa HWa HM2 HG2 HS2 HSa hWa
  obtain ⟨p0, p1⟩ := HWP.out.place
  obtain ⟨m0, m1⟩ := HWP.out.cell ci8 ti8
  refine wp_region_tail 6 (by kernel_rfl) (by kernel_rfl) ?_
  simp only [List.take_succ_cons, List.take_zero, List.drop_succ_cons, List.drop_zero]
  repeat still_step
  refine wpStill_nil ?_
  have HW3 := (HWP.out.put LBX.out ci8 ti8)
  rw [List.nil_append] at HW3
  have HLW : Hid (w.heap.size + 2 ≤ w2.heap.size) := HWP.out.2.2.2.2
  have HRO : Hid (RowQ (w.heap.size + 2) ((w2.setCell ⟨w.heap.size + 1, ci * 8 + ti, none⟩ (.bool true)).alloc (.cells #[.int .i8 (ci : Int), .int .i8 (ti : Int)] 42)).drew (.slice (some ⟨w2.heap.size, 0, none⟩) 1 1) [((ci : Int), (ti : Int))]) := by
    have := row_one (w2.setCell ⟨w.heap.size + 1, ci * 8 + ti, none⟩ (.bool true)) (B := w.heap.size + 2) (by simpa [World.setCell] using HLW.out) ci ti
    simp only [show (w2.setCell ⟨w.heap.size + 1, ci * 8 + ti, none⟩ (.bool true)).heap.size = w2.heap.size by simp [World.setCell]] at this
    exact this
  have HWA := hid (HW3.alloc (.cells #[.int .i8 (ci : Int), .int .i8 (ti : Int)] 42)).drew
  clear HWP HW3
  go_wp2_with fail
  go_loopw [6, 7] (fun vo i wr => ∃ (k : Nat) (out : List (Int × Int)), k ≤ out.length ∧ i = .int .i64 k ∧ Hid (RowQ (w.heap.size + 2) wr vo out) ∧ Hid (GoodQ r out) ∧ Hid (bfsQ r kd (65 - k) k out = F) ∧ Hid (PatW w r b ci ti out wr)) (fun _ i _ => 65 - (intOf i).toNat)
  case atStart => exact ⟨0, _, by simp, rfl, HRO.out, HG1.out, HF.out, HWA.out⟩
  case round =>
    clear HRO HG1 HF HWA m0 m1 p0 p1 HLW
    obtain ⟨wo, rfl⟩ : ∃ W, W = wr := ⟨_, rfl⟩
    obtain ⟨k, out, hk, rfl, hro, hgo, hfe, hw⟩ := hrel
    obtain ⟨Ao, co, rfl⟩ := owns_slc hro.out
    have h64 := good_len HV.out hgo.out
    have LB : w.heap.size + 2 ≤ wo.heap.size := hw.out.2.2.2.2
    by_cases hkl : k < out.length
    · have hd : decide ((k : Int) < (out.length : Int)) = true := decide_eq_true (by omega)
      have hkI : (k : Int) < (out.length : Int) := by omega
      have hk0 : (0 : Int) ≤ (k : Int) := by omega
      have hk64 : (k : Int) ≤ 64 := by omega
      have hp := List.getElem?_eq_getElem hkl
      obtain ⟨⟨p1, p2⟩, hpp⟩ : ∃ p, p = out[k] := ⟨_, rfl⟩
      rw [← hpp] at hp
      have hpr := hgo.out.2 (p1, p2) (List.mem_of_getElem? hp)
      have vh := valid_head HV.out
      have hp7 : (0 ≤ p1 ∧ p1 ≤ 7) ∧ (0 ≤ p2 ∧ p2 ≤ 7) := by unfold InR at hpr; omega
      obtain ⟨g, cg, e, hgB, hgl, c0, c1, _, _⟩ := hro.out.cell hp
      obtain ⟨rfl, -, rfl⟩ : Ao = some ⟨g, 0, none⟩ ∧ out.length = out.length ∧ co = cg := by simpa using e
      dsimp only at c0 c1
      have HST := hid ((bfsQ_step r kd hp (by omega)).symm.trans hfe.out)
      obtain ⟨NB, hNB⟩ : ∃ N, N = besideL r p1 p2 := ⟨_, rfl⟩
      have HNI : Hid (∀ q ∈ NB, InR r q) := by rw [hNB]; exact beside_in HV.out
      have HBE := hid (c_l01Beside r hr HV.out b p1 p2 hp7.1 hp7.2 wo hw.out.1)
      dsimp only at HST
      rw [← hNB] at HST HBE
      have HN12 : Hid (NB.length ≤ 100) := by
        rw [hNB]
        unfold besideL
        have h1 := lapL_len r p1 p2 (p1 - 1)
        have h2 := lapL_len r p1 p2 (p1 + 1)
        have h3 := List.length_filter_le (hasQ r) (twoL p1 p2)
        have h4 : (twoL p1 p2).length = 2 := rfl
        show _ ≤ _
        rw [List.length_append, List.length_append]; omega
      have HGL := hid hgl
      have LBo := hid LB
      have H64 := hid h64
      clear hp hpp hpr hp7 e hNB vh
      go_wp2_with (go_at_call 70; ((refine HBE.out.mono ?_); rintro e w5 ⟨v, rfl, hb5, hr5⟩); obtain ⟨An, cn, rfl⟩ := owns_slc hr5; have HB5 := hid hb5; have HR5 : Hid (RowQ wo.heap.size w5 (.slice An NB.length cn) NB) := hr5; clear hb5 hr5)
      have HRq := hid (hro.out.below HB5.out (Nat.le_refl _))
      have HWq := hid (hw.out.below LBX.out HB5.out LB)
      have HAp : Hid (Apart (.slice An NB.length cn) (.slice (some ⟨g, 0, none⟩) out.length co)) := fun g' h3 h4 => by
        have h5 := (World.ownsRow.lt HR5.out g' h3).1
        have h6 := (World.ownsRow.lt hro.out g' h4).2
        omega
      clear HBE
      go_loopw [6, 9] (fun vo i wr => ∃ (j : Nat) (o2 : List (Int × Int)), j ≤ NB.length ∧ i = .int .i64 j ∧ Hid (RowQ (w.heap.size + 2) wr vo o2) ∧ Hid (GoodQ r o2 ∧ out.length ≤ o2.length) ∧ Hid (o2 = (NB.take j).foldl (addQ r kd) out) ∧ Hid (RowQ wo.heap.size wr (.slice An NB.length cn) NB) ∧ Hid (Apart (.slice An NB.length cn) vo) ∧ Hid (PatW w r b ci ti o2 wr)) (fun _ i _ => NB.length - (intOf i).toNat)
      case atStart => exact ⟨0, out, by omega, rfl, HRq.out, ⟨hgo.out, Nat.le_refl _⟩, rfl, HR5.out, HAp.out, HWq.out⟩
      case round =>
        clear HRq HR5 HAp HWq HB5 c0 c1 hgl
        obtain ⟨j, o2, hj, rfl, hr2, hg2, hf2, hnb, hap, hw2⟩ := hrel
        obtain ⟨A2, c2, rfl⟩ := owns_slc hr2.out
        have LW2 : w.heap.size + 2 ≤ wr.heap.size := hw2.out.2.2.2.2
        have hN12 := HN12.out
        by_cases hjl : j < NB.length
        · have hd2 : decide ((j : Int) < (NB.length : Int)) = true := decide_eq_true (by omega)
          have hjI : (j : Int) < (NB.length : Int) := by omega
          have hj0 : (0 : Int) ≤ (j : Int) := by omega
          have hj100 : (j : Int) ≤ 100 := by omega
          have hq := List.getElem?_eq_getElem hjl
          obtain ⟨⟨q1, q2⟩, hqq⟩ : ∃ p, p = NB[j] := ⟨_, rfl⟩
          rw [← hqq] at hq
          have hqr := HNI.out (q1, q2) (List.mem_of_getElem? hq)
          have vh := valid_head HV.out
          have hq7 : (0 ≤ q1 ∧ q1 ≤ 7) ∧ (0 ≤ q2 ∧ q2 ≤ 7) := by unfold InR at hqr; omega
          have HADD := hid (fold_take r kd out NB hq)
          have HGA := hid (addQ_good (k := kd) hg2.out.1 hqr)
          obtain ⟨gn, cg, e, gnB, hnl, n0, n1, _, _⟩ := hnb.out.cell hq
          obtain ⟨rfl, -, rfl⟩ : An = some ⟨gn, 0, none⟩ ∧ NB.length = NB.length ∧ cn = cg := by simpa using e
          dsimp only at n0 n1
          have HKQ := fun W h => hid (c_l01At r hr b q1 q2 hq7.1 hq7.2 W h)
          obtain ⟨z, hz⟩ : ∃ z, z = r.at q1.toNat q2.toNat := ⟨_, rfl⟩
          have HAQ : Hid (addQ r kd o2 (q1, q2) = if r.at q1.toNat q2.toNat = kd ∧ (q1, q2) ∉ o2 then o2 ++ [(q1, q2)] else o2) := rfl
          rw [← hz] at HKQ HAQ
          obtain ⟨a1, rfl⟩ := Int.eq_ofNat_of_zero_le hq7.1.1
          obtain ⟨a2, rfl⟩ := Int.eq_ofNat_of_zero_le hq7.2.1
          have a18 : a1 < 8 := by omega
          have a28 : a2 < 8 := by omega
          have s1 : (a1 : Int) < 8 := by omega
          have s2 : (a2 : Int) < 8 := by omega
          have s3 : (0 : Int) ≤ (a1 : Int) := by omega
          have s4 : (0 : Int) ≤ (a2 : Int) := by omega
          have HXI := hid hw2.out.1
          have LXI : b < wr.heap.size := by have := LBX.out; omega
          obtain ⟨pl0, pl1⟩ := hw2.out.place
          obtain ⟨mk0, mk1⟩ := hw2.out.cell a18 a28
          have lpl : w.heap.size < wr.heap.size := by omega
          have lmk : w.heap.size + 1 < wr.heap.size := by omega
          have n0x : ∀ x : Ext wr.heap.size wr, x.out.cell? ⟨gn, j * 2, none⟩ = some (.int .i8 (a1 : Int)) := fun x => (x.below.cell (p := ⟨gn, j * 2, none⟩) hnl).trans n0
          have n1x : ∀ x : Ext wr.heap.size wr, x.out.cell? ⟨gn, j * 2 + 1, none⟩ = some (.int .i8 (a2 : Int)) := fun x => (x.below.cell (p := ⟨gn, j * 2 + 1, none⟩) hnl).trans n1
          have plx : ∀ x : Ext wr.heap.size wr, x.out.cell? ⟨w.heap.size, 0, none⟩ = some (.int .i8 (ci : Int)) := fun x => (x.below.cell (p := ⟨w.heap.size, 0, none⟩) lpl).trans pl0
          have ply : ∀ x : Ext wr.heap.size wr, x.out.cell? ⟨w.heap.size, 1, none⟩ = some (.int .i8 (ti : Int)) := fun x => (x.below.cell (p := ⟨w.heap.size, 1, none⟩) lpl).trans pl1
          have ho64 := good_len HV.out hg2.out.1
          have GNL := hid hnl
          have GNB := hid gnB
          have HZ := hid hz
          clear hq hqq hqr hq7 e hz vh
          by_cases hzk : z = kd
          · have z1 : (z == kd) = true := by rw [beq_iff_eq]; exact hzk
            by_cases hc : ((a1 : Int), (a2 : Int)) ∈ o2
            · have HAQ : Hid (addQ r kd o2 ((a1 : Int), (a2 : Int)) = o2) := by rw [HAQ.out, if_neg (fun h => h.2 hc)]; rfl
              rw [decide_eq_true hc] at mk0
              have mkx : ∀ x : Ext wr.heap.size wr, x.out.cell? ⟨w.heap.size + 1, a1 * 8 + a2, none⟩ = some (.bool true) := fun x => (x.below.cell (p := ⟨w.heap.size + 1, a1 * 8 + a2, none⟩) lmk).trans mk0
              clear hzk hc
              go_wp2_with fail
              refine wp_region_ext wr.heap.size (by kernel_rfl) (by kernel_rfl) ?_
              repeat (go_big_quiet_step (first
                | (go_at_call 38; first | (with_reducible exact Calls.ext (Nat.le_refl _) (HKQ _ (block_below (Ext.below _) HXI.out LXI)).out) | (with_reducible exact Calls.ext (Nat.le_refl _) (HKA _ (block_below (Ext.below _) HXI.out LXI)).out))))
              refine wpQuiet_nil ?_
              intro x
              go_wp2_with fail
              exact ⟨⟨j + 1, o2, by omega, by go_num, hr2.out.below x.below (Nat.le_refl _), hg2.out, by rw [HADD.out, ← hf2.out, HAQ.out]; rfl, hnb.out.below x.below (Nat.le_refl _), hap.out, hw2.out.below LBX.out x.below LW2⟩, by simp [intOf]; omega⟩
            · have HAQ : Hid (addQ r kd o2 ((a1 : Int), (a2 : Int)) = o2 ++ [((a1 : Int), (a2 : Int))]) := by rw [HAQ.out, if_pos ⟨hzk, hc⟩]; rfl
              rw [decide_eq_false hc] at mk0
              have mkx : ∀ x : Ext wr.heap.size wr, x.out.cell? ⟨w.heap.size + 1, a1 * 8 + a2, none⟩ = some (.bool false) := fun x => (x.below.cell (p := ⟨w.heap.size + 1, a1 * 8 + a2, none⟩) lmk).trans mk0
              clear hzk hc
              go_wp2_with fail
              refine wp_region_ext wr.heap.size (by kernel_rfl) (by kernel_rfl) ?_
              repeat (go_big_quiet_step (first
                | (go_at_call 38; first | (with_reducible exact Calls.ext (Nat.le_refl _) (HKQ _ (block_below (Ext.below _) HXI.out LXI)).out) | (with_reducible exact Calls.ext (Nat.le_refl _) (HKA _ (block_below (Ext.below _) HXI.out LXI)).out))))
              refine wpQuiet_nil ?_
              intro x
              have HRx := hid (hr2.out.below x.below (Nat.le_refl _))
              have HNx := hid (hnb.out.below x.below (Nat.le_refl _))
              have HWx := hid (hw2.out.below LBX.out x.below LW2)
              have y0 := n0x x
              have y1 := n1x x
              obtain ⟨X, hX⟩ : ∃ X, X = x.out := ⟨_, rfl⟩
              rw [← hX] at HRx HNx HWx y0 y1 ⊢
              obtain ⟨mm0, mm1⟩ := HWx.out.cell a18 a28
              clear hX x n0x n1x plx ply mkx n0 n1 pl0 pl1 mk0 mk1
              go_wp2_with fail
              refine wp_region_tail 12 (by kernel_rfl) (by kernel_rfl) ?_
              simp only [List.take_succ_cons, List.take_zero, List.drop_succ_cons, List.drop_zero]
              repeat still_step
              refine wpStill_nil ?_
              have HW4 := hid (HWx.out.put LBX.out a18 a28).drew
              have HR4 : Hid (RowQ (w.heap.size + 2) (X.setCell ⟨w.heap.size + 1, a1 * 8 + a2, none⟩ (.bool true)).drew (.slice A2 o2.length c2) o2) := HRx.out.setO (fun e => by have := (World.ownsRow.lt HRx.out _ e).1; omega) _ _
              have HN4 : Hid (RowQ wo.heap.size (X.setCell ⟨w.heap.size + 1, a1 * 8 + a2, none⟩ (.bool true)).drew (.slice (some ⟨gn, 0, none⟩) NB.length cn) NB) := HNx.out.setO (fun e => by have := (World.ownsRow.lt HNx.out _ e).1; omega) _ _
              have HSX : Hid ((X.setCell ⟨w.heap.size + 1, a1 * 8 + a2, none⟩ (.bool true)).drew.heap.size = X.heap.size) := by simp [World.setCell, Hid]
              have LXX : Hid (w.heap.size + 2 ≤ (X.setCell ⟨w.heap.size + 1, a1 * 8 + a2, none⟩ (.bool true)).drew.heap.size) := HW4.out.2.2.2.2
              have ne1 : ¬ (gn = w.heap.size + 1) := by have := GNB.out; omega
              have ne2 : ¬ (w.heap.size + 1 = gn) := by omega
              clear HRx HNx HWx
              go_wp2_with ((with_reducible refine gate (N := 84) rfl ?_); (refine wp_app1Q rfl (.tmp 78) (.tmp 83) rfl (w.heap.size + 2) (.slice A2 o2.length c2) o2 (a1 : Int) (a2 : Int) HR4.out rfl X.heap.size rfl (Nat.le_trans ho64 (by decide)) LXX.out HSX.out ?_); intro v' w6 hown hg; obtain ⟨A6, c6, rfl⟩ := owns_slc hown; have HG6 := hid hg; have HRO6 := hid hown; clear hg hown)
              refine ⟨⟨j + 1, o2 ++ [((a1 : Int), (a2 : Int))], by omega, by go_num, by rw [List.length_append] at *; exact HRO6.out, ⟨by rw [← HAQ.out]; exact HGA.out, by have := hg2.out.2; rw [List.length_append]; omega⟩, by rw [HADD.out, ← hf2.out, HAQ.out]; rfl, HG6.out.row HN4.out hap.out, ?_, HW4.out.below LBX.out (HR4.out.belowG HG6.out LXX.out) (Nat.le_refl _)⟩, by simp [intOf]; omega⟩
              have := HG6.out.apart HN4.out hap.out
              exact fun g' h1 h2 => this g' h1 (by rw [List.length_append]; exact h2)
          · have z1 : (z == kd) = false := by rw [beq_eq_false_iff_ne]; exact hzk
            have HAQ : Hid (addQ r kd o2 ((a1 : Int), (a2 : Int)) = o2) := by rw [HAQ.out, if_neg (fun h => hzk h.1)]; rfl
            clear hzk
            go_wp2_with fail
            refine wp_region_ext wr.heap.size (by kernel_rfl) (by kernel_rfl) ?_
            repeat (go_big_quiet_step (first
              | (go_at_call 38; first | (with_reducible exact Calls.ext (Nat.le_refl _) (HKQ _ (block_below (Ext.below _) HXI.out LXI)).out) | (with_reducible exact Calls.ext (Nat.le_refl _) (HKA _ (block_below (Ext.below _) HXI.out LXI)).out))))
            refine wpQuiet_nil ?_
            intro x
            go_wp2_with fail
            exact ⟨⟨j + 1, o2, by omega, by go_num, hr2.out.below x.below (Nat.le_refl _), hg2.out, by rw [HADD.out, ← hf2.out, HAQ.out]; rfl, hnb.out.below x.below (Nat.le_refl _), hap.out, hw2.out.below LBX.out x.below LW2⟩, by simp [intOf]; omega⟩
        · obtain rfl : j = NB.length := by omega
          have hd2 : decide ((NB.length : Int) < (NB.length : Int)) = false := decide_eq_false (by omega)
          have HFE : Hid (bfsQ r kd (65 - (k + 1)) (k + 1) o2 = F) := by
            have h1 := hf2.out
            rw [List.take_length] at h1
            rw [h1]; exact HST.out
          go_wp2_with fail
          exact ⟨⟨k + 1, o2, by have := hg2.out.2; omega, by go_num, hr2.out, hg2.out.1, HFE.out, hw2.out⟩, by have := H64.out; simp [intOf]; omega⟩
    · obtain rfl : k = out.length := by omega
      have hd : decide ((out.length : Int) < (out.length : Int)) = false := decide_eq_false (by omega)
      have HOF := hid (show out = F by rw [← hfe.out]; exact (bfsQ_end r kd (Nat.le_refl _)).symm)
      have hgf := hgo.out
      obtain ⟨AL, hAL⟩ : ∃ l, l = allR r := ⟨_, rfl⟩
      have HCA := hid (fun W h => c_l01All r hr HV.out b W h)
      have HPF : Hid (patchL r (ci : Int) (ti : Int) = AL.filter fun p => decide (p ∈ out)) := by
        rw [HPL.out, ← HOF.out, hAL]; exact patch_filter HV.out hgf
      have HAI : Hid (∀ p ∈ AL, InR r p) := fun p hp => by rw [hAL] at hp; exact (mem_allR HV.out).1 hp
      have HA64 : Hid (AL.length ≤ 64) := by
        have vh := valid_head HV.out
        rw [hAL]
        show _ ≤ _
        unfold allR
        rw [allUp_len]
        have : r.h.toNat * r.w.toNat ≤ 8 * 8 := Nat.mul_le_mul (by omega) (by omega)
        omega
      have hCA := HCA.out
      rw [show allUp r.w.toNat r.h.toNat 0 = AL from hAL.symm] at hCA
      have HCA := hid hCA
      have HWa := hid (hw.out.alloc (.cells #[] 42))
      have HEm : Hid (RowQ (w.heap.size + 2) (wo.alloc (.cells #[] 42)) (.slice (some ⟨wo.heap.size, 0, none⟩) 0 0) []) := RowQ.made LB
      clear hgf hAL hCA
      go_wp2_with (go_at_call 37; ((refine (HCA.out _ HWa.out.1).mono ?_); rintro e w5 ⟨v, rfl, hb5, hr5⟩); obtain ⟨An, cn, rfl⟩ := owns_slc hr5; have HB5 := hid hb5; have HR5 : Hid (RowQ (wo.heap.size + 1) w5 (.slice An AL.length cn) AL) := hid (World.ownsRow.mono hr5 (by simp)); clear hb5 hr5)
      have LX5 : wo.heap.size + 1 ≤ w5.heap.size := by have := HB5.out.size; simp at this; omega
      have HW5 := hid (HWa.out.below LBX.out HB5.out (by simp; omega))
      have HE5 : Hid (RowQ (w.heap.size + 2) w5 (.slice (some ⟨wo.heap.size, 0, none⟩) 0 0) []) := HEm.out.below HB5.out (Nat.le_refl _)
      have HAp : Hid (Apart (.slice An AL.length cn) (.slice (some ⟨wo.heap.size, 0, none⟩) 0 0)) := fun g' h3 h4 => by
        have h5 := (World.ownsRow.lt HR5.out g' h3).1
        simp [Value.ownBlock] at h4
        omega
      clear HWa HEm HB5
      go_loopw [10, 12] (fun vo i wr => ∃ (j : Nat) (o2 : List (Int × Int)), j ≤ AL.length ∧ i = .int .i64 j ∧ Hid (RowQ (w.heap.size + 2) wr vo o2) ∧ Hid (o2 = (AL.take j).filter fun p => decide (p ∈ out)) ∧ Hid (RowQ (wo.heap.size + 1) wr (.slice An AL.length cn) AL) ∧ Hid (Apart (.slice An AL.length cn) vo) ∧ Hid (PatW w r b ci ti out wr)) (fun _ i _ => AL.length - (intOf i).toNat)
      case atStart => exact ⟨0, [], by omega, rfl, HE5.out, rfl, HR5.out, HAp.out, HW5.out⟩
      case round =>
        clear HE5 HR5 HAp HW5
        obtain ⟨j, o2, hj, rfl, hr2, hf2, hnb, hap, hw2⟩ := hrel
        obtain ⟨A2, c2, rfl⟩ := owns_slc hr2.out
        have LW2 : w.heap.size + 2 ≤ wr.heap.size := hw2.out.2.2.2.2
        have ho64 : o2.length ≤ 64 := by
          rw [hf2.out]
          have h1 := List.length_filter_le (fun p => decide (p ∈ out)) (AL.take j)
          rw [List.length_take] at h1
          have := HA64.out
          omega
        by_cases hjl : j < AL.length
        · have hd2 : decide ((j : Int) < (AL.length : Int)) = true := decide_eq_true (by omega)
          have hjI : (j : Int) < (AL.length : Int) := by omega
          have hj0 : (0 : Int) ≤ (j : Int) := by omega
          have hj64 : (j : Int) ≤ 64 := by have := HA64.out; omega
          have hq := List.getElem?_eq_getElem hjl
          obtain ⟨⟨q1, q2⟩, hqq⟩ : ∃ p, p = AL[j] := ⟨_, rfl⟩
          have HTK : Hid ((AL.take (j + 1)).filter (fun p => decide (p ∈ out)) = (AL.take j).filter (fun p => decide (p ∈ out)) ++ [(q1, q2)].filter fun p => decide (p ∈ out)) := by
            rw [hqq, List.take_succ_eq_append_getElem hjl, List.filter_append]; rfl
          rw [← hqq] at hq
          have hqr := HAI.out (q1, q2) (List.mem_of_getElem? hq)
          have vh := valid_head HV.out
          have hq7 : (0 ≤ q1 ∧ q1 ≤ 7) ∧ (0 ≤ q2 ∧ q2 ≤ 7) := by unfold InR at hqr; omega
          obtain ⟨gn, cg, e, gnB, hnl, n0, n1, _, _⟩ := hnb.out.cell hq
          obtain ⟨rfl, -, rfl⟩ : An = some ⟨gn, 0, none⟩ ∧ AL.length = AL.length ∧ cn = cg := by simpa using e
          dsimp only at n0 n1
          obtain ⟨a1, rfl⟩ := Int.eq_ofNat_of_zero_le hq7.1.1
          obtain ⟨a2, rfl⟩ := Int.eq_ofNat_of_zero_le hq7.2.1
          have a18 : a1 < 8 := by omega
          have a28 : a2 < 8 := by omega
          have s1 : (a1 : Int) < 8 := by omega
          have s2 : (a2 : Int) < 8 := by omega
          have s3 : (0 : Int) ≤ (a1 : Int) := by omega
          have s4 : (0 : Int) ≤ (a2 : Int) := by omega
          obtain ⟨mk0, mk1⟩ := hw2.out.cell a18 a28
          have lmk : w.heap.size + 1 < wr.heap.size := by omega
          have n0x : ∀ x : Ext wr.heap.size wr, x.out.cell? ⟨gn, j * 2, none⟩ = some (.int .i8 (a1 : Int)) := fun x => (x.below.cell (p := ⟨gn, j * 2, none⟩) hnl).trans n0
          have n1x : ∀ x : Ext wr.heap.size wr, x.out.cell? ⟨gn, j * 2 + 1, none⟩ = some (.int .i8 (a2 : Int)) := fun x => (x.below.cell (p := ⟨gn, j * 2 + 1, none⟩) hnl).trans n1
          clear hq hqq hqr hq7 e vh
          by_cases hc : ((a1 : Int), (a2 : Int)) ∈ out
          · rw [decide_eq_true hc] at mk0
            have HF2 : Hid (o2 ++ [((a1 : Int), (a2 : Int))] = (AL.take (j + 1)).filter fun p => decide (p ∈ out)) := by rw [HTK.out, ← hf2.out, List.filter_cons_of_pos (by simpa using hc)]; rfl
            have mkx : ∀ x : Ext wr.heap.size wr, x.out.cell? ⟨w.heap.size + 1, a1 * 8 + a2, none⟩ = some (.bool true) := fun x => (x.below.cell (p := ⟨w.heap.size + 1, a1 * 8 + a2, none⟩) lmk).trans mk0
            clear hc
            go_wp2_with fail
            refine wp_region_ext wr.heap.size (by kernel_rfl) (by kernel_rfl) ?_
            repeat (go_big_quiet_step (fail))
            refine wpQuiet_nil ?_
            intro x
            have HRx := hid (hr2.out.below x.below (Nat.le_refl _))
            have HNx := hid (hnb.out.below x.below (Nat.le_refl _))
            have HWx := hid (hw2.out.below LBX.out x.below LW2)
            have y0 := n0x x
            have y1 := n1x x
            obtain ⟨X, hX⟩ : ∃ X, X = x.out := ⟨_, rfl⟩
            rw [← hX] at HRx HNx HWx y0 y1 ⊢
            have LXX : w.heap.size + 2 ≤ X.heap.size := HWx.out.2.2.2.2
            clear hX x n0x n1x mkx n0 n1 mk0 mk1
            go_wp2_with ((with_reducible refine gate (N := 113) rfl ?_); (refine wp_app1Q rfl (.tmp 107) (.tmp 112) rfl (w.heap.size + 2) (.slice A2 o2.length c2) o2 (a1 : Int) (a2 : Int) HRx.out rfl X.heap.size rfl (Nat.le_trans ho64 (by decide)) LXX rfl ?_); intro v' w6 hown hg; obtain ⟨A6, c6, rfl⟩ := owns_slc hown; have HG6 := hid hg; have HRO6 := hid hown; clear hg hown)
            refine ⟨⟨j + 1, o2 ++ [((a1 : Int), (a2 : Int))], by omega, by go_num, by rw [List.length_append] at *; exact HRO6.out, HF2.out, HG6.out.row HNx.out hap.out, ?_, HWx.out.below LBX.out (HRx.out.belowG HG6.out LXX) (Nat.le_refl _)⟩, by simp [intOf]; omega⟩
            have := HG6.out.apart HNx.out hap.out
            exact fun g' h1 h2 => this g' h1 (by rw [List.length_append]; exact h2)
          · rw [decide_eq_false hc] at mk0
            have HF2 : Hid (o2 = (AL.take (j + 1)).filter fun p => decide (p ∈ out)) := by rw [HTK.out, ← hf2.out, List.filter_cons_of_neg (by simpa using hc)]; exact (List.append_nil _).symm
            have mkx : ∀ x : Ext wr.heap.size wr, x.out.cell? ⟨w.heap.size + 1, a1 * 8 + a2, none⟩ = some (.bool false) := fun x => (x.below.cell (p := ⟨w.heap.size + 1, a1 * 8 + a2, none⟩) lmk).trans mk0
            clear hc
            go_wp2_with fail
            refine wp_region_ext wr.heap.size (by kernel_rfl) (by kernel_rfl) ?_
            repeat (go_big_quiet_step (fail))
            refine wpQuiet_nil ?_
            intro x
            go_wp2_with fail
            exact ⟨⟨j + 1, o2, by omega, by go_num, hr2.out.below x.below (Nat.le_refl _), HF2.out, hnb.out.below x.below (Nat.le_refl _), hap.out, hw2.out.below LBX.out x.below LW2⟩, by simp [intOf]; omega⟩
        · obtain rfl : j = AL.length := by omega
          have hd2 : decide ((AL.length : Int) < (AL.length : Int)) = false := decide_eq_false (by omega)
          have h1 := hf2.out
          rw [List.take_length] at h1
          have h2 := HPF.out
          rw [← h1] at h2
          have HP2 := hid h2
          clear h1 h2
          go_wp2_with fail
          go_ret
          refine ⟨_, rfl, hw2.out.2.2.2.1, ?_⟩
          rw [HP2.out]
          exact World.ownsRow.mono hr2.out (by omega)
end Go.Proofs.Ytfijinbdpfeceaa

/- PatchOf, the program's and the reference's. -/
namespace Go.Proofs.Ytfijinbdpfeceaa
open Go.RowKit
set_option linter.unusedSimpArgs false
set_option linter.unusedVariables false

/-- What PatchOf returns. -/
def patL (r : Rf) (c t : Int) : List (Int × Int) := if codeOf (validB r) (isPl r c t) = 0 then patchL r c t else []
theorem codeOf_in {r : Rf} {c t : Int} (h : codeOf (validB r) (isPl r c t) = 0) : validB r = true ∧ InR r (c, t) := by
  have := codeOf_zero h
  have h1 := valid_head this.1
  have h2 := isPl_iff.1 this.2
  exact ⟨this.1, by unfold InR; omega⟩
theorem sortP_lenR (l : List (Int × Int)) : (sortP l).length = l.length := (sortP_permR l).length_eq
theorem bfs_good {r : Rf} (hv : validB r = true) (k : Int) : ∀ (n i : Nat) (out : List (Int × Int)), GoodQ r out → GoodQ r (bfsQ r k n i out)
  | 0, _, _, h => h
  | n + 1, i, out, h => by
    show GoodQ r (match out[i]? with | none => out | some p => _)
    cases h0 : out[i]? with
    | none => exact h
    | some p => exact bfs_good hv k n (i + 1) _ (fold_good (k := k) (besideL r p.1 p.2) out h (beside_in hv)).1
theorem patchF_good {r : Rf} (hv : validB r = true) {c t : Int} (hin : InR r (c, t)) : GoodQ r (patchF r c t) :=
  bfs_good hv _ _ _ _ ⟨by simp, fun p hp => by simp at hp; subst hp; exact hin⟩
theorem patL_len (r : Rf) (c t : Int) : (patL r c t).length ≤ 64 := by
  unfold patL
  split
  · rename_i h
    have := codeOf_in h
    unfold patchL
    rw [sortP_lenR]
    exact good_len this.1 (patchF_good this.1 this.2)
  · simp
set_option maxRecDepth 100000 in
theorem c_PatchOf (r : Rf) (hr : r.Ok) (c t : Int) (hc : -128 ≤ c ∧ c ≤ 127) (ht : -128 ≤ t ∧ t ≤ 127) (w : World) : Calls Try.prog 24 #[.agg (rcells r), .agg #[.int .i8 c, .int .i8 t]] w (RetP w (patL r c t) (codeOf (validB r) (isPl r c t))) := by
  have key : ∀ k : Int, codeOf (validB r) (hasB r c t) = k → codeOf (validB r) (isPl r c t) = k → (k = 1 ∨ k = 2 ∨ k = 0) → Calls Try.prog 24 #[.agg (rcells r), .agg #[.int .i8 c, .int .i8 t]] w (RetP w (patL r c t) k) := by
    intro k hk hk' hcs
    have HK := hid hk
    have HL : Hid (patL r c t = if k = 0 then patchL r c t else []) := by
      show _ = _
      unfold patL; rw [hk']
    have HV0 : Hid (k = 0 → validB r = true ∧ InR r (c, t)) := fun h0 => codeOf_in (hk'.trans h0)
    clear hk hk'
    have HP := hid (block_alloc (block_new1 w (.cells (rcells r) 27) rfl) (.cells #[.int .i8 c, .int .i8 t] 42))
    have HW : Hid (Below w.heap.size w ((w.alloc (.cells (rcells r) 27)).alloc (.cells #[.int .i8 c, .int .i8 t] 42))) := ((Below.refl _ w).alloc (Nat.le_refl _) _).alloc (by simp) _
    have R0 : Hid (∀ x : Ext (w.heap.size + 2) ((w.alloc (.cells (rcells r) 27)).alloc (.cells #[.int .i8 c, .int .i8 t] 42)), (Instr.loadAt 27 (.pointer (some ⟨w.heap.size, 0, none⟩))).run Try.prog x.out = .ok (.agg (rcells r)) x.out) := fun x =>
      run_load_roof 27 Try.underlying27 rfl Try.infoRoof hr (block_below x.below HP.out (by omega))
    have HB : Hid (w.heap.size + 2 ≤ ((w.alloc (.cells (rcells r) 27)).alloc (.cells #[.int .i8 c, .int .i8 t] 42)).heap.size) := by simp [Hid]
    have l0 : w.heap.size < w.heap.size + 2 := by omega
    have l1 : w.heap.size + 1 < w.heap.size + 2 := by omega
    have e1 : IntKind.i64.wrap c = c := IntWalk.i64_in _ (by omega)
    have HCC := hid hc
    have HTT := hid ht
    rcases hcs with rfl | rfl | rfl
    all_goals
      try have HVr := hid (HV0.out rfl).1
      try have HIn := hid (HV0.out rfl).2
      clear HV0
      go_enter Try.func24, Try.ntmps24
      go_wp2_with fail
      refine wp_region_ext (w.heap.size + 2) (by kernel_rfl) (by kernel_rfl) ?_
      repeat (first
        | ((with_reducible refine wpQuiet_run (N := 7) rfl rfl (.agg (rcells r)) ?_ ?_); (rintro _ ⟨x, rfl⟩; exact execOp_load rfl rfl (R0.out x)); go_simp)
        | ((with_reducible refine wpQuiet_run (N := 8) rfl rfl (.agg (rcells r)) ?_ ?_); (rintro _ ⟨x, rfl⟩; exact execOp_load rfl rfl (R0.out x)); go_simp)
        | go_big_quiet_step (first | (go_at_call 47; with_reducible exact Calls.ext HB.out (c_has r hr c t HCC.out HTT.out _)) | (go_at_call 46; with_reducible exact Calls.ext HB.out (c_roofCodeK r hr _ _ HK.out _))))
      refine wpQuiet_nil ?_
      intro x
      have HWx := hid (HW.out.trans (x.below.mono (by omega)))
      go_wp2_with (first
        | ((with_reducible refine gate (N := 15) rfl ?_); refine wp_roof 27 Try.underlying27 rfl Try.infoRoof rfl (.tmp 2) rfl w.heap.size rfl r hr (block_below x.below HP.out (by omega)) ?_)
        | (go_at_call 50; ((with_reducible refine (c_patch r hr HVr.out c t HIn.out _).mono ?_); rintro e w1 ⟨v, rfl, hb1, ho1⟩)))
      go_ret2
      first
        | (refine ⟨_, rfl, HWx.out, ?_⟩; rw [HL.out]; exact World.ownsRow_nil _ _ _ _)
        | (refine ⟨_, rfl, HWx.out.trans (hb1.mono HWx.out.size), ?_⟩; rw [HL.out, if_pos (by trivial)]; exact ho1.mono HWx.out.size)
  have e : codeOf (validB r) (hasB r c t) = codeOf (validB r) (isPl r c t) := by have := codeOf_has r c t true; simpa using this
  exact key _ e rfl (codeOf_012 _ _)
set_option maxRecDepth 100000 in
theorem c_sPatchOf (r : Rf) (hr : r.Ok) (c t : Int) (hc : -128 ≤ c ∧ c ≤ 127) (ht : -128 ≤ t ∧ t ≤ 127) (w : World) : Calls Try.prog 23 #[.agg (rcells r), .agg #[.int .i8 c, .int .i8 t]] w (RetP w (patL r c t) (codeOf (validB r) (isPl r c t))) := by
  have key : ∀ k : Int, codeOf (validB r) (isPl r c t && true) = k → codeOf (validB r) (isPl r c t) = k → (k = 1 ∨ k = 2 ∨ k = 0) → Calls Try.prog 23 #[.agg (rcells r), .agg #[.int .i8 c, .int .i8 t]] w (RetP w (patL r c t) k) := by
    intro k hk hk' hcs
    have HK := hid hk
    have HL : Hid (patL r c t = if k = 0 then patchL r c t else []) := by
      show _ = _
      unfold patL; rw [hk']
    have HV0 : Hid (k = 0 → validB r = true ∧ InR r (c, t)) := fun h0 => codeOf_in (hk'.trans h0)
    clear hk hk'
    have HP := hid (block_alloc (block_new1 w (.cells (rcells r) 27) rfl) (.cells #[.int .i8 c, .int .i8 t] 42))
    have HQ := hid (block_new1 (w.alloc (.cells (rcells r) 27)) (.cells #[.int .i8 c, .int .i8 t] 42) (n := w.heap.size + 1) (by simp))
    have HW : Hid (Below w.heap.size w ((w.alloc (.cells (rcells r) 27)).alloc (.cells #[.int .i8 c, .int .i8 t] 42))) := ((Below.refl _ w).alloc (Nat.le_refl _) _).alloc (by simp) _
    have HS : Hid (w.heap.size + 2 ≤ ((w.alloc (.cells (rcells r) 27)).alloc (.cells #[.int .i8 c, .int .i8 t] 42)).heap.size) := by simp [Hid]
    have HCC := hid hc
    have HTT := hid ht
    rcases hcs with rfl | rfl | rfl
    all_goals
      try have HVr := hid (HV0.out rfl).1
      try have HIn := hid (HV0.out rfl).2
      clear HV0
      go_enter Try.func23, Try.ntmps23
      go_wp2_with (first
        | (go_at_call 44; ((with_reducible refine (c_l01AskedK r hr w.heap.size c t HCC.out HTT.out true _ HK.out _ HP.out).mono ?_); rintro e w1 ⟨rfl, hb1⟩); have b1 := hid hb1; have HQ1 := hid (block_below hb1 HQ.out (by have := HS.out; omega)); have q0 := cell_block HQ1.out (j := 0) rfl; have q1 := cell_block HQ1.out (j := 1) rfl; clear hb1)
        | (go_at_call 49; ((with_reducible refine (c_l01Patch r hr HVr.out w.heap.size c t HIn.out _ (block_below b1.out HP.out (by have := HS.out; omega))).mono ?_); rintro e w2 ⟨v, rfl, hb2, ho2⟩)))
      have b2 := hid (HW.out.trans (b1.out.mono HW.out.size))
      go_ret2
      first
        | (refine ⟨_, rfl, b2.out.alloc b2.out.size _, ?_⟩; rw [HL.out]; exact World.ownsRow_made w1 #[] 0 b2.out.size (by decide) rfl)
        | (refine ⟨_, rfl, b2.out.trans (hb2.mono b2.out.size), ?_⟩; rw [HL.out, if_pos (by trivial)]; exact ho2.mono b2.out.size)
  have e : codeOf (validB r) (isPl r c t && true) = codeOf (validB r) (isPl r c t) := by rw [Bool.and_true]
  exact key _ e rfl (codeOf_012 _ _)
end Go.Proofs.Ytfijinbdpfeceaa

/- All patches of a kind: plain. -/
namespace Go.Proofs.Ytfijinbdpfeceaa
open Go.RowKit
set_option linter.unusedSimpArgs false
set_option linter.unusedVariables false

theorem lapK_iff3 (r : Rf) (c t d : Int) : ∀ (n : Nat) (p : Int × Int), p ∈ lapK r c t d n ↔ p.1 = d ∧ p.2 ≠ -1 ∧ ∃ j : Nat, j < n ∧ p.2 = tileOf r d (firstOf r c t + j)
  | 0, p => by simp [lapK]
  | n + 1, p => by
    have ih := lapK_iff3 r c t d n
    simp only [lapK, lapStep]
    constructor
    · intro h
      split at h
      · rename_i hc
        rcases List.mem_append.1 h with h | h
        · obtain ⟨h1, h2, j, hj, h3⟩ := (ih p).1 h
          exact ⟨h1, h2, j, by omega, h3⟩
        · rw [List.mem_singleton] at h
          subst h
          exact ⟨rfl, hc.1, n, by omega, rfl⟩
      · obtain ⟨h1, h2, j, hj, h3⟩ := (ih p).1 h
        exact ⟨h1, h2, j, by omega, h3⟩
    · rintro ⟨h1, h2, j, hj, h3⟩
      by_cases hjn : j < n
      · have hm := (ih p).2 ⟨h1, h2, j, hjn, h3⟩
        split
        · exact List.mem_append.2 (.inl hm)
        · exact hm
      · obtain rfl : j = n := by omega
        have hp : p = (d, tileOf r d (firstOf r c t + j)) := Prod.ext h1 h3
        split
        · exact List.mem_append.2 (.inr (by rw [hp]; exact List.mem_singleton.2 rfl))
        · rename_i hc
          rw [hp]
          by_cases hin : (d, tileOf r d (firstOf r c t + j)) ∈ lapK r c t d j
          · exact hin
          · exact absurd ⟨by rw [← h3]; exact h2, hin⟩ hc
theorem lap_iff {r : Rf} {p q : Int × Int} (d : Int) (hp : InR r p) (hq : InR r q) (hw : r.w ≤ 8) : q ∈ lapL r p.1 p.2 d ↔ q.1 = d ∧ -1 ≤ firstOf r p.1 p.2 - firstOf r q.1 q.2 ∧ firstOf r p.1 p.2 - firstOf r q.1 q.2 ≤ 1 := by
  unfold InR at hp hq
  unfold lapL
  have hs := shiftOf_01 r d
  constructor
  · intro h
    split at h
    · rw [lapK_iff3] at h
      obtain ⟨e1, e2, j, hj, e3⟩ := h
      refine ⟨e1, ?_⟩
      unfold firstOf at e3 ⊢
      rw [e1]
      unfold tileOf at e3
      obtain ⟨s, hs'⟩ : ∃ s, s = shiftOf r d := ⟨_, rfl⟩
      rw [← hs'] at e3 hs ⊢
      split at e3 <;> omega
    · simp at h
  · rintro ⟨e1, e2⟩
    rw [if_pos (inB_iff.2 (by omega)), lapK_iff3]
    refine ⟨e1, by omega, ?_⟩
    unfold firstOf at e2 ⊢
    rw [e1] at e2
    unfold tileOf
    obtain ⟨s, hs'⟩ : ∃ s, s = shiftOf r d := ⟨_, rfl⟩
    rw [← hs'] at e2 hs ⊢
    by_cases h0 : 2 * p.2 + shiftOf r p.1 - (2 * q.2 + s) = -1
    · refine ⟨1, by omega, ?_⟩
      rw [if_pos (by omega)]; omega
    · refine ⟨0, by omega, ?_⟩
      rw [if_pos (by omega)]; omega
theorem hasQ_iff {r : Rf} (hv : validB r = true) {p : Int × Int} : hasQ r p = true ↔ InR r p := by
  unfold hasQ
  rw [hasB_valid hv, isPl_iff]
  unfold InR; omega
theorem beside_iff {r : Rf} (hv : validB r = true) {p q : Int × Int} (hp : InR r p) (hq : InR r q) : q ∈ besideL r p.1 p.2 ↔ ((q.1 = p.1 - 1 ∨ q.1 = p.1 + 1) ∧ -1 ≤ firstOf r p.1 p.2 - firstOf r q.1 q.2 ∧ firstOf r p.1 p.2 - firstOf r q.1 q.2 ≤ 1) ∨ (q.1 = p.1 ∧ (q.2 = p.2 - 1 ∨ q.2 = p.2 + 1)) := by
  have vh := valid_head hv
  unfold besideL
  rw [List.mem_append, List.mem_append, lap_iff _ hp hq (by omega), lap_iff _ hp hq (by omega), List.mem_filter, hasQ_iff hv]
  unfold twoL
  rw [List.mem_cons, List.mem_singleton]
  have e1 : q = (p.1, p.2 - 1) ↔ q.1 = p.1 ∧ q.2 = p.2 - 1 := by rw [Prod.ext_iff]
  have e2 : q = (p.1, p.2 + 1) ↔ q.1 = p.1 ∧ q.2 = p.2 + 1 := by rw [Prod.ext_iff]
  rw [e1, e2]
  constructor
  · rintro ((⟨h1, h2⟩ | ⟨h1, h2⟩) | ⟨h, _⟩)
    · exact .inl ⟨.inl h1, h2⟩
    · exact .inl ⟨.inr h1, h2⟩
    · right; omega
  · rintro (⟨h1 | h1, h2⟩ | h)
    · exact .inl (.inl ⟨h1, h2⟩)
    · exact .inl (.inr ⟨h1, h2⟩)
    · exact .inr ⟨by omega, hq⟩
theorem beside_sym {r : Rf} (hv : validB r = true) {p q : Int × Int} (hp : InR r p) (hq : q ∈ besideL r p.1 p.2) : p ∈ besideL r q.1 q.2 := by
  have hqi := beside_in hv q hq
  rw [beside_iff hv hqi hp]
  rcases (beside_iff hv hp hqi).1 hq with ⟨h1, h2⟩ | ⟨h1, h2⟩
  · left; omega
  · right; omega
abbrev kindP (r : Rf) (p : Int × Int) : Int := r.at p.1.toNat p.2.toNat
theorem addQ_pre (r : Rf) (k : Int) (out : List (Int × Int)) (p : Int × Int) : out <+: addQ r k out p := by
  unfold addQ
  split
  · exact List.prefix_append _ _
  · exact List.prefix_rfl
theorem fold_pre (r : Rf) (k : Int) : ∀ (NB out : List (Int × Int)), out <+: NB.foldl (addQ r k) out
  | [], out => List.prefix_rfl
  | p :: NB, out => (addQ_pre r k out p).trans (fold_pre r k NB _)
theorem fold_has (r : Rf) (k : Int) : ∀ (NB out : List (Int × Int)) (y : Int × Int), y ∈ NB → kindP r y = k → y ∈ NB.foldl (addQ r k) out
  | p :: NB, out, y, hy, hk => by
    rcases List.mem_cons.1 hy with rfl | hy
    · refine (fold_pre r k NB _).subset ?_
      show y ∈ addQ r k out y
      unfold addQ
      split
      · simp
      · rename_i h
        by_cases hm : y ∈ out
        · exact hm
        · exact absurd ⟨hk, hm⟩ h
    · exact fold_has r k NB _ y hy hk
theorem fold_min (r : Rf) (k : Int) (S : Int × Int → Prop) : ∀ (NB out : List (Int × Int)), (∀ x ∈ out, S x) → (∀ x ∈ NB, kindP r x = k → S x) → ∀ x ∈ NB.foldl (addQ r k) out, S x
  | [], out, h, _ => h
  | p :: NB, out, h, hN => by
    refine fold_min r k S NB _ (fun x hx => ?_) (fun x hx => hN x (by simp [hx]))
    unfold addQ at hx
    split at hx
    · rename_i hc
      rcases List.mem_append.1 hx with h1 | h1
      · exact h x h1
      · rw [List.mem_singleton] at h1; subst h1; exact hN x (by simp) hc.1
    · exact h x hx
theorem bfs_none (r : Rf) (k : Int) (n : Nat) {i : Nat} {out : List (Int × Int)} (h : out[i]? = none) : bfsQ r k (n + 1) i out = out := by
  show (match out[i]? with | none => out | some p => _) = _
  rw [h]
theorem bfs_some (r : Rf) (k : Int) (n : Nat) {i : Nat} {out : List (Int × Int)} {p : Int × Int} (h : out[i]? = some p) : bfsQ r k (n + 1) i out = bfsQ r k n (i + 1) ((besideL r p.1 p.2).foldl (addQ r k) out) := by
  show (match out[i]? with | none => out | some p => _) = _
  rw [h]
theorem bfs_sub (r : Rf) (k : Int) : ∀ (n i : Nat) (out : List (Int × Int)) (x : Int × Int), x ∈ out → x ∈ bfsQ r k n i out
  | 0, _, _, _, h => h
  | n + 1, i, out, x, h => by
    show x ∈ (match out[i]? with | none => out | some p => _)
    cases h0 : out[i]? with
    | none => exact h
    | some p => exact bfs_sub r k n (i + 1) _ x ((fold_pre r k _ _).subset h)
theorem bfs_min (r : Rf) (k : Int) (S : Int × Int → Prop) (hS : ∀ x y, S x → y ∈ besideL r x.1 x.2 → kindP r y = k → S y) : ∀ (n i : Nat) (out : List (Int × Int)), (∀ x ∈ out, S x) → ∀ x ∈ bfsQ r k n i out, S x
  | 0, _, _, h => h
  | n + 1, i, out, h => by
    cases h0 : out[i]? with
    | none => rw [bfs_none r k n h0]; exact h
    | some p => rw [bfs_some r k n h0]; exact bfs_min r k S hS n (i + 1) _ (fold_min r k S _ _ h (fun x hx hk => hS p x (h p (List.mem_of_getElem? h0)) hx hk))
theorem bfs_closed {r : Rf} (hv : validB r = true) (k : Int) : ∀ (n i : Nat) (out : List (Int × Int)), GoodQ r out → 65 ≤ n + i → (∀ j x, j < i → out[j]? = some x → ∀ y ∈ besideL r x.1 x.2, kindP r y = k → y ∈ out) →
    ∀ x ∈ bfsQ r k n i out, ∀ y ∈ besideL r x.1 x.2, kindP r y = k → y ∈ bfsQ r k n i out
  | 0, i, out, hg, hi, h => fun x hx => by
    obtain ⟨j, hj, rfl⟩ := List.getElem_of_mem hx
    have := good_len hv hg
    exact h j _ (by show j < i; have : j < out.length := hj; omega) (List.getElem?_eq_getElem hj)
  | n + 1, i, out, hg, hi, h => by
    cases h0 : out[i]? with
    | none =>
      rw [bfs_none r k n h0]
      intro x hx
      obtain ⟨j, hj, rfl⟩ := List.getElem_of_mem hx
      have h1 := List.getElem?_eq_none_iff.1 h0
      exact h j _ (by have : j < out.length := hj; omega) (List.getElem?_eq_getElem hj)
    | some p =>
      rw [bfs_some r k n h0]
      have hpre := fold_pre r k (besideL r p.1 p.2) out
      refine bfs_closed hv k n (i + 1) _ (fold_good (k := k) (besideL r p.1 p.2) out hg (beside_in hv)).1 (by omega) ?_
      intro j x hj hx y hy hk
      by_cases hji : j < i
      · have hjo : j < out.length := by have := (List.getElem?_eq_some_iff.1 h0).1; omega
        have hx' : out[j]? = some x := by
          obtain ⟨t, ht⟩ := hpre
          rw [← ht, List.getElem?_append_left hjo] at hx
          exact hx
        exact hpre.subset (h j x hji hx' y hy hk)
      · obtain rfl : j = i := by omega
        have hjo := (List.getElem?_eq_some_iff.1 h0).1
        have hx' : out[j]? = some x := by
          obtain ⟨t, ht⟩ := hpre
          rw [← ht, List.getElem?_append_left hjo] at hx
          exact hx
        obtain rfl := Option.some.inj (h0.symm.trans hx')
        exact fold_has r k _ _ y hy hk
theorem F_self (r : Rf) (p : Int × Int) : p ∈ patchF r p.1 p.2 := bfs_sub r _ _ _ _ _ (by simp)
theorem F_kind (r : Rf) {p x : Int × Int} (hx : x ∈ patchF r p.1 p.2) : kindP r x = kindP r p := bfs_min r _ (fun x => kindP r x = kindP r p) (fun _ y _ _ hk => hk) _ _ _ (fun y hy => by simp at hy; subst hy; rfl) x hx
theorem F_closed {r : Rf} (hv : validB r = true) {p x y : Int × Int} (hp : InR r p) (hx : x ∈ patchF r p.1 p.2) (hy : y ∈ besideL r x.1 x.2) (hk : kindP r y = kindP r p) : y ∈ patchF r p.1 p.2 :=
  bfs_closed hv _ 65 0 [(p.1, p.2)] ⟨by simp, fun q hq => by simp at hq; subst hq; exact hp⟩ (by omega) (fun j x hj => by omega) x hx y hy hk
theorem F_min (r : Rf) {p x : Int × Int} (S : Int × Int → Prop) (hp : S p) (hS : ∀ x y, S x → y ∈ besideL r x.1 x.2 → kindP r y = kindP r p → S y) (hx : x ∈ patchF r p.1 p.2) : S x :=
  bfs_min r _ S hS _ _ _ (fun y hy => by simp at hy; subst hy; exact hp) x hx
theorem F_in {r : Rf} (hv : validB r = true) {p x : Int × Int} (hp : InR r p) (hx : x ∈ patchF r p.1 p.2) : InR r x := (patchF_good hv (show InR r (p.1, p.2) from hp)).2 x hx
theorem F_sub {r : Rf} (hv : validB r = true) {p x y : Int × Int} (hp : InR r p) (hx : x ∈ patchF r p.1 p.2) (hy : y ∈ patchF r x.1 x.2) : y ∈ patchF r p.1 p.2 :=
  F_min r (fun y => y ∈ patchF r p.1 p.2) hx (fun u v hu hv' hk => F_closed hv hp hu hv' (hk.trans (F_kind r hx))) hy
theorem F_sym {r : Rf} (hv : validB r = true) {p x : Int × Int} (hp : InR r p) (hx : x ∈ patchF r p.1 p.2) : p ∈ patchF r x.1 x.2 :=
  (F_min r (fun x => InR r x ∧ kindP r x = kindP r p ∧ p ∈ patchF r x.1 x.2) ⟨hp, rfl, F_self r p⟩ (fun u v hu hv' hk => by
    have hvi := beside_in hv v hv'
    refine ⟨hvi, hk, ?_⟩
    have h1 : u ∈ patchF r v.1 v.2 := F_closed hv hvi (F_self r v) (beside_sym hv hu.1 hv') (by rw [hu.2.1, hk])
    exact F_sub hv hvi h1 hu.2.2) hx).2.2
theorem patchL_eq {r : Rf} (hv : validB r = true) {p : Int × Int} (hp : InR r p) : patchL r p.1 p.2 = (allR r).filter fun q => decide (q ∈ patchF r p.1 p.2) := patch_filter hv (patchF_good hv (show InR r (p.1, p.2) from hp))
theorem mem_patchL {r : Rf} (hv : validB r = true) {p q : Int × Int} : q ∈ patchL r p.1 p.2 ↔ q ∈ patchF r p.1 p.2 := (sortP_permR _).mem_iff
theorem patchL_same {r : Rf} (hv : validB r = true) {p q : Int × Int} (hp : InR r p) (hq : q ∈ patchF r p.1 p.2) : patchL r q.1 q.2 = patchL r p.1 p.2 := by
  have hqi := F_in hv hp hq
  rw [patchL_eq hv hp, patchL_eq hv hqi]
  refine List.filter_congr fun x _ => ?_
  rw [decide_eq_decide]
  exact ⟨fun h => F_sub hv hp hq h, fun h => F_sub hv hqi (F_sym hv hp hq) h⟩
theorem patchL_sorted {r : Rf} (hv : validB r = true) {p : Int × Int} (hp : InR r p) : (patchL r p.1 p.2).Pairwise fun x y => lessP x y = true := by
  rw [patchL_eq hv hp]; exact (allR_sorted r).filter _
def tilesR (r : Rf) (k : Int) : List (Int × Int) := tilesL r k (allR r)
theorem mem_tilesR {r : Rf} (hv : validB r = true) {k : Int} {p : Int × Int} : p ∈ tilesR r k ↔ InR r p ∧ kindP r p = k := by
  unfold tilesR tilesL
  rw [List.mem_filter, mem_allR hv, decide_eq_true_iff]
theorem tilesR_sorted (r : Rf) (k : Int) : (tilesR r k).Pairwise fun x y => lessP x y = true := (allR_sorted r).filter _
theorem allR_len {r : Rf} (hv : validB r = true) : (allR r).length ≤ 64 := by
  have vh := valid_head hv
  unfold allR
  rw [allUp_len]
  have : r.h.toNat * r.w.toNat ≤ 8 * 8 := Nat.mul_le_mul (by omega) (by omega)
  omega
theorem tilesR_len {r : Rf} (hv : validB r = true) (k : Int) : (tilesR r k).length ≤ 64 := Nat.le_trans (List.length_filter_le _ _) (allR_len hv)
/-- Is a tile the first of its patch? -/
def headB (r : Rf) (p : Int × Int) : Bool := decide ((patchL r p.1 p.2)[0]? = some p)
/-- The patches of the first j tiles of a list. -/
def patsL (r : Rf) (L : List (Int × Int)) (j : Nat) : List (List (Int × Int)) := ((L.take j).filter (headB r)).map fun p => patchL r p.1 p.2
theorem patsL_yes {r : Rf} {L : List (Int × Int)} {j : Nat} {p : Int × Int} (hp : L[j]? = some p) (h : headB r p = true) : patsL r L (j + 1) = patsL r L j ++ [patchL r p.1 p.2] := by
  obtain ⟨hj, rfl⟩ := List.getElem?_eq_some_iff.1 hp
  unfold patsL
  rw [List.take_succ_eq_append_getElem hj, List.filter_append, List.map_append]
  simp [h]
theorem patsL_no {r : Rf} {L : List (Int × Int)} {j : Nat} {p : Int × Int} (hp : L[j]? = some p) (h : headB r p = false) : patsL r L (j + 1) = patsL r L j := by
  obtain ⟨hj, rfl⟩ := List.getElem?_eq_some_iff.1 hp
  unfold patsL
  rw [List.take_succ_eq_append_getElem hj, List.filter_append, List.map_append]
  simp [h]
theorem patchL_head {r : Rf} (hv : validB r = true) {p : Int × Int} (hp : InR r p) : ∃ h, (patchL r p.1 p.2)[0]? = some h ∧ h ∈ patchF r p.1 p.2 ∧ ∀ q ∈ patchF r p.1 p.2, q = h ∨ lessP h q = true := by
  have h1 : p ∈ patchL r p.1 p.2 := (mem_patchL hv).2 (F_self r p)
  have h2 := patchL_sorted hv hp
  have h3 := fun q => mem_patchL (r := r) hv (p := p) (q := q)
  cases hL : patchL r p.1 p.2 with
  | nil => rw [hL] at h1; simp at h1
  | cons x xs =>
    rw [hL] at h2 h3
    refine ⟨x, rfl, (h3 x).1 (by simp), fun q hq => ?_⟩
    rcases List.mem_cons.1 ((h3 q).2 hq) with rfl | h
    · exact .inl rfl
    · exact .inr ((List.pairwise_cons.1 h2).1 q h)
theorem done_iff {r : Rf} (hv : validB r = true) {k : Int} {j : Nat} {p : Int × Int} (hp : (tilesR r k)[j]? = some p) : p ∈ (patsL r (tilesR r k) j).flatten ↔ headB r p = false := by
  obtain ⟨hj, hpj⟩ := List.getElem?_eq_some_iff.1 hp
  have hpm := (mem_tilesR hv).1 (List.mem_of_getElem? hp)
  have hsort := tilesR_sorted r k
  have hlt : ∀ i, (h : i < j) → lessP ((tilesR r k)[i]'(by omega)) p = true := fun i h => by rw [← hpj]; exact List.pairwise_iff_getElem.1 hsort i j (by omega) hj h
  unfold patsL
  rw [List.mem_flatten]
  constructor
  · rintro ⟨l, hl, hpl⟩
    obtain ⟨q, hq, rfl⟩ := List.mem_map.1 hl
    have hq1 := (List.mem_filter.1 hq).1
    obtain ⟨i, hi, rfl⟩ := List.getElem_of_mem hq1
    rw [List.length_take] at hi
    rw [List.getElem_take] at hpl
    have hqi := (mem_tilesR hv).1 (List.getElem_mem (l := tilesR r k) (n := i) (by omega))
    have h1 := (mem_patchL hv).1 hpl
    have h2 := F_sym hv hqi.1 h1
    obtain ⟨h, e1, e2, e3⟩ := patchL_head hv hpm.1
    unfold headB
    rw [decide_eq_false_iff_not, e1]
    intro e
    obtain rfl := Option.some.inj e
    have h3 := hlt i (by omega)
    rcases e3 _ h2 with h4 | h4
    · rw [h4] at h3; simp [lessP] at h3
    · exact absurd h4 (by simp [lessP] at h3 ⊢; omega)
  · intro hh
    obtain ⟨h, e1, e2, e3⟩ := patchL_head hv hpm.1
    have hne : h ≠ p := fun e => by unfold headB at hh; rw [decide_eq_false_iff_not] at hh; exact hh (by rw [e1, e])
    have hl : lessP h p = true := by
      rcases e3 p (F_self r p) with h4 | h4
      · exact absurd h4.symm hne
      · exact h4
    have hhi := F_in hv hpm.1 e2
    have hhm : h ∈ tilesR r k := (mem_tilesR hv).2 ⟨hhi, (F_kind r e2).trans hpm.2⟩
    obtain ⟨i, hi, hih⟩ := List.getElem_of_mem hhm
    have hij : i < j := by
      rcases Nat.lt_trichotomy i j with h0 | h0 | h0
      · exact h0
      · subst h0; rw [hih] at hpj; exact absurd hpj hne
      · have := List.pairwise_iff_getElem.1 hsort j i hj hi h0
        rw [hpj, hih] at this
        simp [lessP] at this hl; omega
    have hsame := patchL_same hv hpm.1 e2
    refine ⟨patchL r h.1 h.2, List.mem_map.2 ⟨h, List.mem_filter.2 ⟨List.mem_iff_getElem.2 ⟨i, by rw [List.length_take]; omega, by rw [List.getElem_take]; exact hih⟩, ?_⟩, rfl⟩, ?_⟩
    · unfold headB
      rw [decide_eq_true_iff, hsame, e1]
    · rw [hsame]; exact (mem_patchL hv).2 (F_self r p)
end Go.Proofs.Ytfijinbdpfeceaa

/- Slices of slices of places: the laws compare, mark and read them. -/
namespace Go.Proofs.Ytfijinbdpfeceaa
open Go.RowKit
set_option linter.unusedSimpArgs false
set_option linter.unusedVariables false

def tot (ls : List (List (Int × Int))) : Nat := (ls.map List.length).sum
theorem tot_take (ls : List (List (Int × Int))) {k : Nat} {l : List (Int × Int)} (h : ls[k]? = some l) : tot (ls.take (k + 1)) = tot (ls.take k) + l.length := by
  obtain ⟨hk, rfl⟩ := List.getElem?_eq_some_iff.1 h
  unfold tot
  rw [List.take_succ_eq_append_getElem hk, List.map_append, List.sum_append]
  simp
theorem tot_take_le (ls : List (List (Int × Int))) (k : Nat) : tot (ls.take k) ≤ tot ls := by
  conv => rhs; rw [← List.take_append_drop k ls]
  unfold tot
  rw [List.map_append, List.sum_append]
  omega
theorem tot_get {ls : List (List (Int × Int))} {k : Nat} {l : List (Int × Int)} (h : ls[k]? = some l) : l.length ≤ tot ls := by
  have := tot_take ls h
  have := tot_take_le ls (k + 1)
  omega
/-- The first k lists marked, from m on. -/
def mkLL (ls : List (List (Int × Int))) (m : Int) (k : Nat) : List (List (Int × Int)) := (List.range ls.length).map fun j => if j < k then mkL (ls.getD j []) (m + 2 * ((tot (ls.take j) : Nat) : Int)) (ls.getD j []).length else ls.getD j []
theorem mkLL_len (ls : List (List (Int × Int))) (m : Int) (k : Nat) : (mkLL ls m k).length = ls.length := by simp [mkLL]
theorem mkLL_get (ls : List (List (Int × Int))) (m : Int) (k j : Nat) : (mkLL ls m k)[j]? = (ls[j]?).map fun l => if j < k then mkL l (m + 2 * ((tot (ls.take j) : Nat) : Int)) l.length else l := by
  unfold mkLL
  rw [List.getElem?_map]
  by_cases hj : j < ls.length
  · rw [List.getElem?_range hj, List.getElem?_eq_getElem hj]
    simp only [Option.map_some, List.getD_eq_getElem?_getD, List.getElem?_eq_getElem hj, Option.getD_some]
  · rw [List.getElem?_eq_none (by simpa using hj), List.getElem?_eq_none (by omega)]; rfl
theorem mkLL_zero (ls : List (List (Int × Int))) (m : Int) : mkLL ls m 0 = ls := by
  apply List.ext_getElem?
  intro j
  rw [mkLL_get]
  cases ls[j]? <;> simp
theorem mkLL_step (ls : List (List (Int × Int))) (m : Int) {k : Nat} {l : List (Int × Int)} (h : ls[k]? = some l) : (mkLL ls m k).set k (mkL l (m + 2 * ((tot (ls.take k) : Nat) : Int)) l.length) = mkLL ls m (k + 1) := by
  apply List.ext_getElem?
  intro j
  have hk := (List.getElem?_eq_some_iff.1 h).1
  rw [List.getElem?_set, mkLL_get, mkLL_get, mkLL_len]
  by_cases e : k = j
  · subst e
    rw [if_pos rfl, if_pos hk, h]
    simp
  · rw [if_neg e]
    cases ls[j]? with
    | none => rfl
    | some x =>
      simp only [Option.map_some]
      by_cases h2 : j < k
      · rw [if_pos h2, if_pos (by omega)]
      · rw [if_neg h2, if_neg (by omega)]
/-- A slice of slices: row j lies in block g j, no two in the same, none in the outer slice's. -/
structure PPs (lo hi : Nat) (w : World) (A : Option Addr) (g c : Nat → Nat) (ls : List (List (Int × Int))) : Prop where
  out : ∀ j l, ls[j]? = some l → ∃ b cs, A = some ⟨b, 0, none⟩ ∧ lo ≤ b ∧ b < hi ∧ (∀ k, k < ls.length → b ≠ g k) ∧ w.heap[b]? = some (.cells cs 33 (0, 0)) ∧ cs[j]? = some (Value.slice (some ⟨g j, 0, none⟩) l.length (c j))
  row : ∀ j l, ls[j]? = some l → lo ≤ g j ∧ g j < hi ∧ OwQ (g j) (g j + 1) w (.slice (some ⟨g j, 0, none⟩) l.length (c j)) l
  sep : ∀ i j, i < ls.length → j < ls.length → i ≠ j → g i ≠ g j
theorem PPs.below {lo hi B : Nat} {w w' : World} {A : Option Addr} {g c : Nat → Nat} {ls : List (List (Int × Int))} (h : PPs lo hi w A g c ls) (hb : Below B w w') (hB : hi ≤ B) : PPs lo hi w' A g c ls :=
  ⟨fun j l hj => by obtain ⟨b, cs, h1, h2, h3, h4, h5, h6⟩ := h.out j l hj; exact ⟨b, cs, h1, h2, h3, h4, block_below hb h5 (by omega), h6⟩,
   fun j l hj => by obtain ⟨h1, h2, h3⟩ := h.row j l hj; exact ⟨h1, h2, h3.below' hb (by omega)⟩, h.sep⟩
theorem PPs.outS {lo hi lo' hi' : Nat} {w w' : World} {A : Option Addr} {g c : Nat → Nat} {ls : List (List (Int × Int))} (h : PPs lo hi w A g c ls) (hO : OutS lo' hi' w w') (hd : hi ≤ lo' ∨ hi' ≤ lo) : PPs lo hi w' A g c ls :=
  ⟨fun j l hj => by obtain ⟨b, cs, h1, h2, h3, h4, h5, h6⟩ := h.out j l hj; exact ⟨b, cs, h1, h2, h3, h4, hO.keep h5 (by omega), h6⟩,
   fun j l hj => by obtain ⟨h1, h2, h3⟩ := h.row j l hj; exact ⟨h1, h2, h3.outS hO (by omega)⟩, h.sep⟩
theorem PPs.put {lo hi : Nat} {w w' : World} {A : Option Addr} {g c : Nat → Nat} {ls : List (List (Int × Int))} (h : PPs lo hi w A g c ls) {k : Nat} {l l' : List (Int × Int)} (hk : ls[k]? = some l) (hO : OutS (g k) (g k + 1) w w')
    (hl : l'.length = l.length) (hn : OwQ (g k) (g k + 1) w' (.slice (some ⟨g k, 0, none⟩) l.length (c k)) l') : PPs lo hi w' A g c (ls.set k l') := by
  have hkl := (List.getElem?_eq_some_iff.1 hk).1
  have len : (ls.set k l').length = ls.length := List.length_set
  have key : ∀ j x, (ls.set k l')[j]? = some x → (j = k ∧ x = l') ∨ (j ≠ k ∧ ls[j]? = some x) := by
    intro j x hj
    rw [List.getElem?_set] at hj
    by_cases e : k = j
    · subst e
      rw [if_pos rfl, if_pos hkl] at hj
      exact .inl ⟨rfl, (Option.some.inj hj).symm⟩
    · rw [if_neg e] at hj
      exact .inr ⟨fun e' => e e'.symm, hj⟩
  refine ⟨?_, ?_, fun i j => by rw [len]; exact h.sep i j⟩
  · intro j x hj
    rw [len]
    rcases key j x hj with ⟨rfl, rfl⟩ | ⟨hne, h0⟩
    · obtain ⟨b, cs, h1, h2, h3, h4, h5, h6⟩ := h.out _ _ hk
      exact ⟨b, cs, h1, h2, h3, h4, hO.keep h5 (by have := h4 _ hkl; omega), by rw [hl]; exact h6⟩
    · obtain ⟨b, cs, h1, h2, h3, h4, h5, h6⟩ := h.out _ _ h0
      exact ⟨b, cs, h1, h2, h3, h4, hO.keep h5 (by have := h4 _ hkl; omega), h6⟩
  · intro j x hj
    rcases key j x hj with ⟨rfl, rfl⟩ | ⟨hne, h0⟩
    · obtain ⟨h1, h2, h3⟩ := h.row _ _ hk
      exact ⟨h1, h2, by rw [hl]; exact hn⟩
    · obtain ⟨h1, h2, h3⟩ := h.row _ _ h0
      exact ⟨h1, h2, h3.outS hO (by have := h.sep j k (List.getElem?_eq_some_iff.1 h0).1 hkl hne; omega)⟩
def OwPP (lo hi : Nat) (w : World) (v : Value) (ls : List (List (Int × Int))) : Prop := (∃ A n g c, v = .slice A ls.length n ∧ PPs lo hi w A g c ls) ∧ lo ≤ hi ∧ hi ≤ w.heap.size
theorem OwPP.below {lo hi : Nat} {w w' : World} {v : Value} {ls : List (List (Int × Int))} (h : OwPP lo hi w v ls) (hb : Below w.heap.size w w') : OwPP lo hi w' v ls := by
  obtain ⟨⟨A, n, g, c, rfl, h1⟩, h2, h3⟩ := h
  exact ⟨⟨A, n, g, c, rfl, h1.below hb h3⟩, h2, Nat.le_trans h3 hb.size⟩
theorem OwPP.outS {lo hi lo' hi' : Nat} {w w' : World} {v : Value} {ls : List (List (Int × Int))} (h : OwPP lo hi w v ls) (hO : OutS lo' hi' w w') (hd : hi ≤ lo' ∨ hi' ≤ lo) : OwPP lo hi w' v ls := by
  obtain ⟨⟨A, n, g, c, rfl, h1⟩, h2, h3⟩ := h
  exact ⟨⟨A, n, g, c, rfl, h1.outS hO hd⟩, h2, Nat.le_trans h3 hO.size⟩
/-- What a call that makes such a slice returns. -/
def RetPP (w : World) (ls : List (List (Int × Int))) (k : Int) (e : Ending) (w' : World) : Prop := ∃ v, e = .returned (.tuple #[v, .int .i64 k]) ∧ Below w.heap.size w w' ∧ OwPP w.heap.size w'.heap.size w' v ls
theorem OwPP.of {w w' : World} {v : Value} {ls : List (List (Int × Int))} (h : OwPP w.heap.size w'.heap.size w' v ls) (hb : Below w.heap.size w w') : OwPP w.heap.size w'.heap.size w' v ls := h
theorem owpp_slc {lo hi : Nat} {w : World} {v : Value} {ls : List (List (Int × Int))} (h : OwPP lo hi w v ls) : ∃ A c, v = .slice A ls.length c := by
  obtain ⟨⟨A, n, g, c, rfl, h1⟩, h2, h3⟩ := h
  exact ⟨_, _, rfl⟩
theorem OutS.wide {lo hi lo' hi' : Nat} {w w' : World} (h : OutS lo hi w w') (h1 : lo' ≤ lo) (h2 : hi ≤ hi') : OutS lo' hi' w w' := ⟨h.size, fun b hb hr => h.block b hb (by omega)⟩
theorem OutS.of_below {B lo hi : Nat} {w w' : World} (h : Below B w w') (hB : w.heap.size ≤ B) : OutS lo hi w w' := ⟨h.size, fun b hb _ => h.block b (by omega)⟩
end Go.Proofs.Ytfijinbdpfeceaa

/- Rows of rows that a call owns. -/
namespace Go.Proofs.Ytfijinbdpfeceaa
open Go.RowKit
set_option linter.unusedSimpArgs false
set_option linter.unusedVariables false

/-- Slices, each with an array of its own, none of them that of vout; slice j holds the cells xss[j]. -/
structure RowsG (B : Nat) (T : TypeId) (sz : Nat) (w : World) (vout : Value) (vs : List Value) (xss : List (Nat × List Value)) : Prop where
  len : vs.length = xss.length
  row : ∀ (j : Nat) (v : Value) (x : Nat × List Value), vs[j]? = some v → xss[j]? = some x → w.ownsRow B T sz v x.1 x.2 ∧ Apart v vout
  sep : ∀ (i j : Nat) (v v' : Value), i ≠ j → vs[i]? = some v → vs[j]? = some v' → Apart v v'
theorem RowsG.nil (B : Nat) (T : TypeId) (sz : Nat) (w : World) (vout : Value) : RowsG B T sz w vout [] [] := ⟨rfl, fun j v x h => by simp at h, fun i j v v' _ h => by simp at h⟩
theorem RowsG.below {B B' : Nat} {T : TypeId} {sz : Nat} {w w' : World} {vout : Value} {vs : List Value} {xss : List (Nat × List Value)} (h : RowsG B T sz w vout vs xss) (hb : Below B' w w') (hB : w.heap.size ≤ B') : RowsG B T sz w' vout vs xss :=
  ⟨h.len, fun j v x hv hx => ⟨owns_below2 (h.row j v x hv hx).1 hb hB, (h.row j v x hv hx).2⟩, h.sep⟩
/-- The outer slice has grown. -/
theorem RowsG.grew {B : Nat} {T : TypeId} {sz : Nat} {w w' : World} {vout vout' : Value} {vs : List Value} {xss : List (Nat × List Value)} (h : RowsG B T sz w vout vs xss) (hg : Grew vout vout' w w') : RowsG B T sz w' vout' vs xss :=
  ⟨h.len, fun j v x hv hx => ⟨hg.row (h.row j v x hv hx).1 (h.row j v x hv hx).2, hg.apart (h.row j v x hv hx).1 (h.row j v x hv hx).2⟩, h.sep⟩
theorem RowsG.lt {B : Nat} {T : TypeId} {sz : Nat} {w : World} {vout : Value} {vs : List Value} {xss : List (Nat × List Value)} (h : RowsG B T sz w vout vs xss) {j : Nat} {v : Value} (hv : vs[j]? = some v) : ∀ g, v.ownBlock = some g → B ≤ g ∧ g < w.heap.size := by
  have hj := (List.getElem?_eq_some_iff.1 hv).1
  have hx := List.getElem?_eq_getElem (h.len ▸ hj : j < xss.length)
  exact (h.row j v _ hv hx).1.lt
/-- One slice more, with an array from block H on. -/
theorem RowsG.snoc {B H : Nat} {T : TypeId} {sz : Nat} {w : World} {vout : Value} {vs : List Value} {xss : List (Nat × List Value)} (h : RowsG B T sz w vout vs xss) {v : Value} {x : Nat × List Value} (hv : w.ownsRow B T sz v x.1 x.2) (hnew : ∀ g, v.ownBlock = some g → H ≤ g)
    (hold : ∀ (j : Nat) (u : Value) (g : Nat), vs[j]? = some u → u.ownBlock = some g → g < H) (hout : ∀ g, vout.ownBlock = some g → g < H) : RowsG B T sz w vout (vs ++ [v]) (xss ++ [x]) := by
  have hva : ∀ (j : Nat) (u : Value), vs[j]? = some u → Apart u v := fun j u hu g h1 h2 => by have := hold j u g hu h1; have := hnew g h2; omega
  refine ⟨by simp [h.len], ?_, ?_⟩
  · intro j u y hu hy
    by_cases hj : j < vs.length
    · rw [List.getElem?_append_left hj] at hu
      rw [List.getElem?_append_left (h.len ▸ hj)] at hy
      exact h.row j u y hu hy
    · have hj2 : j < vs.length + 1 := by have := (List.getElem?_eq_some_iff.1 hu).1; simpa using this
      have hj3 : j = vs.length := by omega
      rw [List.getElem?_append_right (by omega), hj3] at hu
      rw [List.getElem?_append_right (by have := h.len; omega), hj3, h.len] at hy
      simp at hu hy
      subst hu hy
      exact ⟨hv, fun g h1 h2 => by have := hnew g h1; have := hout g h2; omega⟩
  · intro i j u u' hij hu hu'
    have key : ∀ (i : Nat) (u : Value), (vs ++ [v])[i]? = some u → (i < vs.length ∧ vs[i]? = some u) ∨ (i = vs.length ∧ u = v) := by
      intro i u hu
      by_cases hi : i < vs.length
      · left; rw [List.getElem?_append_left hi] at hu; exact ⟨hi, hu⟩
      · right
        have hi2 : i < vs.length + 1 := by have := (List.getElem?_eq_some_iff.1 hu).1; simpa using this
        have hi3 : i = vs.length := by omega
        rw [List.getElem?_append_right (by omega), hi3] at hu
        simp at hu
        exact ⟨hi3, hu.symm⟩
    rcases key i u hu with ⟨_, h1⟩ | ⟨h1, h2⟩ <;> rcases key j u' hu' with ⟨_, h3⟩ | ⟨h3, h4⟩
    · exact h.sep i j u u' hij h1 h3
    · subst h4; exact hva i u h1
    · subst h2; exact (hva j u' h3).symm
    · omega

theorem owns_one {w : World} {base : Nat} {T : TypeId} {s n : Nat} {v : Value} {xs : List Value} (h : w.ownsRow base T s v n xs) : v.oneCell' = true := by
  obtain ⟨A, c, rfl⟩ := owns_slc h; rfl
end Go.Proofs.Ytfijinbdpfeceaa

/- Slices of slices of places, out of rows of rows. -/
namespace Go.Proofs.Ytfijinbdpfeceaa
open Go.RowKit
set_option linter.unusedSimpArgs false
set_option linter.unusedVariables false

theorem Try.infoSlQ : (Try.prog.info? 33).map (fun i => (i.zero, i.size, i.bytes)) = some (some (.slice none 0 0), 1, 24) := by kernel_rfl
def cellsOfQ (L : List (List (Int × Int))) : List (Nat × List Value) := L.map fun l => (l.length, pcells l)
theorem cellsOfQ_snoc (L : List (List (Int × Int))) (l : List (Int × Int)) : cellsOfQ (L ++ [l]) = cellsOfQ L ++ [(l.length, pcells l)] := by simp [cellsOfQ]
def blkOf : Value → Nat
  | .slice (some a) _ _ => a.block
  | _ => 0
def capOf : Value → Nat
  | .slice _ _ c => c
  | _ => 0
theorem OwPP.of_rows {B lo : Nat} {w : World} {v : Value} {vs : List Value} {ls : List (List (Int × Int))} (hne : ∀ l ∈ ls, l ≠ []) (ho : w.ownsRow B 33 1 v ls.length vs) (hr : RowsG B 42 2 w v vs (cellsOfQ ls)) (hl : lo ≤ B) (hs : lo ≤ w.heap.size) : OwPP lo w.heap.size w v ls := by
  obtain ⟨A, n, rfl⟩ := owns_slc ho
  have key : ∀ (j : Nat) (l : List (Int × Int)), ls[j]? = some l → ∃ (x : Value) (g c : Nat), vs[j]? = some x ∧ x = .slice (some ⟨g, 0, none⟩) l.length c ∧ B ≤ g ∧ g < w.heap.size ∧ OwQ g (g + 1) w x l ∧ Apart x (.slice A ls.length n) := by
    intro j l hj
    have hjl := (List.getElem?_eq_some_iff.1 hj).1
    have hjv : j < vs.length := by have := ho.1; omega
    have hv := List.getElem?_eq_getElem hjv
    have hx : (cellsOfQ ls)[j]? = some (l.length, pcells l) := by unfold cellsOfQ; rw [List.getElem?_map, hj]; rfl
    have hrow := hr.row j _ _ hv hx
    have hP := OwP.of_owns hrow.1
    obtain ⟨A', c', e, h⟩ := hP
    obtain ⟨b, cs, rfl, h1, h2, h3, h4, h5⟩ := h (hne l (List.mem_of_getElem? hj))
    refine ⟨_, b, c', hv, e, h1, h2, ⟨⟨_, c', e, fun _ => ⟨b, cs, rfl, Nat.le_refl _, by omega, h3, h4, h5⟩⟩, by omega, by omega⟩, hrow.2⟩
  refine ⟨⟨A, n, fun j => blkOf (vs.getD j undef), fun j => capOf (vs.getD j undef), rfl, ?_, ?_, ?_⟩, hs, Nat.le_refl _⟩
  · intro j l hj
    obtain ⟨x, g, c, hv, rfl, hB, hg, hq, hap⟩ := key j l hj
    have hjl := (List.getElem?_eq_some_iff.1 hj).1
    have e : vs.getD j undef = .slice (some ⟨g, 0, none⟩) l.length c := by rw [List.getD_eq_getElem?_getD, hv]; rfl
    rcases ho.2 with ⟨hn, h0⟩ | ⟨g', cap, cur, e', hb, hheap, hcap, hmax, hsz, htk⟩
    · omega
    · obtain ⟨rfl, _, rfl⟩ := Value.slice.inj e'
      refine ⟨g', cur, rfl, by omega, block_lt hheap, ?_, hheap, ?_⟩
      · intro k hk
        obtain ⟨y, gy, cy, hvy, rfl, hBy, _, _, hapy⟩ := key k _ (List.getElem?_eq_getElem hk)
        have e2 : vs.getD k undef = .slice (some ⟨gy, 0, none⟩) (ls[k]).length cy := by rw [List.getD_eq_getElem?_getD, hvy]; rfl
        intro hE
        show False
        rw [e2] at hE
        exact hapy gy rfl (by rw [hE]; rfl)
      · rw [e]
        show cur[j]? = some (Value.slice (some ⟨g, 0, none⟩) l.length c)
        rw [← hv, ← htk, List.getElem?_take, if_pos (by omega), Array.getElem?_toList]
  · intro j l hj
    obtain ⟨x, g, c, hv, rfl, hB, hg, hq, hap⟩ := key j l hj
    have e : vs.getD j undef = .slice (some ⟨g, 0, none⟩) l.length c := by rw [List.getD_eq_getElem?_getD, hv]; rfl
    rw [e]
    exact ⟨by show lo ≤ g; omega, hg, hq⟩
  · intro i j hi hj hij
    obtain ⟨x, g, c, hv, rfl, _⟩ := key i _ (List.getElem?_eq_getElem hi)
    obtain ⟨y, gy, cy, hvy, rfl, _⟩ := key j _ (List.getElem?_eq_getElem hj)
    have e : vs.getD i undef = .slice (some ⟨g, 0, none⟩) (ls[i]).length c := by rw [List.getD_eq_getElem?_getD, hv]; rfl
    have e2 : vs.getD j undef = .slice (some ⟨gy, 0, none⟩) (ls[j]).length cy := by rw [List.getD_eq_getElem?_getD, hvy]; rfl
    rw [e, e2]
    intro hE
    exact hr.sep i j _ _ hij hv hvy g rfl (by rw [show g = gy from hE]; rfl)
theorem OwPP.nil {lo : Nat} {w : World} {A : Option Addr} {c : Nat} (h : lo ≤ w.heap.size) : OwPP lo w.heap.size w (.slice A 0 c) [] :=
  ⟨⟨A, c, fun _ => 0, fun _ => 0, rfl, fun j l hj => by simp at hj, fun j l hj => by simp at hj, fun i j hi => by simp at hi⟩, h, Nat.le_refl _⟩
end Go.Proofs.Ytfijinbdpfeceaa

/- TilesOf and CountKind, the program's and the reference's. -/
namespace Go.Proofs.Ytfijinbdpfeceaa
open Go.RowKit
set_option linter.unusedSimpArgs false
set_option linter.unusedVariables false

theorem owns_of_alloc {w w' : World} {o : Obj} {T : TypeId} {v : Value} {n : Nat} {xs : List Value} (h : w'.ownsRow (w.alloc o).heap.size T 2 v n xs) : w'.ownsRow w.heap.size T 2 v n xs := h.mono (by simp)
set_option maxRecDepth 100000 in
theorem c_ofKindClo (r : Rf) (hr : r.Ok) (n c t : Int) (hc : 0 ≤ c ∧ c ≤ 7) (ht : 0 ≤ t ∧ t ≤ 7) (b1 b2 : Nat) (w : World) (h1 : w.heap[b1]? = some (.cells (rcells r) 27 (0,0))) (h2 : w.heap[b2]? = some (.cells #[.int .u8 n] 5 (0,0))) :
    Calls Try.prog 75 #[.agg #[.int .i8 c, .int .i8 t], .pointer (some ⟨b1,0,none⟩), .pointer (some ⟨b2,0,none⟩)] w fun e w' => e = .returned (.bool (decide (r.at c.toNat t.toNat = n))) ∧ Below w.heap.size w w' := by
  have l1 := block_lt h1
  have l2 := block_lt h2
  have l1' : b1 < w.heap.size + 1 := by omega
  have l2' : b2 < w.heap.size + 1 := by omega
  have l0 : w.heap.size < w.heap.size + 1 := by omega
  have c2 : (w.alloc (.cells #[.int .i8 c, .int .i8 t] 42)).cell? ⟨b2, 0, none⟩ = some (.int .u8 n) := cell_block (block_alloc h2 _) rfl
  have HB : Hid (w.heap.size + 1 ≤ (w.alloc (.cells #[.int .i8 c, .int .i8 t] 42)).heap.size) := by simp [Hid]
  have L0 : ∀ x : Ext (w.heap.size + 1) (w.alloc (.cells #[.int .i8 c, .int .i8 t] 42)), (Instr.loadAt 27 (.pointer (some ⟨b1, 0, none⟩))).run Try.prog x.out = .ok (.agg (rcells r)) x.out := fun x =>
    run_load_roof 27 Try.underlying27 rfl Try.infoRoof hr (block_below x.h (block_alloc h1 _) (by omega))
  have R0 := hid L0; clear L0
  clear h1 h2
  go_enter Try.func75, Try.ntmps75
  go_wp2_with fail
  refine wp_region_ext (w.heap.size + 1) (by kernel_rfl) (by kernel_rfl) ?_
  repeat (first
    | ((with_reducible refine wpQuiet_run (N := 5) rfl rfl (.agg (rcells r)) ?_ ?_); (rintro _ ⟨x, rfl⟩; exact execOp_load rfl rfl (R0.out x)); go_simp)
    | go_big_quiet_step ((go_at_call 42; with_reducible exact Calls.ext HB.out (c_kind r hr c t hc ht _))))
  refine wpQuiet_nil ?_
  intro x
  go_wp2_with fail
  go_ret
  exact ⟨by simp; rfl, ((Below.refl _ w).alloc (Nat.le_refl _) _).trans (x.h.mono (by omega))⟩
set_option maxRecDepth 100000 in
theorem c_ofKind (r : Rf) (hr : r.Ok) (hv : validB r = true) (n : Int) (w : World) :
    Calls Try.prog 55 #[.agg (rcells r), .int .u8 n] w fun e w' => ∃ v, e = .returned v ∧ Below w.heap.size w w' ∧ w'.ownsRow w.heap.size 42 2 v (tilesL r n (allUp r.w.toNat r.h.toNat 0)).length (pcells (tilesL r n (allUp r.w.toNat r.h.toNat 0))) := by
  have vh := valid_head hv
  have HV := hid hv; clear hv
  have HR := hid (block_alloc (block_new1 w (.cells (rcells r) 27) rfl) (.cells #[.int .u8 n] 5))
  have HN := hid (block_new1 (w.alloc (.cells (rcells r) 27)) (.cells #[.int .u8 n] 5) rfl)
  have HT : Hid (Tells 75 #[] #[.pointer (some ⟨w.heap.size,0,none⟩), .pointer (some ⟨w.heap.size + 1,0,none⟩)] (fun c t => decide (r.at c.toNat t.toNat = n)) r ((w.alloc (.cells (rcells r) 27)).alloc (.cells #[.int .u8 n] 5))) := by
    intro W c t hc ht hb
    refine c_ofKindClo r hr n c t (by omega) (by omega) _ _ W (block_below hb HR.out (by simp; omega)) (block_below hb ?_ (by simp))
    have := HN.out; simpa using this
  have HC := hid (c_places 75 #[] _ (enters_of Try.func75 (by kernel_rfl) rfl) _ r hr HV.out _ HT.out)
  clear vh
  go_enter Try.func55, Try.ntmps55
  go_wp2_with (first
    | ((with_reducible refine gate (N := 5) rfl ?_); refine wp_roof 27 Try.underlying27 rfl Try.infoRoof rfl (.tmp 2) rfl w.heap.size rfl r hr HR.out ?_)
    | (go_at_call 40; ((with_reducible refine HC.out.mono ?_); rintro e w1 ⟨v, rfl, hb1, ho1⟩)))
  go_ret
  exact ⟨v, rfl, (((Below.refl _ w).alloc (Nat.le_refl _) _).alloc (by simp) _).trans (hb1.mono (by simp; omega)), ho1.mono (by simp; omega)⟩
/-- What TilesOf returns. -/
def tilesOfV (r : Rf) (n : Int) : List (Int × Int) := if codeOf (validB r) (inB n 0 3) = 0 then tilesL r n (allUp r.w.toNat r.h.toNat 0) else []
theorem tilesOfV_yes {r : Rf} {n : Int} (h : codeOf (validB r) (inB n 0 3) = 0) : tilesOfV r n = tilesL r n (allUp r.w.toNat r.h.toNat 0) := if_pos h
theorem tilesOfV_no {r : Rf} {n : Int} (h : codeOf (validB r) (inB n 0 3) ≠ 0) : tilesOfV r n = [] := if_neg h
theorem tilesOfV_len (r : Rf) (n : Int) : (tilesOfV r n).length ≤ 64 := by
  unfold tilesOfV
  split
  · rename_i h
    have hv : validB r = true := by
      rcases codeOf_cases (validB r) (inB n 0 3) with ⟨_, h1⟩ | ⟨_, _, h1⟩ | ⟨h1, _, _⟩
      · rw [h1] at h; cases h
      · rw [h1] at h; cases h
      · exact h1
    have := valid_head hv
    refine Nat.le_trans (List.length_filter_le _ _) ?_
    rw [allUp_len]
    have := Nat.mul_le_mul (by omega : r.h.toNat ≤ 8) (by omega : r.w.toNat ≤ 8)
    omega
  · simp
end Go.Proofs.Ytfijinbdpfeceaa

/- PatchesOf, the program's. -/
namespace Go.Proofs.Ytfijinbdpfeceaa
open Go.RowKit
set_option linter.unusedSimpArgs false
set_option linter.unusedVariables false

/-- What PatchesOf returns. -/
def patsV (r : Rf) (n : Int) : List (List (Int × Int)) := if codeOf (validB r) (inB n 0 3) = 0 then patsL r (tilesR r n) (tilesR r n).length else []
theorem patch_ne {r : Rf} (hv : validB r = true) {p : Int × Int} : patchL r p.1 p.2 ≠ [] := fun e => by
  have := (mem_patchL hv (p := p) (q := p)).2 (F_self r p)
  rw [e] at this
  simp at this
theorem patsL_ne {r : Rf} (hv : validB r = true) (L : List (Int × Int)) (j : Nat) : ∀ l ∈ patsL r L j, l ≠ [] := fun l hl => by
  unfold patsL at hl
  obtain ⟨p, _, rfl⟩ := List.mem_map.1 hl
  exact patch_ne hv
theorem patsL_len (r : Rf) (L : List (Int × Int)) (j : Nat) : (patsL r L j).length ≤ L.length := by
  unfold patsL
  rw [List.length_map]
  refine Nat.le_trans (List.length_filter_le _ _) ?_
  rw [List.length_take]; omega
theorem patch_len {r : Rf} (hv : validB r = true) {p : Int × Int} (hp : InR r p) : (patchL r p.1 p.2).length ≤ 64 := by
  rw [patchL_eq hv hp]
  exact Nat.le_trans (List.length_filter_le _ _) (allR_len hv)
set_option maxHeartbeats 6400000 in
set_option maxRecDepth 100000 in
theorem c_PatchesOf (r : Rf) (hr : r.Ok) (n : Int) (hn : -9223372036854775808 ≤ n ∧ n ≤ 9223372036854775807) (w : World) : Calls Try.prog 26 #[.agg (rcells r), .int .i64 n] w (RetPP w (patsV r n) (codeOf (validB r) (inB n 0 3))) := by
  have key : ∀ (k : Int) (g : Bool), inB n 0 3 = g → codeOf (validB r) g = k → (k = 1 ∨ k = 2 ∨ k = 0) → Calls Try.prog 26 #[.agg (rcells r), .int .i64 n] w (RetPP w (patsV r n) k) := by
    intro k g hg hk hcs
    have HG := hid hg
    have HK := hid hk
    have HV0 : Hid (k = 0 → validB r = true ∧ IntKind.u8.wrap n = n) := by
      intro h0
      subst h0
      have := codeOf_zero hk
      rw [this.2, inB_iff] at hg
      refine ⟨this.1, ?_⟩
      simp [IntKind.wrap, IntKind.bits, IntKind.signed]; omega
    have HL : Hid (patsV r n = if k = 0 then patsL r (tilesR r n) (tilesR r n).length else []) := by rw [Hid, patsV, hg, hk]
    clear hg hk hn
    have HX0 := hid (block_new1 w (.cells (rcells r) 27) rfl)
    have L0 : ∀ x : Ext (w.heap.size + 1) (w.alloc (.cells (rcells r) 27)), (Instr.loadAt 27 (.pointer (some ⟨w.heap.size, 0, none⟩))).run Try.prog x.out = .ok (.agg (rcells r)) x.out := fun x =>
      run_load_roof 27 Try.underlying27 rfl Try.infoRoof hr (block_below x.h (block_new1 w _ rfl) (by omega))
    have R0 := hid L0; clear L0
    have HB : Hid (w.heap.size + 1 ≤ (w.alloc (.cells (rcells r) 27)).heap.size) := by simp [Hid]
    have HWA : Hid (Below w.heap.size w (w.alloc (.cells (rcells r) 27))) := (Below.refl _ w).alloc (Nat.le_refl _) _
    have l0 : w.heap.size < w.heap.size + 1 := by omega
    rcases hcs with rfl | rfl | rfl
    rotate_left 2
    · have HVr := hid (HV0.out rfl).1
      have HU := hid (HV0.out rfl).2
      obtain ⟨L, hL⟩ : ∃ L, L = tilesR r n := ⟨_, rfl⟩
      have HO := hid (fun W => c_ofKind r hr HVr.out n W)
      have hO := HO.out
      rw [show tilesL r n (allUp r.w.toNat r.h.toNat 0) = L from hL.symm] at hO
      have HO := hid hO
      have HLV : Hid (patsV r n = patsL r L L.length) := by rw [Hid, HL.out, if_pos (by trivial), hL]
      have hL64 : L.length ≤ 64 := by rw [hL]; exact tilesR_len HVr.out n
      have HIN : Hid (∀ p ∈ L, InR r p) := fun p hp => by rw [hL] at hp; exact ((mem_tilesR HVr.out).1 hp).1
      have HL64 := hid hL64
      clear hL hO HV0 HL hL64
      go_enter Try.func26, Try.ntmps26
      go_wp2_with fail
      refine wp_region_ext (w.heap.size + 1) (by kernel_rfl) (by kernel_rfl) ?_
      repeat (first
        | ((with_reducible refine wpQuiet_run (N := 11) rfl rfl (.agg (rcells r)) ?_ ?_); (rintro _ ⟨x, rfl⟩; exact execOp_load rfl rfl (R0.out x)); go_simp)
        | go_big_quiet_step (first | (go_at_call 54; with_reducible exact Calls.ext_same (c_isKind n _ _ HG.out)) | (go_at_call 46; with_reducible exact Calls.ext HB.out (c_roofCodeK r hr _ _ HK.out _))))
      refine wpQuiet_nil ?_
      intro x
      have hu := HU.out
      have hXx := hid (block_below x.below HX0.out l0)
      have hWx := hid (HWA.out.trans (x.below.mono (by omega)))
      have hSx := hid (Nat.le_trans HB.out x.below.size)
      obtain ⟨X, hX⟩ : ∃ X, X = x.out := ⟨_, rfl⟩
      rw [← hX] at hXx hWx hSx ⊢
      clear hX x
      go_wp2_with (first
        | ((with_reducible refine gate (N := 18) rfl ?_); refine wp_roof 27 Try.underlying27 rfl Try.infoRoof rfl (.tmp 2) rfl w.heap.size rfl r hr hXx.out ?_)
        | (go_at_call 55; ((with_reducible refine (HO.out _).mono ?_); rintro e w1 ⟨v, rfl, hb1, ho1⟩); obtain ⟨A0, c0, rfl⟩ := owns_slc ho1; have HB1 := hid hb1; have HO1 := hid ho1; clear hb1 ho1; have hL64 := HL64.out))
      obtain ⟨i0, hi, hz0, hz1, hz2⟩ := info_parts Try.infoSlQ
      have hX1 := hid (block_below HB1.out hXx.out (block_lt hXx.out))
      have hW1 := hid (hWx.out.trans (HB1.out.mono hWx.out.size))
      have hS1 : Hid (w.heap.size + 1 ≤ w1.heap.size) := Nat.le_trans hSx.out HB1.out.size
      have hO1 : Hid (RowQ (w.heap.size + 1) w1 (.slice A0 L.length c0) L) := World.ownsRow.mono HO1.out hSx.out
      clear HB1 HO1 hXx hWx hSx
      go_loopw [7, 23] (fun vo i wr => ∃ (j : Nat) (vs : List Value), j ≤ L.length ∧ i = .int .i64 j ∧ Hid (wr.ownsRow (w.heap.size + 1) 33 1 vo (patsL r L j).length vs) ∧ Hid (RowsG (w.heap.size + 1) 42 2 wr vo vs (cellsOfQ (patsL r L j))) ∧ Hid (RowQ (w.heap.size + 1) wr (.slice A0 L.length c0) L) ∧ Hid (Apart (.slice A0 L.length c0) vo) ∧ Hid (wr.heap[w.heap.size]? = some (.cells (rcells r) 27 (0, 0))) ∧ Hid (Below w.heap.size w wr) ∧ Hid (w.heap.size + 1 ≤ wr.heap.size)) (fun _ i _ => L.length - (intOf i).toNat)
      case atStart => exact ⟨0, [], by omega, rfl, World.ownsRow_nil _ _ _ _, RowsG.nil _ _ _ _ _, hO1.out, Apart.nil' _ _ _, hX1.out, hW1.out, hS1.out⟩
      case round =>
        clear hX1 hW1 hS1 hO1
        obtain ⟨j, vs, hj, rfl, hown, hrows, hro, hap, hx, hb, hs⟩ := hrel
        have hpl := patsL_len r L j
        obtain ⟨Av, cv, rfl⟩ := owns_slc hown.out
        by_cases hjl : j < L.length
        · have hd : decide ((j : Int) < (L.length : Int)) = true := decide_eq_true (by omega)
          have hjI : (j : Int) < (L.length : Int) := by omega
          have hj0 : (0 : Int) ≤ (j : Int) := by omega
          have hj64 : (j : Int) ≤ 64 := by omega
          have hq := List.getElem?_eq_getElem hjl
          obtain ⟨⟨q1, q2⟩, hqq⟩ : ∃ p, p = L[j] := ⟨_, rfl⟩
          rw [← hqq] at hq
          have hqr := HIN.out (q1, q2) (List.mem_of_getElem? hq)
          have HHd : Hid (headB r (q1, q2) = decide ((patchL r q1 q2)[0]? = some (q1, q2))) := rfl
          have HNo := fun h => hid (patsL_no (r := r) hq h)
          have HYes := fun h => hid (patsL_yes (r := r) hq h)
          obtain ⟨gn, cg, e, gnB, hnl, n0, n1, _, _⟩ := hro.out.cell hq
          obtain ⟨rfl, -, rfl⟩ : A0 = some ⟨gn, 0, none⟩ ∧ L.length = L.length ∧ c0 = cg := by simpa using e
          dsimp only at n0 n1
          obtain ⟨PL, hPL⟩ : ∃ l, l = patchL r q1 q2 := ⟨_, rfl⟩
          have hCP := (fun W => c_patch r hr HVr.out q1 q2 hqr W)
          obtain ⟨hh, hh0, -⟩ := patchL_head HVr.out hqr
          dsimp only at hh0
          have hP64 := patch_len HVr.out hqr
          dsimp only at hP64
          dsimp only at HYes
          unfold RetS at hCP
          rw [← hPL] at hCP HHd HYes hh0 hP64
          have HCP := hid hCP
          obtain ⟨h1, h2⟩ := hh
          have HP2 := hid (block_new1 wr (.cells #[.int .i8 q1, .int .i8 q2] 42) rfl)
          have HX2 := hid (block_alloc hx.out (.cells #[.int .i8 q1, .int .i8 q2] 42))
          have HO2 := hid (World.ownsRow.alloc hown.out (.cells #[.int .i8 q1, .int .i8 q2] 42))
          have HR2 := hid (hrows.out.below ((Below.refl _ wr).alloc (Nat.le_refl _) (.cells #[.int .i8 q1, .int .i8 q2] 42)) (Nat.le_refl _))
          have HL2 : Hid (RowQ (w.heap.size + 1) (wr.alloc (.cells #[.int .i8 q1, .int .i8 q2] 42)) (.slice (some ⟨gn, 0, none⟩) L.length c0) L) := World.ownsRow.alloc hro.out _
          have HB2 := hid (hb.out.alloc hb.out.size (.cells #[.int .i8 q1, .int .i8 q2] 42))
          have HLO : Hid (∀ (j : Nat) (u : Value) (g : Nat), vs[j]? = some u → u.ownBlock = some g → g < wr.heap.size) := fun j u g hu hg => (hrows.out.lt hu g hg).2
          have HLV2 : Hid (∀ g, (Value.slice Av (patsL r L j).length cv).ownBlock = some g → g < wr.heap.size) := fun g hg => (World.ownsRow.lt hown.out g hg).2
          obtain ⟨W2, hW2⟩ : ∃ W2, W2 = wr.alloc (.cells #[.int .i8 q1, .int .i8 q2] 42) := ⟨_, rfl⟩
          have HS2 : Hid (wr.heap.size + 1 = W2.heap.size) := by rw [hW2]; simp [Hid]
          rw [← hW2] at HP2 HX2 HO2 HR2 HL2 HB2
          have m0 : W2.cell? ⟨wr.heap.size, 0, none⟩ = some (.int .i8 q1) := cell_block HP2.out rfl
          have m1 : W2.cell? ⟨wr.heap.size, 1, none⟩ = some (.int .i8 q2) := cell_block HP2.out rfl
          have HQ := hid hq
          have HH0 := hid hh0
          clear hq hqq hqr e hPL hh0 hCP hro hx hb hown hrows
          have HX2r := HX2
          rw [hW2] at HX2r
          go_wp2_with (first
            | ((with_reducible refine gate (N := 27) rfl ?_); refine wp_roof 27 Try.underlying27 rfl Try.infoRoof rfl (.tmp 2) rfl w.heap.size rfl r hr HX2r.out ?_)
            | (go_at_call 50; rw [← hW2]; ((with_reducible refine (HCP.out _).mono ?_); rintro e w5 ⟨v, rfl, hb5, hr5⟩); obtain ⟨A5, c5, rfl⟩ := owns_slc hr5; have HB5 := hid hb5; have HR5 : Hid (RowQ W2.heap.size w5 (.slice A5 PL.length c5) PL) := hr5; clear hb5 hr5))
          have LS : w.heap.size + 1 ≤ w5.heap.size := by have := HB5.out.size; have := HS2.out; have := hs.out; omega
          have LS2 : w.heap.size ≤ W2.heap.size := by have := HS2.out; have := hs.out; omega
          have HP5 := hid (block_below HB5.out HP2.out (by have := HS2.out; omega))
          have HX5 := hid (block_below HB5.out HX2.out (block_lt HX2.out))
          have HO5 := hid (owns_below2 HO2.out HB5.out (Nat.le_refl _))
          have HRR5 := hid (HR2.out.below HB5.out (Nat.le_refl _))
          have HL5 := hid (HL2.out.below HB5.out (Nat.le_refl _))
          have HBB5 := hid (HB2.out.trans (HB5.out.mono LS2))
          have HOne := hid (owns_one HR5.out)
          have HRM : Hid (RowQ (w.heap.size + 1) w5 (.slice A5 PL.length c5) PL) := World.ownsRow.mono HR5.out (by have := HS2.out; have := hs.out; omega)
          have HNw : Hid (∀ g, (Value.slice A5 PL.length c5).ownBlock = some g → wr.heap.size ≤ g) := fun g hg => by have := (World.ownsRow.lt HR5.out g hg).1; have := HS2.out; omega
          obtain ⟨g5, cg5, e5, _, hg5, u0, u1, _, _⟩ := HR5.out.cell HH0.out
          obtain ⟨rfl, -, rfl⟩ : A5 = some ⟨g5, 0, none⟩ ∧ PL.length = PL.length ∧ c5 = cg5 := by simpa using e5
          have hPpos : (0 : Int) < (PL.length : Int) := by have := (List.getElem?_eq_some_iff.1 HH0.out).1; omega
          have hPpn : 0 < PL.length := (List.getElem?_eq_some_iff.1 HH0.out).1
          rw [Nat.zero_mul] at u0 u1
          rw [Nat.zero_add] at u1
          dsimp only at u0 u1
          have z0 : w5.cell? ⟨wr.heap.size, 0, none⟩ = some (.int .i8 q1) := cell_block HP5.out rfl
          have z1 : w5.cell? ⟨wr.heap.size, 1, none⟩ = some (.int .i8 q2) := cell_block HP5.out rfl
          have l5 := block_lt HP5.out
          have u0x : ∀ x : Ext w5.heap.size w5, x.out.cell? ⟨g5, 0, none⟩ = some (.int .i8 h1) := fun x => (x.below.cell (p := ⟨g5, 0, none⟩) hg5).trans u0
          have u1x : ∀ x : Ext w5.heap.size w5, x.out.cell? ⟨g5, 1, none⟩ = some (.int .i8 h2) := fun x => (x.below.cell (p := ⟨g5, 1, none⟩) hg5).trans u1
          have z0x : ∀ x : Ext w5.heap.size w5, x.out.cell? ⟨wr.heap.size, 0, none⟩ = some (.int .i8 q1) := fun x => (x.below.cell (p := ⟨wr.heap.size, 0, none⟩) l5).trans z0
          have z1x : ∀ x : Ext w5.heap.size w5, x.out.cell? ⟨wr.heap.size, 1, none⟩ = some (.int .i8 q2) := fun x => (x.below.cell (p := ⟨wr.heap.size, 1, none⟩) l5).trans z1
          clear HX2r HP2 HX2 HO2 HR2 HL2 HB2 m0 m1 hW2 HB5 HR5 e5 HCP n0 n1
          by_cases he : (h1, h2) = (q1, q2)
          · have R : Hid (∀ W : World, (binOp .eql 42 (.agg #[.int .i8 h1, .int .i8 h2]) (.agg #[.int .i8 q1, .int .i8 q2])).run Try.prog W = .ok (.bool true) W) := fun W => by rw [run_eql_place, decide_eq_true he]
            have HH : headB r (q1, q2) = true := by rw [HHd.out, HH0.out, he]; simp
            have HY := HYes HH
            clear he HH HNo HYes HHd
            refine wp_region_ext w5.heap.size (by kernel_rfl) (by kernel_rfl) ?_
            repeat (first
              | ((with_reducible refine wpQuiet_run (N := 34) rfl rfl (.bool true) ?_ ?_); (rintro _ ⟨x, rfl⟩; exact execOp_eql rfl rfl rfl (by kernel_rfl) (R.out x.out)); go_simp)
              | go_big_quiet_step (fail))
            refine wpQuiet_nil ?_
            intro x
            have HO6 := hid (owns_below2 HO5.out x.below (Nat.le_refl _))
            have HR6 := hid (HRR5.out.below x.below (Nat.le_refl _))
            have HL6 := hid (HL5.out.below x.below (Nat.le_refl _))
            have HX6 := hid (block_below x.below HX5.out (block_lt HX5.out))
            have HB6 := hid (HBB5.out.trans (x.below.mono (by omega)))
            have HM6 := hid (HRM.out.below x.below (Nat.le_refl _))
            have HS6 : Hid (w.heap.size + 1 ≤ x.out.heap.size) := Nat.le_trans LS x.below.size
            obtain ⟨X, hX⟩ : ∃ X, X = x.out := ⟨_, rfl⟩
            rw [← hX] at HO6 HR6 HL6 HX6 HB6 HM6 HS6 ⊢
            clear hX x u0x u1x z0x z1x u0 u1 z0 z1 R
            have hpl2 : (patsL r L j).length ≤ 1100000 := by omega
            go_wp2_with ((with_reducible refine gate (N := 38) rfl ?_); (refine wpList_append_row rfl (.tmp 35) (.tmp 37) 45 rfl (w.heap.size + 1) 33 i0 (.slice none 0 0) 1 24 Try.underlying45 hi hz0 hz1 hz2 rfl (by decide) (by decide) _ _ vs rfl HO6.out #[.slice (some ⟨g5, 0, none⟩) PL.length c5] rfl (by simp; exact HOne.out) _ rfl hpl2 HS6.out rfl _ ?_; intro v' w7 hown hg))
            have hR3 := (HR6.out.snoc (H := wr.heap.size) (x := (PL.length, pcells PL)) HM6.out HNw.out HLO.out HLV2.out).grew hg
            obtain ⟨Av', cv', rfl⟩ := owns_slc hown
            have hel : (patsL r L (j + 1)).length = (patsL r L j).length + 1 := by rw [HY.out, List.length_append]; rfl
            refine ⟨⟨j + 1, vs ++ [Value.slice (some ⟨g5, 0, none⟩) PL.length c5], by omega, by go_num, by rw [hel]; exact hown, by rw [HY.out, cellsOfQ_snoc]; exact hR3, hg.row HL6.out hap.out, ?_, hg.block _ _ HX6.out (fun e => by have := (World.ownsRow.lt HO6.out _ e).1; omega), HB6.out.trans (hg.below _ (fun g hg' => by have := (World.ownsRow.lt HO6.out g hg').1; omega) HB6.out.size), Nat.le_trans HS6.out hg.size⟩, by simp [intOf]; omega⟩
            exact hg.apart HL6.out hap.out
          · have R : Hid (∀ W : World, (binOp .eql 42 (.agg #[.int .i8 h1, .int .i8 h2]) (.agg #[.int .i8 q1, .int .i8 q2])).run Try.prog W = .ok (.bool false) W) := fun W => by rw [run_eql_place, decide_eq_false he]
            have HH : headB r (q1, q2) = false := by rw [HHd.out, HH0.out, decide_eq_false_iff_not]; exact fun e => he (Option.some.inj e)
            have HN := HNo HH
            clear he HH HNo HYes HHd
            refine wp_region_ext w5.heap.size (by kernel_rfl) (by kernel_rfl) ?_
            repeat (first
              | ((with_reducible refine wpQuiet_run (N := 34) rfl rfl (.bool false) ?_ ?_); (rintro _ ⟨x, rfl⟩; exact execOp_eql rfl rfl rfl (by kernel_rfl) (R.out x.out)); go_simp)
              | go_big_quiet_step (fail))
            refine wpQuiet_nil ?_
            intro x
            have HO6 := hid (owns_below2 HO5.out x.below (Nat.le_refl _))
            have HR6 := hid (HRR5.out.below x.below (Nat.le_refl _))
            have HL6 := hid (HL5.out.below x.below (Nat.le_refl _))
            have HX6 := hid (block_below x.below HX5.out (block_lt HX5.out))
            have HB6 := hid (HBB5.out.trans (x.below.mono (by omega)))
            have HS6 : Hid (w.heap.size + 1 ≤ x.out.heap.size) := Nat.le_trans LS x.below.size
            go_wp2_with fail
            exact ⟨⟨j + 1, vs, by omega, by go_num, by rw [HN.out]; exact HO6.out, by rw [HN.out]; exact HR6.out, HL6.out, hap.out, HX6.out, HB6.out, HS6.out⟩, by simp [intOf]; omega⟩
        · obtain rfl : j = L.length := by omega
          have hd : decide ((L.length : Int) < (L.length : Int)) = false := decide_eq_false (by omega)
          go_wp2_with fail
          go_ret2
          refine ⟨_, rfl, hb.out, ?_⟩
          rw [HLV.out]
          exact OwPP.of_rows (patsL_ne HVr.out L L.length) hown.out hrows.out (by omega) hb.out.size
    all_goals
      clear HV0
      go_enter Try.func26, Try.ntmps26
      go_wp2_with fail
      refine wp_region_ext (w.heap.size + 1) (by kernel_rfl) (by kernel_rfl) ?_
      repeat (first
        | ((with_reducible refine wpQuiet_run (N := 11) rfl rfl (.agg (rcells r)) ?_ ?_); (rintro _ ⟨x, rfl⟩; exact execOp_load rfl rfl (R0.out x)); go_simp)
        | go_big_quiet_step (first | (go_at_call 54; with_reducible exact Calls.ext_same (c_isKind n _ _ HG.out)) | (go_at_call 46; with_reducible exact Calls.ext HB.out (c_roofCodeK r hr _ _ HK.out _))))
      refine wpQuiet_nil ?_
      intro x
      go_wp2_with fail
      go_ret2
      refine ⟨_, rfl, HWA.out.trans (x.below.mono (by omega)), ?_⟩
      rw [HL.out]
      exact OwPP.nil (Nat.le_trans (by omega) (Nat.le_trans HB.out x.below.size))
  exact key _ _ rfl rfl (codeOf_012 _ _)
end Go.Proofs.Ytfijinbdpfeceaa

/- l01Has: a place looked for in a list, the reference's way. -/
namespace Go.Proofs.Ytfijinbdpfeceaa
open Go.RowKit
set_option linter.unusedSimpArgs false
set_option linter.unusedVariables false

set_option maxHeartbeats 1600000 in
set_option maxRecDepth 100000 in
theorem c_l01Has (A : Option Addr) (cc : Nat) (l : List (Int × Int)) (hlen : l.length ≤ 1000000) (p1 p2 : Int) (w : World) (hA : SlP w A l) :
    Calls Try.prog 53 #[.slice A l.length cc, .agg #[.int .i8 p1, .int .i8 p2]] w fun e w' => e = .returned (.bool (decide ((p1, p2) ∈ l))) ∧ Below w.heap.size w w' := by
  have HA := hid hA; clear hA
  have HP := hid (block_new1 w (.cells #[.int .i8 p1, .int .i8 p2] 42) rfl)
  have HB0 : Hid (Below (w.heap.size + 1) (w.alloc (.cells #[.int .i8 p1, .int .i8 p2] 42)) (w.alloc (.cells #[.int .i8 p1, .int .i8 p2] 42))) := Below.refl _ _
  obtain ⟨r, hr⟩ : ∃ r, r = decide ((p1, p2) ∈ l) := ⟨_, rfl⟩
  rw [← hr]
  have HR := hid hr
  clear hr
  go_enter Try.func53, Try.ntmps53
  go_wp2_with fail
  go_loopw [5] (fun i wr => ∃ k : Nat, k ≤ l.length ∧ i = .int .i64 k ∧ Hid (Below (w.heap.size + 1) (w.alloc (.cells #[.int .i8 p1, .int .i8 p2] 42)) wr) ∧ Hid (∀ j, j < k → l[j]? ≠ some (p1, p2))) (fun i _ => l.length - (intOf i).toNat)
  case atStart => exact ⟨0, by omega, rfl, HB0, fun j h => by omega⟩
  case round =>
    obtain ⟨k, hk, rfl, hb, hno⟩ := hrel
    by_cases hkl : k < l.length
    · have hd : decide ((k : Int) < (l.length : Int)) = true := decide_eq_true (by omega)
      have hkI : (k : Int) < (l.length : Int) := by omega
      have hk0 : (0 : Int) ≤ (k : Int) := by omega
      have hp := List.getElem?_eq_getElem hkl
      obtain ⟨⟨q1, q2⟩, hpp⟩ : ∃ q, q = l[k] := ⟨_, rfl⟩
      rw [← hpp] at hp
      obtain ⟨b, off, rfl, r1, r2, r3⟩ := HA.out k (q1, q2) hp
      have hb0 : Below w.heap.size w wr := ((Below.refl _ w).alloc (Nat.le_refl _) _).trans (hb.out.mono (by omega))
      have c0 := (hb0.cell (p := ⟨b, _, none⟩) r1).trans r2
      have c1 := (hb0.cell (p := ⟨b, _, none⟩) r1).trans r3
      have lb : b < wr.heap.size := Nat.lt_of_lt_of_le r1 hb0.size
      have HPw := hid (block_below hb.out HP.out (by omega))
      have k0 := cell_block HPw.out (j := 0) rfl
      have k1 := cell_block HPw.out (j := 1) rfl
      have lw := block_lt HPw.out
      have hs := hid (show w.heap.size + 1 ≤ wr.heap.size by have := hb.out.size; simpa using this)
      have HQ := hid hp
      clear hp hpp r2 r3 hb0
      dsimp only at c0 c1
      have run : ∀ (g : Bool), decide ((q1, q2) = (p1, p2)) = g → ∀ W : World, (binOp .eql 42 (.agg #[.int .i8 q1, .int .i8 q2]) (.agg #[.int .i8 p1, .int .i8 p2])).run Try.prog W = .ok (.bool g) W := fun g hg W => by rw [run_eql_place, hg]
      by_cases he : (q1, q2) = (p1, p2)
      · have R := hid (run true (decide_eq_true he))
        have HE := hid he
        clear run he
        go_wp2_with fail
        refine wp_region_ext wr.heap.size (by kernel_rfl) (by kernel_rfl) ?_
        repeat (first
          | ((with_reducible refine wpQuiet_run (N := 17) rfl rfl (.bool true) ?_ ?_); (rintro _ ⟨x, rfl⟩; exact execOp_eql rfl rfl rfl (by kernel_rfl) (R.out x.out)); go_simp)
          | go_big_quiet_step (fail))
        refine wpQuiet_nil ?_
        intro x
        go_wp2_with fail
        go_ret
        have b1 := hb.out.trans (x.below.mono hs.out)
        have hr : r = true := by rw [HR.out]; exact decide_eq_true (by rw [← HE.out]; exact List.mem_of_getElem? HQ.out)
        rw [hr]
        exact ⟨rfl, ((Below.refl _ w).alloc (Nat.le_refl _) _).trans (b1.mono (by omega))⟩
      · have R := hid (run false (decide_eq_false he))
        have HE := hid he
        clear run he
        go_wp2_with fail
        refine wp_region_ext wr.heap.size (by kernel_rfl) (by kernel_rfl) ?_
        repeat (first
          | ((with_reducible refine wpQuiet_run (N := 17) rfl rfl (.bool false) ?_ ?_); (rintro _ ⟨x, rfl⟩; exact execOp_eql rfl rfl rfl (by kernel_rfl) (R.out x.out)); go_simp)
          | go_big_quiet_step (fail))
        refine wpQuiet_nil ?_
        intro x
        go_wp2_with fail
        exact ⟨⟨k + 1, by omega, by go_num, hb.out.trans (x.below.mono hs.out), all_succ (p := fun j => l[j]? ≠ some (p1, p2)) hno.out (by rw [HQ.out]; intro h; exact HE.out (Option.some.inj h))⟩, by simp [intOf]; omega⟩
    · obtain rfl : k = l.length := by omega
      have hd : decide ((l.length : Int) < (l.length : Int)) = false := decide_eq_false (by omega)
      go_wp2_with fail
      go_ret
      have hr : r = false := by
        rw [HR.out]
        refine decide_eq_false fun h => ?_
        obtain ⟨j, hj, e⟩ := List.getElem_of_mem h
        exact absurd (by rw [List.getElem?_eq_getElem hj, e]) (hno.out j hj)
      rw [hr]
      exact ⟨rfl, ((Below.refl _ w).alloc (Nat.le_refl _) _).trans (hb.out.mono (by omega))⟩
end Go.Proofs.Ytfijinbdpfeceaa
