/- What is proved: FnExactPatchOf holds of all arguments; with the texts that lead to it. -/
import Derived.Test.YtfijinbdpfeceaaGExactPatchOf3
import Derived.ChangeOld
/- AboveOf and BelowOf, the program's and the reference's. -/
namespace Go.Proofs.Ytfijinbdpfeceaa
open Go.RowKit
set_option linter.unusedSimpArgs false
set_option linter.unusedVariables false

/-- What AboveOf and BelowOf return. -/
def besL (r : Rf) (c t b : Int) : List (Int × Int) := if codeOf (validB r) (isPl r c t) = 0 then lapL r c t (c + b) else []
theorem besL_len (r : Rf) (c t b : Int) : (besL r c t b).length ≤ 64 := by
  unfold besL; split
  · have := lapL_len r c t (c + b); omega
  · simp
theorem codeOf_pl {r : Rf} {c t : Int} (h : codeOf (validB r) (isPl r c t) = 0) : validB r = true ∧ (0 ≤ c ∧ c ≤ 7) ∧ (0 ≤ t ∧ t ≤ 7) := by
  have := codeOf_zero h
  have h1 := valid_head this.1
  have h2 := isPl_iff.1 this.2
  exact ⟨this.1, by omega, by omega⟩
set_option maxRecDepth 100000 in
theorem c_l01First (r : Rf) (hr : r.Ok) (b : Nat) (c t : Int) (hc : 0 ≤ c ∧ c ≤ 7) (ht : 0 ≤ t ∧ t ≤ 7) (w : World) (hb : w.heap[b]? = some (.cells (rcells r) 27 (0,0))) :
    Calls Try.prog 64 #[.pointer (some ⟨b,0,none⟩), .agg #[.int .i8 c, .int .i8 t]] w fun e w' => e = .returned (.int .i64 (firstOf r c t)) ∧ Below w.heap.size w w' := by
  have hs := shiftOf_01 r c
  have lb := block_lt hb
  have lb' : b < w.heap.size + 1 := by omega
  have HP := hid (block_alloc hb (.cells #[.int .i8 c, .int .i8 t] 42))
  have HC := hid (fun W hW => c_l01By r hr b c ⟨hc.1, by omega⟩ W hW)
  have e : firstOf r c t = 2 * t + shiftOf r c := rfl
  rw [e]
  obtain ⟨s, hse⟩ : ∃ s, s = shiftOf r c := ⟨_, rfl⟩
  rw [← hse] at hs HC ⊢
  clear hse e hb
  obtain ⟨c1, c2⟩ := hc
  obtain ⟨t1, t2⟩ := ht
  have HB : Hid (w.heap.size + 1 ≤ (w.alloc (.cells #[.int .i8 c, .int .i8 t] 42)).heap.size) := by simp [Hid]
  have l1 : w.heap.size < w.heap.size + 1 := by omega
  have HX : Hid (∀ x : Ext (w.heap.size + 1) (w.alloc (.cells #[.int .i8 c, .int .i8 t] 42)), x.out.heap[b]? = some (.cells (rcells r) 27 (0,0))) := fun x => block_below x.below HP.out lb'
  have e1 : IntKind.i64.wrap c = c := IntWalk.i64_in _ (by omega)
  have e2 : IntKind.i64.wrap t = t := IntWalk.i64_in _ (by omega)
  have e3 : IntKind.i64.wrap (2 * t) = 2 * t := IntWalk.i64_in _ (by omega)
  have e4 : IntKind.i64.wrap (2 * t + s) = 2 * t + s := IntWalk.i64_in _ (by omega)
  go_enter Try.func64, Try.ntmps64
  go_wp2_with fail
  refine wp_region_ext (w.heap.size + 1) (by kernel_rfl) (by kernel_rfl) ?_
  repeat (go_big_quiet_step ((go_at_call 76; with_reducible exact Calls.ext_same (HC.out _ (HX.out _)))))
  refine wpQuiet_nil ?_
  intro x
  go_wp2_with fail
  go_ret
  exact ⟨rfl, ((Below.refl _ w).alloc (Nat.le_refl _) _).trans (x.below.mono (by omega))⟩
set_option maxRecDepth 100000 in
theorem c_l01Tile (r : Rf) (hr : r.Ok) (hv : validB r = true) (b : Nat) (d n : Int) (hd : 0 ≤ d ∧ d ≤ 7) (hn : 0 ≤ n ∧ n ≤ 100) (w : World) (hb : w.heap[b]? = some (.cells (rcells r) 27 (0,0))) :
    Calls Try.prog 65 #[.pointer (some ⟨b,0,none⟩), .int .i64 d, .int .i64 n] w fun e w' => e = .returned (.int .i64 (tileOf r d n)) ∧ w = w' := by
  have hs := shiftOf_01 r d
  have vh := valid_head hv
  have HC := hid (c_l01By r hr b d ⟨hd.1, by omega⟩ w hb)
  have e : tileOf r d n = if 0 ≤ n - shiftOf r d ∧ n - shiftOf r d ≤ 2 * r.w - 1 then (n - shiftOf r d) / 2 else -1 := rfl
  have c0 := cell_block hb (rc0 r)
  rw [e]
  obtain ⟨s, hse⟩ : ∃ s, s = shiftOf r d := ⟨_, rfl⟩
  obtain ⟨W, hW⟩ : ∃ W, W = r.w := ⟨_, rfl⟩
  rw [← hse] at hs HC ⊢
  rw [← hW] at vh c0 ⊢
  clear hse e hW hb
  have e1 : IntKind.i64.wrap W = W := IntWalk.i64_in _ (by omega)
  by_cases h0 : n - s < 0
  · rw [if_neg (by omega)]
    go_enter Try.func65, Try.ntmps65
    go_wp2_with (go_at_call 76; ((with_reducible refine HC.out.mono ?_); rintro e w1 ⟨rfl, rfl⟩))
    go_ret
    exact ⟨rfl, rfl⟩
  · have h0' : 0 ≤ n - s := by omega
    by_cases h1 : W ≤ (n - s) / 2
    · rw [if_neg (by omega)]
      clear h0
      go_enter Try.func65, Try.ntmps65
      go_wp2_with (go_at_call 76; ((with_reducible refine HC.out.mono ?_); rintro e w1 ⟨rfl, rfl⟩))
      go_ret
      exact ⟨rfl, rfl⟩
    · have h1' : (n - s) / 2 < W := by omega
      rw [if_pos (by omega)]
      clear h0 h1
      go_enter Try.func65, Try.ntmps65
      go_wp2_with (go_at_call 76; ((with_reducible refine HC.out.mono ?_); rintro e w1 ⟨rfl, rfl⟩))
      go_ret
      exact ⟨rfl, rfl⟩
set_option maxRecDepth 100000 in
theorem c_AboveOf (r : Rf) (hr : r.Ok) (c t : Int) (hc : -128 ≤ c ∧ c ≤ 127) (ht : -128 ≤ t ∧ t ≤ 127) (w : World) : Calls Try.prog 20 #[.agg (rcells r), .agg #[.int .i8 c, .int .i8 t]] w (RetP w (besL r c t (-1)) (codeOf (validB r) (isPl r c t))) := by
  have key : ∀ k : Int, codeOf (validB r) (hasB r c t) = k → codeOf (validB r) (isPl r c t) = k → (k = 1 ∨ k = 2 ∨ k = 0) → Calls Try.prog 20 #[.agg (rcells r), .agg #[.int .i8 c, .int .i8 t]] w (RetP w (besL r c t (-1)) k) := by
    intro k hk hk' hcs
    have HK := hid hk
    have HL : Hid (besL r c t (-1) = if k = 0 then lapL r c t (c - 1) else []) := by
      have e : c + -1 = c - 1 := by omega
      show _ = _
      unfold besL; rw [hk', e]
    have HV0 : Hid (k = 0 → validB r = true ∧ (0 ≤ c ∧ c ≤ 7) ∧ (0 ≤ t ∧ t ≤ 7)) := fun h0 => codeOf_pl (hk'.trans h0)
    clear hk hk'
    have HP := hid (block_alloc (block_new1 w (.cells (rcells r) 27) rfl) (.cells #[.int .i8 c, .int .i8 t] 42))
    have HW : Hid (Below w.heap.size w ((w.alloc (.cells (rcells r) 27)).alloc (.cells #[.int .i8 c, .int .i8 t] 42))) := ((Below.refl _ w).alloc (Nat.le_refl _) _).alloc (by simp) _
    have R0 : Hid (∀ x : Ext (w.heap.size + 2) ((w.alloc (.cells (rcells r) 27)).alloc (.cells #[.int .i8 c, .int .i8 t] 42)), (Instr.loadAt 27 (.pointer (some ⟨w.heap.size, 0, none⟩))).run Try.prog x.out = .ok (.agg (rcells r)) x.out) := fun x =>
      run_load_roof 27 Try.underlying27 rfl Try.infoRoof hr (block_below x.below HP.out (by omega))
    have HB : Hid (w.heap.size + 2 ≤ ((w.alloc (.cells (rcells r) 27)).alloc (.cells #[.int .i8 c, .int .i8 t] 42)).heap.size) := by simp [Hid]
    have l0 : w.heap.size < w.heap.size + 2 := by omega
    have l1 : w.heap.size + 1 < w.heap.size + 2 := by omega
    have e1 : IntKind.i64.wrap c = c := IntWalk.i64_in _ (by omega)
    have HCC := hid hc
    have HTT := hid ht
    rcases hcs with rfl | rfl | rfl
    all_goals
      try have HVr := hid (HV0.out rfl).1
      try have HCr := hid (HV0.out rfl).2.1
      try have HTr := hid (HV0.out rfl).2.2
      clear HV0
      go_enter Try.func20, Try.ntmps20
      go_wp2_with fail
      refine wp_region_ext (w.heap.size + 2) (by kernel_rfl) (by kernel_rfl) ?_
      repeat (first
        | ((with_reducible refine wpQuiet_run (N := 7) rfl rfl (.agg (rcells r)) ?_ ?_); (rintro _ ⟨x, rfl⟩; exact execOp_load rfl rfl (R0.out x)); go_simp)
        | ((with_reducible refine wpQuiet_run (N := 8) rfl rfl (.agg (rcells r)) ?_ ?_); (rintro _ ⟨x, rfl⟩; exact execOp_load rfl rfl (R0.out x)); go_simp)
        | go_big_quiet_step (first | (go_at_call 47; with_reducible exact Calls.ext HB.out (c_has r hr c t HCC.out HTT.out _)) | (go_at_call 46; with_reducible exact Calls.ext HB.out (c_roofCodeK r hr _ _ HK.out _))))
      refine wpQuiet_nil ?_
      intro x
      have HWx := hid (HW.out.trans (x.below.mono (by omega)))
      go_wp2_with (first
        | ((with_reducible refine gate (N := 15) rfl ?_); refine wp_roof 27 Try.underlying27 rfl Try.infoRoof rfl (.tmp 2) rfl w.heap.size rfl r hr (block_below x.below HP.out (by omega)) ?_)
        | (go_at_call 48; ((with_reducible refine (c_lapped r hr HVr.out c t (c - 1) HCr.out HTr.out (by have := HCr.out; omega) _).mono ?_); rintro e w1 ⟨v, rfl, hb1, ho1⟩)))
      go_ret2
      first
        | (refine ⟨_, rfl, HWx.out, ?_⟩; rw [HL.out]; exact World.ownsRow_nil _ _ _ _)
        | (refine ⟨_, rfl, HWx.out.trans (hb1.mono HWx.out.size), ?_⟩; rw [HL.out, if_pos (by trivial)]; exact ho1.mono HWx.out.size)
  have e : codeOf (validB r) (hasB r c t) = codeOf (validB r) (isPl r c t) := by have := codeOf_has r c t true; simpa using this
  exact key _ e rfl (codeOf_012 _ _)
set_option maxRecDepth 100000 in
theorem c_BelowOf (r : Rf) (hr : r.Ok) (c t : Int) (hc : -128 ≤ c ∧ c ≤ 127) (ht : -128 ≤ t ∧ t ≤ 127) (w : World) : Calls Try.prog 22 #[.agg (rcells r), .agg #[.int .i8 c, .int .i8 t]] w (RetP w (besL r c t 1) (codeOf (validB r) (isPl r c t))) := by
  have key : ∀ k : Int, codeOf (validB r) (hasB r c t) = k → codeOf (validB r) (isPl r c t) = k → (k = 1 ∨ k = 2 ∨ k = 0) → Calls Try.prog 22 #[.agg (rcells r), .agg #[.int .i8 c, .int .i8 t]] w (RetP w (besL r c t 1) k) := by
    intro k hk hk' hcs
    have HK := hid hk
    have HL : Hid (besL r c t 1 = if k = 0 then lapL r c t (c + 1) else []) := by
      show _ = _
      unfold besL; rw [hk']
    have HV0 : Hid (k = 0 → validB r = true ∧ (0 ≤ c ∧ c ≤ 7) ∧ (0 ≤ t ∧ t ≤ 7)) := fun h0 => codeOf_pl (hk'.trans h0)
    clear hk hk'
    have HP := hid (block_alloc (block_new1 w (.cells (rcells r) 27) rfl) (.cells #[.int .i8 c, .int .i8 t] 42))
    have HW : Hid (Below w.heap.size w ((w.alloc (.cells (rcells r) 27)).alloc (.cells #[.int .i8 c, .int .i8 t] 42))) := ((Below.refl _ w).alloc (Nat.le_refl _) _).alloc (by simp) _
    have R0 : Hid (∀ x : Ext (w.heap.size + 2) ((w.alloc (.cells (rcells r) 27)).alloc (.cells #[.int .i8 c, .int .i8 t] 42)), (Instr.loadAt 27 (.pointer (some ⟨w.heap.size, 0, none⟩))).run Try.prog x.out = .ok (.agg (rcells r)) x.out) := fun x =>
      run_load_roof 27 Try.underlying27 rfl Try.infoRoof hr (block_below x.below HP.out (by omega))
    have HB : Hid (w.heap.size + 2 ≤ ((w.alloc (.cells (rcells r) 27)).alloc (.cells #[.int .i8 c, .int .i8 t] 42)).heap.size) := by simp [Hid]
    have l0 : w.heap.size < w.heap.size + 2 := by omega
    have l1 : w.heap.size + 1 < w.heap.size + 2 := by omega
    have e1 : IntKind.i64.wrap c = c := IntWalk.i64_in _ (by omega)
    have HCC := hid hc
    have HTT := hid ht
    rcases hcs with rfl | rfl | rfl
    all_goals
      try have HVr := hid (HV0.out rfl).1
      try have HCr := hid (HV0.out rfl).2.1
      try have HTr := hid (HV0.out rfl).2.2
      clear HV0
      go_enter Try.func22, Try.ntmps22
      go_wp2_with fail
      refine wp_region_ext (w.heap.size + 2) (by kernel_rfl) (by kernel_rfl) ?_
      repeat (first
        | ((with_reducible refine wpQuiet_run (N := 7) rfl rfl (.agg (rcells r)) ?_ ?_); (rintro _ ⟨x, rfl⟩; exact execOp_load rfl rfl (R0.out x)); go_simp)
        | ((with_reducible refine wpQuiet_run (N := 8) rfl rfl (.agg (rcells r)) ?_ ?_); (rintro _ ⟨x, rfl⟩; exact execOp_load rfl rfl (R0.out x)); go_simp)
        | go_big_quiet_step (first | (go_at_call 47; with_reducible exact Calls.ext HB.out (c_has r hr c t HCC.out HTT.out _)) | (go_at_call 46; with_reducible exact Calls.ext HB.out (c_roofCodeK r hr _ _ HK.out _))))
      refine wpQuiet_nil ?_
      intro x
      have HWx := hid (HW.out.trans (x.below.mono (by omega)))
      go_wp2_with (first
        | ((with_reducible refine gate (N := 15) rfl ?_); refine wp_roof 27 Try.underlying27 rfl Try.infoRoof rfl (.tmp 2) rfl w.heap.size rfl r hr (block_below x.below HP.out (by omega)) ?_)
        | (go_at_call 48; ((with_reducible refine (c_lapped r hr HVr.out c t (c + 1) HCr.out HTr.out (by have := HCr.out; omega) _).mono ?_); rintro e w1 ⟨v, rfl, hb1, ho1⟩)))
      go_ret2
      first
        | (refine ⟨_, rfl, HWx.out, ?_⟩; rw [HL.out]; exact World.ownsRow_nil _ _ _ _)
        | (refine ⟨_, rfl, HWx.out.trans (hb1.mono HWx.out.size), ?_⟩; rw [HL.out, if_pos (by trivial)]; exact ho1.mono HWx.out.size)
  have e : codeOf (validB r) (hasB r c t) = codeOf (validB r) (isPl r c t) := by have := codeOf_has r c t true; simpa using this
  exact key _ e rfl (codeOf_012 _ _)
theorem lapK_small {r : Rf} (hv : validB r = true) {c t d : Int} {k : Nat} (hk : k < 2) : lapK r c t d k = [] ∨ ∃ u, lapK r c t d k = [(d, u)] ∧ 0 ≤ u ∧ u ≤ 7 := by
  have hl := lapK_len r c t d k
  have hm := lapK_mem hv (c := c) (t := t) (d := d) k
  have vh := valid_head hv
  cases hL : lapK r c t d k with
  | nil => exact .inl rfl
  | cons p l =>
    rw [hL] at hl hm
    have : l = [] := List.eq_nil_of_length_eq_zero (by simp at hl; omega)
    subst this
    have := hm p (List.mem_cons_self ..)
    obtain ⟨p1, p2⟩ := p
    dsimp only at this
    exact .inr ⟨p2, by rw [this.1], by omega, by omega⟩
set_option maxHeartbeats 1600000 in
set_option maxRecDepth 100000 in
theorem c_l01Laps (r : Rf) (hr : r.Ok) (hv : validB r = true) (b : Nat) (c t y : Int) (hc : 0 ≤ c ∧ c ≤ 7) (ht : 0 ≤ t ∧ t ≤ 7) (hy : -1 ≤ y ∧ y ≤ 1) (w : World) (hb : w.heap[b]? = some (.cells (rcells r) 27 (0,0))) :
    Calls Try.prog 45 #[.pointer (some ⟨b,0,none⟩), .agg #[.int .i8 c, .int .i8 t], .int .i8 y] w (RetS w (lapL r c t (c + y))) := by
  obtain ⟨i0, hi, hz0, hz1, hz2⟩ := info_parts Try.infoPlace
  have vh := valid_head hv
  have HV := hid hv
  have lb := block_lt hb
  have HP := hid (block_alloc (block_alloc hb (.cells #[.int .i8 c, .int .i8 t] 42)) (.cells #[] 42))
  have HCc := hid hc
  have HTt := hid ht
  obtain ⟨d, hd⟩ : ∃ d, d = c + y := ⟨_, rfl⟩
  rw [← hd]
  have ed : IntKind.i8.wrap (c + y) = d := by rw [hd]; exact IntWalk.i8_in _ (by omega)
  have ed6 : IntKind.i64.wrap d = d := IntWalk.i64_in _ (by omega)
  have hcy : -1 ≤ c + y ∧ c + y ≤ 8 := by omega
  have HD := hid hd
  have HH : Hid (r.h ≤ 8 ∧ r.w ≤ 8) := ⟨by omega, by omega⟩
  have HB0 : Hid (Below (w.heap.size + 1) (w.alloc (.cells #[.int .i8 c, .int .i8 t] 42)) ((w.alloc (.cells #[.int .i8 c, .int .i8 t] 42)).alloc (.cells #[] 42))) := (Below.refl _ _).alloc (by simp) _
  have HN0 : Hid (((w.alloc (.cells #[.int .i8 c, .int .i8 t] 42)).alloc (.cells #[] 42)).ownsRow (w.heap.size + 1) 42 2 (.slice (some ⟨w.heap.size + 1, 0, none⟩) 0 0) 0 []) := by
    have := World.ownsRow_made (base := w.heap.size + 1) (e := 42) (size := 2) (w.alloc (.cells #[.int .i8 c, .int .i8 t] 42)) #[] 0 (by simp) (by decide) rfl
    simpa [Hid] using this
  clear vh hd hv
  by_cases hin : inB d 0 (r.h - 1) = true
  · have HI := hid hin
    have hl : lapL r c t d = lapK r c t d 2 := by unfold lapL; rw [if_pos hin]
    rw [hl]
    have hd7 : 0 ≤ d ∧ d ≤ 7 := by have := HH.out; rw [inB_iff] at hin; omega
    have HD7 := hid hd7
    have hs0 := shiftOf_01 r c
    have hf : 0 ≤ firstOf r c t ∧ firstOf r c t ≤ 15 := by unfold firstOf; omega
    have HCF := hid (fun W hW => c_l01First r hr b c t hc ht W hW)
    have HK2 : Hid (∀ k, lapK r c t d (k + 1) = lapStep d (tileOf r d (firstOf r c t + k)) (lapK r c t d k)) := fun k => rfl
    obtain ⟨f, hfe⟩ : ∃ f, f = firstOf r c t := ⟨_, rfl⟩
    rw [← hfe] at hf HCF HK2
    clear hin hl hs0 hc ht hd7 hb hfe
    go_enter Try.func45, Try.ntmps45
    go_wp2_with (first
      | (go_at_call 63; ((with_reducible refine (c_l01Course r hr b d _ HP.out _ HI.out).mono ?_); rintro e w1 ⟨rfl, rfl⟩))
      | (go_at_call 64; ((with_reducible refine (HCF.out _ HP.out).mono ?_); rintro e w1 ⟨rfl, hb1⟩); have b1 := hid hb1; clear hb1))
    have HN1 : Hid (w1.ownsRow (w.heap.size + 1) 42 2 (.slice (some ⟨w.heap.size + 1, 0, none⟩) 0 0) 0 []) := owns_below HN0.out b1.out
    have HB1 : Hid (Below (w.heap.size + 1) (w.alloc (.cells #[.int .i8 c, .int .i8 t] 42)) w1) := HB0.out.trans (b1.out.mono (by simp))
    have HP1 : Hid (∀ wr, Below (w.heap.size + 1) (w.alloc (.cells #[.int .i8 c, .int .i8 t] 42)) wr → wr.heap[b]? = some (.cells (rcells r) 27 (0,0))) := fun wr hbr => by
      have h0 := HP.out
      rw [heap_alloc_old _ _ (by simp; omega)] at h0
      exact block_below hbr h0 (by omega)
    clear HB0 HN0 b1
    go_loopw [7, 10] (fun v i wr => ∃ k : Nat, k ≤ 2 ∧ i = .int .i64 (f + k) ∧ Hid (Below (w.heap.size + 1) (w.alloc (.cells #[.int .i8 c, .int .i8 t] 42)) wr) ∧ Hid (wr.ownsRow (w.heap.size + 1) 42 2 v (lapK r c t d k).length (pcells (lapK r c t d k)))) (fun _ i _ => (f + 2 - intOf i).toNat)
    case atStart => exact ⟨0, by omega, by simp, HB1, HN1⟩
    case round =>
      clear HN1 HB1
      obtain ⟨k, hk, rfl, hb, hO⟩ := hrel
      obtain ⟨n, hn⟩ : ∃ n, n = f + (k : Int) := ⟨_, rfl⟩
      rw [← hn]
      have HNn := hid hn
      by_cases hk2 : k < 2
      · have hle : n ≤ f + 1 := by omega
        have hn1 : 0 ≤ n ∧ n ≤ 100 := by omega
        have HT := hid (c_l01Tile r hr HV.out b d n HD7.out hn1 wr (HP1.out wr hb.out))
        have hu := tileOf_le HV.out d n
        have HY0 := hid (HK2.out k)
        rw [← hn] at HY0
        obtain ⟨u, hue⟩ : ∃ u, u = tileOf r d n := ⟨_, rfl⟩
        rw [← hue] at hu HT HY0
        have eu : IntKind.i8.wrap u = u := IntWalk.i8_in _ (by omega)
        have h7 : u ≤ 7 := hu.2.1
        have h1 : -1 ≤ u := hu.1
        have hs1 : Hid (w.heap.size + 1 ≤ wr.heap.size) := by have := hb.out.size; simpa [Hid] using this
        have hnl : 0 ≤ n := hn1.1
        have hnh : n ≤ 100 := hn1.2
        clear hn hue hu hn1
        have hsm := lapK_small HV.out (c := c) (t := t) (d := d) hk2
        obtain ⟨L, hL⟩ : ∃ L, L = lapK r c t d k := ⟨_, rfl⟩
        rw [← hL] at hsm hO HY0
        have HLk := hid hL
        clear hL
        by_cases hm1 : u < 0
        · have HYY : Hid (lapK r c t d (k + 1) = L) := by
            rw [Hid, HY0.out]; unfold lapStep; rw [if_neg (fun h => h.1 (by omega))]
          clear hsm
          go_wp2_with (go_at_call 65; ((with_reducible refine HT.out.mono ?_); rintro e w3 ⟨rfl, rfl⟩))
          refine ⟨⟨k + 1, by omega, congrArg (Value.int .i64) (by have := HNn.out; omega), hb, ?_⟩, by have := HNn.out; simp [intOf]; omega⟩
          show World.ownsRow _ _ _ _ _ _ _
          rw [HYY.out]; exact hO.out
        · have hm0 : 0 ≤ u := by omega
          clear hm1
          rcases hsm with rfl | ⟨u0, rfl, hu0, hu7⟩
          · obtain ⟨A, cc, rfl⟩ := owns_slice hO.out
            have HYY : Hid (lapK r c t d (k + 1) = [(d, u)]) := by
              rw [Hid, HY0.out]; unfold lapStep; rw [if_pos ⟨by omega, by simp⟩]; rfl
            go_wp2_with (first
              | (go_at_call 65; ((with_reducible refine HT.out.mono ?_); rintro e w3 ⟨rfl, rfl⟩))
              | ((with_reducible refine gate (N := 60) rfl ?_); refine wpList_append_own _ rfl (.tmp 54) (.tmp 59) 33 rfl (w.heap.size + 1) 42 i0 (.agg #[.int .i8 0, .int .i8 0]) 2 2 Try.underlying33 hi hz0 hz1 hz2 rfl (by decide) _ _ _ rfl (hO.out.alloc _) ⟨wr.heap.size, 0, none⟩ 1 1 [.int .i8 d, .int .i8 u] rfl rfl (cell_two_new wr _ _ _) (by simp [Value.oneCell']) (by decide) (by decide) (Nat.le_trans hs1.out (by simp)) ?_; intro v' w5 hown5 hgrow _))
            refine ⟨⟨k + 1, by omega, congrArg (Value.int .i64) (by have := HNn.out; omega), (hb.out.alloc hs1.out _).grown hgrow (by have := hs1.out; simp; omega) (fun k hk => (hO.out.lt k hk).1), ?_⟩, by have := HNn.out; simp [intOf]; omega⟩
            show World.ownsRow _ _ _ _ _ _ _
            rw [HYY.out]; exact hown5
          · obtain ⟨A, cc, rfl, hsl⟩ := slp_of hO.out
            obtain ⟨ob, oo, rfl, o1, o2, o3⟩ := hsl 0 (d, u0) rfl
            simp only [Nat.zero_mul, Nat.add_zero] at o2 o3
            have eu0 : IntKind.i64.wrap u0 = u0 := IntWalk.i64_in _ (by omega)
            clear hsl
            by_cases hq : u0 = u
            · have hne : (u0 != u) = false := by simp [hq]
              have HYY : Hid (lapK r c t d (k + 1) = [(d, u0)]) := by
                rw [Hid, HY0.out]; unfold lapStep; rw [if_neg (fun h => h.2 (by simp [hq]))]
              clear hq
              go_wp2_with (go_at_call 65; ((with_reducible refine HT.out.mono ?_); rintro e w3 ⟨rfl, rfl⟩))
              refine ⟨⟨k + 1, by omega, congrArg (Value.int .i64) (by have := HNn.out; omega), hb, ?_⟩, by have := HNn.out; simp [intOf]; omega⟩
              show World.ownsRow _ _ _ _ _ _ _
              rw [HYY.out]; exact hO.out
            · have hne : (u0 != u) = true := by simpa using hq
              have HYY : Hid (lapK r c t d (k + 1) = [(d, u0), (d, u)]) := by
                rw [Hid, HY0.out]; unfold lapStep; rw [if_pos ⟨by omega, by simp; exact fun h => hq h.symm⟩]; rfl
              clear hq
              go_wp2_with (first
                | (go_at_call 65; ((with_reducible refine HT.out.mono ?_); rintro e w3 ⟨rfl, rfl⟩))
                | ((with_reducible refine gate (N := 60) rfl ?_); refine wpList_append_own _ rfl (.tmp 54) (.tmp 59) 33 rfl (w.heap.size + 1) 42 i0 (.agg #[.int .i8 0, .int .i8 0]) 2 2 Try.underlying33 hi hz0 hz1 hz2 rfl (by decide) _ _ _ rfl (hO.out.alloc _) ⟨wr.heap.size, 0, none⟩ 1 1 [.int .i8 d, .int .i8 u] rfl rfl (cell_two_new wr _ _ _) (by simp [Value.oneCell']) (show 1 + 1 ≤ maxLen by decide) (show (1 + 1) * 2 ≤ 140737488355328 by decide) (Nat.le_trans hs1.out (by simp)) ?_; intro v' w5 hown5 hgrow _))
              refine ⟨⟨k + 1, by omega, congrArg (Value.int .i64) (by have := HNn.out; omega), (hb.out.alloc hs1.out _).grown hgrow (by have := hs1.out; simp; omega) (fun k hk => (hO.out.lt k hk).1), ?_⟩, by have := HNn.out; simp [intOf]; omega⟩
              show World.ownsRow _ _ _ _ _ _ _
              rw [HYY.out]; exact hown5
      · obtain rfl : k = 2 := by omega
        have hgt : f + 1 < n := by omega
        clear hn
        go_wp2_with fail
        go_ret
        exact ⟨_, rfl, ((Below.refl _ w).alloc (Nat.le_refl _) _).trans (hb.out.mono (by omega)), hO.out.mono (by omega)⟩
  · have hin' : inB d 0 (r.h - 1) = false := by simpa using hin
    have HI := hid hin'
    have hl : lapL r c t d = [] := by unfold lapL; rw [if_neg hin]
    rw [hl]
    clear hin hin' hl hc ht hb
    go_enter Try.func45, Try.ntmps45
    go_wp2_with (go_at_call 63; ((with_reducible refine (c_l01Course r hr b d _ HP.out _ HI.out).mono ?_); rintro e w1 ⟨rfl, rfl⟩))
    go_ret
    exact ⟨_, rfl, ((Below.refl _ w).alloc (Nat.le_refl _) _).trans (HB0.out.mono (by omega)), HN0.out.mono (by omega)⟩
set_option maxRecDepth 100000 in
theorem c_sAboveOf (r : Rf) (hr : r.Ok) (c t : Int) (hc : -128 ≤ c ∧ c ≤ 127) (ht : -128 ≤ t ∧ t ≤ 127) (w : World) : Calls Try.prog 18 #[.agg (rcells r), .agg #[.int .i8 c, .int .i8 t]] w (RetP w (besL r c t (-1)) (codeOf (validB r) (isPl r c t))) := by
  have key : ∀ k : Int, codeOf (validB r) (isPl r c t && true) = k → codeOf (validB r) (isPl r c t) = k → (k = 1 ∨ k = 2 ∨ k = 0) → Calls Try.prog 18 #[.agg (rcells r), .agg #[.int .i8 c, .int .i8 t]] w (RetP w (besL r c t (-1)) k) := by
    intro k hk hk' hcs
    have HK := hid hk
    have HL : Hid (besL r c t (-1) = if k = 0 then lapL r c t (c + (-1)) else []) := by
      show _ = _
      unfold besL; rw [hk']
    have HV0 : Hid (k = 0 → validB r = true ∧ (0 ≤ c ∧ c ≤ 7) ∧ (0 ≤ t ∧ t ≤ 7)) := fun h0 => codeOf_pl (hk'.trans h0)
    clear hk hk'
    have HP := hid (block_alloc (block_new1 w (.cells (rcells r) 27) rfl) (.cells #[.int .i8 c, .int .i8 t] 42))
    have HQ := hid (block_new1 (w.alloc (.cells (rcells r) 27)) (.cells #[.int .i8 c, .int .i8 t] 42) (n := w.heap.size + 1) (by simp))
    have HW : Hid (Below w.heap.size w ((w.alloc (.cells (rcells r) 27)).alloc (.cells #[.int .i8 c, .int .i8 t] 42))) := ((Below.refl _ w).alloc (Nat.le_refl _) _).alloc (by simp) _
    have HS : Hid (w.heap.size + 2 ≤ ((w.alloc (.cells (rcells r) 27)).alloc (.cells #[.int .i8 c, .int .i8 t] 42)).heap.size) := by simp [Hid]
    have HCC := hid hc
    have HTT := hid ht
    rcases hcs with rfl | rfl | rfl
    all_goals
      try have HVr := hid (HV0.out rfl).1
      try have HCr := hid (HV0.out rfl).2.1
      try have HTr := hid (HV0.out rfl).2.2
      clear HV0
      go_enter Try.func18, Try.ntmps18
      go_wp2_with (first
        | (go_at_call 44; ((with_reducible refine (c_l01AskedK r hr w.heap.size c t HCC.out HTT.out true _ HK.out _ HP.out).mono ?_); rintro e w1 ⟨rfl, hb1⟩); have b1 := hid hb1; have HQ1 := hid (block_below hb1 HQ.out (by have := HS.out; omega)); have q0 := cell_block HQ1.out (j := 0) rfl; have q1 := cell_block HQ1.out (j := 1) rfl; clear hb1)
        | (go_at_call 45; ((with_reducible refine (c_l01Laps r hr HVr.out w.heap.size c t (-1) HCr.out HTr.out (by omega) _ (block_below b1.out HP.out (by have := HS.out; omega))).mono ?_); rintro e w2 ⟨v, rfl, hb2, ho2⟩)))
      have b2 := hid (HW.out.trans (b1.out.mono HW.out.size))
      go_ret2
      first
        | (refine ⟨_, rfl, b2.out.alloc b2.out.size _, ?_⟩; rw [HL.out]; exact World.ownsRow_made w1 #[] 0 b2.out.size (by decide) rfl)
        | (refine ⟨_, rfl, b2.out.trans (hb2.mono b2.out.size), ?_⟩; rw [HL.out, if_pos (by trivial)]; exact ho2.mono b2.out.size)
  have e : codeOf (validB r) (isPl r c t && true) = codeOf (validB r) (isPl r c t) := by rw [Bool.and_true]
  exact key _ e rfl (codeOf_012 _ _)
set_option maxRecDepth 100000 in
theorem c_sBelowOf (r : Rf) (hr : r.Ok) (c t : Int) (hc : -128 ≤ c ∧ c ≤ 127) (ht : -128 ≤ t ∧ t ≤ 127) (w : World) : Calls Try.prog 21 #[.agg (rcells r), .agg #[.int .i8 c, .int .i8 t]] w (RetP w (besL r c t 1) (codeOf (validB r) (isPl r c t))) := by
  have key : ∀ k : Int, codeOf (validB r) (isPl r c t && true) = k → codeOf (validB r) (isPl r c t) = k → (k = 1 ∨ k = 2 ∨ k = 0) → Calls Try.prog 21 #[.agg (rcells r), .agg #[.int .i8 c, .int .i8 t]] w (RetP w (besL r c t 1) k) := by
    intro k hk hk' hcs
    have HK := hid hk
    have HL : Hid (besL r c t 1 = if k = 0 then lapL r c t (c + 1) else []) := by
      show _ = _
      unfold besL; rw [hk']
    have HV0 : Hid (k = 0 → validB r = true ∧ (0 ≤ c ∧ c ≤ 7) ∧ (0 ≤ t ∧ t ≤ 7)) := fun h0 => codeOf_pl (hk'.trans h0)
    clear hk hk'
    have HP := hid (block_alloc (block_new1 w (.cells (rcells r) 27) rfl) (.cells #[.int .i8 c, .int .i8 t] 42))
    have HQ := hid (block_new1 (w.alloc (.cells (rcells r) 27)) (.cells #[.int .i8 c, .int .i8 t] 42) (n := w.heap.size + 1) (by simp))
    have HW : Hid (Below w.heap.size w ((w.alloc (.cells (rcells r) 27)).alloc (.cells #[.int .i8 c, .int .i8 t] 42))) := ((Below.refl _ w).alloc (Nat.le_refl _) _).alloc (by simp) _
    have HS : Hid (w.heap.size + 2 ≤ ((w.alloc (.cells (rcells r) 27)).alloc (.cells #[.int .i8 c, .int .i8 t] 42)).heap.size) := by simp [Hid]
    have HCC := hid hc
    have HTT := hid ht
    rcases hcs with rfl | rfl | rfl
    all_goals
      try have HVr := hid (HV0.out rfl).1
      try have HCr := hid (HV0.out rfl).2.1
      try have HTr := hid (HV0.out rfl).2.2
      clear HV0
      go_enter Try.func21, Try.ntmps21
      go_wp2_with (first
        | (go_at_call 44; ((with_reducible refine (c_l01AskedK r hr w.heap.size c t HCC.out HTT.out true _ HK.out _ HP.out).mono ?_); rintro e w1 ⟨rfl, hb1⟩); have b1 := hid hb1; have HQ1 := hid (block_below hb1 HQ.out (by have := HS.out; omega)); have q0 := cell_block HQ1.out (j := 0) rfl; have q1 := cell_block HQ1.out (j := 1) rfl; clear hb1)
        | (go_at_call 45; ((with_reducible refine (c_l01Laps r hr HVr.out w.heap.size c t 1 HCr.out HTr.out (by omega) _ (block_below b1.out HP.out (by have := HS.out; omega))).mono ?_); rintro e w2 ⟨v, rfl, hb2, ho2⟩)))
      have b2 := hid (HW.out.trans (b1.out.mono HW.out.size))
      go_ret2
      first
        | (refine ⟨_, rfl, b2.out.alloc b2.out.size _, ?_⟩; rw [HL.out]; exact World.ownsRow_made w1 #[] 0 b2.out.size (by decide) rfl)
        | (refine ⟨_, rfl, b2.out.trans (hb2.mono b2.out.size), ?_⟩; rw [HL.out, if_pos (by trivial)]; exact ho2.mono b2.out.size)
  have e : codeOf (validB r) (isPl r c t && true) = codeOf (validB r) (isPl r c t) := by rw [Bool.and_true]
  exact key _ e rfl (codeOf_012 _ _)
end Go.Proofs.Ytfijinbdpfeceaa

/- The tiles beside a tile, the reference's. -/
namespace Go.Proofs.Ytfijinbdpfeceaa
open Go.RowKit
set_option linter.unusedSimpArgs false
set_option linter.unusedVariables false

/-- What stands when some of the operations have been carried out. -/
def BesS (B : Nat) (L1 L2 : List (Int × Int)) (res : Nat → Option Value) (V : World) : Prop :=
  (∀ v, res 2 = some v → res 6 = none → RowQ B V v L1) ∧ (∀ v, res 5 = some v → res 6 = none → RowQ B V v L2) ∧ (∀ v v', res 2 = some v → res 5 = some v' → res 6 = none → Apart v v') ∧ (∀ v, res 6 = some v → RowQ B V v (L1 ++ L2)) ∧ (∀ v, res 7 = some v → res 6 = some v)
theorem two_at (c t : Int) {k : Nat} (hk : k < 2) : (twoL c t)[k]? = some (c, t + (2 * (k : Int) - 1)) := by
  match k, hk with
  | 0, _ => simp [twoL]; omega
  | 1, _ => simp [twoL]
set_option maxHeartbeats 3200000 in
set_option maxRecDepth 100000 in
theorem c_l01Beside (r : Rf) (hr : r.Ok) (hv : validB r = true) (b : Nat) (c t : Int) (hc : 0 ≤ c ∧ c ≤ 7) (ht : 0 ≤ t ∧ t ≤ 7) (w : World) (hX : w.heap[b]? = some (.cells (rcells r) 27 (0, 0))) :
    Calls Try.prog 70 #[.pointer (some ⟨b,0,none⟩), .agg #[.int .i8 c, .int .i8 t]] w (RetS w (besideL r c t)) := by
  have HX := hid (block_alloc hX (.cells #[.int .i8 c, .int .i8 t] 42))
  have HP := hid (block_new1 w (.cells #[.int .i8 c, .int .i8 t] 42) rfl)
  have LX := hid (block_lt hX)
  obtain ⟨W0, hW0⟩ : ∃ W0, W0 = w.alloc (.cells #[.int .i8 c, .int .i8 t] 42) := ⟨_, rfl⟩
  have HW : Hid (Below w.heap.size w W0) := by rw [hW0]; exact (Below.refl _ w).alloc (Nat.le_refl _) _
  have HS : Hid (w.heap.size + 1 ≤ W0.heap.size) := by rw [hW0]; simp [Hid]
  rw [← hW0] at HX HP
  obtain ⟨L1, hL1⟩ : ∃ L, L = lapL r c t (c - 1) := ⟨_, rfl⟩
  obtain ⟨L2, hL2⟩ : ∃ L, L = lapL r c t (c + 1) := ⟨_, rfl⟩
  have HLA : Hid (L1.length ≤ 2 ∧ L2.length ≤ 2) := by rw [hL1, hL2]; exact ⟨lapL_len _ _ _ _, lapL_len _ _ _ _⟩
  have HC1 := fun W h => hid (c_l01Laps r hr hv b c t (-1) hc ht (by omega) W h)
  have HC2 := fun W h => hid (c_l01Laps r hr hv b c t 1 hc ht (by omega) W h)
  rw [show c + -1 = c - 1 by omega, ← hL1] at HC1
  rw [← hL2] at HC2
  have HE : Hid (besideL r c t = (L1 ++ L2) ++ (twoL c t).filter (hasQ r)) := by rw [hL1, hL2]; rfl
  have HCX := hid HC1
  have HCY := hid HC2
  have HV := hid hv
  clear hL1 hL2 HC1 HC2 hv hX
  go_enter Try.func70, Try.ntmps70
  go_wp2_with fail
  rw [← hW0]
  clear hW0
  refine wp_region_wildK (w.heap.size + 1) [0, 1, 3, 4] [2, 5, 6, 7] ?s1 (BesS (w.heap.size + 1) L1 L2) (by kernel_rfl) (by kernel_rfl) (by kernel_rfl) (by kernel_rfl) HS.out ?pre1 ?zero1 ?mono1 ?step1 ?end1
  case pre1 =>
    intro B' W' hb hB hS
    have l1 : w.heap.size < B' := by omega
    have HPb := hid (block_below hb HP.out (by omega))
    have q0 : W'.cell? ⟨w.heap.size, 0, none⟩ = some (.int .i8 c) := cell_block HPb.out rfl
    have q1 : W'.cell? ⟨w.heap.size, 1, none⟩ = some (.int .i8 t) := cell_block HPb.out rfl
    change wpQuiet _ _ _ _ [_, _, _, _] _
    repeat (go_big_quiet_step (fail))
    refine wpQuiet_nil ?_
    exact rfl
  case zero1 => exact fun w' _ => ⟨fun v h => (by cases h), fun v h => (by cases h), fun v v' h => (by cases h), fun v h => (by cases h), fun v h => (by cases h)⟩
  case mono1 =>
    rintro res V V' ⟨h1, h2, h3, h4, h5⟩ hb
    exact ⟨fun v a b => (h1 v a b).below hb (Nat.le_refl _), fun v a b => (h2 v a b).below hb (Nat.le_refl _), h3, fun v a => (h4 v a).below hb (Nat.le_refl _), h5⟩
  case step1 =>
    intro i o hi ho res a wq hn hRq hbq hBq hey hdep
    simp only [List.mem_cons, List.not_mem_nil, or_false] at hi
    obtain ⟨h1, h2, h3, h4, h5⟩ := hRq
    have HXq := hid (block_below hbq HX.out (by have := LX.out; omega))
    rcases hi with rfl | rfl | rfl | rfl
    · obtain rfl := Option.some.inj ho
      have e8 : a.eval (.tmp 8) = .pointer (some ⟨b, 0, none⟩) := (hey 8 (by decide)).2 (by decide)
      have e9 : a.eval (.tmp 9) = .agg #[.int .i8 c, .int .i8 t] := (hey 9 (by decide)).2 (by decide)
      refine .inl ⟨45, #[.pointer (some ⟨b, 0, none⟩), .agg #[.int .i8 c, .int .i8 t], .int .i8 (-1)], fun W => by unfold execOp; go_simp; exact ⟨(getD_q a 8).trans e8, (getD_q a 9).trans e9⟩, ?_⟩
      refine (HCX.out wq HXq.out).out.mono ?_
      rintro e w' ⟨v, rfl, hb', hr'⟩
      refine ⟨v, rfl, ⟨fun u hu _ => ?_, fun u hu h14 => (h2 u hu h14).below hb' (Nat.le_refl _), fun u u' hu hu' h14 g hg hg' => ?_, fun u hu => (h4 u hu).below hb' (Nat.le_refl _), h5⟩, hbq.trans (hb'.mono hBq)⟩
      · obtain rfl : v = u := Option.some.inj hu
        exact World.ownsRow.mono hr' hBq
      · obtain rfl : v = u := Option.some.inj hu
        have a1 := (World.ownsRow.lt hr' g hg).1
        have a2 := (World.ownsRow.lt (h2 u' hu' h14) g hg').2
        omega
    · obtain rfl := Option.some.inj ho
      have e11 : a.eval (.tmp 11) = .pointer (some ⟨b, 0, none⟩) := (hey 11 (by decide)).2 (by decide)
      have e12 : a.eval (.tmp 12) = .agg #[.int .i8 c, .int .i8 t] := (hey 12 (by decide)).2 (by decide)
      refine .inl ⟨45, #[.pointer (some ⟨b, 0, none⟩), .agg #[.int .i8 c, .int .i8 t], .int .i8 1], fun W => by unfold execOp; go_simp; exact ⟨(getD_q a 11).trans e11, (getD_q a 12).trans e12⟩, ?_⟩
      refine (HCY.out wq HXq.out).out.mono ?_
      rintro e w' ⟨v, rfl, hb', hr'⟩
      refine ⟨v, rfl, ⟨fun u hu h14 => (h1 u hu h14).below hb' (Nat.le_refl _), fun u hu _ => ?_, fun u u' hu hu' h14 g hg hg' => ?_, fun u hu => (h4 u hu).below hb' (Nat.le_refl _), h5⟩, hbq.trans (hb'.mono hBq)⟩
      · obtain rfl : v = u := Option.some.inj hu
        exact World.ownsRow.mono hr' hBq
      · obtain rfl : v = u' := Option.some.inj hu'
        have a1 := (World.ownsRow.lt hr' g hg').1
        have a2 := (World.ownsRow.lt (h1 u hu h14) g hg).2
        omega
    · obtain rfl := Option.some.inj ho
      have r6 := (hey 10 (by decide)).1 2 (by decide) (by decide)
      have r13 := (hey 13 (by decide)).1 5 (by decide) (by decide)
      have hO1 := h1 _ r6 hn
      have hO2 := h2 _ r13 hn
      obtain ⟨A2, c2, e2'⟩ := owns_slc hO2
      have e14 : a.eval (.tmp 10) = a.tmps.getD 10 undef := rfl
      have e21 : a.eval (.tmp 13) = .slice A2 L2.length c2 := e2'
      rw [e2'] at hO2
      obtain ⟨v', w', hrun, hown, hg⟩ := run_appQ 33 (w.heap.size + 1) wq _ L1 L2 hO1 A2 c2 hO2.pairs (by have := HLA.out; omega) hBq
      refine .inr (.inl ⟨v', w', exec_append rfl e14 e21 hrun, ⟨fun u hu h14 => (by cases h14), fun u hu h14 => (by cases h14), fun u u' hu hu' h14 => (by cases h14), fun u hu => ?_, fun u hu => ?_⟩, hbq.trans (hO1.belowG hg hBq)⟩)
      · obtain rfl : v' = u := Option.some.inj hu
        exact hown
      · exact absurd (h5 u hu) (by rw [hn]; simp)
    · obtain rfl := Option.some.inj ho
      have r14 := (hey 14 (by decide)).1 6 (by decide) (by decide)
      refine .inr (.inl ⟨a.tmps.getD 14 undef, wq, by unfold execOp; go_simp, ⟨h1, h2, h3, h4, fun u hu => ?_⟩, hbq⟩)
      obtain rfl := Option.some.inj hu
      exact r14
  case end1 =>
    intro val wq hRq hbq
    obtain ⟨_, _, _, h4, h5⟩ := hRq
    have hv4 : RowQ (w.heap.size + 1) wq (val 6) (L1 ++ L2) := h4 (val 6) rfl
    have hv5 : val 6 = val 7 := Option.some.inj (h5 (val 7) rfl)
    rw [hv5] at hv4
    obtain ⟨vo, hvo⟩ : ∃ v, v = val 7 := ⟨_, rfl⟩
    rw [← hvo] at hv4
    have hBq : w.heap.size + 1 ≤ wq.heap.size := Nat.le_trans HS.out hbq.size
    have HXq := hid (block_below hbq HX.out (by have := LX.out; omega))
    have HPq := hid (block_below hbq HP.out (by omega))
    have HV1 : Hid (RowQ (w.heap.size + 1) wq vo (L1 ++ L2 ++ ((twoL c t).take 0).filter (hasQ r))) := by
      simp only [List.take_zero, List.filter_nil, List.append_nil]
      exact hv4
    have HWq := hid (HW.out.trans (hbq.mono (by omega)))
    clear h4 h5 hv4 hbq HCX HCY
    change Exit.then _ _ _ (((((_ : Act).put (some 10) (val 2)).put (some 13) (val 5)).put (some 14) (val 6)).put (some 5) (val 7)) _
    rw [← hvo]
    simp only [Act.put, List.setIfInBounds_toArray, List.set_cons_zero, List.set_cons_succ]
    clear hv5 hvo
    go_wp2_with fail
    go_loopw [5, 6] (fun v i wr => ∃ k : Nat, k ≤ 2 ∧ i = .int .i8 (2 * (k : Int) - 1) ∧ Hid (RowQ (w.heap.size + 1) wr v (L1 ++ L2 ++ ((twoL c t).take k).filter (hasQ r))) ∧ Hid (wr.heap[w.heap.size]? = some (.cells #[.int .i8 c, .int .i8 t] 42 (0, 0))) ∧ Hid (wr.heap[b]? = some (.cells (rcells r) 27 (0, 0))) ∧ Hid (Below w.heap.size w wr)) (fun _ i _ => (3 - intOf i).toNat)
    case atStart => exact ⟨0, by omega, rfl, HV1.out, HPq.out, HXq.out, HWq.out⟩
    case round =>
      clear HV1 HPq HXq HWq
      obtain ⟨k, hk, rfl, hro, hpk, hx, hb⟩ := hrel
      obtain ⟨Ao, co, rfl⟩ := owns_slc hro.out
      have hol : (L1 ++ L2 ++ ((twoL c t).take k).filter (hasQ r)).length ≤ 6 := by
        have h1 := HLA.out
        have h2 := List.length_filter_le (hasQ r) ((twoL c t).take k)
        have h3 : ((twoL c t).take k).length ≤ 2 := by rw [List.length_take]; simp [twoL]; omega
        rw [List.length_append, List.length_append]; omega
      obtain ⟨O, hO⟩ : ∃ O, O = L1 ++ L2 ++ ((twoL c t).take k).filter (hasQ r) := ⟨_, rfl⟩
      have LWr : w.heap.size + 1 ≤ wr.heap.size := block_lt hpk.out
      by_cases hk2 : k < 2
      · obtain ⟨y, hy⟩ : ∃ y, y = 2 * (k : Int) - 1 := ⟨_, rfl⟩
        have hyb : -1 ≤ y ∧ y ≤ 1 := by omega
        have hd : decide (y ≤ 1) = true := decide_eq_true (by omega)
        have hp := two_at c t hk2
        rw [← hy] at hp ⊢
        have HTK := hid (two_take r c t hp)
        obtain ⟨p2, hp2⟩ : ∃ p, p = t + y := ⟨_, rfl⟩
        rw [← hp2] at HTK
        have ep : IntKind.i8.wrap (t + y) = p2 := by rw [hp2]; exact IntWalk.i8_in _ (by omega)
        have ey : IntKind.i8.wrap (y + 2) = y + 2 := IntWalk.i8_in _ (by omega)
        have hyk : y + 2 = 2 * ((k + 1 : Nat) : Int) - 1 := by omega
        have q0 : wr.cell? ⟨w.heap.size, 0, none⟩ = some (.int .i8 c) := cell_block hpk.out rfl
        have q1 : wr.cell? ⟨w.heap.size, 1, none⟩ = some (.int .i8 t) := cell_block hpk.out rfl
        have HIS := fun W h => hid (c_l01Is c p2 (by omega) (by omega) r hr b W h _ rfl)
        obtain ⟨bb, hbb⟩ : ∃ b, b = isPl r c p2 := ⟨_, rfl⟩
        rw [← hbb] at HIS
        have HBB : Hid (hasQ r (c, p2) = bb) := by rw [hbb]; exact hasB_valid HV.out c p2
        have HXn := hid (block_alloc hx.out (.cells #[.int .i8 c, .int .i8 p2] 42))
        have HNn := hid (block_new1 wr (.cells #[.int .i8 c, .int .i8 p2] 42) rfl)
        have Hbn := hid ((Below.refl wr.heap.size wr).alloc (Nat.le_refl _) (.cells #[.int .i8 c, .int .i8 p2] 42))
        have k0 : (wr.alloc (.cells #[.int .i8 c, .int .i8 p2] 42)).cell? ⟨wr.heap.size, 0, none⟩ = some (.int .i8 c) := cell_block HNn.out rfl
        have k1 : (wr.alloc (.cells #[.int .i8 c, .int .i8 p2] 42)).cell? ⟨wr.heap.size, 1, none⟩ = some (.int .i8 p2) := cell_block HNn.out rfl
        rw [← hO] at hro hol ⊢
        have HO := hid hO
        have HYK := hid hyk
        have HYB := hid hyb
        have HK2 := hid hk2
        clear hp hbb hO hp2 hy hyk
        cases bb with
        | true =>
          go_wp2_with (first
            | (go_at_call 57; ((refine (HIS _ HXn.out).out.mono ?_); rintro e w5 ⟨rfl, hb5⟩); have HB5 := hid (Hbn.out.trans (hb5.mono Hbn.out.size)); have HN5 := hid (block_below hb5 HNn.out (by simp)); have z0 : w5.cell? ⟨wr.heap.size, 0, none⟩ = some (.int .i8 c) := cell_block HN5.out rfl; have z1 : w5.cell? ⟨wr.heap.size, 1, none⟩ = some (.int .i8 p2) := cell_block HN5.out rfl; have HRO5 := hid (hro.out.below HB5.out (Nat.le_refl _)); have HPK5 := hid (block_below HB5.out hpk.out (block_lt hpk.out)); have HX5 := hid (block_below HB5.out hx.out (block_lt hx.out)); have LB5' := Nat.le_trans LWr HB5.out.size; clear hb5)
            | ((with_reducible refine gate (N := 32) rfl ?_); (refine wp_app1Q rfl (.tmp 29) (.tmp 31) rfl (w.heap.size + 1) (.slice Ao O.length co) O c p2 HRO5.out rfl w5.heap.size rfl (Nat.le_trans hol (by decide)) LB5' rfl ?_); intro v' w6 hown hg; obtain ⟨A6, c6, rfl⟩ := owns_slc hown; have HG6 := hid hg; have HRO6 := hid hown; clear hg hown))
          have hb6 : Below (w.heap.size + 1) w5 w6 := HRO5.out.belowG HG6.out LB5'
          refine ⟨⟨k + 1, HK2.out, congrArg (Value.int .i8) HYK.out, ?_, block_below hb6 HPK5.out (Nat.lt_succ_self _), block_below hb6 HX5.out (by have := LX.out; omega), (hb.out.trans (HB5.out.mono hb.out.size)).trans (hb6.mono (Nat.le_succ _))⟩, by have := HYB.out; simp [intOf]; omega⟩
          show RowQ _ _ _ _
          rw [HTK.out, if_pos HBB.out, ← List.append_assoc, ← HO.out]
          have := HRO6.out
          rw [List.length_append] at this
          exact this
        | false =>
          go_wp2_with (go_at_call 57; ((refine (HIS _ HXn.out).out.mono ?_); rintro e w5 ⟨rfl, hb5⟩); have HB5 := hid (Hbn.out.trans (hb5.mono Hbn.out.size)); clear hb5)
          refine ⟨⟨k + 1, HK2.out, congrArg (Value.int .i8) HYK.out, ?_, block_below HB5.out hpk.out (block_lt hpk.out), block_below HB5.out hx.out (block_lt hx.out), hb.out.trans (HB5.out.mono hb.out.size)⟩, by have := HYB.out; simp [intOf]; omega⟩
          show RowQ _ _ _ _
          rw [HTK.out, if_neg (by rw [HBB.out]; simp), List.append_nil, ← HO.out]
          exact hro.out.below HB5.out (Nat.le_refl _)
      · obtain rfl : k = 2 := by omega
        have hd : decide ((2 : Int) * ((2 : Nat) : Int) - 1 ≤ 1) = false := rfl
        have HRO : Hid (RowQ w.heap.size wr (.slice Ao O.length co) (besideL r c t)) := by
          rw [HE.out]
          have h1 : (twoL c t).take 2 = twoL c t := rfl
          rw [h1] at hO hro
          rw [← hO] at hro ⊢
          exact World.ownsRow.mono hro.out (by omega)
        rw [← hO]
        clear hO hro hol
        go_wp2_with fail
        go_ret
        exact ⟨_, rfl, hb.out, HRO.out⟩
end Go.Proofs.Ytfijinbdpfeceaa

/- The patch of a tile, the reference's. -/
namespace Go.Proofs.Ytfijinbdpfeceaa
open Go.RowKit
set_option linter.unusedSimpArgs false
set_option linter.unusedVariables false

/-- The marks: a cell is true just where its place is in S. -/
def mcells (S : List (Int × Int)) : Array Value := ((List.range 64).map fun n => Value.bool (decide ((((n / 8 : Nat) : Int), ((n % 8 : Nat) : Int)) ∈ S))).toArray
theorem mcells_get (S : List (Int × Int)) {i k : Nat} (hi : i < 8) (hk : k < 8) : (mcells S)[i * 8 + k]? = some (.bool (decide (((i : Int), (k : Int)) ∈ S))) := by
  unfold mcells
  rw [List.getElem?_toArray, List.getElem?_map, List.getElem?_range (by omega)]
  simp only [Option.map_some]
  rw [show (i * 8 + k) / 8 = i by omega, show (i * 8 + k) % 8 = k by omega]
theorem mcells_set (S : List (Int × Int)) {i k : Nat} (hi : i < 8) (hk : k < 8) : (mcells S).setIfInBounds (i * 8 + k) (.bool true) = mcells (S ++ [((i : Int), (k : Int))]) := by
  apply Array.ext
  · simp [mcells]
  · intro n h1 h2
    have hn : n < 64 := by simpa [mcells] using h2
    have hs : n < (mcells S).size := by simpa [mcells] using hn
    rw [Array.getElem_setIfInBounds hs]
    have e1 : (mcells S)[n]'hs = .bool (decide ((((n / 8 : Nat) : Int), ((n % 8 : Nat) : Int)) ∈ S)) := by simp [mcells]
    have e2 : (mcells (S ++ [((i : Int), (k : Int))]))[n]'h2 = .bool (decide ((((n / 8 : Nat) : Int), ((n % 8 : Nat) : Int)) ∈ S ++ [((i : Int), (k : Int))])) := by simp [mcells]
    rw [e1, e2]
    by_cases h : i * 8 + k = n
    · rw [if_pos h]
      congr 1
      symm
      rw [decide_eq_true_iff]
      refine List.mem_append.2 (.inr ?_)
      rw [List.mem_singleton, Prod.mk.injEq]
      constructor <;> omega
    · rw [if_neg h]
      congr 1
      rw [decide_eq_decide, List.mem_append, List.mem_singleton, Prod.mk.injEq]
      constructor
      · exact Or.inl
      · rintro (h' | ⟨h1, h2⟩)
        · exact h'
        · omega
theorem mcells_one (S : List (Int × Int)) : (mcells S).all (·.oneCell') = true := by
  rw [Array.all_eq_true]
  intro i hi
  simp [mcells, Value.oneCell']
theorem mcells_size (S : List (Int × Int)) : (mcells S).size = 64 := by simp [mcells]
@[go_sem high] theorem Try.zeroMarks (w : World) : (zeroValue 87).run Try.prog w = .ok (.agg (mcells [])) w := by kernel_rfl
theorem marks_lit : mcells [] = ((#[.bool false, .bool false, .bool false, .bool false, .bool false, .bool false, .bool false, .bool false, .bool false, .bool false, .bool false, .bool false, .bool false, .bool false, .bool false, .bool false, .bool false, .bool false, .bool false, .bool false, .bool false, .bool false, .bool false, .bool false, .bool false, .bool false, .bool false, .bool false, .bool false, .bool false, .bool false, .bool false, .bool false, .bool false, .bool false, .bool false, .bool false, .bool false, .bool false, .bool false, .bool false, .bool false, .bool false, .bool false, .bool false, .bool false, .bool false, .bool false, .bool false, .bool false, .bool false, .bool false, .bool false, .bool false, .bool false, .bool false, .bool false, .bool false, .bool false, .bool false, .bool false, .bool false, .bool false, .bool false]) : Array Value) := by kernel_rfl
theorem exec_build_marks (a : Act) (dst : Option Tmp) (ty : TypeId) (pos : String) (after : Array Edge) (guard : Option (Nat × Bool)) (w : World) : (execOp a.eval { dst, op := .build 87 #[], type := ty, pos, after, guard }).run Try.prog w = .ok (.value (.agg (mcells []))) w := by kernel_rfl
theorem Try.infoMarks : (Try.prog.info? 87).map (·.size) = some 64 := by kernel_rfl
/-- How the world stands in the reference's search: the roof, the place and the marks lie where they lay. -/
def PatW (w : World) (r : Rf) (b : Nat) (c t : Int) (S : List (Int × Int)) (V : World) : Prop :=
  V.heap[b]? = some (.cells (rcells r) 27 (0, 0)) ∧ V.heap[w.heap.size]? = some (.cells #[.int .i8 c, .int .i8 t] 42 (0, 0)) ∧ V.heap[w.heap.size + 1]? = some (.cells (mcells S) 87 (0, 0)) ∧ Below w.heap.size w V ∧ w.heap.size + 2 ≤ V.heap.size
theorem PatW.below {w : World} {r : Rf} {b : Nat} {c t : Int} {S : List (Int × Int)} {V V' : World} (h : PatW w r b c t S V) (hb : b < w.heap.size) {B : Nat} (h2 : Below B V V') (hB : w.heap.size + 2 ≤ B) : PatW w r b c t S V' :=
  ⟨block_below h2 h.1 (by omega), block_below h2 h.2.1 (by omega), block_below h2 h.2.2.1 (by omega), h.2.2.2.1.trans (h2.mono (by omega)), Nat.le_trans h.2.2.2.2 h2.size⟩
theorem PatW.put {w : World} {r : Rf} {b : Nat} {c t : Int} {S : List (Int × Int)} {V : World} (h : PatW w r b c t S V) (hb : b < w.heap.size) {i k : Nat} (hi : i < 8) (hk : k < 8) :
    PatW w r b c t (S ++ [((i : Int), (k : Int))]) (V.setCell ⟨w.heap.size + 1, i * 8 + k, none⟩ (.bool true)) := by
  refine ⟨block_set_other h.1 _ (by simp; omega), block_set_other h.2.1 _ (by simp), ?_, h.2.2.2.1.setCell (p := ⟨w.heap.size + 1, i * 8 + k, none⟩) (by simp) _, by simpa [World.setCell] using h.2.2.2.2⟩
  rw [← mcells_set S hi hk]
  exact heap_setCell_same V _ _ _ _ _ h.2.2.1
theorem PatW.cell {w : World} {r : Rf} {b : Nat} {c t : Int} {S : List (Int × Int)} {V : World} (h : PatW w r b c t S V) {i k : Nat} (hi : i < 8) (hk : k < 8) :
    V.cell? ⟨w.heap.size + 1, i * 8 + k, none⟩ = some (.bool (decide (((i : Int), (k : Int)) ∈ S))) ∧ V.frozen? ⟨w.heap.size + 1, i * 8 + k, none⟩ = false :=
  ⟨cell_block h.2.2.1 (mcells_get S hi hk), frozen_of_row _ _ _ _ _ h.2.2.1⟩
theorem PatW.place {w : World} {r : Rf} {b : Nat} {c t : Int} {S : List (Int × Int)} {V : World} (h : PatW w r b c t S V) : V.cell? ⟨w.heap.size, 0, none⟩ = some (.int .i8 c) ∧ V.cell? ⟨w.heap.size, 1, none⟩ = some (.int .i8 t) :=
  ⟨cell_block h.2.1 rfl, cell_block h.2.1 rfl⟩
theorem PatW.drew {w : World} {r : Rf} {b : Nat} {c t : Int} {S : List (Int × Int)} {V : World} (h : PatW w r b c t S V) : PatW w r b c t S V.drew := ⟨h.1, h.2.1, h.2.2.1, h.2.2.2.1.drew, h.2.2.2.2⟩
theorem PatW.alloc {w : World} {r : Rf} {b : Nat} {c t : Int} {S : List (Int × Int)} {V : World} (h : PatW w r b c t S V) (o : Obj) : PatW w r b c t S (V.alloc o) :=
  ⟨block_alloc h.1 o, block_alloc h.2.1 o, block_alloc h.2.2.1 o, h.2.2.2.1.alloc h.2.2.2.1.size o, by have := h.2.2.2.2; simp; omega⟩
set_option maxHeartbeats 12800000 in
set_option maxRecDepth 100000 in
theorem c_l01Patch (r : Rf) (hr : r.Ok) (hv : validB r = true) (b : Nat) (c t : Int) (hin : InR r (c, t)) (w : World) (hX : w.heap[b]? = some (.cells (rcells r) 27 (0, 0))) :
    Calls Try.prog 49 #[.pointer (some ⟨b, 0, none⟩), .agg #[.int .i8 c, .int .i8 t]] w (RetS w (patchL r c t)) := by
  have vh := valid_head hv
  have hct : (0 ≤ c ∧ c ≤ 7) ∧ (0 ≤ t ∧ t ≤ 7) := by unfold InR at hin; omega
  have lbX := block_lt hX
  obtain ⟨ci, hci⟩ := Int.eq_ofNat_of_zero_le hct.1.1
  obtain ⟨ti, hti⟩ := Int.eq_ofNat_of_zero_le hct.2.1
  subst hci
  subst hti
  have HP := hid (block_new1 w (.cells #[.int .i8 (ci : Int), .int .i8 (ti : Int)] 42) rfl)
  have HN1 := hid (block_new1 (w.alloc (.cells #[.int .i8 (ci : Int), .int .i8 (ti : Int)] 42)) (.cells (mcells []) 87) (n := w.heap.size + 1) (by simp))
  have HPa := hid (block_alloc HP.out (.cells (mcells []) 87))
  have HXa := hid (block_alloc (block_alloc hX (.cells #[.int .i8 (ci : Int), .int .i8 (ti : Int)] 42)) (.cells (mcells []) 87))
  have HWa : Hid (Below w.heap.size w ((w.alloc (.cells #[.int .i8 (ci : Int), .int .i8 (ti : Int)] 42)).alloc (.cells (mcells []) 87))) := ((Below.refl _ w).alloc (Nat.le_refl _) _).alloc (by simp) _
  obtain ⟨Wa, hWa⟩ : ∃ Wa, Wa = (w.alloc (.cells #[.int .i8 (ci : Int), .int .i8 (ti : Int)] 42)).alloc (.cells (mcells []) 87) := ⟨_, rfl⟩
  have HSa : Hid (Wa.heap.size = w.heap.size + 2) := by rw [hWa]; simp [Hid]
  rw [← hWa] at HN1 HPa HXa HWa
  have ci8 : ci < 8 := by omega
  have ti8 : ti < 8 := by omega
  have i1 : (ci : Int) < 8 := by omega
  have i2 : (ti : Int) < 8 := by omega
  have i3 : (0 : Int) ≤ (ci : Int) := by omega
  have i4 : (0 : Int) ≤ (ti : Int) := by omega
  have HV := hid hv
  obtain ⟨kd, hkd⟩ : ∃ k, k = r.at (ci : Int).toNat (ti : Int).toNat := ⟨_, rfl⟩
  have HKA := fun W h => hid (c_l01At r hr b (ci : Int) (ti : Int) hct.1 hct.2 W h)
  rw [← hkd] at HKA
  obtain ⟨F, hF⟩ : ∃ F, F = patchF r (ci : Int) (ti : Int) := ⟨_, rfl⟩
  have HF : Hid (bfsQ r kd (65 - 0) 0 [((ci : Int), (ti : Int))] = F) := by rw [hF, hkd]; rfl
  have HG1 : Hid (GoodQ r [((ci : Int), (ti : Int))]) := ⟨by simp, fun p hp => by simp at hp; subst hp; exact hin⟩
  have HPL : Hid (patchL r (ci : Int) (ti : Int) = sortP F) := by rw [hF]; rfl
  have LBX := hid lbX
  clear hkd hF hv hin hct vh hX lbX
  go_enter Try.func49, Try.ntmps49
  go_wp2_with (first
    | ((with_reducible refine gate (N := 13) rfl ?_); refine wpList_run rfl (.agg (mcells [])) (exec_build_marks _ _ _ _ _ _ _) ?_)
    | ((with_reducible refine gateN rfl ?_); rw [← marks_lit, ← hWa]; refine wpList_store_block rfl 87 (.tmp 5) (.tmp 13) rfl (w.heap.size + 1) 0 _ (mcells []) (mcells []) _ HN1.out rfl rfl (by rw [mcells_size]; omega) (by rw [Try.infoMarks, mcells_size]) (mcells_one []) (setAll_whole rfl) ?_; intro w2 hw2 hg2 hs2; have HM2 := hid hw2; have HG2 := hid hg2; have HS2 := hid hs2; clear hw2 hg2 hs2))
  have HWP : Hid (PatW w r b ci ti [] w2) := by
    refine ⟨block_grown HG2.out HXa.out (by have := LBX.out; omega), block_grown HG2.out HPa.out (by omega), HM2.out, ?_, by have := HS2.out; have := HSa.out; omega⟩
    exact HWa.out.grown HG2.out HWa.out.size (fun k hk => by cases hk; omega)
  clear HP HN1 HXa HPa HWa HM2 HG2 HS2 HSa hWa
  obtain ⟨p0, p1⟩ := HWP.out.place
  obtain ⟨m0, m1⟩ := HWP.out.cell ci8 ti8
  refine wp_region_tail 6 (by kernel_rfl) (by kernel_rfl) ?_
  simp only [List.take_succ_cons, List.take_zero, List.drop_succ_cons, List.drop_zero]
  repeat still_step
  refine wpStill_nil ?_
  have HW3 := (HWP.out.put LBX.out ci8 ti8)
  rw [List.nil_append] at HW3
  have HLW : Hid (w.heap.size + 2 ≤ w2.heap.size) := HWP.out.2.2.2.2
  have HRO : Hid (RowQ (w.heap.size + 2) ((w2.setCell ⟨w.heap.size + 1, ci * 8 + ti, none⟩ (.bool true)).alloc (.cells #[.int .i8 (ci : Int), .int .i8 (ti : Int)] 42)).drew (.slice (some ⟨w2.heap.size, 0, none⟩) 1 1) [((ci : Int), (ti : Int))]) := by
    have := row_one (w2.setCell ⟨w.heap.size + 1, ci * 8 + ti, none⟩ (.bool true)) (B := w.heap.size + 2) (by simpa [World.setCell] using HLW.out) ci ti
    simp only [show (w2.setCell ⟨w.heap.size + 1, ci * 8 + ti, none⟩ (.bool true)).heap.size = w2.heap.size by simp [World.setCell]] at this
    exact this
  have HWA := hid (HW3.alloc (.cells #[.int .i8 (ci : Int), .int .i8 (ti : Int)] 42)).drew
  clear HWP HW3
  go_wp2_with fail
  go_loopw [6, 7] (fun vo i wr => ∃ (k : Nat) (out : List (Int × Int)), k ≤ out.length ∧ i = .int .i64 k ∧ Hid (RowQ (w.heap.size + 2) wr vo out) ∧ Hid (GoodQ r out) ∧ Hid (bfsQ r kd (65 - k) k out = F) ∧ Hid (PatW w r b ci ti out wr)) (fun _ i _ => 65 - (intOf i).toNat)
  case atStart => exact ⟨0, _, by simp, rfl, HRO.out, HG1.out, HF.out, HWA.out⟩
  case round =>
    clear HRO HG1 HF HWA m0 m1 p0 p1 HLW
    obtain ⟨wo, rfl⟩ : ∃ W, W = wr := ⟨_, rfl⟩
    obtain ⟨k, out, hk, rfl, hro, hgo, hfe, hw⟩ := hrel
    obtain ⟨Ao, co, rfl⟩ := owns_slc hro.out
    have h64 := good_len HV.out hgo.out
    have LB : w.heap.size + 2 ≤ wo.heap.size := hw.out.2.2.2.2
    by_cases hkl : k < out.length
    · have hd : decide ((k : Int) < (out.length : Int)) = true := decide_eq_true (by omega)
      have hkI : (k : Int) < (out.length : Int) := by omega
      have hk0 : (0 : Int) ≤ (k : Int) := by omega
      have hk64 : (k : Int) ≤ 64 := by omega
      have hp := List.getElem?_eq_getElem hkl
      obtain ⟨⟨p1, p2⟩, hpp⟩ : ∃ p, p = out[k] := ⟨_, rfl⟩
      rw [← hpp] at hp
      have hpr := hgo.out.2 (p1, p2) (List.mem_of_getElem? hp)
      have vh := valid_head HV.out
      have hp7 : (0 ≤ p1 ∧ p1 ≤ 7) ∧ (0 ≤ p2 ∧ p2 ≤ 7) := by unfold InR at hpr; omega
      obtain ⟨g, cg, e, hgB, hgl, c0, c1, _, _⟩ := hro.out.cell hp
      obtain ⟨rfl, -, rfl⟩ : Ao = some ⟨g, 0, none⟩ ∧ out.length = out.length ∧ co = cg := by simpa using e
      dsimp only at c0 c1
      have HST := hid ((bfsQ_step r kd hp (by omega)).symm.trans hfe.out)
      obtain ⟨NB, hNB⟩ : ∃ N, N = besideL r p1 p2 := ⟨_, rfl⟩
      have HNI : Hid (∀ q ∈ NB, InR r q) := by rw [hNB]; exact beside_in HV.out
      have HBE := hid (c_l01Beside r hr HV.out b p1 p2 hp7.1 hp7.2 wo hw.out.1)
      dsimp only at HST
      rw [← hNB] at HST HBE
      have HN12 : Hid (NB.length ≤ 100) := by
        rw [hNB]
        unfold besideL
        have h1 := lapL_len r p1 p2 (p1 - 1)
        have h2 := lapL_len r p1 p2 (p1 + 1)
        have h3 := List.length_filter_le (hasQ r) (twoL p1 p2)
        have h4 : (twoL p1 p2).length = 2 := rfl
        show _ ≤ _
        rw [List.length_append, List.length_append]; omega
      have HGL := hid hgl
      have LBo := hid LB
      have H64 := hid h64
      clear hp hpp hpr hp7 e hNB vh
      go_wp2_with (go_at_call 70; ((refine HBE.out.mono ?_); rintro e w5 ⟨v, rfl, hb5, hr5⟩); obtain ⟨An, cn, rfl⟩ := owns_slc hr5; have HB5 := hid hb5; have HR5 : Hid (RowQ wo.heap.size w5 (.slice An NB.length cn) NB) := hr5; clear hb5 hr5)
      have HRq := hid (hro.out.below HB5.out (Nat.le_refl _))
      have HWq := hid (hw.out.below LBX.out HB5.out LB)
      have HAp : Hid (Apart (.slice An NB.length cn) (.slice (some ⟨g, 0, none⟩) out.length co)) := fun g' h3 h4 => by
        have h5 := (World.ownsRow.lt HR5.out g' h3).1
        have h6 := (World.ownsRow.lt hro.out g' h4).2
        omega
      clear HBE
      go_loopw [6, 9] (fun vo i wr => ∃ (j : Nat) (o2 : List (Int × Int)), j ≤ NB.length ∧ i = .int .i64 j ∧ Hid (RowQ (w.heap.size + 2) wr vo o2) ∧ Hid (GoodQ r o2 ∧ out.length ≤ o2.length) ∧ Hid (o2 = (NB.take j).foldl (addQ r kd) out) ∧ Hid (RowQ wo.heap.size wr (.slice An NB.length cn) NB) ∧ Hid (Apart (.slice An NB.length cn) vo) ∧ Hid (PatW w r b ci ti o2 wr)) (fun _ i _ => NB.length - (intOf i).toNat)
      case atStart => exact ⟨0, out, by omega, rfl, HRq.out, ⟨hgo.out, Nat.le_refl _⟩, rfl, HR5.out, HAp.out, HWq.out⟩
      case round =>
        clear HRq HR5 HAp HWq HB5 c0 c1 hgl
        obtain ⟨j, o2, hj, rfl, hr2, hg2, hf2, hnb, hap, hw2⟩ := hrel
        obtain ⟨A2, c2, rfl⟩ := owns_slc hr2.out
        have LW2 : w.heap.size + 2 ≤ wr.heap.size := hw2.out.2.2.2.2
        have hN12 := HN12.out
        by_cases hjl : j < NB.length
        · have hd2 : decide ((j : Int) < (NB.length : Int)) = true := decide_eq_true (by omega)
          have hjI : (j : Int) < (NB.length : Int) := by omega
          have hj0 : (0 : Int) ≤ (j : Int) := by omega
          have hj100 : (j : Int) ≤ 100 := by omega
          have hq := List.getElem?_eq_getElem hjl
          obtain ⟨⟨q1, q2⟩, hqq⟩ : ∃ p, p = NB[j] := ⟨_, rfl⟩
          rw [← hqq] at hq
          have hqr := HNI.out (q1, q2) (List.mem_of_getElem? hq)
          have vh := valid_head HV.out
          have hq7 : (0 ≤ q1 ∧ q1 ≤ 7) ∧ (0 ≤ q2 ∧ q2 ≤ 7) := by unfold InR at hqr; omega
          have HADD := hid (fold_take r kd out NB hq)
          have HGA := hid (addQ_good (k := kd) hg2.out.1 hqr)
          obtain ⟨gn, cg, e, gnB, hnl, n0, n1, _, _⟩ := hnb.out.cell hq
          obtain ⟨rfl, -, rfl⟩ : An = some ⟨gn, 0, none⟩ ∧ NB.length = NB.length ∧ cn = cg := by simpa using e
          dsimp only at n0 n1
          have HKQ := fun W h => hid (c_l01At r hr b q1 q2 hq7.1 hq7.2 W h)
          obtain ⟨z, hz⟩ : ∃ z, z = r.at q1.toNat q2.toNat := ⟨_, rfl⟩
          have HAQ : Hid (addQ r kd o2 (q1, q2) = if r.at q1.toNat q2.toNat = kd ∧ (q1, q2) ∉ o2 then o2 ++ [(q1, q2)] else o2) := rfl
          rw [← hz] at HKQ HAQ
          obtain ⟨a1, rfl⟩ := Int.eq_ofNat_of_zero_le hq7.1.1
          obtain ⟨a2, rfl⟩ := Int.eq_ofNat_of_zero_le hq7.2.1
          have a18 : a1 < 8 := by omega
          have a28 : a2 < 8 := by omega
          have s1 : (a1 : Int) < 8 := by omega
          have s2 : (a2 : Int) < 8 := by omega
          have s3 : (0 : Int) ≤ (a1 : Int) := by omega
          have s4 : (0 : Int) ≤ (a2 : Int) := by omega
          have HXI := hid hw2.out.1
          have LXI : b < wr.heap.size := by have := LBX.out; omega
          obtain ⟨pl0, pl1⟩ := hw2.out.place
          obtain ⟨mk0, mk1⟩ := hw2.out.cell a18 a28
          have lpl : w.heap.size < wr.heap.size := by omega
          have lmk : w.heap.size + 1 < wr.heap.size := by omega
          have n0x : ∀ x : Ext wr.heap.size wr, x.out.cell? ⟨gn, j * 2, none⟩ = some (.int .i8 (a1 : Int)) := fun x => (x.below.cell (p := ⟨gn, j * 2, none⟩) hnl).trans n0
          have n1x : ∀ x : Ext wr.heap.size wr, x.out.cell? ⟨gn, j * 2 + 1, none⟩ = some (.int .i8 (a2 : Int)) := fun x => (x.below.cell (p := ⟨gn, j * 2 + 1, none⟩) hnl).trans n1
          have plx : ∀ x : Ext wr.heap.size wr, x.out.cell? ⟨w.heap.size, 0, none⟩ = some (.int .i8 (ci : Int)) := fun x => (x.below.cell (p := ⟨w.heap.size, 0, none⟩) lpl).trans pl0
          have ply : ∀ x : Ext wr.heap.size wr, x.out.cell? ⟨w.heap.size, 1, none⟩ = some (.int .i8 (ti : Int)) := fun x => (x.below.cell (p := ⟨w.heap.size, 1, none⟩) lpl).trans pl1
          have ho64 := good_len HV.out hg2.out.1
          have GNL := hid hnl
          have GNB := hid gnB
          have HZ := hid hz
          clear hq hqq hqr hq7 e hz vh
          by_cases hzk : z = kd
          · have z1 : (z == kd) = true := by rw [beq_iff_eq]; exact hzk
            by_cases hc : ((a1 : Int), (a2 : Int)) ∈ o2
            · have HAQ : Hid (addQ r kd o2 ((a1 : Int), (a2 : Int)) = o2) := by rw [HAQ.out, if_neg (fun h => h.2 hc)]; rfl
              rw [decide_eq_true hc] at mk0
              have mkx : ∀ x : Ext wr.heap.size wr, x.out.cell? ⟨w.heap.size + 1, a1 * 8 + a2, none⟩ = some (.bool true) := fun x => (x.below.cell (p := ⟨w.heap.size + 1, a1 * 8 + a2, none⟩) lmk).trans mk0
              clear hzk hc
              go_wp2_with fail
              refine wp_region_ext wr.heap.size (by kernel_rfl) (by kernel_rfl) ?_
              repeat (go_big_quiet_step (first
                | (go_at_call 38; first | (with_reducible exact Calls.ext (Nat.le_refl _) (HKQ _ (block_below (Ext.below _) HXI.out LXI)).out) | (with_reducible exact Calls.ext (Nat.le_refl _) (HKA _ (block_below (Ext.below _) HXI.out LXI)).out))))
              refine wpQuiet_nil ?_
              intro x
              go_wp2_with fail
              exact ⟨⟨j + 1, o2, by omega, by go_num, hr2.out.below x.below (Nat.le_refl _), hg2.out, by rw [HADD.out, ← hf2.out, HAQ.out]; rfl, hnb.out.below x.below (Nat.le_refl _), hap.out, hw2.out.below LBX.out x.below LW2⟩, by simp [intOf]; omega⟩
            · have HAQ : Hid (addQ r kd o2 ((a1 : Int), (a2 : Int)) = o2 ++ [((a1 : Int), (a2 : Int))]) := by rw [HAQ.out, if_pos ⟨hzk, hc⟩]; rfl
              rw [decide_eq_false hc] at mk0
              have mkx : ∀ x : Ext wr.heap.size wr, x.out.cell? ⟨w.heap.size + 1, a1 * 8 + a2, none⟩ = some (.bool false) := fun x => (x.below.cell (p := ⟨w.heap.size + 1, a1 * 8 + a2, none⟩) lmk).trans mk0
              clear hzk hc
              go_wp2_with fail
              refine wp_region_ext wr.heap.size (by kernel_rfl) (by kernel_rfl) ?_
              repeat (go_big_quiet_step (first
                | (go_at_call 38; first | (with_reducible exact Calls.ext (Nat.le_refl _) (HKQ _ (block_below (Ext.below _) HXI.out LXI)).out) | (with_reducible exact Calls.ext (Nat.le_refl _) (HKA _ (block_below (Ext.below _) HXI.out LXI)).out))))
              refine wpQuiet_nil ?_
              intro x
              have HRx := hid (hr2.out.below x.below (Nat.le_refl _))
              have HNx := hid (hnb.out.below x.below (Nat.le_refl _))
              have HWx := hid (hw2.out.below LBX.out x.below LW2)
              have y0 := n0x x
              have y1 := n1x x
              obtain ⟨X, hX⟩ : ∃ X, X = x.out := ⟨_, rfl⟩
              rw [← hX] at HRx HNx HWx y0 y1 ⊢
              obtain ⟨mm0, mm1⟩ := HWx.out.cell a18 a28
              clear hX x n0x n1x plx ply mkx n0 n1 pl0 pl1 mk0 mk1
              go_wp2_with fail
              refine wp_region_tail 12 (by kernel_rfl) (by kernel_rfl) ?_
              simp only [List.take_succ_cons, List.take_zero, List.drop_succ_cons, List.drop_zero]
              repeat still_step
              refine wpStill_nil ?_
              have HW4 := hid (HWx.out.put LBX.out a18 a28).drew
              have HR4 : Hid (RowQ (w.heap.size + 2) (X.setCell ⟨w.heap.size + 1, a1 * 8 + a2, none⟩ (.bool true)).drew (.slice A2 o2.length c2) o2) := HRx.out.setO (fun e => by have := (World.ownsRow.lt HRx.out _ e).1; omega) _ _
              have HN4 : Hid (RowQ wo.heap.size (X.setCell ⟨w.heap.size + 1, a1 * 8 + a2, none⟩ (.bool true)).drew (.slice (some ⟨gn, 0, none⟩) NB.length cn) NB) := HNx.out.setO (fun e => by have := (World.ownsRow.lt HNx.out _ e).1; omega) _ _
              have HSX : Hid ((X.setCell ⟨w.heap.size + 1, a1 * 8 + a2, none⟩ (.bool true)).drew.heap.size = X.heap.size) := by simp [World.setCell, Hid]
              have LXX : Hid (w.heap.size + 2 ≤ (X.setCell ⟨w.heap.size + 1, a1 * 8 + a2, none⟩ (.bool true)).drew.heap.size) := HW4.out.2.2.2.2
              have ne1 : ¬ (gn = w.heap.size + 1) := by have := GNB.out; omega
              have ne2 : ¬ (w.heap.size + 1 = gn) := by omega
              clear HRx HNx HWx
              go_wp2_with ((with_reducible refine gate (N := 84) rfl ?_); (refine wp_app1Q rfl (.tmp 78) (.tmp 83) rfl (w.heap.size + 2) (.slice A2 o2.length c2) o2 (a1 : Int) (a2 : Int) HR4.out rfl X.heap.size rfl (Nat.le_trans ho64 (by decide)) LXX.out HSX.out ?_); intro v' w6 hown hg; obtain ⟨A6, c6, rfl⟩ := owns_slc hown; have HG6 := hid hg; have HRO6 := hid hown; clear hg hown)
              refine ⟨⟨j + 1, o2 ++ [((a1 : Int), (a2 : Int))], by omega, by go_num, by rw [List.length_append] at *; exact HRO6.out, ⟨by rw [← HAQ.out]; exact HGA.out, by have := hg2.out.2; rw [List.length_append]; omega⟩, by rw [HADD.out, ← hf2.out, HAQ.out]; rfl, HG6.out.row HN4.out hap.out, ?_, HW4.out.below LBX.out (HR4.out.belowG HG6.out LXX.out) (Nat.le_refl _)⟩, by simp [intOf]; omega⟩
              have := HG6.out.apart HN4.out hap.out
              exact fun g' h1 h2 => this g' h1 (by rw [List.length_append]; exact h2)
          · have z1 : (z == kd) = false := by rw [beq_eq_false_iff_ne]; exact hzk
            have HAQ : Hid (addQ r kd o2 ((a1 : Int), (a2 : Int)) = o2) := by rw [HAQ.out, if_neg (fun h => hzk h.1)]; rfl
            clear hzk
            go_wp2_with fail
            refine wp_region_ext wr.heap.size (by kernel_rfl) (by kernel_rfl) ?_
            repeat (go_big_quiet_step (first
              | (go_at_call 38; first | (with_reducible exact Calls.ext (Nat.le_refl _) (HKQ _ (block_below (Ext.below _) HXI.out LXI)).out) | (with_reducible exact Calls.ext (Nat.le_refl _) (HKA _ (block_below (Ext.below _) HXI.out LXI)).out))))
            refine wpQuiet_nil ?_
            intro x
            go_wp2_with fail
            exact ⟨⟨j + 1, o2, by omega, by go_num, hr2.out.below x.below (Nat.le_refl _), hg2.out, by rw [HADD.out, ← hf2.out, HAQ.out]; rfl, hnb.out.below x.below (Nat.le_refl _), hap.out, hw2.out.below LBX.out x.below LW2⟩, by simp [intOf]; omega⟩
        · obtain rfl : j = NB.length := by omega
          have hd2 : decide ((NB.length : Int) < (NB.length : Int)) = false := decide_eq_false (by omega)
          have HFE : Hid (bfsQ r kd (65 - (k + 1)) (k + 1) o2 = F) := by
            have h1 := hf2.out
            rw [List.take_length] at h1
            rw [h1]; exact HST.out
          go_wp2_with fail
          exact ⟨⟨k + 1, o2, by have := hg2.out.2; omega, by go_num, hr2.out, hg2.out.1, HFE.out, hw2.out⟩, by have := H64.out; simp [intOf]; omega⟩
    · obtain rfl : k = out.length := by omega
      have hd : decide ((out.length : Int) < (out.length : Int)) = false := decide_eq_false (by omega)
      have HOF := hid (show out = F by rw [← hfe.out]; exact (bfsQ_end r kd (Nat.le_refl _)).symm)
      have hgf := hgo.out
      obtain ⟨AL, hAL⟩ : ∃ l, l = allR r := ⟨_, rfl⟩
      have HCA := hid (fun W h => c_l01All r hr HV.out b W h)
      have HPF : Hid (patchL r (ci : Int) (ti : Int) = AL.filter fun p => decide (p ∈ out)) := by
        rw [HPL.out, ← HOF.out, hAL]; exact patch_filter HV.out hgf
      have HAI : Hid (∀ p ∈ AL, InR r p) := fun p hp => by rw [hAL] at hp; exact (mem_allR HV.out).1 hp
      have HA64 : Hid (AL.length ≤ 64) := by
        have vh := valid_head HV.out
        rw [hAL]
        show _ ≤ _
        unfold allR
        rw [allUp_len]
        have : r.h.toNat * r.w.toNat ≤ 8 * 8 := Nat.mul_le_mul (by omega) (by omega)
        omega
      have hCA := HCA.out
      rw [show allUp r.w.toNat r.h.toNat 0 = AL from hAL.symm] at hCA
      have HCA := hid hCA
      have HWa := hid (hw.out.alloc (.cells #[] 42))
      have HEm : Hid (RowQ (w.heap.size + 2) (wo.alloc (.cells #[] 42)) (.slice (some ⟨wo.heap.size, 0, none⟩) 0 0) []) := RowQ.made LB
      clear hgf hAL hCA
      go_wp2_with (go_at_call 37; ((refine (HCA.out _ HWa.out.1).mono ?_); rintro e w5 ⟨v, rfl, hb5, hr5⟩); obtain ⟨An, cn, rfl⟩ := owns_slc hr5; have HB5 := hid hb5; have HR5 : Hid (RowQ (wo.heap.size + 1) w5 (.slice An AL.length cn) AL) := hid (World.ownsRow.mono hr5 (by simp)); clear hb5 hr5)
      have LX5 : wo.heap.size + 1 ≤ w5.heap.size := by have := HB5.out.size; simp at this; omega
      have HW5 := hid (HWa.out.below LBX.out HB5.out (by simp; omega))
      have HE5 : Hid (RowQ (w.heap.size + 2) w5 (.slice (some ⟨wo.heap.size, 0, none⟩) 0 0) []) := HEm.out.below HB5.out (Nat.le_refl _)
      have HAp : Hid (Apart (.slice An AL.length cn) (.slice (some ⟨wo.heap.size, 0, none⟩) 0 0)) := fun g' h3 h4 => by
        have h5 := (World.ownsRow.lt HR5.out g' h3).1
        simp [Value.ownBlock] at h4
        omega
      clear HWa HEm HB5
      go_loopw [10, 12] (fun vo i wr => ∃ (j : Nat) (o2 : List (Int × Int)), j ≤ AL.length ∧ i = .int .i64 j ∧ Hid (RowQ (w.heap.size + 2) wr vo o2) ∧ Hid (o2 = (AL.take j).filter fun p => decide (p ∈ out)) ∧ Hid (RowQ (wo.heap.size + 1) wr (.slice An AL.length cn) AL) ∧ Hid (Apart (.slice An AL.length cn) vo) ∧ Hid (PatW w r b ci ti out wr)) (fun _ i _ => AL.length - (intOf i).toNat)
      case atStart => exact ⟨0, [], by omega, rfl, HE5.out, rfl, HR5.out, HAp.out, HW5.out⟩
      case round =>
        clear HE5 HR5 HAp HW5
        obtain ⟨j, o2, hj, rfl, hr2, hf2, hnb, hap, hw2⟩ := hrel
        obtain ⟨A2, c2, rfl⟩ := owns_slc hr2.out
        have LW2 : w.heap.size + 2 ≤ wr.heap.size := hw2.out.2.2.2.2
        have ho64 : o2.length ≤ 64 := by
          rw [hf2.out]
          have h1 := List.length_filter_le (fun p => decide (p ∈ out)) (AL.take j)
          rw [List.length_take] at h1
          have := HA64.out
          omega
        by_cases hjl : j < AL.length
        · have hd2 : decide ((j : Int) < (AL.length : Int)) = true := decide_eq_true (by omega)
          have hjI : (j : Int) < (AL.length : Int) := by omega
          have hj0 : (0 : Int) ≤ (j : Int) := by omega
          have hj64 : (j : Int) ≤ 64 := by have := HA64.out; omega
          have hq := List.getElem?_eq_getElem hjl
          obtain ⟨⟨q1, q2⟩, hqq⟩ : ∃ p, p = AL[j] := ⟨_, rfl⟩
          have HTK : Hid ((AL.take (j + 1)).filter (fun p => decide (p ∈ out)) = (AL.take j).filter (fun p => decide (p ∈ out)) ++ [(q1, q2)].filter fun p => decide (p ∈ out)) := by
            rw [hqq, List.take_succ_eq_append_getElem hjl, List.filter_append]; rfl
          rw [← hqq] at hq
          have hqr := HAI.out (q1, q2) (List.mem_of_getElem? hq)
          have vh := valid_head HV.out
          have hq7 : (0 ≤ q1 ∧ q1 ≤ 7) ∧ (0 ≤ q2 ∧ q2 ≤ 7) := by unfold InR at hqr; omega
          obtain ⟨gn, cg, e, gnB, hnl, n0, n1, _, _⟩ := hnb.out.cell hq
          obtain ⟨rfl, -, rfl⟩ : An = some ⟨gn, 0, none⟩ ∧ AL.length = AL.length ∧ cn = cg := by simpa using e
          dsimp only at n0 n1
          obtain ⟨a1, rfl⟩ := Int.eq_ofNat_of_zero_le hq7.1.1
          obtain ⟨a2, rfl⟩ := Int.eq_ofNat_of_zero_le hq7.2.1
          have a18 : a1 < 8 := by omega
          have a28 : a2 < 8 := by omega
          have s1 : (a1 : Int) < 8 := by omega
          have s2 : (a2 : Int) < 8 := by omega
          have s3 : (0 : Int) ≤ (a1 : Int) := by omega
          have s4 : (0 : Int) ≤ (a2 : Int) := by omega
          obtain ⟨mk0, mk1⟩ := hw2.out.cell a18 a28
          have lmk : w.heap.size + 1 < wr.heap.size := by omega
          have n0x : ∀ x : Ext wr.heap.size wr, x.out.cell? ⟨gn, j * 2, none⟩ = some (.int .i8 (a1 : Int)) := fun x => (x.below.cell (p := ⟨gn, j * 2, none⟩) hnl).trans n0
          have n1x : ∀ x : Ext wr.heap.size wr, x.out.cell? ⟨gn, j * 2 + 1, none⟩ = some (.int .i8 (a2 : Int)) := fun x => (x.below.cell (p := ⟨gn, j * 2 + 1, none⟩) hnl).trans n1
          clear hq hqq hqr hq7 e vh
          by_cases hc : ((a1 : Int), (a2 : Int)) ∈ out
          · rw [decide_eq_true hc] at mk0
            have HF2 : Hid (o2 ++ [((a1 : Int), (a2 : Int))] = (AL.take (j + 1)).filter fun p => decide (p ∈ out)) := by rw [HTK.out, ← hf2.out, List.filter_cons_of_pos (by simpa using hc)]; rfl
            have mkx : ∀ x : Ext wr.heap.size wr, x.out.cell? ⟨w.heap.size + 1, a1 * 8 + a2, none⟩ = some (.bool true) := fun x => (x.below.cell (p := ⟨w.heap.size + 1, a1 * 8 + a2, none⟩) lmk).trans mk0
            clear hc
            go_wp2_with fail
            refine wp_region_ext wr.heap.size (by kernel_rfl) (by kernel_rfl) ?_
            repeat (go_big_quiet_step (fail))
            refine wpQuiet_nil ?_
            intro x
            have HRx := hid (hr2.out.below x.below (Nat.le_refl _))
            have HNx := hid (hnb.out.below x.below (Nat.le_refl _))
            have HWx := hid (hw2.out.below LBX.out x.below LW2)
            have y0 := n0x x
            have y1 := n1x x
            obtain ⟨X, hX⟩ : ∃ X, X = x.out := ⟨_, rfl⟩
            rw [← hX] at HRx HNx HWx y0 y1 ⊢
            have LXX : w.heap.size + 2 ≤ X.heap.size := HWx.out.2.2.2.2
            clear hX x n0x n1x mkx n0 n1 mk0 mk1
            go_wp2_with ((with_reducible refine gate (N := 113) rfl ?_); (refine wp_app1Q rfl (.tmp 107) (.tmp 112) rfl (w.heap.size + 2) (.slice A2 o2.length c2) o2 (a1 : Int) (a2 : Int) HRx.out rfl X.heap.size rfl (Nat.le_trans ho64 (by decide)) LXX rfl ?_); intro v' w6 hown hg; obtain ⟨A6, c6, rfl⟩ := owns_slc hown; have HG6 := hid hg; have HRO6 := hid hown; clear hg hown)
            refine ⟨⟨j + 1, o2 ++ [((a1 : Int), (a2 : Int))], by omega, by go_num, by rw [List.length_append] at *; exact HRO6.out, HF2.out, HG6.out.row HNx.out hap.out, ?_, HWx.out.below LBX.out (HRx.out.belowG HG6.out LXX) (Nat.le_refl _)⟩, by simp [intOf]; omega⟩
            have := HG6.out.apart HNx.out hap.out
            exact fun g' h1 h2 => this g' h1 (by rw [List.length_append]; exact h2)
          · rw [decide_eq_false hc] at mk0
            have HF2 : Hid (o2 = (AL.take (j + 1)).filter fun p => decide (p ∈ out)) := by rw [HTK.out, ← hf2.out, List.filter_cons_of_neg (by simpa using hc)]; exact (List.append_nil _).symm
            have mkx : ∀ x : Ext wr.heap.size wr, x.out.cell? ⟨w.heap.size + 1, a1 * 8 + a2, none⟩ = some (.bool false) := fun x => (x.below.cell (p := ⟨w.heap.size + 1, a1 * 8 + a2, none⟩) lmk).trans mk0
            clear hc
            go_wp2_with fail
            refine wp_region_ext wr.heap.size (by kernel_rfl) (by kernel_rfl) ?_
            repeat (go_big_quiet_step (fail))
            refine wpQuiet_nil ?_
            intro x
            go_wp2_with fail
            exact ⟨⟨j + 1, o2, by omega, by go_num, hr2.out.below x.below (Nat.le_refl _), HF2.out, hnb.out.below x.below (Nat.le_refl _), hap.out, hw2.out.below LBX.out x.below LW2⟩, by simp [intOf]; omega⟩
        · obtain rfl : j = AL.length := by omega
          have hd2 : decide ((AL.length : Int) < (AL.length : Int)) = false := decide_eq_false (by omega)
          have h1 := hf2.out
          rw [List.take_length] at h1
          have h2 := HPF.out
          rw [← h1] at h2
          have HP2 := hid h2
          clear h1 h2
          go_wp2_with fail
          go_ret
          refine ⟨_, rfl, hw2.out.2.2.2.1, ?_⟩
          rw [HP2.out]
          exact World.ownsRow.mono hr2.out (by omega)
end Go.Proofs.Ytfijinbdpfeceaa

/- PatchOf, the program's and the reference's. -/
namespace Go.Proofs.Ytfijinbdpfeceaa
open Go.RowKit
set_option linter.unusedSimpArgs false
set_option linter.unusedVariables false

/-- What PatchOf returns. -/
def patL (r : Rf) (c t : Int) : List (Int × Int) := if codeOf (validB r) (isPl r c t) = 0 then patchL r c t else []
theorem codeOf_in {r : Rf} {c t : Int} (h : codeOf (validB r) (isPl r c t) = 0) : validB r = true ∧ InR r (c, t) := by
  have := codeOf_zero h
  have h1 := valid_head this.1
  have h2 := isPl_iff.1 this.2
  exact ⟨this.1, by unfold InR; omega⟩
theorem sortP_lenR (l : List (Int × Int)) : (sortP l).length = l.length := (sortP_permR l).length_eq
theorem bfs_good {r : Rf} (hv : validB r = true) (k : Int) : ∀ (n i : Nat) (out : List (Int × Int)), GoodQ r out → GoodQ r (bfsQ r k n i out)
  | 0, _, _, h => h
  | n + 1, i, out, h => by
    show GoodQ r (match out[i]? with | none => out | some p => _)
    cases h0 : out[i]? with
    | none => exact h
    | some p => exact bfs_good hv k n (i + 1) _ (fold_good (k := k) (besideL r p.1 p.2) out h (beside_in hv)).1
theorem patchF_good {r : Rf} (hv : validB r = true) {c t : Int} (hin : InR r (c, t)) : GoodQ r (patchF r c t) :=
  bfs_good hv _ _ _ _ ⟨by simp, fun p hp => by simp at hp; subst hp; exact hin⟩
theorem patL_len (r : Rf) (c t : Int) : (patL r c t).length ≤ 64 := by
  unfold patL
  split
  · rename_i h
    have := codeOf_in h
    unfold patchL
    rw [sortP_lenR]
    exact good_len this.1 (patchF_good this.1 this.2)
  · simp
set_option maxRecDepth 100000 in
theorem c_PatchOf (r : Rf) (hr : r.Ok) (c t : Int) (hc : -128 ≤ c ∧ c ≤ 127) (ht : -128 ≤ t ∧ t ≤ 127) (w : World) : Calls Try.prog 24 #[.agg (rcells r), .agg #[.int .i8 c, .int .i8 t]] w (RetP w (patL r c t) (codeOf (validB r) (isPl r c t))) := by
  have key : ∀ k : Int, codeOf (validB r) (hasB r c t) = k → codeOf (validB r) (isPl r c t) = k → (k = 1 ∨ k = 2 ∨ k = 0) → Calls Try.prog 24 #[.agg (rcells r), .agg #[.int .i8 c, .int .i8 t]] w (RetP w (patL r c t) k) := by
    intro k hk hk' hcs
    have HK := hid hk
    have HL : Hid (patL r c t = if k = 0 then patchL r c t else []) := by
      show _ = _
      unfold patL; rw [hk']
    have HV0 : Hid (k = 0 → validB r = true ∧ InR r (c, t)) := fun h0 => codeOf_in (hk'.trans h0)
    clear hk hk'
    have HP := hid (block_alloc (block_new1 w (.cells (rcells r) 27) rfl) (.cells #[.int .i8 c, .int .i8 t] 42))
    have HW : Hid (Below w.heap.size w ((w.alloc (.cells (rcells r) 27)).alloc (.cells #[.int .i8 c, .int .i8 t] 42))) := ((Below.refl _ w).alloc (Nat.le_refl _) _).alloc (by simp) _
    have R0 : Hid (∀ x : Ext (w.heap.size + 2) ((w.alloc (.cells (rcells r) 27)).alloc (.cells #[.int .i8 c, .int .i8 t] 42)), (Instr.loadAt 27 (.pointer (some ⟨w.heap.size, 0, none⟩))).run Try.prog x.out = .ok (.agg (rcells r)) x.out) := fun x =>
      run_load_roof 27 Try.underlying27 rfl Try.infoRoof hr (block_below x.below HP.out (by omega))
    have HB : Hid (w.heap.size + 2 ≤ ((w.alloc (.cells (rcells r) 27)).alloc (.cells #[.int .i8 c, .int .i8 t] 42)).heap.size) := by simp [Hid]
    have l0 : w.heap.size < w.heap.size + 2 := by omega
    have l1 : w.heap.size + 1 < w.heap.size + 2 := by omega
    have e1 : IntKind.i64.wrap c = c := IntWalk.i64_in _ (by omega)
    have HCC := hid hc
    have HTT := hid ht
    rcases hcs with rfl | rfl | rfl
    all_goals
      try have HVr := hid (HV0.out rfl).1
      try have HIn := hid (HV0.out rfl).2
      clear HV0
      go_enter Try.func24, Try.ntmps24
      go_wp2_with fail
      refine wp_region_ext (w.heap.size + 2) (by kernel_rfl) (by kernel_rfl) ?_
      repeat (first
        | ((with_reducible refine wpQuiet_run (N := 7) rfl rfl (.agg (rcells r)) ?_ ?_); (rintro _ ⟨x, rfl⟩; exact execOp_load rfl rfl (R0.out x)); go_simp)
        | ((with_reducible refine wpQuiet_run (N := 8) rfl rfl (.agg (rcells r)) ?_ ?_); (rintro _ ⟨x, rfl⟩; exact execOp_load rfl rfl (R0.out x)); go_simp)
        | go_big_quiet_step (first | (go_at_call 47; with_reducible exact Calls.ext HB.out (c_has r hr c t HCC.out HTT.out _)) | (go_at_call 46; with_reducible exact Calls.ext HB.out (c_roofCodeK r hr _ _ HK.out _))))
      refine wpQuiet_nil ?_
      intro x
      have HWx := hid (HW.out.trans (x.below.mono (by omega)))
      go_wp2_with (first
        | ((with_reducible refine gate (N := 15) rfl ?_); refine wp_roof 27 Try.underlying27 rfl Try.infoRoof rfl (.tmp 2) rfl w.heap.size rfl r hr (block_below x.below HP.out (by omega)) ?_)
        | (go_at_call 50; ((with_reducible refine (c_patch r hr HVr.out c t HIn.out _).mono ?_); rintro e w1 ⟨v, rfl, hb1, ho1⟩)))
      go_ret2
      first
        | (refine ⟨_, rfl, HWx.out, ?_⟩; rw [HL.out]; exact World.ownsRow_nil _ _ _ _)
        | (refine ⟨_, rfl, HWx.out.trans (hb1.mono HWx.out.size), ?_⟩; rw [HL.out, if_pos (by trivial)]; exact ho1.mono HWx.out.size)
  have e : codeOf (validB r) (hasB r c t) = codeOf (validB r) (isPl r c t) := by have := codeOf_has r c t true; simpa using this
  exact key _ e rfl (codeOf_012 _ _)
set_option maxRecDepth 100000 in
theorem c_sPatchOf (r : Rf) (hr : r.Ok) (c t : Int) (hc : -128 ≤ c ∧ c ≤ 127) (ht : -128 ≤ t ∧ t ≤ 127) (w : World) : Calls Try.prog 23 #[.agg (rcells r), .agg #[.int .i8 c, .int .i8 t]] w (RetP w (patL r c t) (codeOf (validB r) (isPl r c t))) := by
  have key : ∀ k : Int, codeOf (validB r) (isPl r c t && true) = k → codeOf (validB r) (isPl r c t) = k → (k = 1 ∨ k = 2 ∨ k = 0) → Calls Try.prog 23 #[.agg (rcells r), .agg #[.int .i8 c, .int .i8 t]] w (RetP w (patL r c t) k) := by
    intro k hk hk' hcs
    have HK := hid hk
    have HL : Hid (patL r c t = if k = 0 then patchL r c t else []) := by
      show _ = _
      unfold patL; rw [hk']
    have HV0 : Hid (k = 0 → validB r = true ∧ InR r (c, t)) := fun h0 => codeOf_in (hk'.trans h0)
    clear hk hk'
    have HP := hid (block_alloc (block_new1 w (.cells (rcells r) 27) rfl) (.cells #[.int .i8 c, .int .i8 t] 42))
    have HQ := hid (block_new1 (w.alloc (.cells (rcells r) 27)) (.cells #[.int .i8 c, .int .i8 t] 42) (n := w.heap.size + 1) (by simp))
    have HW : Hid (Below w.heap.size w ((w.alloc (.cells (rcells r) 27)).alloc (.cells #[.int .i8 c, .int .i8 t] 42))) := ((Below.refl _ w).alloc (Nat.le_refl _) _).alloc (by simp) _
    have HS : Hid (w.heap.size + 2 ≤ ((w.alloc (.cells (rcells r) 27)).alloc (.cells #[.int .i8 c, .int .i8 t] 42)).heap.size) := by simp [Hid]
    have HCC := hid hc
    have HTT := hid ht
    rcases hcs with rfl | rfl | rfl
    all_goals
      try have HVr := hid (HV0.out rfl).1
      try have HIn := hid (HV0.out rfl).2
      clear HV0
      go_enter Try.func23, Try.ntmps23
      go_wp2_with (first
        | (go_at_call 44; ((with_reducible refine (c_l01AskedK r hr w.heap.size c t HCC.out HTT.out true _ HK.out _ HP.out).mono ?_); rintro e w1 ⟨rfl, hb1⟩); have b1 := hid hb1; have HQ1 := hid (block_below hb1 HQ.out (by have := HS.out; omega)); have q0 := cell_block HQ1.out (j := 0) rfl; have q1 := cell_block HQ1.out (j := 1) rfl; clear hb1)
        | (go_at_call 49; ((with_reducible refine (c_l01Patch r hr HVr.out w.heap.size c t HIn.out _ (block_below b1.out HP.out (by have := HS.out; omega))).mono ?_); rintro e w2 ⟨v, rfl, hb2, ho2⟩)))
      have b2 := hid (HW.out.trans (b1.out.mono HW.out.size))
      go_ret2
      first
        | (refine ⟨_, rfl, b2.out.alloc b2.out.size _, ?_⟩; rw [HL.out]; exact World.ownsRow_made w1 #[] 0 b2.out.size (by decide) rfl)
        | (refine ⟨_, rfl, b2.out.trans (hb2.mono b2.out.size), ?_⟩; rw [HL.out, if_pos (by trivial)]; exact ho2.mono b2.out.size)
  have e : codeOf (validB r) (isPl r c t && true) = codeOf (validB r) (isPl r c t) := by rw [Bool.and_true]
  exact key _ e rfl (codeOf_012 _ _)
end Go.Proofs.Ytfijinbdpfeceaa

/- Words for the laws of two arguments whose results are slices of places. -/
namespace Go.Proofs.Ytfijinbdpfeceaa
open Go.RowKit
set_option linter.unusedVariables false
/-- What a call out of a world above W has left: a slice of places and a code. -/
def WildP (B : Nat) (W : World) (l : List (Int × Int)) (k : Int) (u : Value) (w' : World) : Prop := ∃ (x : Ext B W) (A : Option Addr) (c : Nat), u = .tuple #[.slice A l.length c, .int .i64 k] ∧ Below x.out.heap.size x.out w' ∧ OwQ x.out.heap.size w'.heap.size w' (.slice A l.length c) l
theorem WildP.of {B : Nat} {W : World} {x : Ext B W} {P : Program} {f : FuncId} {args : Array Value} {l : List (Int × Int)} {k : Int} (h : Calls P f args x.out (RetP x.out l k)) : Calls P f args x.out fun e w' => ∃ u, e = .returned u ∧ WildP B W l k u w' :=
  h.mono fun e w' ⟨v, he, hb, ho⟩ => by
    obtain ⟨A, c, rfl⟩ := owns_slice ho
    exact ⟨_, he, x, A, c, rfl, hb, OwQ.of ho hb⟩
end Go.Proofs.Ytfijinbdpfeceaa

/- The walk of FnExactPatchOf. -/
namespace Go.Proofs.Ytfijinbdpfeceaa
open Go.RowKit
set_option linter.unusedSimpArgs false
set_option linter.unusedVariables false
set_option maxHeartbeats 3200000 in
set_option maxRecDepth 100000 in
theorem w_FnExactPatchOf (a : Rf) (ha : a.Ok) (c t : Int) (hc : -128 ≤ c ∧ c ≤ 127) (ht : -128 ≤ t ∧ t ≤ 127) (w : World) : Calls Try.prog 7 #[.agg (rcells a), .agg #[.int .i8 c, .int .i8 t]] w fun e w' => e = .returned (.bool true) ∧ Below w.heap.size w w' := by
  have HL : Hid ((patL a c t).length ≤ 1000000) := Nat.le_trans (patL_len a c t) (by decide)
  obtain ⟨l, hl⟩ : ∃ l, l = patL a c t := ⟨_, rfl⟩
  obtain ⟨k, hk⟩ : ∃ k, k = codeOf (validB a) (isPl a c t) := ⟨_, rfl⟩
  have HC1 := hid (c_sPatchOf a ha c t hc ht)
  have HC2 := hid (c_PatchOf a ha c t hc ht)
  rw [← hl] at HL
  rw [← hl, ← hk] at HC1 HC2
  clear hl hk
  have HA : Hid (((w.alloc (.cells (rcells a) 26)).alloc (.cells #[.int .i8 c, .int .i8 t] 40)).heap[w.heap.size]? = some (.cells (rcells a) 26 (0,0))) := block_alloc (block_new1 w _ rfl) _
  have HBb : Hid (((w.alloc (.cells (rcells a) 26)).alloc (.cells #[.int .i8 c, .int .i8 t] 40)).heap[w.heap.size + 1]? = some (.cells #[.int .i8 c, .int .i8 t] 40 (0,0))) := block_new1 _ _ (by simp)
  have HW : Hid (Below w.heap.size w ((w.alloc (.cells (rcells a) 26)).alloc (.cells #[.int .i8 c, .int .i8 t] 40))) := ((Below.refl _ w).alloc (Nat.le_refl _) _).alloc (by simp) _
  have hB : Hid (w.heap.size + 2 ≤ ((w.alloc (.cells (rcells a) 26)).alloc (.cells #[.int .i8 c, .int .i8 t] 40)).heap.size) := by simp [Hid]
  have l0 : w.heap.size < w.heap.size + 2 := by omega
  have l1 : w.heap.size + 1 < w.heap.size + 2 := by omega
  go_enter Try.func7, Try.ntmps7
  go_wp2_with fail
  obtain ⟨W0, hW0⟩ : ∃ W0, W0 = (w.alloc (.cells (rcells a) 26)).alloc (.cells #[.int .i8 c, .int .i8 t] 40) := ⟨_, rfl⟩
  rw [← hW0] at HA HBb HW hB ⊢
  clear hW0
  have k0 := cell_block HBb.out (j := 0) rfl
  have k1 := cell_block HBb.out (j := 1) rfl
  refine wp_region_wild (w.heap.size + 2) 4 ?s1 _ 23 #[.agg (rcells a), .agg #[.int .i8 c, .int .i8 t]] (WildP (w.heap.size + 2) W0 l k) (by kernel_rfl) (by kernel_rfl) (by kernel_rfl) (by kernel_rfl) rfl hB.out ?pre1 ?ent1 ?call1 ?post1
  case pre1 =>
    simp only [List.take_succ_cons, List.take_zero]
    repeat (first
      | ((with_reducible refine wpQuiet_run (N := 14) rfl rfl (.agg (rcells a)) ?_ ?_); (rintro _ ⟨x, rfl⟩; exact execOp_load rfl rfl (run_load_roof 26 Try.underlying26 rfl Try.infoLRoof ha (block_below x.below HA.out l0))); go_simp)
      | go_big_quiet_step (first
        | (go_at_call 10; with_reducible exact Calls.ext hB.out (c_toRoof a ha _))
        | (go_at_call 19; with_reducible exact Calls.ext hB.out (c_toPlace c t _))))
    refine wpQuiet_nil ?_
    exact rfl
  case ent1 => intro w; unfold execOp; go_simp
  case call1 => exact fun x => WildP.of (HC1.out x.out)
  rintro _ w1 ⟨x, A0, c0, rfl, hb1, ho1⟩
  simp only [List.drop_succ_cons, List.drop_zero, Act.put, List.setIfInBounds_toArray, List.set_cons_zero, List.set_cons_succ]
  repeat (go_big_quiet_step (fail))
  refine wpQuiet_nil ?_
  have HB1 : Hid (Below (w.heap.size + 2) W0 w1) := x.below.trans (hb1.mono (Nat.le_trans hB.out x.below.size))
  have O0 := hid ho1
  have HB0 : Hid (w.heap.size + 2 ≤ w1.heap.size) := Nat.le_trans hB.out HB1.out.size
  have HSp0 : Hid (w1.heap.size ≤ w1.heap.size) := Nat.le_refl _
  clear hb1 ho1 k0 k1
  go_wp2_with fail
  replace HA := hid (block_below HB1.out HA.out l0)
  replace HBb := hid (block_below HB1.out HBb.out l1)
  have m0 := block_lt HA.out
  have m1 := block_lt HBb.out
  have k0 := cell_block HBb.out (j := 0) rfl
  have k1 := cell_block HBb.out (j := 1) rfl
  refine wp_region_wild w1.heap.size 4 ?s2 _ 24 #[.agg (rcells a), .agg #[.int .i8 c, .int .i8 t]] (WildP w1.heap.size w1 l k) (by kernel_rfl) (by kernel_rfl) (by kernel_rfl) (by kernel_rfl) rfl (Nat.le_refl _) ?pre2 ?ent2 ?call2 ?post2
  case pre2 =>
    simp only [List.take_succ_cons, List.take_zero]
    repeat (first
      | ((with_reducible refine wpQuiet_run (N := 22) rfl rfl (.agg (rcells a)) ?_ ?_); (rintro _ ⟨x, rfl⟩; exact execOp_load rfl rfl (run_load_roof 26 Try.underlying26 rfl Try.infoLRoof ha (block_below x.below HA.out m0))); go_simp)
      | go_big_quiet_step (first
        | (go_at_call 10; with_reducible exact Calls.ext (Nat.le_refl _) (c_toRoof a ha _))
        | (go_at_call 19; with_reducible exact Calls.ext (Nat.le_refl _) (c_toPlace c t _))))
    refine wpQuiet_nil ?_
    exact rfl
  case ent2 => intro w; unfold execOp; go_simp
  case call2 => exact fun x => WildP.of (HC2.out x.out)
  rintro _ w2 ⟨x2, A1, c1, rfl, hb2, ho2⟩
  simp only [List.drop_succ_cons, List.drop_zero, Act.put, List.setIfInBounds_toArray, List.set_cons_zero, List.set_cons_succ]
  repeat (go_big_quiet_step (fail))
  refine wpQuiet_nil ?_
  have HB2 : Hid (Below w1.heap.size w1 w2) := x2.below.trans (hb2.mono x2.below.size)
  have HS : Hid (w1.heap.size ≤ x2.out.heap.size) := x2.below.size
  replace O0 := hid (O0.out.below HB2.out)
  have O1 := hid ho2
  have HSp : Hid (w1.heap.size ≤ x2.out.heap.size) := x2.below.size
  clear hb2 ho2 k0 k1
  replace HB1 := hid (HB1.out.trans (HB2.out.mono (Nat.le_trans hB.out HB1.out.size)))
  replace HA := hid (block_below HB2.out HA.out m0)
  replace HBb := hid (block_below HB2.out HBb.out m1)
  clear HB2 m0 m1
  have HLo : Hid (w.heap.size + 2 ≤ x2.out.heap.size) := Nat.le_trans HB0.out HS.out
  go_wp2_with (first
    | (go_at_call 15; ((with_reducible refine (q_eqPlaceS HL.out O1.out O0.out).mono ?_); rintro e wt ⟨rfl, hb1⟩); have O0 := hid (O0.out.below hb1); have O1 := hid (O1.out.below hb1); have HA := hid (block_below hb1 HA.out (block_lt HA.out)); have HBb := hid (block_below hb1 HBb.out (block_lt HBb.out)); replace HB1 := hstep hB HB1 hb1; clear hb1)
    | (go_at_call 16; ((with_reducible refine (q_markPlaceS HL.out O1.out).mono ?_); rintro e wm ⟨rfl, hb1, om⟩); have O1 := hid om; have O0 := hid (O0.out.below' hb1 HSp.out); have HA := hid (block_below hb1 HA.out (by have := HLo.out; omega)); have HBb := hid (block_below hb1 HBb.out (by have := HLo.out; omega)); replace HB1 := hstepB HB1 hb1 HLo.out; clear hb1 om)
    | (go_at_call 17; ((with_reducible refine (q_heldPlaceS HL.out O1.out).mono ?_); rintro e wt ⟨rfl, hb1⟩); have O0 := hid (O0.out.below hb1); have O1 := hid (O1.out.below hb1); have HA := hid (block_below hb1 HA.out (block_lt HA.out)); have HBb := hid (block_below hb1 HBb.out (block_lt HBb.out)); replace HB1 := hstep hB HB1 hb1; clear hb1))
  have m0 := block_lt HA.out
  have m1 := block_lt HBb.out
  have k0 := cell_block HBb.out (j := 0) rfl
  have k1 := cell_block HBb.out (j := 1) rfl
  obtain ⟨W3, hW3⟩ : ∃ W3, W3 = wt := ⟨_, rfl⟩
  rw [← hW3] at HA HBb O0 O1 HB1 m0 m1 k0 k1 ⊢
  clear hW3
  refine wp_region_wild W3.heap.size 4 ?s3 _ 24 #[.agg (rcells a), .agg #[.int .i8 c, .int .i8 t]] (WildP W3.heap.size W3 l k) (by kernel_rfl) (by kernel_rfl) (by kernel_rfl) (by kernel_rfl) rfl (Nat.le_refl _) ?pre3 ?ent3 ?call3 ?post3
  case pre3 =>
    simp only [List.take_succ_cons, List.take_zero]
    repeat (first
      | ((with_reducible refine wpQuiet_run (N := 50) rfl rfl (.agg (rcells a)) ?_ ?_); (rintro _ ⟨x, rfl⟩; exact execOp_load rfl rfl (run_load_roof 26 Try.underlying26 rfl Try.infoLRoof ha (block_below x.below HA.out m0))); go_simp)
      | go_big_quiet_step (first
        | (go_at_call 10; with_reducible exact Calls.ext (Nat.le_refl _) (c_toRoof a ha _))
        | (go_at_call 19; with_reducible exact Calls.ext (Nat.le_refl _) (c_toPlace c t _))))
    refine wpQuiet_nil ?_
    exact rfl
  case ent3 => intro w; unfold execOp; go_simp
  case call3 => exact fun x => WildP.of (HC2.out x.out)
  rintro _ w4 ⟨x3, A2, c2, rfl, hb3, ho3⟩
  simp only [List.drop_succ_cons, List.drop_zero, Act.put, List.setIfInBounds_toArray, List.set_cons_zero, List.set_cons_succ]
  repeat (go_big_quiet_step (fail))
  refine wpQuiet_nil ?_
  have HB3 : Hid (Below W3.heap.size W3 w4) := x3.below.trans (hb3.mono x3.below.size)
  replace O0 := hid (O0.out.below HB3.out)
  replace O1 := hid (O1.out.below HB3.out)
  have O2 := hid ho3
  clear hb3 ho3 k0 k1
  replace HB1 := hid (HB1.out.trans (HB3.out.mono (Nat.le_trans hB.out HB1.out.size)))
  clear HA HBb m0 m1 HB3
  go_wp2_with (first
    | (go_at_call 15; ((with_reducible refine (q_eqPlaceS HL.out O2.out O0.out).mono ?_); rintro e wu ⟨rfl, hb1⟩); have O1 := hid (O1.out.below hb1); replace HB1 := hstep hB HB1 hb1; clear hb1)
    | (go_at_call 17; ((with_reducible refine (q_heldPlaceS HL.out O1.out).mono ?_); rintro e wu ⟨rfl, hb1⟩); replace HB1 := hstep hB HB1 hb1; clear hb1))
  go_ret
  exact ⟨rfl, HW.out.trans (HB1.out.mono (by omega))⟩
end Go.Proofs.Ytfijinbdpfeceaa

/- The row of FnExactPatchOf: for every input the law returns true, and its arguments read as before. -/
namespace Go.Proofs.Ytfijinbdpfeceaa.fnExactPatchOf
open Go.ChangeShapes Go.WideShapes Go.ChangeAt Go.RowKit
open Go.ChangeMaps (open_string shut_string)
set_option linter.unusedVariables false
set_option maxRecDepth 100000 in
theorem lifted (os : Os) (started : os.Started) (H : Type) (enc : TypeId × Value → H) :
    ReturnsInHanded {} Try.checked os 7 .any (Rows.fnExactPatchOfSpec.pre6 enc Try.prog Try.f7 Rows.fnExactPatchOfRow.domain false) (Rows.fnExactPatchOfSpec.post enc Try.prog Try.f7 false true false false) := by
  refine returnsInHanded_of_change_sized (C := Try.checked) Try.own started (by kernel_rfl) Try.func7
    (ChangeSpec.witness6 (enc := enc) (C := Try.checked) false ⟨#[], #[.agg (rcells Rf.zero), .agg #[.int .i8 0, .int .i8 0]], []⟩ 8 (by kernel_rfl) (by kernel_rfl) (by kernel_rfl) (by kernel_rfl)) ?_
  intro W base args ds gs before hval0 hW hcnd hsz0 _
  have hsz : (DataW.weightsEach Try.prog (Try.f7.params.toList ++ Rows.fnExactPatchOfSpec.plain.varTypes Try.prog) (ds ++ gs)).all (· ≤ reachBytes) = true := hsz0
  have hval : ∀ (j : Nat) t v, Try.f7.params[j]? = some t → args[j]? = some v → Value.okWide Try.prog W .any base t v := hval0
  have hW' := hW
  obtain ⟨p, q, hA0, hV, rfl, hfz, hnd⟩ := hW
  have hA : DataW.TrodAll enc Try.prog W 0 (fun _ => true) true Try.f7.params.toList args.toList ds p := hA0
  rw [Try.params7] at hA hval hsz
  obtain ⟨v0, vs0, d0, ds0, p0, q0, hargs, rfl, rfl, h0, r0⟩ := trodAll_cons hA
  obtain ⟨v1, vs1, d1, ds1, p1, q1, rfl, rfl, rfl, h1, r1⟩ := trodAll_cons r0
  obtain ⟨rfl, rfl, rfl⟩ := trodAll_nil r1
  obtain rfl : args = #[v0, v1] := by cases args; simp_all
  obtain ⟨rfl, rfl⟩ := trodVars_none hV
  have h0k := h0
  obtain ⟨R0, rfl, ok0⟩ := open_roof (hval 0 _ v0 rfl rfl) h0
  have h1k := h1
  obtain ⟨a1, b1, rfl, ba1, bb1⟩ := open_place (hval 1 _ v1 rfl rfl) h1
  clear hA0 hval0 hsz0 hsz
  have hlt := fun x hx => hW'.lt x hx
  try simp only [List.append_nil, List.mem_append] at hlt
  refine (w_FnExactPatchOf R0 ok0 a1 b1 ba1 bb1 W).mono fun e W' ⟨he, bel⟩ => ?_
  subst he
  exact ⟨_, rfl, _, _, _, [], p0 ++ (p1 ++ []), [], hW', trodAll_mk1 (shut_bool Try.underlying4 _), (trodAll_cons_mk (Below.trod Try.laidOut (by kernel_rfl) (of_decide_eq_true (by kernel_rfl)) h0k bel (fun x hx => hlt x (.inl hx))) (trodAll_cons_mk (Below.trod Try.laidOut (by kernel_rfl) (of_decide_eq_true (by kernel_rfl)) h1k bel (fun x hx => hlt x (.inr (hx)))) trodAll_mk0)), rfl, bel.frame _, fun h => by cases h⟩
set_option maxHeartbeats 8000000 in
theorem facts : joinedFacts Try.checked.prog 7 Try.f7 Rows.fnExactPatchOfSpec Rows.fnExactPatchOfRow = true := by
  unfold joinedFacts
  repeat (with_reducible refine and_mk ?_ (by as_aux_lemma => kernel_rfl))
  as_aux_lemma => kernel_rfl
set_option maxHeartbeats 8000000 in
theorem over : Rows.fnExactPatchOfRow.holds Try.pinned (OpenSpec.ofChange Rows.fnExactPatchOfSpec) :=
  OpenClaim.holds_of_wide 7 Try.f7 rfl rfl rfl rfl rfl rfl rfl ⟨rfl, rfl, rfl, rfl, rfl⟩ rfl rfl rfl rfl rfl (by as_aux_lemma => kernel_rfl) Try.func7 facts
    (of_decide_eq_true (by as_aux_lemma => kernel_rfl)) (by unfold Func.isWrapper; first | (rw [if_pos (by decide +kernel)]; kernel_rfl) | (rw [if_neg (by decide +kernel)]; exact ⟨rfl, rfl⟩))
    (fun os started H enc _ => lifted os started H enc)
theorem proved : Rows.FnExactPatchOfSaid := over
end Go.Proofs.Ytfijinbdpfeceaa.fnExactPatchOf
namespace Go.Proofs.Ytfijinbdpfeceaa
theorem fnExactPatchOf_holds : Rows.FnExactPatchOfSaid := fnExactPatchOf.proved
end Go.Proofs.Ytfijinbdpfeceaa
