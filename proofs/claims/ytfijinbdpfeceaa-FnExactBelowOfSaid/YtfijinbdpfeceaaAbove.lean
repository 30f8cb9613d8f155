/- AboveOf and BelowOf, the program's and the reference's. -/
import Derived.Test.YtfijinbdpfeceaaLap
namespace Go.Proofs.Ytfijinbdpfeceaa
open Go.RowKit
set_option linter.unusedSimpArgs false
set_option linter.unusedVariables false

/-- What AboveOf and BelowOf return. -/
def besL (r : Rf) (c t b : Int) : List (Int × Int) := if codeOf (validB r) (isPl r c t) = 0 then lapL r c t (c + b) else []
theorem besL_len (r : Rf) (c t b : Int) : (besL r c t b).length ≤ 64 := by
  unfold besL; split
  · have := lapL_len r c t (c + b); omega
  · simp
theorem codeOf_pl {r : Rf} {c t : Int} (h : codeOf (validB r) (isPl r c t) = 0) : validB r = true ∧ (0 ≤ c ∧ c ≤ 7) ∧ (0 ≤ t ∧ t ≤ 7) := by
  have := codeOf_zero h
  have h1 := valid_head this.1
  have h2 := isPl_iff.1 this.2
  exact ⟨this.1, by omega, by omega⟩
set_option maxRecDepth 100000 in
theorem c_l01First (r : Rf) (hr : r.Ok) (b : Nat) (c t : Int) (hc : 0 ≤ c ∧ c ≤ 7) (ht : 0 ≤ t ∧ t ≤ 7) (w : World) (hb : w.heap[b]? = some (.cells (rcells r) 27 (0,0))) :
    Calls Try.prog 64 #[.pointer (some ⟨b,0,none⟩), .agg #[.int .i8 c, .int .i8 t]] w fun e w' => e = .returned (.int .i64 (firstOf r c t)) ∧ Below w.heap.size w w' := by
  have hs := shiftOf_01 r c
  have lb := block_lt hb
  have lb' : b < w.heap.size + 1 := by omega
  have HP := hid (block_alloc hb (.cells #[.int .i8 c, .int .i8 t] 42))
  have HC := hid (fun W hW => c_l01By r hr b c ⟨hc.1, by omega⟩ W hW)
  have e : firstOf r c t = 2 * t + shiftOf r c := rfl
  rw [e]
  obtain ⟨s, hse⟩ : ∃ s, s = shiftOf r c := ⟨_, rfl⟩
  rw [← hse] at hs HC ⊢
  clear hse e hb
  obtain ⟨c1, c2⟩ := hc
  obtain ⟨t1, t2⟩ := ht
  have HB : Hid (w.heap.size + 1 ≤ (w.alloc (.cells #[.int .i8 c, .int .i8 t] 42)).heap.size) := by simp [Hid]
  have l1 : w.heap.size < w.heap.size + 1 := by omega
  have HX : Hid (∀ x : Ext (w.heap.size + 1) (w.alloc (.cells #[.int .i8 c, .int .i8 t] 42)), x.out.heap[b]? = some (.cells (rcells r) 27 (0,0))) := fun x => block_below x.below HP.out lb'
  have e1 : IntKind.i64.wrap c = c := IntWalk.i64_in _ (by omega)
  have e2 : IntKind.i64.wrap t = t := IntWalk.i64_in _ (by omega)
  have e3 : IntKind.i64.wrap (2 * t) = 2 * t := IntWalk.i64_in _ (by omega)
  have e4 : IntKind.i64.wrap (2 * t + s) = 2 * t + s := IntWalk.i64_in _ (by omega)
  go_enter Try.func64, Try.ntmps64
  go_wp2_with fail
  refine wp_region_ext (w.heap.size + 1) (by kernel_rfl) (by kernel_rfl) ?_
  repeat (go_big_quiet_step ((go_at_call 76; with_reducible exact Calls.ext_same (HC.out _ (HX.out _)))))
  refine wpQuiet_nil ?_
  intro x
  go_wp2_with fail
  go_ret
  exact ⟨rfl, ((Below.refl _ w).alloc (Nat.le_refl _) _).trans (x.below.mono (by omega))⟩
set_option maxRecDepth 100000 in
theorem c_l01Tile (r : Rf) (hr : r.Ok) (hv : validB r = true) (b : Nat) (d n : Int) (hd : 0 ≤ d ∧ d ≤ 7) (hn : 0 ≤ n ∧ n ≤ 100) (w : World) (hb : w.heap[b]? = some (.cells (rcells r) 27 (0,0))) :
    Calls Try.prog 65 #[.pointer (some ⟨b,0,none⟩), .int .i64 d, .int .i64 n] w fun e w' => e = .returned (.int .i64 (tileOf r d n)) ∧ w = w' := by
  have hs := shiftOf_01 r d
  have vh := valid_head hv
  have HC := hid (c_l01By r hr b d ⟨hd.1, by omega⟩ w hb)
  have e : tileOf r d n = if 0 ≤ n - shiftOf r d ∧ n - shiftOf r d ≤ 2 * r.w - 1 then (n - shiftOf r d) / 2 else -1 := rfl
  have c0 := cell_block hb (rc0 r)
  rw [e]
  obtain ⟨s, hse⟩ : ∃ s, s = shiftOf r d := ⟨_, rfl⟩
  obtain ⟨W, hW⟩ : ∃ W, W = r.w := ⟨_, rfl⟩
  rw [← hse] at hs HC ⊢
  rw [← hW] at vh c0 ⊢
  clear hse e hW hb
  have e1 : IntKind.i64.wrap W = W := IntWalk.i64_in _ (by omega)
  by_cases h0 : n - s < 0
  · rw [if_neg (by omega)]
    go_enter Try.func65, Try.ntmps65
    go_wp2_with (go_at_call 76; ((with_reducible refine HC.out.mono ?_); rintro e w1 ⟨rfl, rfl⟩))
    go_ret
    exact ⟨rfl, rfl⟩
  · have h0' : 0 ≤ n - s := by omega
    by_cases h1 : W ≤ (n - s) / 2
    · rw [if_neg (by omega)]
      clear h0
      go_enter Try.func65, Try.ntmps65
      go_wp2_with (go_at_call 76; ((with_reducible refine HC.out.mono ?_); rintro e w1 ⟨rfl, rfl⟩))
      go_ret
      exact ⟨rfl, rfl⟩
    · have h1' : (n - s) / 2 < W := by omega
      rw [if_pos (by omega)]
      clear h0 h1
      go_enter Try.func65, Try.ntmps65
      go_wp2_with (go_at_call 76; ((with_reducible refine HC.out.mono ?_); rintro e w1 ⟨rfl, rfl⟩))
      go_ret
      exact ⟨rfl, rfl⟩
set_option maxRecDepth 100000 in
theorem c_AboveOf (r : Rf) (hr : r.Ok) (c t : Int) (hc : -128 ≤ c ∧ c ≤ 127) (ht : -128 ≤ t ∧ t ≤ 127) (w : World) : Calls Try.prog 20 #[.agg (rcells r), .agg #[.int .i8 c, .int .i8 t]] w (RetP w (besL r c t (-1)) (codeOf (validB r) (isPl r c t))) := by
  have key : ∀ k : Int, codeOf (validB r) (hasB r c t) = k → codeOf (validB r) (isPl r c t) = k → (k = 1 ∨ k = 2 ∨ k = 0) → Calls Try.prog 20 #[.agg (rcells r), .agg #[.int .i8 c, .int .i8 t]] w (RetP w (besL r c t (-1)) k) := by
    intro k hk hk' hcs
    have HK := hid hk
    have HL : Hid (besL r c t (-1) = if k = 0 then lapL r c t (c - 1) else []) := by
      have e : c + -1 = c - 1 := by omega
      show _ = _
      unfold besL; rw [hk', e]
    have HV0 : Hid (k = 0 → validB r = true ∧ (0 ≤ c ∧ c ≤ 7) ∧ (0 ≤ t ∧ t ≤ 7)) := fun h0 => codeOf_pl (hk'.trans h0)
    clear hk hk'
    have HP := hid (block_alloc (block_new1 w (.cells (rcells r) 27) rfl) (.cells #[.int .i8 c, .int .i8 t] 42))
    have HW : Hid (Below w.heap.size w ((w.alloc (.cells (rcells r) 27)).alloc (.cells #[.int .i8 c, .int .i8 t] 42))) := ((Below.refl _ w).alloc (Nat.le_refl _) _).alloc (by simp) _
    have R0 : Hid (∀ x : Ext (w.heap.size + 2) ((w.alloc (.cells (rcells r) 27)).alloc (.cells #[.int .i8 c, .int .i8 t] 42)), (Instr.loadAt 27 (.pointer (some ⟨w.heap.size, 0, none⟩))).run Try.prog x.out = .ok (.agg (rcells r)) x.out) := fun x =>
      run_load_roof 27 Try.underlying27 rfl Try.infoRoof hr (block_below x.below HP.out (by omega))
    have HB : Hid (w.heap.size + 2 ≤ ((w.alloc (.cells (rcells r) 27)).alloc (.cells #[.int .i8 c, .int .i8 t] 42)).heap.size) := by simp [Hid]
    have l0 : w.heap.size < w.heap.size + 2 := by omega
    have l1 : w.heap.size + 1 < w.heap.size + 2 := by omega
    have e1 : IntKind.i64.wrap c = c := IntWalk.i64_in _ (by omega)
    have HCC := hid hc
    have HTT := hid ht
    rcases hcs with rfl | rfl | rfl
    all_goals
      try have HVr := hid (HV0.out rfl).1
      try have HCr := hid (HV0.out rfl).2.1
      try have HTr := hid (HV0.out rfl).2.2
      clear HV0
      go_enter Try.func20, Try.ntmps20
      go_wp2_with fail
      refine wp_region_ext (w.heap.size + 2) (by kernel_rfl) (by kernel_rfl) ?_
      repeat (first
        | ((with_reducible refine wpQuiet_run (N := 7) rfl rfl (.agg (rcells r)) ?_ ?_); (rintro _ ⟨x, rfl⟩; exact execOp_load rfl rfl (R0.out x)); go_simp)
        | ((with_reducible refine wpQuiet_run (N := 8) rfl rfl (.agg (rcells r)) ?_ ?_); (rintro _ ⟨x, rfl⟩; exact execOp_load rfl rfl (R0.out x)); go_simp)
        | go_big_quiet_step (first | (go_at_call 47; with_reducible exact Calls.ext HB.out (c_has r hr c t HCC.out HTT.out _)) | (go_at_call 46; with_reducible exact Calls.ext HB.out (c_roofCodeK r hr _ _ HK.out _))))
      refine wpQuiet_nil ?_
      intro x
      have HWx := hid (HW.out.trans (x.below.mono (by omega)))
      go_wp2_with (first
        | ((with_reducible refine gate (N := 15) rfl ?_); refine wp_roof 27 Try.underlying27 rfl Try.infoRoof rfl (.tmp 2) rfl w.heap.size rfl r hr (block_below x.below HP.out (by omega)) ?_)
        | (go_at_call 48; ((with_reducible refine (c_lapped r hr HVr.out c t (c - 1) HCr.out HTr.out (by have := HCr.out; omega) _).mono ?_); rintro e w1 ⟨v, rfl, hb1, ho1⟩)))
      go_ret2
      first
        | (refine ⟨_, rfl, HWx.out, ?_⟩; rw [HL.out]; exact World.ownsRow_nil _ _ _ _)
        | (refine ⟨_, rfl, HWx.out.trans (hb1.mono HWx.out.size), ?_⟩; rw [HL.out, if_pos (by trivial)]; exact ho1.mono HWx.out.size)
  have e : codeOf (validB r) (hasB r c t) = codeOf (validB r) (isPl r c t) := by have := codeOf_has r c t true; simpa using this
  exact key _ e rfl (codeOf_012 _ _)
set_option maxRecDepth 100000 in
theorem c_BelowOf (r : Rf) (hr : r.Ok) (c t : Int) (hc : -128 ≤ c ∧ c ≤ 127) (ht : -128 ≤ t ∧ t ≤ 127) (w : World) : Calls Try.prog 22 #[.agg (rcells r), .agg #[.int .i8 c, .int .i8 t]] w (RetP w (besL r c t 1) (codeOf (validB r) (isPl r c t))) := by
  have key : ∀ k : Int, codeOf (validB r) (hasB r c t) = k → codeOf (validB r) (isPl r c t) = k → (k = 1 ∨ k = 2 ∨ k = 0) → Calls Try.prog 22 #[.agg (rcells r), .agg #[.int .i8 c, .int .i8 t]] w (RetP w (besL r c t 1) k) := by
    intro k hk hk' hcs
    have HK := hid hk
    have HL : Hid (besL r c t 1 = if k = 0 then lapL r c t (c + 1) else []) := by
      show _ = _
      unfold besL; rw [hk']
    have HV0 : Hid (k = 0 → validB r = true ∧ (0 ≤ c ∧ c ≤ 7) ∧ (0 ≤ t ∧ t ≤ 7)) := fun h0 => codeOf_pl (hk'.trans h0)
    clear hk hk'
    have HP := hid (block_alloc (block_new1 w (.cells (rcells r) 27) rfl) (.cells #[.int .i8 c, .int .i8 t] 42))
    have HW : Hid (Below w.heap.size w ((w.alloc (.cells (rcells r) 27)).alloc (.cells #[.int .i8 c, .int .i8 t] 42))) := ((Below.refl _ w).alloc (Nat.le_refl _) _).alloc (by simp) _
    have R0 : Hid (∀ x : Ext (w.heap.size + 2) ((w.alloc (.cells (rcells r) 27)).alloc (.cells #[.int .i8 c, .int .i8 t] 42)), (Instr.loadAt 27 (.pointer (some ⟨w.heap.size, 0, none⟩))).run Try.prog x.out = .ok (.agg (rcells r)) x.out) := fun x =>
      run_load_roof 27 Try.underlying27 rfl Try.infoRoof hr (block_below x.below HP.out (by omega))
    have HB : Hid (w.heap.size + 2 ≤ ((w.alloc (.cells (rcells r) 27)).alloc (.cells #[.int .i8 c, .int .i8 t] 42)).heap.size) := by simp [Hid]
    have l0 : w.heap.size < w.heap.size + 2 := by omega
    have l1 : w.heap.size + 1 < w.heap.size + 2 := by omega
    have e1 : IntKind.i64.wrap c = c := IntWalk.i64_in _ (by omega)
    have HCC := hid hc
    have HTT := hid ht
    rcases hcs with rfl | rfl | rfl
    all_goals
      try have HVr := hid (HV0.out rfl).1
      try have HCr := hid (HV0.out rfl).2.1
      try have HTr := hid (HV0.out rfl).2.2
      clear HV0
      go_enter Try.func22, Try.ntmps22
      go_wp2_with fail
      refine wp_region_ext (w.heap.size + 2) (by kernel_rfl) (by kernel_rfl) ?_
      repeat (first
        | ((with_reducible refine wpQuiet_run (N := 7) rfl rfl (.agg (rcells r)) ?_ ?_); (rintro _ ⟨x, rfl⟩; exact execOp_load rfl rfl (R0.out x)); go_simp)
        | ((with_reducible refine wpQuiet_run (N := 8) rfl rfl (.agg (rcells r)) ?_ ?_); (rintro _ ⟨x, rfl⟩; exact execOp_load rfl rfl (R0.out x)); go_simp)
        | go_big_quiet_step (first | (go_at_call 47; with_reducible exact Calls.ext HB.out (c_has r hr c t HCC.out HTT.out _)) | (go_at_call 46; with_reducible exact Calls.ext HB.out (c_roofCodeK r hr _ _ HK.out _))))
      refine wpQuiet_nil ?_
      intro x
      have HWx := hid (HW.out.trans (x.below.mono (by omega)))
      go_wp2_with (first
        | ((with_reducible refine gate (N := 15) rfl ?_); refine wp_roof 27 Try.underlying27 rfl Try.infoRoof rfl (.tmp 2) rfl w.heap.size rfl r hr (block_below x.below HP.out (by omega)) ?_)
        | (go_at_call 48; ((with_reducible refine (c_lapped r hr HVr.out c t (c + 1) HCr.out HTr.out (by have := HCr.out; omega) _).mono ?_); rintro e w1 ⟨v, rfl, hb1, ho1⟩)))
      go_ret2
      first
        | (refine ⟨_, rfl, HWx.out, ?_⟩; rw [HL.out]; exact World.ownsRow_nil _ _ _ _)
        | (refine ⟨_, rfl, HWx.out.trans (hb1.mono HWx.out.size), ?_⟩; rw [HL.out, if_pos (by trivial)]; exact ho1.mono HWx.out.size)
  have e : codeOf (validB r) (hasB r c t) = codeOf (validB r) (isPl r c t) := by have := codeOf_has r c t true; simpa using this
  exact key _ e rfl (codeOf_012 _ _)
theorem lapK_small {r : Rf} (hv : validB r = true) {c t d : Int} {k : Nat} (hk : k < 2) : lapK r c t d k = [] ∨ ∃ u, lapK r c t d k = [(d, u)] ∧ 0 ≤ u ∧ u ≤ 7 := by
  have hl := lapK_len r c t d k
  have hm := lapK_mem hv (c := c) (t := t) (d := d) k
  have vh := valid_head hv
  cases hL : lapK r c t d k with
  | nil => exact .inl rfl
  | cons p l =>
    rw [hL] at hl hm
    have : l = [] := List.eq_nil_of_length_eq_zero (by simp at hl; omega)
    subst this
    have := hm p (List.mem_cons_self ..)
    obtain ⟨p1, p2⟩ := p
    dsimp only at this
    exact .inr ⟨p2, by rw [this.1], by omega, by omega⟩
set_option maxHeartbeats 1600000 in
set_option maxRecDepth 100000 in
theorem c_l01Laps (r : Rf) (hr : r.Ok) (hv : validB r = true) (b : Nat) (c t y : Int) (hc : 0 ≤ c ∧ c ≤ 7) (ht : 0 ≤ t ∧ t ≤ 7) (hy : -1 ≤ y ∧ y ≤ 1) (w : World) (hb : w.heap[b]? = some (.cells (rcells r) 27 (0,0))) :
    Calls Try.prog 45 #[.pointer (some ⟨b,0,none⟩), .agg #[.int .i8 c, .int .i8 t], .int .i8 y] w (RetS w (lapL r c t (c + y))) := by
  obtain ⟨i0, hi, hz0, hz1, hz2⟩ := info_parts Try.infoPlace
  have vh := valid_head hv
  have HV := hid hv
  have lb := block_lt hb
  have HP := hid (block_alloc (block_alloc hb (.cells #[.int .i8 c, .int .i8 t] 42)) (.cells #[] 42))
  have HCc := hid hc
  have HTt := hid ht
  obtain ⟨d, hd⟩ : ∃ d, d = c + y := ⟨_, rfl⟩
  rw [← hd]
  have ed : IntKind.i8.wrap (c + y) = d := by rw [hd]; exact IntWalk.i8_in _ (by omega)
  have ed6 : IntKind.i64.wrap d = d := IntWalk.i64_in _ (by omega)
  have hcy : -1 ≤ c + y ∧ c + y ≤ 8 := by omega
  have HD := hid hd
  have HH : Hid (r.h ≤ 8 ∧ r.w ≤ 8) := ⟨by omega, by omega⟩
  have HB0 : Hid (Below (w.heap.size + 1) (w.alloc (.cells #[.int .i8 c, .int .i8 t] 42)) ((w.alloc (.cells #[.int .i8 c, .int .i8 t] 42)).alloc (.cells #[] 42))) := (Below.refl _ _).alloc (by simp) _
  have HN0 : Hid (((w.alloc (.cells #[.int .i8 c, .int .i8 t] 42)).alloc (.cells #[] 42)).ownsRow (w.heap.size + 1) 42 2 (.slice (some ⟨w.heap.size + 1, 0, none⟩) 0 0) 0 []) := by
    have := World.ownsRow_made (base := w.heap.size + 1) (e := 42) (size := 2) (w.alloc (.cells #[.int .i8 c, .int .i8 t] 42)) #[] 0 (by simp) (by decide) rfl
    simpa [Hid] using this
  clear vh hd hv
  by_cases hin : inB d 0 (r.h - 1) = true
  · have HI := hid hin
    have hl : lapL r c t d = lapK r c t d 2 := by unfold lapL; rw [if_pos hin]
    rw [hl]
    have hd7 : 0 ≤ d ∧ d ≤ 7 := by have := HH.out; rw [inB_iff] at hin; omega
    have HD7 := hid hd7
    have hs0 := shiftOf_01 r c
    have hf : 0 ≤ firstOf r c t ∧ firstOf r c t ≤ 15 := by unfold firstOf; omega
    have HCF := hid (fun W hW => c_l01First r hr b c t hc ht W hW)
    have HK2 : Hid (∀ k, lapK r c t d (k + 1) = lapStep d (tileOf r d (firstOf r c t + k)) (lapK r c t d k)) := fun k => rfl
    obtain ⟨f, hfe⟩ : ∃ f, f = firstOf r c t := ⟨_, rfl⟩
    rw [← hfe] at hf HCF HK2
    clear hin hl hs0 hc ht hd7 hb hfe
    go_enter Try.func45, Try.ntmps45
    go_wp2_with (first
      | (go_at_call 63; ((with_reducible refine (c_l01Course r hr b d _ HP.out _ HI.out).mono ?_); rintro e w1 ⟨rfl, rfl⟩))
      | (go_at_call 64; ((with_reducible refine (HCF.out _ HP.out).mono ?_); rintro e w1 ⟨rfl, hb1⟩); have b1 := hid hb1; clear hb1))
    have HN1 : Hid (w1.ownsRow (w.heap.size + 1) 42 2 (.slice (some ⟨w.heap.size + 1, 0, none⟩) 0 0) 0 []) := owns_below HN0.out b1.out
    have HB1 : Hid (Below (w.heap.size + 1) (w.alloc (.cells #[.int .i8 c, .int .i8 t] 42)) w1) := HB0.out.trans (b1.out.mono (by simp))
    have HP1 : Hid (∀ wr, Below (w.heap.size + 1) (w.alloc (.cells #[.int .i8 c, .int .i8 t] 42)) wr → wr.heap[b]? = some (.cells (rcells r) 27 (0,0))) := fun wr hbr => by
      have h0 := HP.out
      rw [heap_alloc_old _ _ (by simp; omega)] at h0
      exact block_below hbr h0 (by omega)
    clear HB0 HN0 b1
    go_loopw [7, 10] (fun v i wr => ∃ k : Nat, k ≤ 2 ∧ i = .int .i64 (f + k) ∧ Hid (Below (w.heap.size + 1) (w.alloc (.cells #[.int .i8 c, .int .i8 t] 42)) wr) ∧ Hid (wr.ownsRow (w.heap.size + 1) 42 2 v (lapK r c t d k).length (pcells (lapK r c t d k)))) (fun _ i _ => (f + 2 - intOf i).toNat)
    case atStart => exact ⟨0, by omega, by simp, HB1, HN1⟩
    case round =>
      clear HN1 HB1
      obtain ⟨k, hk, rfl, hb, hO⟩ := hrel
      obtain ⟨n, hn⟩ : ∃ n, n = f + (k : Int) := ⟨_, rfl⟩
      rw [← hn]
      have HNn := hid hn
      by_cases hk2 : k < 2
      · have hle : n ≤ f + 1 := by omega
        have hn1 : 0 ≤ n ∧ n ≤ 100 := by omega
        have HT := hid (c_l01Tile r hr HV.out b d n HD7.out hn1 wr (HP1.out wr hb.out))
        have hu := tileOf_le HV.out d n
        have HY0 := hid (HK2.out k)
        rw [← hn] at HY0
        obtain ⟨u, hue⟩ : ∃ u, u = tileOf r d n := ⟨_, rfl⟩
        rw [← hue] at hu HT HY0
        have eu : IntKind.i8.wrap u = u := IntWalk.i8_in _ (by omega)
        have h7 : u ≤ 7 := hu.2.1
        have h1 : -1 ≤ u := hu.1
        have hs1 : Hid (w.heap.size + 1 ≤ wr.heap.size) := by have := hb.out.size; simpa [Hid] using this
        have hnl : 0 ≤ n := hn1.1
        have hnh : n ≤ 100 := hn1.2
        clear hn hue hu hn1
        have hsm := lapK_small HV.out (c := c) (t := t) (d := d) hk2
        obtain ⟨L, hL⟩ : ∃ L, L = lapK r c t d k := ⟨_, rfl⟩
        rw [← hL] at hsm hO HY0
        have HLk := hid hL
        clear hL
        by_cases hm1 : u < 0
        · have HYY : Hid (lapK r c t d (k + 1) = L) := by
            rw [Hid, HY0.out]; unfold lapStep; rw [if_neg (fun h => h.1 (by omega))]
          clear hsm
          go_wp2_with (go_at_call 65; ((with_reducible refine HT.out.mono ?_); rintro e w3 ⟨rfl, rfl⟩))
          refine ⟨⟨k + 1, by omega, congrArg (Value.int .i64) (by have := HNn.out; omega), hb, ?_⟩, by have := HNn.out; simp [intOf]; omega⟩
          show World.ownsRow _ _ _ _ _ _ _
          rw [HYY.out]; exact hO.out
        · have hm0 : 0 ≤ u := by omega
          clear hm1
          rcases hsm with rfl | ⟨u0, rfl, hu0, hu7⟩
          · obtain ⟨A, cc, rfl⟩ := owns_slice hO.out
            have HYY : Hid (lapK r c t d (k + 1) = [(d, u)]) := by
              rw [Hid, HY0.out]; unfold lapStep; rw [if_pos ⟨by omega, by simp⟩]; rfl
            go_wp2_with (first
              | (go_at_call 65; ((with_reducible refine HT.out.mono ?_); rintro e w3 ⟨rfl, rfl⟩))
              | ((with_reducible refine gate (N := 60) rfl ?_); refine wpList_append_own _ rfl (.tmp 54) (.tmp 59) 33 rfl (w.heap.size + 1) 42 i0 (.agg #[.int .i8 0, .int .i8 0]) 2 2 Try.underlying33 hi hz0 hz1 hz2 rfl (by decide) _ _ _ rfl (hO.out.alloc _) ⟨wr.heap.size, 0, none⟩ 1 1 [.int .i8 d, .int .i8 u] rfl rfl (cell_two_new wr _ _ _) (by simp [Value.oneCell']) (by decide) (by decide) (Nat.le_trans hs1.out (by simp)) ?_; intro v' w5 hown5 hgrow _))
            refine ⟨⟨k + 1, by omega, congrArg (Value.int .i64) (by have := HNn.out; omega), (hb.out.alloc hs1.out _).grown hgrow (by have := hs1.out; simp; omega) (fun k hk => (hO.out.lt k hk).1), ?_⟩, by have := HNn.out; simp [intOf]; omega⟩
            show World.ownsRow _ _ _ _ _ _ _
            rw [HYY.out]; exact hown5
          · obtain ⟨A, cc, rfl, hsl⟩ := slp_of hO.out
            obtain ⟨ob, oo, rfl, o1, o2, o3⟩ := hsl 0 (d, u0) rfl
            simp only [Nat.zero_mul, Nat.add_zero] at o2 o3
            have eu0 : IntKind.i64.wrap u0 = u0 := IntWalk.i64_in _ (by omega)
            clear hsl
            by_cases hq : u0 = u
            · have hne : (u0 != u) = false := by simp [hq]
              have HYY : Hid (lapK r c t d (k + 1) = [(d, u0)]) := by
                rw [Hid, HY0.out]; unfold lapStep; rw [if_neg (fun h => h.2 (by simp [hq]))]
              clear hq
              go_wp2_with (go_at_call 65; ((with_reducible refine HT.out.mono ?_); rintro e w3 ⟨rfl, rfl⟩))
              refine ⟨⟨k + 1, by omega, congrArg (Value.int .i64) (by have := HNn.out; omega), hb, ?_⟩, by have := HNn.out; simp [intOf]; omega⟩
              show World.ownsRow _ _ _ _ _ _ _
              rw [HYY.out]; exact hO.out
            · have hne : (u0 != u) = true := by simpa using hq
              have HYY : Hid (lapK r c t d (k + 1) = [(d, u0), (d, u)]) := by
                rw [Hid, HY0.out]; unfold lapStep; rw [if_pos ⟨by omega, by simp; exact fun h => hq h.symm⟩]; rfl
              clear hq
              go_wp2_with (first
                | (go_at_call 65; ((with_reducible refine HT.out.mono ?_); rintro e w3 ⟨rfl, rfl⟩))
                | ((with_reducible refine gate (N := 60) rfl ?_); refine wpList_append_own _ rfl (.tmp 54) (.tmp 59) 33 rfl (w.heap.size + 1) 42 i0 (.agg #[.int .i8 0, .int .i8 0]) 2 2 Try.underlying33 hi hz0 hz1 hz2 rfl (by decide) _ _ _ rfl (hO.out.alloc _) ⟨wr.heap.size, 0, none⟩ 1 1 [.int .i8 d, .int .i8 u] rfl rfl (cell_two_new wr _ _ _) (by simp [Value.oneCell']) (show 1 + 1 ≤ maxLen by decide) (show (1 + 1) * 2 ≤ 140737488355328 by decide) (Nat.le_trans hs1.out (by simp)) ?_; intro v' w5 hown5 hgrow _))
              refine ⟨⟨k + 1, by omega, congrArg (Value.int .i64) (by have := HNn.out; omega), (hb.out.alloc hs1.out _).grown hgrow (by have := hs1.out; simp; omega) (fun k hk => (hO.out.lt k hk).1), ?_⟩, by have := HNn.out; simp [intOf]; omega⟩
              show World.ownsRow _ _ _ _ _ _ _
              rw [HYY.out]; exact hown5
      · obtain rfl : k = 2 := by omega
        have hgt : f + 1 < n := by omega
        clear hn
        go_wp2_with fail
        go_ret
        exact ⟨_, rfl, ((Below.refl _ w).alloc (Nat.le_refl _) _).trans (hb.out.mono (by omega)), hO.out.mono (by omega)⟩
  · have hin' : inB d 0 (r.h - 1) = false := by simpa using hin
    have HI := hid hin'
    have hl : lapL r c t d = [] := by unfold lapL; rw [if_neg hin]
    rw [hl]
    clear hin hin' hl hc ht hb
    go_enter Try.func45, Try.ntmps45
    go_wp2_with (go_at_call 63; ((with_reducible refine (c_l01Course r hr b d _ HP.out _ HI.out).mono ?_); rintro e w1 ⟨rfl, rfl⟩))
    go_ret
    exact ⟨_, rfl, ((Below.refl _ w).alloc (Nat.le_refl _) _).trans (HB0.out.mono (by omega)), HN0.out.mono (by omega)⟩
set_option maxRecDepth 100000 in
theorem c_sAboveOf (r : Rf) (hr : r.Ok) (c t : Int) (hc : -128 ≤ c ∧ c ≤ 127) (ht : -128 ≤ t ∧ t ≤ 127) (w : World) : Calls Try.prog 18 #[.agg (rcells r), .agg #[.int .i8 c, .int .i8 t]] w (RetP w (besL r c t (-1)) (codeOf (validB r) (isPl r c t))) := by
  have key : ∀ k : Int, codeOf (validB r) (isPl r c t && true) = k → codeOf (validB r) (isPl r c t) = k → (k = 1 ∨ k = 2 ∨ k = 0) → Calls Try.prog 18 #[.agg (rcells r), .agg #[.int .i8 c, .int .i8 t]] w (RetP w (besL r c t (-1)) k) := by
    intro k hk hk' hcs
    have HK := hid hk
    have HL : Hid (besL r c t (-1) = if k = 0 then lapL r c t (c + (-1)) else []) := by
      show _ = _
      unfold besL; rw [hk']
    have HV0 : Hid (k = 0 → validB r = true ∧ (0 ≤ c ∧ c ≤ 7) ∧ (0 ≤ t ∧ t ≤ 7)) := fun h0 => codeOf_pl (hk'.trans h0)
    clear hk hk'
    have HP := hid (block_alloc (block_new1 w (.cells (rcells r) 27) rfl) (.cells #[.int .i8 c, .int .i8 t] 42))
    have HQ := hid (block_new1 (w.alloc (.cells (rcells r) 27)) (.cells #[.int .i8 c, .int .i8 t] 42) (n := w.heap.size + 1) (by simp))
    have HW : Hid (Below w.heap.size w ((w.alloc (.cells (rcells r) 27)).alloc (.cells #[.int .i8 c, .int .i8 t] 42))) := ((Below.refl _ w).alloc (Nat.le_refl _) _).alloc (by simp) _
    have HS : Hid (w.heap.size + 2 ≤ ((w.alloc (.cells (rcells r) 27)).alloc (.cells #[.int .i8 c, .int .i8 t] 42)).heap.size) := by simp [Hid]
    have HCC := hid hc
    have HTT := hid ht
    rcases hcs with rfl | rfl | rfl
    all_goals
      try have HVr := hid (HV0.out rfl).1
      try have HCr := hid (HV0.out rfl).2.1
      try have HTr := hid (HV0.out rfl).2.2
      clear HV0
      go_enter Try.func18, Try.ntmps18
      go_wp2_with (first
        | (go_at_call 44; ((with_reducible refine (c_l01AskedK r hr w.heap.size c t HCC.out HTT.out true _ HK.out _ HP.out).mono ?_); rintro e w1 ⟨rfl, hb1⟩); have b1 := hid hb1; have HQ1 := hid (block_below hb1 HQ.out (by have := HS.out; omega)); have q0 := cell_block HQ1.out (j := 0) rfl; have q1 := cell_block HQ1.out (j := 1) rfl; clear hb1)
        | (go_at_call 45; ((with_reducible refine (c_l01Laps r hr HVr.out w.heap.size c t (-1) HCr.out HTr.out (by omega) _ (block_below b1.out HP.out (by have := HS.out; omega))).mono ?_); rintro e w2 ⟨v, rfl, hb2, ho2⟩)))
      have b2 := hid (HW.out.trans (b1.out.mono HW.out.size))
      go_ret2
      first
        | (refine ⟨_, rfl, b2.out.alloc b2.out.size _, ?_⟩; rw [HL.out]; exact World.ownsRow_made w1 #[] 0 b2.out.size (by decide) rfl)
        | (refine ⟨_, rfl, b2.out.trans (hb2.mono b2.out.size), ?_⟩; rw [HL.out, if_pos (by trivial)]; exact ho2.mono b2.out.size)
  have e : codeOf (validB r) (isPl r c t && true) = codeOf (validB r) (isPl r c t) := by rw [Bool.and_true]
  exact key _ e rfl (codeOf_012 _ _)
set_option maxRecDepth 100000 in
theorem c_sBelowOf (r : Rf) (hr : r.Ok) (c t : Int) (hc : -128 ≤ c ∧ c ≤ 127) (ht : -128 ≤ t ∧ t ≤ 127) (w : World) : Calls Try.prog 21 #[.agg (rcells r), .agg #[.int .i8 c, .int .i8 t]] w (RetP w (besL r c t 1) (codeOf (validB r) (isPl r c t))) := by
  have key : ∀ k : Int, codeOf (validB r) (isPl r c t && true) = k → codeOf (validB r) (isPl r c t) = k → (k = 1 ∨ k = 2 ∨ k = 0) → Calls Try.prog 21 #[.agg (rcells r), .agg #[.int .i8 c, .int .i8 t]] w (RetP w (besL r c t 1) k) := by
    intro k hk hk' hcs
    have HK := hid hk
    have HL : Hid (besL r c t 1 = if k = 0 then lapL r c t (c + 1) else []) := by
      show _ = _
      unfold besL; rw [hk']
    have HV0 : Hid (k = 0 → validB r = true ∧ (0 ≤ c ∧ c ≤ 7) ∧ (0 ≤ t ∧ t ≤ 7)) := fun h0 => codeOf_pl (hk'.trans h0)
    clear hk hk'
    have HP := hid (block_alloc (block_new1 w (.cells (rcells r) 27) rfl) (.cells #[.int .i8 c, .int .i8 t] 42))
    have HQ := hid (block_new1 (w.alloc (.cells (rcells r) 27)) (.cells #[.int .i8 c, .int .i8 t] 42) (n := w.heap.size + 1) (by simp))
    have HW : Hid (Below w.heap.size w ((w.alloc (.cells (rcells r) 27)).alloc (.cells #[.int .i8 c, .int .i8 t] 42))) := ((Below.refl _ w).alloc (Nat.le_refl _) _).alloc (by simp) _
    have HS : Hid (w.heap.size + 2 ≤ ((w.alloc (.cells (rcells r) 27)).alloc (.cells #[.int .i8 c, .int .i8 t] 42)).heap.size) := by simp [Hid]
    have HCC := hid hc
    have HTT := hid ht
    rcases hcs with rfl | rfl | rfl
    all_goals
      try have HVr := hid (HV0.out rfl).1
      try have HCr := hid (HV0.out rfl).2.1
      try have HTr := hid (HV0.out rfl).2.2
      clear HV0
      go_enter Try.func21, Try.ntmps21
      go_wp2_with (first
        | (go_at_call 44; ((with_reducible refine (c_l01AskedK r hr w.heap.size c t HCC.out HTT.out true _ HK.out _ HP.out).mono ?_); rintro e w1 ⟨rfl, hb1⟩); have b1 := hid hb1; have HQ1 := hid (block_below hb1 HQ.out (by have := HS.out; omega)); have q0 := cell_block HQ1.out (j := 0) rfl; have q1 := cell_block HQ1.out (j := 1) rfl; clear hb1)
        | (go_at_call 45; ((with_reducible refine (c_l01Laps r hr HVr.out w.heap.size c t 1 HCr.out HTr.out (by omega) _ (block_below b1.out HP.out (by have := HS.out; omega))).mono ?_); rintro e w2 ⟨v, rfl, hb2, ho2⟩)))
      have b2 := hid (HW.out.trans (b1.out.mono HW.out.size))
      go_ret2
      first
        | (refine ⟨_, rfl, b2.out.alloc b2.out.size _, ?_⟩; rw [HL.out]; exact World.ownsRow_made w1 #[] 0 b2.out.size (by decide) rfl)
        | (refine ⟨_, rfl, b2.out.trans (hb2.mono b2.out.size), ?_⟩; rw [HL.out, if_pos (by trivial)]; exact ho2.mono b2.out.size)
  have e : codeOf (validB r) (isPl r c t && true) = codeOf (validB r) (isPl r c t) := by rw [Bool.and_true]
  exact key _ e rfl (codeOf_012 _ _)
end Go.Proofs.Ytfijinbdpfeceaa
