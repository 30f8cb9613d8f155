/- ClimbTo, the program's and the reference's. -/
import Derived.Test.YteglogiabooacaaKindAt
import Derived.Test.YteglogiabooacaaList
namespace Go.Proofs.Yteglogiabooacaa
open Go.RowKit
set_option linter.unusedSimpArgs false
set_option linter.unusedVariables false

set_option maxRecDepth 100000 in
theorem c_climb (r : Rf) (hr : r.Ok) (c t : Int) (hc : 0 ≤ c ∧ c ≤ 7) (hh : 1 ≤ r.h ∧ r.h ≤ 8) (w : World) : Calls Try.prog 37 #[.agg (rcells r), .agg #[.int .i8 c, .int .i8 t]] w fun e w' => e = .returned (.int .i64 (r.h - c)) ∧ Below w.heap.size w w' := by
  obtain ⟨c1, c2⟩ := hc
  obtain ⟨h1, h2⟩ := hh
  go_enter Try.func37, Try.ntmps37
  go_wp2_with fail
  go_ret
  exact ⟨rfl, ((Below.refl _ w).alloc (Nat.le_refl _) _).alloc (by simp) _⟩
set_option maxRecDepth 100000 in
theorem c_l04Climb (r : Rf) (hr : r.Ok) (b : Nat) (c t : Int) (hc : 0 ≤ c ∧ c ≤ 7) (hh : 1 ≤ r.h ∧ r.h ≤ 8) (w : World) (hb : w.heap[b]? = some (.cells (rcells r) 29 (0,0))) : Calls Try.prog 36 #[.pointer (some ⟨b,0,none⟩), .agg #[.int .i8 c, .int .i8 t]] w fun e w' => e = .returned (.int .i64 (r.h - c)) ∧ Below w.heap.size w w' := by
  have c1 := cell_block hb (rc1 r)
  have hlt := block_lt hb
  have hlt' : b < w.heap.size + 1 := by omega
  clear hb
  have l0 : w.heap.size < w.heap.size + 1 := by omega
  obtain ⟨q1, q2⟩ := hc
  obtain ⟨h1, h2⟩ := hh
  go_enter Try.func36, Try.ntmps36
  go_wp2_with fail
  refine wp_region_ext (w.heap.size + 1) (by kernel_rfl) (by kernel_rfl) ?_
  repeat (go_big_quiet_step (fail))
  refine wpQuiet_nil ?_
  intro x
  go_wp2_with fail
  go_ret
  exact ⟨rfl, ((Below.refl _ w).alloc (Nat.le_refl _) _).trans (x.h.mono (by omega))⟩
/-- What ClimbTo returns. -/
def climbV (r : Rf) (c t : Int) : Int := if codeOf (validB r) (isPl r c t) = 0 then r.h - c else 0
set_option maxRecDepth 100000 in
theorem c_ClimbTo (r : Rf) (hr : r.Ok) (c t : Int) (hc : -128 ≤ c ∧ c ≤ 127) (ht : -128 ≤ t ∧ t ≤ 127) (w : World) : Calls Try.prog 16 #[.agg (rcells r), .agg #[.int .i8 c, .int .i8 t]] w fun e w' => e = .returned (.tuple #[.int .i64 (climbV r c t), .int .i64 (codeOf (validB r) (isPl r c t))]) ∧ Below w.heap.size w w' := by
  have key : ∀ k v : Int, codeOf (validB r) (hasB r c t) = k → (k = 0 → ((0 ≤ c ∧ c ≤ 7) ∧ (1 ≤ r.h ∧ r.h ≤ 8)) ∧ v = r.h - c) → (k = 1 ∨ k = 2 ∨ k = 0) → Calls Try.prog 16 #[.agg (rcells r), .agg #[.int .i8 c, .int .i8 t]] w fun e w' => e = .returned (.tuple #[.int .i64 (if k = 0 then v else 0), .int .i64 k]) ∧ Below w.heap.size w w' := by
    intro k v hk h0 hcs
    have HK := hid hk; clear hk
    have H0 := hid h0; clear h0
    have L0 : ∀ x : Ext (w.heap.size + 2) ((w.alloc (.cells (rcells r) 29)).alloc (.cells #[.int .i8 c, .int .i8 t] 36)), (Instr.loadAt 29 (.pointer (some ⟨w.heap.size, 0, none⟩))).run Try.prog x.out = .ok (.agg (rcells r)) x.out := fun x =>
      run_load_roof 29 Try.underlying29 rfl Try.infoRoof hr (block_below x.h (block_alloc (block_new1 w _ rfl) _) (by omega))
    have R0 := hid L0; clear L0
    have HB : Hid (w.heap.size + 2 ≤ ((w.alloc (.cells (rcells r) 29)).alloc (.cells #[.int .i8 c, .int .i8 t] 36)).heap.size) := by simp [Hid]
    have l0 : w.heap.size < w.heap.size + 2 := by omega
    have l1 : w.heap.size + 1 < w.heap.size + 2 := by omega
    rcases hcs with rfl | rfl | rfl
    all_goals
      try have hv0 := hid (H0.out rfl).2
      try have hn0 := hid (H0.out rfl).1
      clear H0
      go_enter Try.func16, Try.ntmps16
      go_wp2_with fail
      refine wp_region_ext (w.heap.size + 2) (by kernel_rfl) (by kernel_rfl) ?_
      repeat (first
        | ((with_reducible refine wpQuiet_run (N := 7) rfl rfl (.agg (rcells r)) ?_ ?_); (rintro _ ⟨x, rfl⟩; exact execOp_load rfl rfl (R0.out x)); go_simp)
        | ((with_reducible refine wpQuiet_run (N := 8) rfl rfl (.agg (rcells r)) ?_ ?_); (rintro _ ⟨x, rfl⟩; exact execOp_load rfl rfl (R0.out x)); go_simp)
        | go_big_quiet_step (first | (go_at_call 33; with_reducible exact Calls.ext HB.out (c_has r hr c t hc ht _)) | (go_at_call 28; with_reducible exact Calls.ext HB.out (c_roofCodeK r hr _ _ HK.out _))))
      refine wpQuiet_nil ?_
      intro x
      go_wp2_with (first
        | ((with_reducible refine gate (N := 15) rfl ?_); refine wp_roof 29 Try.underlying29 rfl Try.infoRoof rfl (.tmp 2) rfl w.heap.size rfl r hr (block_below x.h (block_alloc (block_new1 w _ rfl) _) (by omega)) ?_)
        | (go_at_call 37; ((with_reducible refine (c_climb r hr c t hn0.out.1 hn0.out.2 _).mono ?_); rintro e w1 ⟨rfl, hb1⟩)))
      go_ret2
      first
        | (have b1 := (((Below.refl _ w).alloc (Nat.le_refl _) (.cells (rcells r) 29)).alloc (by simp) (.cells #[.int .i8 c, .int .i8 t] 36)).trans (x.h.mono (by omega)); exact ⟨by simp, b1⟩)
        | (have b1 := (((Below.refl _ w).alloc (Nat.le_refl _) (.cells (rcells r) 29)).alloc (by simp) (.cells #[.int .i8 c, .int .i8 t] 36)).trans (x.h.mono (by omega)); rw [hv0.out]; exact ⟨by simp, b1.trans (hb1.mono b1.size)⟩)
  have e : codeOf (validB r) (hasB r c t) = codeOf (validB r) (isPl r c t) := by have := codeOf_has r c t true; simpa using this
  unfold climbV
  refine key _ _ e (fun h => ⟨⟨(codeOf_pl0 h).2.2.1, ?_⟩, rfl⟩) (codeOf_012 _ _)
  have := valid_head (codeOf_pl0 h).1; omega
theorem codeL_one (v g : Bool) : codeL v g 1 = codeOf v g := by simp [codeL]
theorem allPl_one (r : Rf) (c t : Int) : allPl r [(c, t)] = isPl r c t := by simp [allPl]
theorem SlP_one {w : World} {b : Nat} {c t : Int} {T : TypeId} (h : w.heap[b]? = some (.cells #[.int .i8 c, .int .i8 t] T (0,0))) : SlP w (some ⟨b, 0, none⟩) [(c, t)] := fun j p hj => by
  cases j with
  | zero =>
    simp at hj; subst hj
    exact ⟨b, 0, rfl, block_lt h, cell_block h rfl, cell_block h rfl⟩
  | succ j => simp at hj
theorem c_asked1 (r : Rf) (hr : r.Ok) (b : Nat) (Ac : Option Addr) (cc : Nat) (bb : Nat) (n : Nat) (c t : Int) (hc : -128 ≤ c ∧ c ≤ 127) (ht : -128 ≤ t ∧ t ≤ 127) (k : Int) (hk : codeOf (validB r) (isPl r c t) = k) (w : World) (hb : w.heap[b]? = some (.cells (rcells r) 29 (0,0)))
    {T : TypeId} (h : w.heap[bb]? = some (.cells #[.int .i8 c, .int .i8 t] T (0,0))) :
    Calls Try.prog 35 #[.pointer (some ⟨b,0,none⟩), .slice Ac 0 cc, .slice (some ⟨bb, 0, none⟩) 1 n, .bool true] w fun e w' => e = .returned (.int .i64 k) ∧ Below w.heap.size w w' := by
  have := c_l04Asked r hr b Ac cc (some ⟨bb, 0, none⟩) n [(c, t)] (fun p hp => by simp at hp; subst hp; exact ⟨hc, ht⟩) (by simp) true w hb (SlP_one h)
  rw [Bool.true_and, allPl_one] at this
  have e : codeL (validB r) (isPl r c t) [(c, t)].length = k := (codeL_one _ _).trans hk
  rw [e] at this
  exact this
set_option maxRecDepth 100000 in
theorem c_sClimbTo (r : Rf) (hr : r.Ok) (c t : Int) (hc : -128 ≤ c ∧ c ≤ 127) (ht : -128 ≤ t ∧ t ≤ 127) (w : World) : Calls Try.prog 15 #[.agg (rcells r), .agg #[.int .i8 c, .int .i8 t]] w fun e w' => e = .returned (.tuple #[.int .i64 (climbV r c t), .int .i64 (codeOf (validB r) (isPl r c t))]) ∧ Below w.heap.size w w' := by
  have key : ∀ k v : Int, codeOf (validB r) (isPl r c t) = k → (k = 0 → ((0 ≤ c ∧ c ≤ 7) ∧ (1 ≤ r.h ∧ r.h ≤ 8)) ∧ v = r.h - c) → (k = 1 ∨ k = 2 ∨ k = 0) → Calls Try.prog 15 #[.agg (rcells r), .agg #[.int .i8 c, .int .i8 t]] w fun e w' => e = .returned (.tuple #[.int .i64 (if k = 0 then v else 0), .int .i64 k]) ∧ Below w.heap.size w w' := by
    intro k v hk h0 hcs
    have HK := hid hk; clear hk
    have H0 := hid h0; clear h0
    have HR := hid (block_alloc (block_alloc (block_alloc (block_new1 w (.cells (rcells r) 29) rfl) (.cells #[.int .i8 c, .int .i8 t] 36)) (.cells #[] 2)) (.cells #[.int .i8 c, .int .i8 t] 36))
    have HP := hid (block_new1 (n := w.heap.size + 1 + 1 + 1) (((w.alloc (.cells (rcells r) 29)).alloc (.cells #[.int .i8 c, .int .i8 t] 36)).alloc (.cells #[] 2)) (.cells #[.int .i8 c, .int .i8 t] 36) (by simp))
    rcases hcs with rfl | rfl | rfl
    all_goals
      try have hv0 := hid (H0.out rfl).2
      try have hn0 := hid (H0.out rfl).1
      clear H0
      go_enter Try.func15, Try.ntmps15
      go_wp2_with (first
        | (go_at_call 35; ((with_reducible refine (c_asked1 r hr _ _ _ _ _ c t hc ht _ HK.out _ HR.out HP.out).mono ?_); rintro e w1 ⟨rfl, hb1⟩); have cw1 := hb1.cell (p := ⟨w.heap.size + 1, 0, none⟩) (by simp <;> omega); have cw2 := hb1.cell (p := ⟨w.heap.size + 1, 1, none⟩) (by simp <;> omega); simp [go_sem] at cw1 cw2)
        | (go_at_call 36; ((with_reducible refine (c_l04Climb r hr _ c t hn0.out.1 hn0.out.2 _ (block_below hb1 HR.out (by simp <;> omega))).mono ?_); rintro e w2 ⟨rfl, hb2⟩)))
      go_ret2
      have b1 := (((((Below.refl _ w).alloc (Nat.le_refl _) (.cells (rcells r) 29)).alloc (by simp) (.cells #[.int .i8 c, .int .i8 t] 36)).alloc (by simp <;> omega) (.cells #[] 2)).alloc (by simp <;> omega) (.cells #[.int .i8 c, .int .i8 t] 36)).trans (hb1.mono (by simp <;> omega))
      first
        | exact ⟨by simp, b1⟩
        | (rw [hv0.out]; exact ⟨by simp, b1.trans (hb2.mono b1.size)⟩)
  unfold climbV
  refine key _ _ rfl (fun h => ⟨⟨(codeOf_pl0 h).2.2.1, ?_⟩, rfl⟩) (codeOf_012 _ _)
  have := valid_head (codeOf_pl0 h).1; omega
end Go.Proofs.Yteglogiabooacaa
