/- The walk of FnExactCellsOf. -/
import Derived.Test.YtecobdnpbkojmaaCells
import Derived.Test.YtecobdnpbkojmaaWild
import Derived.Test.YtecobdnpbkojmaaSli
import Derived.Test.YtecobdnpbkojmaaLawP
namespace Go.Proofs.Ytecobdnpbkojmaa
open Go.RowKit
set_option linter.unusedSimpArgs false
set_option linter.unusedVariables false
set_option maxHeartbeats 3200000 in
set_option maxRecDepth 100000 in
theorem w_FnExactCellsOf (a : Rf) (ha : a.Ok) (c t : Int) (hc : -128 ≤ c ∧ c ≤ 127) (ht : -128 ≤ t ∧ t ≤ 127) (w : World) : Calls Try.prog 8 #[.agg (rcells a), .agg #[.int .i8 c, .int .i8 t]] w fun e w' => e = .returned (.bool true) ∧ Below w.heap.size w w' := by
  have HL : Hid ((cellL a c t).length ≤ 1000000) := Nat.le_trans (cellL_len a c t) (by decide)
  obtain ⟨l, hl⟩ : ∃ l, l = cellL a c t := ⟨_, rfl⟩
  obtain ⟨k, hk⟩ : ∃ k, k = codeOf (validB a) (isPl a c t) := ⟨_, rfl⟩
  have HC1 := hid (c_sCellsOf a ha c t hc ht)
  have HC2 := hid (c_CellsOf a ha c t hc ht)
  rw [← hl] at HL
  rw [← hl, ← hk] at HC1 HC2
  clear hl hk
  have HA : Hid (((w.alloc (.cells (rcells a) 26)).alloc (.cells #[.int .i8 c, .int .i8 t] 47)).heap[w.heap.size]? = some (.cells (rcells a) 26 (0,0))) := block_alloc (block_new1 w _ rfl) _
  have HBb : Hid (((w.alloc (.cells (rcells a) 26)).alloc (.cells #[.int .i8 c, .int .i8 t] 47)).heap[w.heap.size + 1]? = some (.cells #[.int .i8 c, .int .i8 t] 47 (0,0))) := block_new1 _ _ (by simp)
  have HW : Hid (Below w.heap.size w ((w.alloc (.cells (rcells a) 26)).alloc (.cells #[.int .i8 c, .int .i8 t] 47))) := ((Below.refl _ w).alloc (Nat.le_refl _) _).alloc (by simp) _
  have hB : Hid (w.heap.size + 2 ≤ ((w.alloc (.cells (rcells a) 26)).alloc (.cells #[.int .i8 c, .int .i8 t] 47)).heap.size) := by simp [Hid]
  have l0 : w.heap.size < w.heap.size + 2 := by omega
  have l1 : w.heap.size + 1 < w.heap.size + 2 := by omega
  go_enter Try.func8, Try.ntmps8
  go_wp2_with fail
  obtain ⟨W0, hW0⟩ : ∃ W0, W0 = (w.alloc (.cells (rcells a) 26)).alloc (.cells #[.int .i8 c, .int .i8 t] 47) := ⟨_, rfl⟩
  rw [← hW0] at HA HBb HW hB ⊢
  clear hW0
  have k0 := cell_block HBb.out (j := 0) rfl
  have k1 := cell_block HBb.out (j := 1) rfl
  refine wp_region_wild (w.heap.size + 2) 4 ?s1 _ 25 #[.agg (rcells a), .agg #[.int .i8 c, .int .i8 t]] (WildI (w.heap.size + 2) W0 l k) (by kernel_rfl) (by kernel_rfl) (by kernel_rfl) (by kernel_rfl) rfl hB.out ?pre1 ?ent1 ?call1 ?post1
  case pre1 =>
    simp only [List.take_succ_cons, List.take_zero]
    repeat (first
      | ((with_reducible refine wpQuiet_run (N := 14) rfl rfl (.agg (rcells a)) ?_ ?_); (rintro _ ⟨x, rfl⟩; exact execOp_load rfl rfl (run_load_roof 26 Try.underlying26 rfl Try.infoLRoof ha (block_below x.below HA.out l0))); go_simp)
      | go_big_quiet_step (first
        | (go_at_call 10; with_reducible exact Calls.ext hB.out (c_toRoof a ha _))
        | (go_at_call 26; with_reducible exact Calls.ext hB.out (c_toPlace c t _))))
    refine wpQuiet_nil ?_
    exact rfl
  case ent1 => intro w; unfold execOp; go_simp
  case call1 => exact fun x => WildI.of (HC1.out x.out)
  rintro _ w1 ⟨x, A0, c0, rfl, hb1, ho1⟩
  simp only [List.drop_succ_cons, List.drop_zero, Act.put, List.setIfInBounds_toArray, List.set_cons_zero, List.set_cons_succ]
  repeat (go_big_quiet_step (fail))
  refine wpQuiet_nil ?_
  have HB1 : Hid (Below (w.heap.size + 2) W0 w1) := x.below.trans (hb1.mono (Nat.le_trans hB.out x.below.size))
  have O0 := hid ho1
  have HB0 : Hid (w.heap.size + 2 ≤ w1.heap.size) := Nat.le_trans hB.out HB1.out.size
  have HSp0 : Hid (w1.heap.size ≤ w1.heap.size) := Nat.le_refl _
  clear hb1 ho1 k0 k1
  go_wp2_with fail
  replace HA := hid (block_below HB1.out HA.out l0)
  replace HBb := hid (block_below HB1.out HBb.out l1)
  have m0 := block_lt HA.out
  have m1 := block_lt HBb.out
  have k0 := cell_block HBb.out (j := 0) rfl
  have k1 := cell_block HBb.out (j := 1) rfl
  refine wp_region_wild w1.heap.size 4 ?s2 _ 27 #[.agg (rcells a), .agg #[.int .i8 c, .int .i8 t]] (WildI w1.heap.size w1 l k) (by kernel_rfl) (by kernel_rfl) (by kernel_rfl) (by kernel_rfl) rfl (Nat.le_refl _) ?pre2 ?ent2 ?call2 ?post2
  case pre2 =>
    simp only [List.take_succ_cons, List.take_zero]
    repeat (first
      | ((with_reducible refine wpQuiet_run (N := 22) rfl rfl (.agg (rcells a)) ?_ ?_); (rintro _ ⟨x, rfl⟩; exact execOp_load rfl rfl (run_load_roof 26 Try.underlying26 rfl Try.infoLRoof ha (block_below x.below HA.out m0))); go_simp)
      | go_big_quiet_step (first
        | (go_at_call 10; with_reducible exact Calls.ext (Nat.le_refl _) (c_toRoof a ha _))
        | (go_at_call 26; with_reducible exact Calls.ext (Nat.le_refl _) (c_toPlace c t _))))
    refine wpQuiet_nil ?_
    exact rfl
  case ent2 => intro w; unfold execOp; go_simp
  case call2 => exact fun x => WildI.of (HC2.out x.out)
  rintro _ w2 ⟨x2, A1, c1, rfl, hb2, ho2⟩
  simp only [List.drop_succ_cons, List.drop_zero, Act.put, List.setIfInBounds_toArray, List.set_cons_zero, List.set_cons_succ]
  repeat (go_big_quiet_step (fail))
  refine wpQuiet_nil ?_
  have HB2 : Hid (Below w1.heap.size w1 w2) := x2.below.trans (hb2.mono x2.below.size)
  have HS : Hid (w1.heap.size ≤ x2.out.heap.size) := x2.below.size
  replace O0 := hid (O0.out.below HB2.out)
  have O1 := hid ho2
  have HSp : Hid (w1.heap.size ≤ x2.out.heap.size) := x2.below.size
  clear hb2 ho2 k0 k1
  replace HB1 := hid (HB1.out.trans (HB2.out.mono (Nat.le_trans hB.out HB1.out.size)))
  replace HA := hid (block_below HB2.out HA.out m0)
  replace HBb := hid (block_below HB2.out HBb.out m1)
  clear HB2 m0 m1
  have HLo : Hid (w.heap.size + 2 ≤ x2.out.heap.size) := Nat.le_trans HB0.out HS.out
  go_wp2_with (first
    | (go_at_call 28; ((with_reducible refine (q_eqInt64S HL.out O1.out O0.out).mono ?_); rintro e wt ⟨rfl, hb1⟩); have O0 := hid (O0.out.below hb1); have O1 := hid (O1.out.below hb1); have HA := hid (block_below hb1 HA.out (block_lt HA.out)); have HBb := hid (block_below hb1 HBb.out (block_lt HBb.out)); replace HB1 := hstep hB HB1 hb1; clear hb1)
    | (go_at_call 29; ((with_reducible refine (q_markInt64S HL.out O1.out).mono ?_); rintro e wm ⟨rfl, hb1, om⟩); have O1 := hid om; have O0 := hid (O0.out.below' hb1 HSp.out hb1.size); have HA := hid (block_below hb1 HA.out (by have := HLo.out; omega)); have HBb := hid (block_below hb1 HBb.out (by have := HLo.out; omega)); replace HB1 := hstepB HB1 hb1 HLo.out; clear hb1 om)
    | (go_at_call 30; ((with_reducible refine (q_heldInt64S HL.out O1.out).mono ?_); rintro e wt ⟨rfl, hb1⟩); have O0 := hid (O0.out.below hb1); have O1 := hid (O1.out.below hb1); have HA := hid (block_below hb1 HA.out (block_lt HA.out)); have HBb := hid (block_below hb1 HBb.out (block_lt HBb.out)); replace HB1 := hstep hB HB1 hb1; clear hb1))
  have m0 := block_lt HA.out
  have m1 := block_lt HBb.out
  have k0 := cell_block HBb.out (j := 0) rfl
  have k1 := cell_block HBb.out (j := 1) rfl
  obtain ⟨W3, hW3⟩ : ∃ W3, W3 = wt := ⟨_, rfl⟩
  rw [← hW3] at HA HBb O0 O1 HB1 m0 m1 k0 k1 ⊢
  clear hW3
  refine wp_region_wild W3.heap.size 4 ?s3 _ 27 #[.agg (rcells a), .agg #[.int .i8 c, .int .i8 t]] (WildI W3.heap.size W3 l k) (by kernel_rfl) (by kernel_rfl) (by kernel_rfl) (by kernel_rfl) rfl (Nat.le_refl _) ?pre3 ?ent3 ?call3 ?post3
  case pre3 =>
    simp only [List.take_succ_cons, List.take_zero]
    repeat (first
      | ((with_reducible refine wpQuiet_run (N := 50) rfl rfl (.agg (rcells a)) ?_ ?_); (rintro _ ⟨x, rfl⟩; exact execOp_load rfl rfl (run_load_roof 26 Try.underlying26 rfl Try.infoLRoof ha (block_below x.below HA.out m0))); go_simp)
      | go_big_quiet_step (first
        | (go_at_call 10; with_reducible exact Calls.ext (Nat.le_refl _) (c_toRoof a ha _))
        | (go_at_call 26; with_reducible exact Calls.ext (Nat.le_refl _) (c_toPlace c t _))))
    refine wpQuiet_nil ?_
    exact rfl
  case ent3 => intro w; unfold execOp; go_simp
  case call3 => exact fun x => WildI.of (HC2.out x.out)
  rintro _ w4 ⟨x3, A2, c2, rfl, hb3, ho3⟩
  simp only [List.drop_succ_cons, List.drop_zero, Act.put, List.setIfInBounds_toArray, List.set_cons_zero, List.set_cons_succ]
  repeat (go_big_quiet_step (fail))
  refine wpQuiet_nil ?_
  have HB3 : Hid (Below W3.heap.size W3 w4) := x3.below.trans (hb3.mono x3.below.size)
  replace O0 := hid (O0.out.below HB3.out)
  replace O1 := hid (O1.out.below HB3.out)
  have O2 := hid ho3
  clear hb3 ho3 k0 k1
  replace HB1 := hid (HB1.out.trans (HB3.out.mono (Nat.le_trans hB.out HB1.out.size)))
  clear HA HBb m0 m1 HB3
  go_wp2_with (first
    | (go_at_call 28; ((with_reducible refine (q_eqInt64S HL.out O2.out O0.out).mono ?_); rintro e wu ⟨rfl, hb1⟩); have O1 := hid (O1.out.below hb1); replace HB1 := hstep hB HB1 hb1; clear hb1)
    | (go_at_call 30; ((with_reducible refine (q_heldInt64S HL.out O1.out).mono ?_); rintro e wu ⟨rfl, hb1⟩); replace HB1 := hstep hB HB1 hb1; clear hb1))
  go_ret
  exact ⟨rfl, HW.out.trans (HB1.out.mono (by omega))⟩
end Go.Proofs.Ytecobdnpbkojmaa
