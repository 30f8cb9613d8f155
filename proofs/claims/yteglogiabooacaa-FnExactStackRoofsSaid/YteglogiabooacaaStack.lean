/- StackRoofs, the program's and the reference's. -/
import Derived.Test.YteglogiabooacaaCut
namespace Go.Proofs.Yteglogiabooacaa
open Go.RowKit
set_option linter.unusedSimpArgs false
set_option linter.unusedVariables false

/-- The kinds of a roof, k courses of another laid from course c on. -/
def stackT (s t : List Int) (c k : Nat) : List Int := (List.range 64).map fun n => if 8 * c ≤ n ∧ n < 8 * c + 8 * k then t.getD (n - 8 * c) 0 else s.getD n 0
theorem stackT_getD (s t : List Int) (c k n : Nat) (hn : n < 64) : (stackT s t c k).getD n 0 = if 8 * c ≤ n ∧ n < 8 * c + 8 * k then t.getD (n - 8 * c) 0 else s.getD n 0 := by
  unfold stackT
  rw [List.getD_eq_getElem?_getD, List.getElem?_map, List.getElem?_range hn]; rfl
theorem stackT_len (s t : List Int) (c k : Nat) : (stackT s t c k).length = 64 := by simp [stackT]
theorem getD_mem {l : List Int} {n : Nat} (h : ∀ x ∈ l, 0 ≤ x ∧ x ≤ 255) : 0 ≤ l.getD n 0 ∧ l.getD n 0 ≤ 255 := by
  rw [List.getD_eq_getElem?_getD]
  cases hh : l[n]? with
  | none => simp
  | some x => exact h x (List.mem_of_getElem? hh)
theorem stackT_bd {s t : List Int} (hs : ∀ x ∈ s, 0 ≤ x ∧ x ≤ 255) (ht : ∀ x ∈ t, 0 ≤ x ∧ x ≤ 255) (c k : Nat) : ∀ x ∈ stackT s t c k, 0 ≤ x ∧ x ≤ 255 := fun v hv => by
  obtain ⟨n, _, rfl⟩ := List.mem_map.1 hv
  split
  · exact getD_mem ht
  · exact getD_mem hs
theorem stackT_zero {s : List Int} (t : List Int) (hs : s.length = 64) (c : Nat) : stackT s t c 0 = s := by
  apply List.ext_getElem?
  intro n
  unfold stackT
  rw [List.getElem?_map]
  by_cases hn : n < 64
  · rw [List.getElem?_range hn, Option.map_some, if_neg (by omega), List.getD_eq_getElem?_getD, List.getElem?_eq_getElem (by omega)]; rfl
  · rw [List.getElem?_eq_none (by simp; omega), List.getElem?_eq_none (by omega)]; rfl
/-- Two roofs, one upon the other. -/
def stackR (a b : Rf) : Rf := ⟨a.w, a.h + b.h, a.s, stackT a.t b.t a.h.toNat b.h.toNat⟩
def stackC (a b : Rf) : Int := if (validB a && validB b) = false then 1 else if ¬ a.w = b.w then 4 else if ¬ shiftOf a a.h = shiftOf b 0 then 4 else if 8 < a.h + b.h then 3 else 0
def stackV (a b : Rf) : Rf := if stackC a b = 0 then stackR a b else Rf.zero
theorem stackR_ok {a b : Rf} (ha : a.Ok) (hb : b.Ok) (hh : 0 ≤ a.h + b.h ∧ a.h + b.h ≤ 8) : (stackR a b).Ok := by
  refine ⟨ha.w1, ha.w2, ?_, ?_, ha.s1, ha.s2, stackT_len _ _ _ _, stackT_bd ha.t1 hb.t1 _ _⟩
  · show -128 ≤ a.h + b.h; omega
  · show a.h + b.h ≤ 127; omega
theorem stackC0 {a b : Rf} (h : stackC a b = 0) : validB a = true ∧ validB b = true ∧ a.w = b.w ∧ shiftOf a a.h = shiftOf b 0 ∧ a.h + b.h ≤ 8 := by
  unfold stackC at h
  split at h
  · cases h
  split at h
  · cases h
  split at h
  · cases h
  split at h
  · cases h
  rename_i h1 h2 h3 h4
  simp only [Bool.not_eq_false, Bool.and_eq_true] at h1
  exact ⟨h1.1, h1.2, by simpa using h2, by simpa using h3, by omega⟩
theorem stackV_ok {a b : Rf} (ha : a.Ok) (hb : b.Ok) : (stackV a b).Ok := by
  unfold stackV
  split
  · rename_i h; obtain ⟨v1, v2, _, _, h5⟩ := stackC0 h
    have := valid_head v1; have := valid_head v2
    exact stackR_ok ha hb (by omega)
  · exact Rf.zero_ok
theorem stack_cases (a b : Rf) : (validB a = false ∧ stackC a b = 1) ∨ (validB a = true ∧ validB b = false ∧ stackC a b = 1) ∨ (validB a = true ∧ validB b = true ∧ ((¬ a.w = b.w ∧ stackC a b = 4) ∨ (a.w = b.w ∧ ((¬ shiftOf a a.h = shiftOf b 0 ∧ stackC a b = 4) ∨ (shiftOf a a.h = shiftOf b 0 ∧ ((8 < a.h + b.h ∧ stackC a b = 3) ∨ (¬ 8 < a.h + b.h ∧ stackC a b = 0))))))) := by
  by_cases h1 : validB a = true <;> by_cases h2 : validB b = true <;> by_cases h3 : a.w = b.w <;> by_cases h4 : shiftOf a a.h = shiftOf b 0 <;> by_cases h5 : 8 < a.h + b.h <;> simp [stackC, h1, h2, h3, h4, h5] <;> simpa using h1
theorem c_ValidRoofK (r : Rf) (hr : r.Ok) (v : Bool) (hv : validB r = v) (w : World) : Calls Try.prog 45 #[.agg (rcells r)] w fun e w' => e = .returned (.bool v) ∧ Below w.heap.size w w' := hv ▸ c_ValidRoof r hr w
theorem c_l01OkK (r : Rf) (hr : r.Ok) (b : Nat) (v : Bool) (hv : validB r = v) (w : World) (hb : w.heap[b]? = some (.cells (rcells r) 29 (0,0))) : Calls Try.prog 44 #[.pointer (some ⟨b,0,none⟩)] w fun e w' => e = .returned (.bool v) ∧ Below w.heap.size w w' := hv ▸ c_l01Ok r hr b w hb
theorem toList_rcells (r : Rf) : (rcells r).toList = [Value.int .i8 r.w, .int .i8 r.h, .int .u8 r.s] ++ r.t.map (Value.int .u8) := by simp [rcells]
theorem stack_copy (s t : List Int) (x y z : Int) (hs : s.length = 64) (ht : t.length = 64) (m k : Nat) (hmk : m + k ≤ 8) :
    ((rcells ⟨x, y, z, s⟩).toList.take (3 + m * 8) ++ (t.take (k * 8)).map (Value.int .u8) ++ (rcells ⟨x, y, z, s⟩).toList.drop (3 + m * 8 + ((t.take (k * 8)).map (Value.int .u8)).length)).toArray = rcells ⟨x, y, z, stackT s t m k⟩ := by
  have hl : (t.take (k * 8)).length = 8 * k := by rw [List.length_take, ht]; omega
  apply Array.toList_inj.1
  rw [toList_rcells, toList_rcells, List.length_map, hl]
  dsimp only
  have e1 : ([Value.int .i8 x, .int .i8 y, .int .u8 z] ++ s.map (Value.int .u8)).take (3 + m * 8) = [Value.int .i8 x, .int .i8 y, .int .u8 z] ++ (s.map (Value.int .u8)).take (m * 8) := by
    have e0 : 3 + m * 8 = m * 8 + 1 + 1 + 1 := by omega
    rw [e0]; rfl
  have e2 : ([Value.int .i8 x, .int .i8 y, .int .u8 z] ++ s.map (Value.int .u8)).drop (3 + m * 8 + 8 * k) = (s.map (Value.int .u8)).drop (m * 8 + 8 * k) := by
    rw [Nat.add_assoc, ← List.drop_drop]; rfl
  rw [e1, e2, List.append_assoc, List.append_assoc, ← List.map_drop, ← List.map_take, ← List.map_append, ← List.map_append]
  simp only [List.append_cancel_left_eq]
  congr 1
  apply List.ext_getElem?
  intro n
  have e3 : (stackT s t m k)[n]? = if n < 64 then some (if 8 * m ≤ n ∧ n < 8 * m + 8 * k then t.getD (n - 8 * m) 0 else s.getD n 0) else none := by
    unfold stackT
    rw [List.getElem?_map]
    by_cases hj : n < 64
    · rw [List.getElem?_range hj, if_pos hj]; rfl
    · rw [List.getElem?_eq_none (by simp; omega), if_neg hj]; rfl
  have hl2 : (s.take (m * 8)).length = 8 * m := by rw [List.length_take, hs]; omega
  rw [e3, List.getElem?_append, hl2]
  by_cases h1 : n < 8 * m
  · rw [if_pos h1, if_pos (by omega), if_neg (by omega), List.getElem?_take, if_pos (by omega), List.getD_eq_getElem?_getD, List.getElem?_eq_getElem (by omega)]; rfl
  · rw [if_neg h1, List.getElem?_append, hl]
    by_cases h2 : n - 8 * m < 8 * k
    · rw [if_pos h2, if_pos (by omega), if_pos (by omega), List.getElem?_take, if_pos (by omega), List.getD_eq_getElem?_getD, List.getElem?_eq_getElem (by omega)]; rfl
    · rw [if_neg h2, List.getElem?_drop]
      by_cases h3 : n < 64
      · rw [if_pos h3, if_neg (by omega), List.getD_eq_getElem?_getD]
        have e : m * 8 + 8 * k + (n - 8 * m - 8 * k) = n := by omega
        rw [e, List.getElem?_eq_getElem (by omega)]; rfl
      · rw [if_neg h3, List.getElem?_eq_none (by omega)]
theorem rset_h (r : Rf) (v : Int) : (rcells r).setIfInBounds 1 (.int .i8 v) = rcells { r with h := v } := by
  apply Array.toList_inj.1
  simp [rcells]
abbrev stW (w : World) (a b : Rf) : World := ((w.alloc (.cells (rcells a) 29)).alloc (.cells (rcells b) 29)).alloc (.cells (rcells Rf.zero) 29)
set_option maxHeartbeats 1600000 in
set_option maxRecDepth 100000 in
theorem c_StackRoofs_ok (a b : Rf) (ha : a.Ok) (hb : b.Ok) (v1 : validB a = true) (v2 : validB b = true) (h3 : a.w = b.w) (h4 : shiftOf a a.h = shiftOf b 0) (h5 : ¬ 8 < a.h + b.h) (w : World) : Calls Try.prog 23 #[.agg (rcells a), .agg (rcells b)] w fun e w' => e = .returned (.tuple #[.agg (rcells (stackR a b)), .int .i64 0]) ∧ Below w.heap.size w w' := by
  have h71 := ha.h1; have h81 := ha.h2; have h72 := hb.h1; have h82 := hb.h2
  have HA : Hid ((stW w a b).heap[w.heap.size]? = some (.cells (rcells a) 29 (0,0))) := block_alloc (block_alloc (block_new1 w _ rfl) _) _
  have HBb : Hid ((stW w a b).heap[w.heap.size + 1]? = some (.cells (rcells b) 29 (0,0))) := block_alloc (block_new1 _ _ (by simp)) _
  have HZ : Hid ((stW w a b).heap[w.heap.size + 1 + 1]? = some (.cells (rcells Rf.zero) 29 (0,0))) := block_new1 _ _ (by simp)
  have HW : Hid (Below w.heap.size w (stW w a b)) := (((Below.refl _ w).alloc (Nat.le_refl _) _).alloc (by simp) _).alloc (by simp <;> omega) _
  have hB : Hid (w.heap.size + 3 ≤ (stW w a b).heap.size) := by simp [Hid]
  have HB : Hid (Below (w.heap.size + 3) (stW w a b) (stW w a b)) := Below.refl _ _
  have l0 : w.heap.size < w.heap.size + 3 := by omega
  have l1 : w.heap.size + 1 < w.heap.size + 3 := by omega
  have l2 : w.heap.size + 1 + 1 < w.heap.size + 3 := by omega
  have vh1 := valid_head v1
  have vh2 := valid_head v2
  have HOK := hid (stackR_ok ha hb (by omega))
  have V1 := hid v1
  have V2 := hid v2
  clear v1 v2
  have hsum : IntKind.i8.wrap (a.h + b.h) = a.h + b.h := IntWalk.i8_in _ (by omega)
  have hsh : 0 ≤ a.h ∧ a.h ≤ 1000000 := by omega
  have hne3 : (a.w != b.w) = false := by simp [h3]
  have hne4 : (shiftOf a a.h != shiftOf b 0) = false := by simp [h4]
  have H3 := hid h3
  clear h3 h4
  go_enter Try.func23, Try.ntmps23
  go_wp2_with (first
    | ((with_reducible refine gate (N := 8) rfl ?_); refine wp_roof 29 Try.underlying29 rfl Try.infoRoof rfl (.tmp 2) rfl w.heap.size rfl a ha HA.out ?_)
    | ((with_reducible refine gate (N := 12) rfl ?_); refine wpList_runG rfl (.agg (rcells b)) (execOp_load rfl rfl (run_load_roof 29 Try.underlying29 rfl Try.infoRoof hb (block_below HB.out HBb.out l1))) ?_)
    | (go_at_call 45; first
        | ((with_reducible refine (c_ValidRoofK a ha _ V1.out _).mono ?_); rintro e w1 ⟨rfl, hb1⟩; replace HB := hstep hB HB hb1; clear hb1)
        | ((with_reducible refine (c_ValidRoofK b hb _ V2.out _).mono ?_); rintro e w1 ⟨rfl, hb1⟩; replace HB := hstep hB HB hb1; clear hb1)))
  have ca0 := cell_block (block_below HB.out HA.out l0) (rc0 a)
  have ca1 := cell_block (block_below HB.out HA.out l0) (rc1 a)
  have cb0 := cell_block (block_below HB.out HBb.out l1) (rc0 b)
  have cb1 := cell_block (block_below HB.out HBb.out l1) (rc1 b)
  refine wp_region_ext (w.heap.size + 3) (by kernel_rfl) (by kernel_rfl) ?_
  repeat (first
    | ((with_reducible refine wpQuiet_runG (N := 24) rfl rfl (.agg (rcells a)) ?_ ?_); (rintro _ ⟨x, rfl⟩; exact execOp_load rfl rfl (run_load_roof 29 Try.underlying29 rfl Try.infoRoof ha (block_below x.h (block_below HB.out HA.out l0) l0))); go_simp)
    | ((with_reducible refine wpQuiet_runG (N := 29) rfl rfl (.agg (rcells b)) ?_ ?_); (rintro _ ⟨x, rfl⟩; exact execOp_load rfl rfl (run_load_roof 29 Try.underlying29 rfl Try.infoRoof hb (block_below x.h (block_below HB.out HBb.out l1) l1))); go_simp)
    | go_big_quiet_step ((go_at_call 30; first | (with_reducible exact Calls.ext (Nat.le_trans hB.out HB.out.size) (c_shift a ha _ hsh _)) | (with_reducible exact Calls.ext (Nat.le_trans hB.out HB.out.size) (c_shift b hb 0 (by decide) _)))))
  refine wpQuiet_nil ?_
  intro x
  replace HB := hid (HB.out.trans x.h)
  go_wp2_with (first
    | ((with_reducible refine gate (N := 42) rfl ?_); refine wp_roof 29 Try.underlying29 rfl Try.infoRoof rfl (.tmp 2) rfl w.heap.size rfl a ha (block_below HB.out HA.out l0) ?_)
    | ((with_reducible refine gateN rfl ?_); refine wp_store_roof rfl (.tmp 6) (.tmp 42) rfl x.out.heap.size Rf.zero _ Rf.zero_ok ha (block_new1 x.out _ rfl) rfl rfl ?_; intro w2 hw2 hg hsz; have HV := hid hw2; have cq1 := cell_block hw2 (rc1 a); have fq1 := frozen_of_row _ _ 1 _ _ hw2; (have HB2 := hstore hB HB hg); (have cb1' := cell_block (block_below HB2.out HBb.out l1) (rc1 b)); clear hw2))
  have hq : w.heap.size + 3 ≤ x.out.heap.size := Nat.le_trans hB.out HB.out.size
  obtain ⟨w3, hw3⟩ : ∃ w3, w3 = w2.setCell ⟨x.out.heap.size, 1, none⟩ (.int .i8 (a.h + b.h)) := ⟨_, rfl⟩
  rw [← hw3]
  have HV3 : Hid (w3.heap[x.out.heap.size]? = some (.cells (rcells { a with h := a.h + b.h }) 29 (0, 0))) := by
    rw [hw3, ← rset_h]; exact heap_setCell_same _ _ _ _ _ _ HV.out
  have HB3 : Hid (Below (w.heap.size + 3) (stW w a b) w3) := by rw [hw3]; exact Below.setCell HB2.out (p := ⟨x.out.heap.size, 1, none⟩) hq _
  clear hw3 HB2 HV cq1 fq1 cb1' ca0 ca1 cb0 cb1
  obtain ⟨m, hm⟩ := Int.eq_ofNat_of_zero_le (by omega : 0 ≤ a.h)
  obtain ⟨k, hk⟩ := Int.eq_ofNat_of_zero_le (by omega : 0 ≤ b.h)
  have ca1 : w3.cell? ⟨w.heap.size, 1, none⟩ = some (.int .i8 (m : Int)) := by rw [← hm]; exact cell_block (block_below HB3.out HA.out l0) (rc1 a)
  have cb1 : w3.cell? ⟨w.heap.size + 1, 1, none⟩ = some (.int .i8 (k : Int)) := by rw [← hk]; exact cell_block (block_below HB3.out HBb.out l1) (rc1 b)
  have HR : Hid (stackR a b = ⟨a.w, a.h + b.h, a.s, stackT a.t b.t m k⟩) := by unfold stackR; rw [hm, hk]; rfl
  have mk : m + k ≤ 8 := by omega
  have k1 : 1 ≤ k := by omega
  have m8 : (m : Int) ≤ 8 := by omega
  have k8 : (k : Int) ≤ 8 := by omega
  have m0 : (0 : Int) ≤ (m : Int) := by omega
  have k0 : (0 : Int) ≤ (k : Int) := by omega
  have m8' : ¬ (8 = m) := by omega
  clear hm hk
  refine wp_region_tail 8 (by kernel_rfl) (by kernel_rfl) ?_
  simp only [List.take_succ_cons, List.take_zero, List.drop_succ_cons, List.drop_zero]
  repeat still_step
  refine wpStill_nil ?_
  have HBb3 := hid (block_below HB3.out HBb.out l1)
  have HZ3 := hid (block_below HB3.out HZ.out l2)
  have hty : (Try.prog.info? 23).map (·.size) = some 8 := by kernel_rfl
  with_reducible refine gate (N := 57) rfl ?_
  refine wpList_copy_rows rfl (.tmp 52) (.tmp 56) 66 66 rfl 23 8 Try.underlying66 hty x.out.heap.size (3 + m * 8) (8 - m) (8 - m) ⟨w.heap.size + 1, 3, none⟩ k 8 rfl rfl (rcells { a with h := a.h + b.h }) 29 HV3.out ((b.t.take (k * 8)).map (Value.int .u8)) k (by show min _ _ = _; omega) ?c1 ?c2 ?c3 ?c4 _ (stack_copy a.t b.t a.w (a.h + b.h) a.s ha.len hb.len m k mk) ?c5
  case c1 => rw [List.length_map, List.length_take, hb.len]; omega
  case c2 =>
    intro j v hj
    rw [List.getElem?_map, List.getElem?_take] at hj
    by_cases hjm : j < k * 8
    · rw [if_pos hjm] at hj
      have hl : j < b.t.length := by rw [hb.len]; omega
      rw [List.getElem?_eq_getElem hl] at hj
      simp only [Option.map_some, Option.some.injEq] at hj
      subst hj
      have := rct b hb j (by omega)
      have e : (⟨w.heap.size + 1, 3, none⟩ : Addr).add j = ⟨w.heap.size + 1, 3 + j, none⟩ := by
        unfold Addr.add; split <;> simp <;> omega
      rw [e]
      refine (cell_of_row _ _ _ _ _ _ HBb3.out).trans ?_
      rw [this, List.getD_eq_getElem?_getD, List.getElem?_eq_getElem hl]; rfl
    · rw [if_neg hjm] at hj; simp at hj
  case c3 =>
    rw [List.length_map, List.length_take, size_rcells, hb.len]
    have : ({ a with h := a.h + b.h } : Rf).t.length = 64 := ha.len
    rw [this]; omega
  case c4 =>
    intro v hv
    obtain ⟨x, _, rfl⟩ := List.mem_map.1 hv
    rfl
  case c5 =>
    intro w4 hw4 hg4 hs4
    rw [← HR.out] at hw4
    have HV4 := hid hw4; clear hw4
    have HG4 := hid hg4; clear hg4
    go_wp2_with (first
      | ((with_reducible refine gate (N := 58) rfl ?_); refine wp_roof 29 Try.underlying29 rfl Try.infoRoof rfl (.tmp 6) rfl x.out.heap.size rfl _ HOK.out HV4.out ?_)
      | ((with_reducible refine gateN rfl ?_); refine wp_store_roof rfl (.tmp 4) (.tmp 58) rfl (w.heap.size + 1 + 1) Rf.zero _ Rf.zero_ok HOK.out (block_grown HG4.out HZ3.out (by omega)) rfl rfl ?_; intro w5 hw5 hg5 hsz5; have HV5 := hid hw5; clear hw5))
    have b1 := HW.out.trans (HB3.out.mono (by omega))
    have b3 := b1.drew.grown HG4.out b1.size (fun k hk => by cases hk; omega)
    exact bodyPost_ret (res_roof rfl _ _ (w.heap.size + 1 + 1) _ HOK.out _ rfl HV5.out rfl) rfl ⟨rfl, b3.grown hg5 b3.size (fun k hk => by cases hk; omega)⟩
set_option maxHeartbeats 1600000 in
set_option maxRecDepth 100000 in
theorem c_StackRoofs (a b : Rf) (ha : a.Ok) (hb : b.Ok) (w : World) : Calls Try.prog 23 #[.agg (rcells a), .agg (rcells b)] w fun e w' => e = .returned (.tuple #[.agg (rcells (stackV a b)), .int .i64 (stackC a b)]) ∧ Below w.heap.size w w' := by
  have h71 := ha.h1; have h81 := ha.h2; have h72 := hb.h1; have h82 := hb.h2
  have HA : Hid ((stW w a b).heap[w.heap.size]? = some (.cells (rcells a) 29 (0,0))) := block_alloc (block_alloc (block_new1 w _ rfl) _) _
  have HBb : Hid ((stW w a b).heap[w.heap.size + 1]? = some (.cells (rcells b) 29 (0,0))) := block_alloc (block_new1 _ _ (by simp)) _
  have HZ : Hid ((stW w a b).heap[w.heap.size + 1 + 1]? = some (.cells (rcells Rf.zero) 29 (0,0))) := block_new1 _ _ (by simp)
  have HW : Hid (Below w.heap.size w (stW w a b)) := (((Below.refl _ w).alloc (Nat.le_refl _) _).alloc (by simp) _).alloc (by simp <;> omega) _
  have hB : Hid (w.heap.size + 3 ≤ (stW w a b).heap.size) := by simp [Hid]
  have HB : Hid (Below (w.heap.size + 3) (stW w a b) (stW w a b)) := Below.refl _ _
  have l0 : w.heap.size < w.heap.size + 3 := by omega
  have l1 : w.heap.size + 1 < w.heap.size + 3 := by omega
  have l2 : w.heap.size + 1 + 1 < w.heap.size + 3 := by omega
  unfold stackV
  rcases stack_cases a b with ⟨v1, hk⟩ | ⟨v1, v2, hk⟩ | ⟨v1, v2, ⟨h3, hk⟩ | ⟨h3, ⟨h4, hk⟩ | ⟨h4, ⟨h5, hk⟩ | ⟨h5, hk⟩⟩⟩⟩
  case inr.inr.inr.inr.inr => rw [hk, if_pos rfl]; exact c_StackRoofs_ok a b ha hb v1 v2 h3 h4 h5 w
  all_goals
    rw [hk, if_neg (by decide)]
    clear hk
    have V1 := hid v1
    try have V2 := hid v2
    try have vh1 := valid_head v1
    try have vh2 := valid_head v2
    clear v1
    try clear v2
    try have hsum : IntKind.i8.wrap (a.h + b.h) = a.h + b.h := IntWalk.i8_in _ (by omega)
    try (have hsh : 0 ≤ a.h ∧ a.h ≤ 1000000 := by omega)
    try first
      | have hne3 : (a.w != b.w) = true := by simp [h3]
      | have hne3 : (a.w != b.w) = false := by simp [h3]
    try first
      | have hne4 : (shiftOf a a.h != shiftOf b 0) = true := by simp [h4]
      | have hne4 : (shiftOf a a.h != shiftOf b 0) = false := by simp [h4]
    try clear h3
    try clear h4
    go_enter Try.func23, Try.ntmps23
    go_wp2_with (first
      | ((with_reducible refine gate (N := 8) rfl ?_); refine wp_roof 29 Try.underlying29 rfl Try.infoRoof rfl (.tmp 2) rfl w.heap.size rfl a ha HA.out ?_)
      | ((with_reducible refine gate (N := 12) rfl ?_); refine wpList_runG rfl (.agg (rcells b)) (execOp_load rfl rfl (run_load_roof 29 Try.underlying29 rfl Try.infoRoof hb (block_below HB.out HBb.out l1))) ?_)
      | (go_at_call 45; first
          | ((with_reducible refine (c_ValidRoofK a ha _ V1.out _).mono ?_); rintro e w1 ⟨rfl, hb1⟩; replace HB := hstep hB HB hb1; clear hb1)
          | ((with_reducible refine (c_ValidRoofK b hb _ V2.out _).mono ?_); rintro e w1 ⟨rfl, hb1⟩; replace HB := hstep hB HB hb1; clear hb1))
      | ((with_reducible refine gate (N := 16) rfl ?_); refine wpList_run rfl (.agg (rcells Rf.zero)) (by unfold execOp; go_simp; exact run_build_zero _) ?_)
      | ((with_reducible refine gateN rfl ?_); refine wp_store_roof rfl (.tmp 4) _ rfl (w.heap.size + 1 + 1) Rf.zero _ Rf.zero_ok Rf.zero_ok (block_below HB.out HZ.out l2) rfl rfl ?_; intro w2 hw2 hg hsz; have HV := hid hw2; clear hw2))
    first
      | exact bodyPost_ret (res_roof rfl _ _ (w.heap.size + 1 + 1) _ Rf.zero_ok _ rfl HV.out rfl) rfl ⟨rfl, (HW.out.trans (HB.out.mono (by omega))).grown hg (Nat.le_trans (by omega) (Nat.le_trans hB.out HB.out.size)) (fun k hk => by cases hk; omega)⟩
      | skip
    all_goals
      have ca0 := cell_block (block_below HB.out HA.out l0) (rc0 a)
      have ca1 := cell_block (block_below HB.out HA.out l0) (rc1 a)
      have cb0 := cell_block (block_below HB.out HBb.out l1) (rc0 b)
      have cb1 := cell_block (block_below HB.out HBb.out l1) (rc1 b)
      refine wp_region_ext (w.heap.size + 3) (by kernel_rfl) (by kernel_rfl) ?_
      repeat (first
        | ((with_reducible refine wpQuiet_runG (N := 24) rfl rfl (.agg (rcells a)) ?_ ?_); (rintro _ ⟨x, rfl⟩; exact execOp_load rfl rfl (run_load_roof 29 Try.underlying29 rfl Try.infoRoof ha (block_below x.h (block_below HB.out HA.out l0) l0))); go_simp)
        | ((with_reducible refine wpQuiet_runG (N := 29) rfl rfl (.agg (rcells b)) ?_ ?_); (rintro _ ⟨x, rfl⟩; exact execOp_load rfl rfl (run_load_roof 29 Try.underlying29 rfl Try.infoRoof hb (block_below x.h (block_below HB.out HBb.out l1) l1))); go_simp)
        | go_big_quiet_step ((go_at_call 30; first | (with_reducible exact Calls.ext (Nat.le_trans hB.out HB.out.size) (c_shift a ha _ hsh _)) | (with_reducible exact Calls.ext (Nat.le_trans hB.out HB.out.size) (c_shift b hb 0 (by decide) _)))))
      refine wpQuiet_nil ?_
      intro x
      replace HB := hid (HB.out.trans x.h)
      go_wp2_with (first
        | ((with_reducible refine gate (N := 33) rfl ?_); refine wpList_run rfl (.agg (rcells Rf.zero)) (by unfold execOp; go_simp; exact run_build_zero _) ?_)
        | ((with_reducible refine gate (N := 41) rfl ?_); refine wpList_run rfl (.agg (rcells Rf.zero)) (by unfold execOp; go_simp; exact run_build_zero _) ?_)
        | ((with_reducible refine gateN rfl ?_); refine wp_store_roof rfl (.tmp 4) _ rfl (w.heap.size + 1 + 1) Rf.zero _ Rf.zero_ok Rf.zero_ok (block_below HB.out HZ.out l2) rfl rfl ?_; intro w2 hw2 hg hsz; have HV := hid hw2; clear hw2))
      exact bodyPost_ret (res_roof rfl _ _ (w.heap.size + 1 + 1) _ Rf.zero_ok _ rfl HV.out rfl) rfl ⟨rfl, (HW.out.trans (HB.out.mono (by omega))).grown hg (Nat.le_trans (by omega) (Nat.le_trans hB.out HB.out.size)) (fun k hk => by cases hk; omega)⟩
theorem cell_eq {W : World} {b j : Nat} {cs : Array Value} {T : TypeId} {fr : Nat × Nat} {v v' : Value} (h : W.heap[b]? = some (.cells cs T fr)) (hv : cs[j]? = some v) (e : v = v') : W.cell? ⟨b, j, none⟩ = some v' := e ▸ cell_block h hv
theorem stack_step (a b : Rf) (ha : a.Ok) (hb : b.Ok) (m j : Nat) (hj : m + j < 8) : setAll (rcells ⟨a.w, a.h, a.s, stackT a.t b.t m j⟩) (3 + (m + j) * 8) (tcells (trow b.t j)).toList = rcells ⟨a.w, a.h, a.s, stackT a.t b.t m (j + 1)⟩ := by
  have hok : Rf.Ok ⟨a.w, a.h, a.s, stackT a.t b.t m j⟩ := ⟨ha.w1, ha.w2, ha.h1, ha.h2, ha.s1, ha.s2, stackT_len _ _ _ _, stackT_bd ha.t1 hb.t1 _ _⟩
  refine set_row hok (len_trow b.t hb.len j (by omega)) hj (t' := stackT a.t b.t m (j + 1)) (stackT_len _ _ _ _) fun n hn => ?_
  dsimp only
  rw [stackT_getD _ _ _ _ _ hn, stackT_getD _ _ _ _ _ hn]
  by_cases h : 8 * (m + j) ≤ n ∧ n < 8 * (m + j) + 8
  · rw [if_pos (by omega), if_pos h, trow_at _ _ _ (by omega)]; congr 1; omega
  · rw [if_neg h]
    by_cases h2 : 8 * m ≤ n ∧ n < 8 * m + 8 * j
    · rw [if_pos (by omega), if_pos h2]
    · rw [if_neg (by omega), if_neg h2]
set_option maxHeartbeats 1600000 in
set_option maxRecDepth 100000 in
theorem c_sStackRoofs_ok (a b : Rf) (ha : a.Ok) (hb : b.Ok) (v1 : validB a = true) (v2 : validB b = true) (h3 : a.w = b.w) (h4 : shiftOf a a.h = shiftOf b 0) (h5 : ¬ 8 < a.h + b.h) (w : World) : Calls Try.prog 22 #[.agg (rcells a), .agg (rcells b)] w fun e w' => e = .returned (.tuple #[.agg (rcells (stackR a b)), .int .i64 0]) ∧ Below w.heap.size w w' := by
  have h71 := ha.h1; have h81 := ha.h2; have h72 := hb.h1; have h82 := hb.h2
  have HA : Hid ((stW w a b).heap[w.heap.size]? = some (.cells (rcells a) 29 (0,0))) := block_alloc (block_alloc (block_new1 w _ rfl) _) _
  have HBb : Hid ((stW w a b).heap[w.heap.size + 1]? = some (.cells (rcells b) 29 (0,0))) := block_alloc (block_new1 _ _ (by simp)) _
  have HZ : Hid ((stW w a b).heap[w.heap.size + 1 + 1]? = some (.cells (rcells Rf.zero) 29 (0,0))) := block_new1 _ _ (by simp)
  have HW : Hid (Below w.heap.size w (stW w a b)) := (((Below.refl _ w).alloc (Nat.le_refl _) _).alloc (by simp) _).alloc (by simp <;> omega) _
  have hB : Hid (w.heap.size + 3 ≤ (stW w a b).heap.size) := by simp [Hid]
  have HB : Hid (Below (w.heap.size + 3) (stW w a b) (stW w a b)) := Below.refl _ _
  have l0 : w.heap.size < w.heap.size + 3 := by omega
  have l1 : w.heap.size + 1 < w.heap.size + 3 := by omega
  have l2 : w.heap.size + 1 + 1 < w.heap.size + 3 := by omega
  have vh1 := valid_head v1
  have vh2 := valid_head v2
  have HOK := hid (stackR_ok ha hb (by omega))
  have V1 := hid v1
  have V2 := hid v2
  clear v1 v2
  have hsum : IntKind.i8.wrap (a.h + b.h) = a.h + b.h := IntWalk.i8_in _ (by omega)
  have hsh : 0 ≤ a.h ∧ a.h ≤ 1000000 := by omega
  have hne3 : (a.w != b.w) = false := by simp [h3]
  have hne4 : (shiftOf a a.h != shiftOf b 0) = false := by simp [h4]
  have H3 := hid h3
  clear h3 h4
  go_enter Try.func22, Try.ntmps22
  go_wp2_with (first
    | (go_at_call 44; first
        | ((with_reducible refine (c_l01OkK a ha _ _ V1.out _ HA.out).mono ?_); rintro e w1 ⟨rfl, hb1⟩; replace HB := hstep hB HB hb1; clear hb1)
        | ((with_reducible refine (c_l01OkK b hb _ _ V2.out _ (block_below HB.out HBb.out l1)).mono ?_); rintro e w1 ⟨rfl, hb1⟩; replace HB := hstep hB HB hb1; clear hb1; (have ca0 := cell_block (block_below HB.out HA.out l0) (rc0 a)); (have ca1 := cell_block (block_below HB.out HA.out l0) (rc1 a)); (have cb0 := cell_block (block_below HB.out HBb.out l1) (rc0 b)); (have cb1 := cell_block (block_below HB.out HBb.out l1) (rc1 b))))
    | (go_at_call 26; first
        | ((with_reducible refine (c_l01By a ha _ _ hsh _ (block_below HB.out HA.out l0)).mono ?_); rintro e w1 ⟨rfl, rfl⟩)
        | ((with_reducible refine (c_l01By b hb _ 0 (by decide) _ (block_below HB.out HBb.out l1)).mono ?_); rintro e w1 ⟨rfl, rfl⟩)))
  obtain ⟨m, hm⟩ := Int.eq_ofNat_of_zero_le (by omega : 0 ≤ a.h)
  obtain ⟨k, hk⟩ := Int.eq_ofNat_of_zero_le (by omega : 0 ≤ b.h)
  have HR : Hid (stackR a b = ⟨a.w, a.h + b.h, a.s, stackT a.t b.t m k⟩) := by unfold stackR; rw [hm, hk]; rfl
  have mk : m + k ≤ 8 := by omega
  have HM := hid hm
  have HKk := hid hk
  clear ca0 ca1 cb0 cb1 hne3 hne4
  go_loopw [6] (fun v wr => ∃ j : Nat, v = .int .i8 j ∧ j ≤ k ∧ Hid (wr.heap[w.heap.size]? = some (.cells (rcells ⟨a.w, a.h, a.s, stackT a.t b.t m j⟩) 29 (0, 0))) ∧ Hid (wr.heap[w.heap.size + 1]? = some (.cells (rcells b) 29 (0, 0))) ∧ Hid (wr.heap[w.heap.size + 1 + 1]? = some (.cells (rcells Rf.zero) 29 (0, 0))) ∧ Hid (Below w.heap.size w wr)) (fun v _ => k - (intOf v).toNat)
  case atStart =>
    refine ⟨0, rfl, by omega, ?_, block_below HB.out HBb.out l1, block_below HB.out HZ.out l2, HW.out.trans (HB.out.mono (by omega))⟩
    rw [stackT_zero _ ha.len]; exact block_below HB.out HA.out l0
  case round =>
    obtain ⟨j, rfl, hj, hA, hBr, hZr, hbr⟩ := hrel
    have ca1 := cell_eq hA.out (rc1 ⟨a.w, a.h, a.s, stackT a.t b.t m j⟩) (v' := .int .i8 (m : Int)) (by rw [← HM.out])
    have cb1 := cell_eq hBr.out (rc1 b) (v' := .int .i8 (k : Int)) (by rw [← HKk.out])
    by_cases hjk : j < k
    · have hd : decide ((j : Int) < (k : Int)) = true := decide_eq_true (by omega)
      have mj8 : m + j < 8 := by omega
      have j8 : j < 8 := by omega
      have a0 : (0 : Int) ≤ (m : Int) + (j : Int) := by omega
      have a1 : (m : Int) + (j : Int) < 8 := by omega
      have a2 : IntKind.i8.wrap ((m : Int) + (j : Int)) = (m : Int) + (j : Int) := IntWalk.i8_in _ (by omega)
      have a3 : (0 : Int) ≤ (j : Int) := by omega
      have a4 : (j : Int) < 8 := by omega
      have a5 : ((m : Int) + (j : Int)).toNat = m + j := by omega
      clear hm hk hsh hsum vh1 vh2
      go_wp2_with fail
      refine wp_region_tail 10 (by kernel_rfl) (by kernel_rfl) ?_
      simp only [List.take_succ_cons, List.take_zero, List.drop_succ_cons, List.drop_zero]
      repeat (first
        | ((with_reducible refine wpStill_run (N := 48) rfl rfl (.agg (tcells (trow b.t j))) ?_ ?_); (exact execOp_load rfl rfl (run_load_mid8 (len_trow _ hb.len _ j8) (range_mid hBr.out (fun k hk => rct b hb k (by rw [hb.len] at hk; exact hk)) j hb.len j8))); go_simp)
        | still_step)
      refine wpStill_nil ?_
      have hcsz : 3 + (m + j) * 8 + (tcells (trow b.t j)).size ≤ (rcells ⟨a.w, a.h, a.s, stackT a.t b.t m j⟩).size := by
        rw [size_tcells, len_trow _ hb.len _ j8, size_rcells, stackT_len]; omega
      have hcs := hid hcsz; clear hcsz
      go_wp2_with (first
        | ((with_reducible refine gateN rfl ?_); refine wpList_store_block rfl 23 (.tmp 50) (.tmp 48) rfl w.heap.size (3 + (m + j) * 8) (rcells ⟨a.w, a.h, a.s, stackT a.t b.t m j⟩) (tcells (trow b.t j)) _ 29 hA.out rfl rfl hcs.out (by rw [Try.infoRow, size_tcells, len_trow _ hb.len _ j8]) (tcells_one _) (stack_step a b ha hb m j mj8) ?_; intro w2 hw2 hg hsz; have HV := hid hw2; clear hw2))
      have hb2 := hbr.out.drew.grown hg hbr.out.size (fun k hk => by cases hk; omega)
      go_roundw
      case rel => exact ⟨j + 1, by go_num, by omega, HV.out, block_grown hg hBr.out (by omega), block_grown hg hZr.out (by omega), hb2⟩
      case measure => simp [intOf]; omega
    · obtain rfl : j = k := by omega
      have hd : decide ((j : Int) < (j : Int)) = false := decide_eq_false (by omega)
      have hsum2 : IntKind.i8.wrap ((m : Int) + (j : Int)) = (m : Int) + (j : Int) := IntWalk.i8_in _ (by omega)
      have fr1 := frozen_of_row _ _ 1 _ _ hA.out
      have HS := hid (rset_h ⟨a.w, a.h, a.s, stackT a.t b.t m j⟩ ((m : Int) + (j : Int)))
      have HR2 : Hid (stackR a b = { (⟨a.w, a.h, a.s, stackT a.t b.t m j⟩ : Rf) with h := (m : Int) + (j : Int) }) := by rw [HR.out, HM.out, HKk.out]; exact rfl
      clear hm hk hsh hsum vh1 vh2
      go_wp2_with (first
        | ((with_reducible refine gate (N := 57) rfl ?_); refine wp_roof 29 Try.underlying29 rfl Try.infoRoof rfl (.tmp 2) rfl w.heap.size rfl _ HOK.out (T := 29) (fr := (0, 0)) (by rw [HR2.out, ← HS.out]; exact heap_setCell_same _ _ _ _ _ _ hA.out) ?_)
        | ((with_reducible refine gateN rfl ?_); refine wp_store_roof rfl (.tmp 4) (.tmp 57) rfl (w.heap.size + 1 + 1) Rf.zero _ Rf.zero_ok HOK.out (T := 29) (block_set_other hZr.out _ (by simp; omega)) rfl rfl ?_; intro w5 hw5 hg5 hsz5; have HV5 := hid hw5; clear hw5))
      have b2 := Below.setCell hbr.out (p := ⟨w.heap.size, 1, none⟩) (Nat.le_refl _) (.int .i8 ((m : Int) + (j : Int)))
      exact bodyPost_ret (res_roof rfl _ _ (w.heap.size + 1 + 1) _ HOK.out _ rfl HV5.out rfl) rfl ⟨rfl, b2.grown hg5 b2.size (fun k hk => by cases hk; omega)⟩
set_option maxHeartbeats 1600000 in
set_option maxRecDepth 100000 in
theorem c_sStackRoofs (a b : Rf) (ha : a.Ok) (hb : b.Ok) (w : World) : Calls Try.prog 22 #[.agg (rcells a), .agg (rcells b)] w fun e w' => e = .returned (.tuple #[.agg (rcells (stackV a b)), .int .i64 (stackC a b)]) ∧ Below w.heap.size w w' := by
  have h71 := ha.h1; have h81 := ha.h2; have h72 := hb.h1; have h82 := hb.h2
  have HA : Hid ((stW w a b).heap[w.heap.size]? = some (.cells (rcells a) 29 (0,0))) := block_alloc (block_alloc (block_new1 w _ rfl) _) _
  have HBb : Hid ((stW w a b).heap[w.heap.size + 1]? = some (.cells (rcells b) 29 (0,0))) := block_alloc (block_new1 _ _ (by simp)) _
  have HZ : Hid ((stW w a b).heap[w.heap.size + 1 + 1]? = some (.cells (rcells Rf.zero) 29 (0,0))) := block_new1 _ _ (by simp)
  have HW : Hid (Below w.heap.size w (stW w a b)) := (((Below.refl _ w).alloc (Nat.le_refl _) _).alloc (by simp) _).alloc (by simp <;> omega) _
  have hB : Hid (w.heap.size + 3 ≤ (stW w a b).heap.size) := by simp [Hid]
  have HB : Hid (Below (w.heap.size + 3) (stW w a b) (stW w a b)) := Below.refl _ _
  have l0 : w.heap.size < w.heap.size + 3 := by omega
  have l1 : w.heap.size + 1 < w.heap.size + 3 := by omega
  have l2 : w.heap.size + 1 + 1 < w.heap.size + 3 := by omega
  unfold stackV
  rcases stack_cases a b with ⟨v1, hk⟩ | ⟨v1, v2, hk⟩ | ⟨v1, v2, ⟨h3, hk⟩ | ⟨h3, ⟨h4, hk⟩ | ⟨h4, ⟨h5, hk⟩ | ⟨h5, hk⟩⟩⟩⟩
  case inr.inr.inr.inr.inr => rw [hk, if_pos rfl]; exact c_sStackRoofs_ok a b ha hb v1 v2 h3 h4 h5 w
  all_goals
    rw [hk, if_neg (by decide)]
    clear hk
    have V1 := hid v1
    try have V2 := hid v2
    try have vh1 := valid_head v1
    try have vh2 := valid_head v2
    clear v1
    try clear v2
    try have hsum : IntKind.i8.wrap (a.h + b.h) = a.h + b.h := IntWalk.i8_in _ (by omega)
    try (have hsh : 0 ≤ a.h ∧ a.h ≤ 1000000 := by omega)
    try first
      | have hne3 : (a.w != b.w) = true := by simp [h3]
      | have hne3 : (a.w != b.w) = false := by simp [h3]
    try first
      | have hne4 : (shiftOf a a.h != shiftOf b 0) = true := by simp [h4]
      | have hne4 : (shiftOf a a.h != shiftOf b 0) = false := by simp [h4]
    try clear h3
    try clear h4
    go_enter Try.func22, Try.ntmps22
    go_wp2_with (first
      | (go_at_call 44; first
          | ((with_reducible refine (c_l01OkK a ha _ _ V1.out _ HA.out).mono ?_); rintro e w1 ⟨rfl, hb1⟩; replace HB := hstep hB HB hb1; clear hb1)
          | ((with_reducible refine (c_l01OkK b hb _ _ V2.out _ (block_below HB.out HBb.out l1)).mono ?_); rintro e w1 ⟨rfl, hb1⟩; replace HB := hstep hB HB hb1; clear hb1; (have ca0 := cell_block (block_below HB.out HA.out l0) (rc0 a)); (have ca1 := cell_block (block_below HB.out HA.out l0) (rc1 a)); (have cb0 := cell_block (block_below HB.out HBb.out l1) (rc0 b)); (have cb1 := cell_block (block_below HB.out HBb.out l1) (rc1 b))))
      | (go_at_call 26; first
          | ((with_reducible refine (c_l01By a ha _ _ hsh _ (block_below HB.out HA.out l0)).mono ?_); rintro e w1 ⟨rfl, rfl⟩)
          | ((with_reducible refine (c_l01By b hb _ 0 (by decide) _ (block_below HB.out HBb.out l1)).mono ?_); rintro e w1 ⟨rfl, rfl⟩))
      | ((with_reducible refine gate (N := 13) rfl ?_); refine wpList_run rfl (.agg (rcells Rf.zero)) (by unfold execOp; go_simp; exact run_build_zero _) ?_)
      | ((with_reducible refine gate (N := 27) rfl ?_); refine wpList_run rfl (.agg (rcells Rf.zero)) (by unfold execOp; go_simp; exact run_build_zero _) ?_)
      | ((with_reducible refine gate (N := 34) rfl ?_); refine wpList_run rfl (.agg (rcells Rf.zero)) (by unfold execOp; go_simp; exact run_build_zero _) ?_)
      | ((with_reducible refine gateN rfl ?_); refine wp_store_roof rfl (.tmp 4) _ rfl (w.heap.size + 1 + 1) Rf.zero _ Rf.zero_ok Rf.zero_ok (block_below HB.out HZ.out l2) rfl rfl ?_; intro w2 hw2 hg hsz; have HV := hid hw2; clear hw2))
    exact bodyPost_ret (res_roof rfl _ _ (w.heap.size + 1 + 1) _ Rf.zero_ok _ rfl HV.out rfl) rfl ⟨rfl, (HW.out.trans (HB.out.mono (by omega))).grown hg (Nat.le_trans (by omega) (Nat.le_trans hB.out HB.out.size)) (fun k hk => by cases hk; omega)⟩
end Go.Proofs.Yteglogiabooacaa
