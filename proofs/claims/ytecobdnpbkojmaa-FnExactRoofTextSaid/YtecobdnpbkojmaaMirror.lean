/- MirrorRoof, the program's and the reference's. -/
import Derived.Test.YtecobdnpbkojmaaCut
import Derived.Test.YtecobdnpbkojmaaWith
namespace Go.Proofs.Ytecobdnpbkojmaa
open Go.RowKit
set_option linter.unusedSimpArgs false
set_option linter.unusedVariables false

/-- The kinds of base, those of r laid over them from right to left: all of the courses below i, and k tiles of course i. -/
def mirT (base : List Int) (r : Rf) (W i k : Nat) : List Int := (List.range 64).map fun n => if (n / 8 < i ∧ n % 8 < W) ∨ (n / 8 = i ∧ W - k ≤ n % 8 ∧ n % 8 < W) then r.at (n / 8) (W - 1 - n % 8) else base.getD n 0
theorem mirT_get (base : List Int) (r : Rf) (W i k n : Nat) : (mirT base r W i k)[n]? = if n < 64 then some (if (n / 8 < i ∧ n % 8 < W) ∨ (n / 8 = i ∧ W - k ≤ n % 8 ∧ n % 8 < W) then r.at (n / 8) (W - 1 - n % 8) else base.getD n 0) else none := by
  unfold mirT
  rw [List.getElem?_map]
  by_cases hj : n < 64
  · rw [List.getElem?_range hj, if_pos hj]; rfl
  · rw [List.getElem?_eq_none (by simp; omega), if_neg hj]; rfl
theorem mirT_len (base : List Int) (r : Rf) (W i k : Nat) : (mirT base r W i k).length = 64 := by simp [mirT]
theorem mirT_start {base : List Int} (hb : base.length = 64) (r : Rf) (W : Nat) : mirT base r W 0 0 = base := by
  apply List.ext_getElem?
  intro n
  rw [mirT_get]
  by_cases hn : n < 64
  · rw [if_pos hn, if_neg (by omega), List.getD_eq_getElem?_getD, List.getElem?_eq_getElem (by omega)]; rfl
  · rw [if_neg hn, List.getElem?_eq_none (by omega)]
theorem mirT_row (base : List Int) (r : Rf) (W i : Nat) : mirT base r W i W = mirT base r W (i + 1) 0 := by
  apply List.ext_getElem?
  intro n
  rw [mirT_get, mirT_get]
  by_cases hn : n < 64
  · rw [if_pos hn, if_pos hn]
    by_cases h : (n / 8 < i ∧ n % 8 < W) ∨ (n / 8 = i ∧ W - W ≤ n % 8 ∧ n % 8 < W)
    · rw [if_pos h, if_pos (by omega)]
    · rw [if_neg h, if_neg (by omega)]
  · rw [if_neg hn, if_neg hn]
theorem mirT_step (base : List Int) (r : Rf) (W i k : Nat) (hi : i < 8) (hW : W ≤ 8) (hk : k < W) : (mirT base r W i k).set (8 * i + (W - 1 - k)) (r.at i k) = mirT base r W i (k + 1) := by
  apply List.ext_getElem?
  intro n
  rw [List.getElem?_set, mirT_get, mirT_get, mirT_len]
  by_cases hn : n < 64
  · rw [if_pos hn, if_pos hn]
    by_cases he : 8 * i + (W - 1 - k) = n
    · have e1 : n / 8 = i := by omega
      have e2 : n % 8 = W - 1 - k := by omega
      rw [if_pos he, if_pos (by omega), if_pos (by omega), e1, e2]
      congr 2; omega
    · rw [if_neg he]
      by_cases h : (n / 8 < i ∧ n % 8 < W) ∨ (n / 8 = i ∧ W - k ≤ n % 8 ∧ n % 8 < W)
      · rw [if_pos h, if_pos (by omega)]
      · rw [if_neg h, if_neg (by omega)]
  · rw [if_neg (by omega), if_neg hn, if_neg hn]
theorem mirT_bd {base : List Int} {r : Rf} (hr : r.Ok) (hb : ∀ x ∈ base, 0 ≤ x ∧ x ≤ 255) (W i k : Nat) : ∀ x ∈ mirT base r W i k, 0 ≤ x ∧ x ≤ 255 := fun v hv => by
  obtain ⟨n, _, rfl⟩ := List.mem_map.1 hv
  split
  · exact hr.at _ _
  · rw [List.getD_eq_getElem?_getD]
    cases hh : base[n]? with
    | none => simp
    | some x => exact hb x (List.mem_of_getElem? hh)
/-- Over a valid roof's own kinds or over none: the same. -/
theorem mirT_base {r : Rf} (hr : r.Ok) (hv : validB r = true) : mirT r.t r r.w.toNat r.h.toNat 0 = mirT (List.replicate 64 0) r r.w.toNat r.h.toNat 0 := by
  have hh := valid_head hv
  apply List.ext_getElem?
  intro n
  rw [mirT_get, mirT_get]
  by_cases hn : n < 64
  · rw [if_pos hn, if_pos hn]
    by_cases h : (n / 8 < r.h.toNat ∧ n % 8 < r.w.toNat) ∨ (n / 8 = r.h.toNat ∧ r.w.toNat - 0 ≤ n % 8 ∧ n % 8 < r.w.toNat)
    · rw [if_pos h, if_pos h]
    · rw [if_neg h, if_neg h]
      have ht := (valid_tile hv (i := n / 8) (k := n % 8) (by omega) (by omega)).2
      have e : 8 * (n / 8) + n % 8 = n := by omega
      have ha : r.at (n / 8) (n % 8) = r.t.getD n 0 := by unfold Rf.at; rw [e]
      rw [ha] at ht
      have hz : r.t.getD n 0 = 0 := by
        rcases ht with h0 | h0
        · exact h0
        · omega
      have hr0 : (List.replicate 64 (0:Int)).getD n 0 = 0 := by rw [List.getD_eq_getElem?_getD, List.getElem?_replicate, if_pos hn]; rfl
      rw [hz, hr0]
  · rw [if_neg hn, if_neg hn]
/-- A roof, left and right exchanged. -/
def mirS (base : List Int) (r : Rf) (i k : Nat) : Rf := ⟨r.w, r.h, 1 - r.s, mirT base r r.w.toNat i k⟩
def mirV (r : Rf) : Rf := if validB r = true then mirS r.t r r.h.toNat 0 else Rf.zero
theorem mirS_ok {base : List Int} {r : Rf} (hr : r.Ok) (hs : r.s ≤ 1) (hb : ∀ x ∈ base, 0 ≤ x ∧ x ≤ 255) (i k : Nat) : (mirS base r i k).Ok := by
  have := hr.s1
  refine ⟨hr.w1, hr.w2, hr.h1, hr.h2, ?_, ?_, mirT_len _ _ _ _ _, mirT_bd hr hb _ _ _⟩
  · show 0 ≤ 1 - r.s; omega
  · show 1 - r.s ≤ 255; omega
theorem mirV_ok {r : Rf} (hr : r.Ok) : (mirV r).Ok := by
  unfold mirV
  split
  · rename_i h; exact mirS_ok hr (valid_head h).2.2.2.2 hr.t1 _ _
  · exact Rf.zero_ok
theorem rset_s (r : Rf) (v : Int) : (rcells r).setIfInBounds 2 (.int .u8 v) = rcells { r with s := v } := by
  apply Array.toList_inj.1
  simp [rcells]
theorem c_ValidRoofM (r : Rf) (hr : r.Ok) (v : Bool) (hv : validB r = v) (w : World) : Calls Try.prog 33 #[.agg (rcells r)] w fun e w' => e = .returned (.bool v) ∧ Below w.heap.size w w' := hv ▸ c_ValidRoof r hr w
abbrev mrW (w : World) (r : Rf) : World := (w.alloc (.cells (rcells r) 27)).alloc (.cells (rcells Rf.zero) 27)
theorem c_l01OkM (r : Rf) (hr : r.Ok) (b : Nat) (v : Bool) (hv : validB r = v) (w : World) (hb : w.heap[b]? = some (.cells (rcells r) 27 (0,0))) : Calls Try.prog 31 #[.pointer (some ⟨b,0,none⟩)] w fun e w' => e = .returned (.bool v) ∧ Below w.heap.size w w' := hv ▸ c_l01Ok r hr b w hb
set_option maxHeartbeats 1600000 in
set_option maxRecDepth 100000 in
theorem c_MirrorRoof (r : Rf) (hr : r.Ok) (w : World) : Calls Try.prog 11 #[.agg (rcells r)] w fun e w' => e = .returned (.tuple #[.agg (rcells (mirV r)), .int .i64 (if validB r = true then 0 else 1)]) ∧ Below w.heap.size w w' := by
  have HA : Hid ((mrW w r).heap[w.heap.size]? = some (.cells (rcells r) 27 (0,0))) := block_alloc (block_new1 w _ rfl) _
  have HZ : Hid ((mrW w r).heap[w.heap.size + 1]? = some (.cells (rcells Rf.zero) 27 (0,0))) := block_new1 _ _ (by simp)
  have HW : Hid (Below w.heap.size w (mrW w r)) := ((Below.refl _ w).alloc (Nat.le_refl _) _).alloc (by simp) _
  have hB : Hid (w.heap.size + 2 ≤ (mrW w r).heap.size) := by simp [Hid]
  have HB : Hid (Below (w.heap.size + 2) (mrW w r) (mrW w r)) := Below.refl _ _
  have l0 : w.heap.size < w.heap.size + 2 := by omega
  have l1 : w.heap.size + 1 < w.heap.size + 2 := by omega
  unfold mirV
  cases hv : validB r
  · rw [if_neg (by decide), if_neg (by decide)]
    have V := hid hv
    clear hv
    go_enter Try.func11, Try.ntmps11
    go_wp2_with (first
      | ((with_reducible refine gate (N := 7) rfl ?_); refine wp_roof 27 Try.underlying27 rfl Try.infoRoof rfl (.tmp 1) rfl w.heap.size rfl r hr HA.out ?_)
      | (go_at_call 33; ((with_reducible refine (c_ValidRoofM r hr _ V.out _).mono ?_); rintro e w1 ⟨rfl, hb1⟩; replace HB := hstep hB HB hb1; clear hb1))
      | ((with_reducible refine gate (N := 10) rfl ?_); refine wpList_run rfl (.agg (rcells Rf.zero)) (by unfold execOp; go_simp; exact run_build_zero _) ?_)
      | ((with_reducible refine gateN rfl ?_); refine wp_store_roof rfl (.tmp 2) _ rfl (w.heap.size + 1) Rf.zero _ Rf.zero_ok Rf.zero_ok (block_below HB.out HZ.out l1) rfl rfl ?_; intro w2 hw2 hg hsz; have HV := hid hw2; clear hw2))
    exact bodyPost_ret (res_roof rfl _ _ (w.heap.size + 1) _ Rf.zero_ok _ rfl HV.out rfl) rfl ⟨rfl, (HW.out.trans (HB.out.mono (by omega))).grown hg (Nat.le_trans (by omega) (Nat.le_trans hB.out HB.out.size)) (fun k hk => by cases hk; omega)⟩
  · rw [if_pos rfl, if_pos rfl]
    have vh := valid_head hv
    have V := hid hv
    clear hv
    have s1 := hr.s1
    have hs1 : IntKind.u8.wrap (1 - r.s) = 1 - r.s := IntWalk.u8_in _ (by omega)
    obtain ⟨W, hW⟩ := Int.eq_ofNat_of_zero_le (by omega : 0 ≤ r.w)
    obtain ⟨H, hH⟩ := Int.eq_ofNat_of_zero_le (by omega : 0 ≤ r.h)
    have eW : r.w.toNat = W := by rw [hW]; rfl
    have eH : r.h.toNat = H := by rw [hH]; rfl
    have W8 : W ≤ 8 := by omega
    have H8 : H ≤ 8 := by omega
    have HWw := hid hW
    have HHh := hid hH
    rw [eH]
    have HOK := hid (mirS_ok hr vh.2.2.2.2 hr.t1 H 0)
    have HOKa := hid (fun i k => mirS_ok hr vh.2.2.2.2 hr.t1 i k)
    have EW := hid eW
    clear s1 vh hW hH eW eH
    go_enter Try.func11, Try.ntmps11
    go_wp2_with (first
      | ((with_reducible refine gate (N := 7) rfl ?_); refine wp_roof 27 Try.underlying27 rfl Try.infoRoof rfl (.tmp 1) rfl w.heap.size rfl r hr HA.out ?_)
      | (go_at_call 33; ((with_reducible refine (c_ValidRoofM r hr _ V.out _).mono ?_); rintro e w1 ⟨rfl, hb1⟩; replace HB := hstep hB HB hb1; clear hb1))
      | ((with_reducible refine gate (N := 11) rfl ?_); refine wp_roof 27 Try.underlying27 rfl Try.infoRoof rfl (.tmp 1) rfl w.heap.size rfl r hr (block_below HB.out HA.out l0) ?_)
      | ((with_reducible refine gateN rfl ?_); refine wp_store_roof rfl (.tmp 4) (.tmp 11) rfl w1.heap.size Rf.zero _ Rf.zero_ok hr (block_new1 w1 _ rfl) rfl rfl ?_; intro w2 hw2 hg hsz; have HV := hid hw2; have cq2 := cell_block hw2 (rc2 r); have fq2 := frozen_of_row _ _ 2 _ _ hw2; (have HB2 := hstore hB HB hg); (have ca1' := cell_block (block_below HB2.out HA.out l0) (rc1 r)); (have ca2' := cell_block (block_below HB2.out HA.out l0) (rc2 r)); (have hne : ¬ w.heap.size = w1.heap.size := (by have := Nat.le_trans hB.out HB.out.size; omega)); clear hw2))
    have hq : w.heap.size + 2 ≤ w1.heap.size := Nat.le_trans hB.out HB.out.size
    obtain ⟨w3, hw3⟩ : ∃ w3, w3 = w2.setCell ⟨w1.heap.size, 2, none⟩ (.int .u8 (1 - r.s)) := ⟨_, rfl⟩
    rw [← hw3]
    have HV3 : Hid (w3.heap[w1.heap.size]? = some (.cells (rcells (mirS r.t r 0 0)) 27 (0, 0))) := by
      have e : mirS r.t r 0 0 = { r with s := 1 - r.s } := by unfold mirS; rw [mirT_start hr.len]
      rw [hw3, e, ← rset_s]; exact heap_setCell_same _ _ _ _ _ _ HV.out
    have HB3 : Hid (Below (w.heap.size + 2) (mrW w r) w3) := by rw [hw3]; exact Below.setCell HB2.out (p := ⟨w1.heap.size, 2, none⟩) hq _
    clear hw3 HB2 HV cq2 fq2 ca1' ca2' hs1
    obtain ⟨q, hqe⟩ : ∃ q, q = w1.heap.size := ⟨_, rfl⟩
    rw [← hqe] at HV3 hq hne ⊢
    clear hqe
    go_loopw [18] (fun v wr => ∃ i : Nat, v = .int .i8 i ∧ i ≤ H ∧ Hid (wr.heap[q]? = some (.cells (rcells (mirS r.t r i 0)) 27 (0, 0))) ∧ Hid (Below (w.heap.size + 2) (mrW w r) wr)) (fun v _ => H - (intOf v).toNat)
    case atStart => exact ⟨0, rfl, by omega, HV3, HB3⟩
    case round =>
      obtain ⟨i, rfl, hi, hQ, hb⟩ := hrel
      have ca0 := cell_block (block_below hb.out HA.out l0) (rc0 r)
      by_cases hih : i < H
      · have hd : decide ((i : Int) < r.h) = true := decide_eq_true (by have := HHh.out; omega)
        go_wp2_with fail
        clear ca0
        go_loopw [23] (fun v wr => ∃ k : Nat, v = .int .i8 k ∧ k ≤ W ∧ Hid (wr.heap[q]? = some (.cells (rcells (mirS r.t r i k)) 27 (0, 0))) ∧ Hid (Below (w.heap.size + 2) (mrW w r) wr)) (fun v _ => W - (intOf v).toNat)
        case atStart => exact ⟨0, rfl, by omega, hQ, hb⟩
        case round =>
          obtain ⟨k, rfl, hk, hQ, hb⟩ := hrel
          have ca0 := cell_block (block_below hb.out HA.out l0) (rc0 r)
          by_cases hkw : k < W
          · have hd2 : decide ((k : Int) < r.w) = true := decide_eq_true (by have := HWw.out; omega)
            have i8 : i < 8 := by omega
            have k8 : k < 8 := by omega
            obtain ⟨m, hm⟩ : ∃ m, m = W - 1 - k := ⟨_, rfl⟩
            have m8 : m < 8 := by omega
            have a1 : IntKind.i8.wrap (r.w - 1) = r.w - 1 := IntWalk.i8_in _ (by have := HWw.out; omega)
            have a2 : IntKind.i8.wrap (r.w - 1 - (k : Int)) = (m : Int) := by
              have := HWw.out
              rw [IntWalk.i8_in _ (by omega)]; omega
            have m0 : (0 : Int) ≤ (m : Int) := by omega
            have m1 : (m : Int) < 8 := by omega
            have i0 : (0 : Int) ≤ (i : Int) := by omega
            have i1 : (i : Int) < 8 := by omega
            have k0 : (0 : Int) ≤ (k : Int) := by omega
            have k1 : (k : Int) < 8 := by omega
            have ct := roof_cell hr (block_below hb.out HA.out l0) i k i8 k8
            have cq := roof_cell (HOKa.out i k) hQ.out i m i8 m8
            have fq := frozen_of_row _ _ (3 + i * 8 + m) _ _ hQ.out
            obtain ⟨u, hu⟩ : ∃ u, u = r.at i k := ⟨_, rfl⟩
            rw [← hu] at ct
            have HS : Hid ((rcells (mirS r.t r i k)).setIfInBounds (3 + i * 8 + m) (.int .u8 u) = rcells (mirS r.t r i (k + 1))) := by
              rw [rset _ (HOKa.out i k), hu]
              have e : (mirS r.t r i k).set i m (r.at i k) = mirS r.t r i (k + 1) := by
                rw [hm]; unfold Rf.set mirS; dsimp only; rw [EW.out, mirT_step r.t r W i k i8 W8 hkw]
              rw [e]; exact rfl
            clear hu hm
            go_wp2_with fail
            refine wp_region_tail 15 (by kernel_rfl) (by kernel_rfl) ?_
            simp only [List.take_succ_cons, List.take_zero, List.drop_succ_cons, List.drop_zero]
            repeat still_step
            refine wpStill_nil ?_
            go_wp2_with fail
            refine ⟨⟨k + 1, by go_num, by omega, ?_, ?_⟩, by simp [intOf]; omega⟩
            · show _ = _
              rw [← HS.out]; exact heap_setCell_same _ _ _ _ _ _ hQ.out
            · exact (Below.setCell hb.out (p := ⟨q, 3 + i * 8 + m, none⟩) hq _).drew
          · obtain rfl : k = W := by omega
            have hd2 : decide ((k : Int) < r.w) = false := decide_eq_false (by have := HWw.out; omega)
            go_wp2_with fail
            have e : mirS r.t r i k = mirS r.t r (i + 1) 0 := by unfold mirS; rw [EW.out, mirT_row]
            rw [e] at hQ
            exact ⟨⟨i + 1, by go_num, by omega, hQ, hb⟩, by simp [intOf]; omega⟩
      · obtain rfl : i = H := by omega
        have hd : decide ((i : Int) < r.h) = false := decide_eq_false (by have := HHh.out; omega)
        have HZw := hid (block_below hb.out HZ.out l1)
        go_wp2_with (first
          | ((with_reducible refine gate (N := 43) rfl ?_); refine wp_roof 27 Try.underlying27 rfl Try.infoRoof rfl (.tmp 4) rfl q rfl _ HOK.out hQ.out ?_)
          | ((with_reducible refine gateN rfl ?_); refine wp_store_roof rfl (.tmp 2) (.tmp 43) rfl (w.heap.size + 1) Rf.zero _ Rf.zero_ok HOK.out HZw.out rfl rfl ?_; intro w5 hw5 hg5 hsz5; have HV5 := hid hw5; clear hw5))
        have b2 := HW.out.trans (hb.out.mono (by omega))
        exact bodyPost_ret (res_roof rfl _ _ (w.heap.size + 1) _ HOK.out _ rfl HV5.out rfl) rfl ⟨rfl, b2.grown hg5 b2.size (fun k hk => by cases hk; omega)⟩
set_option maxHeartbeats 1600000 in
set_option maxRecDepth 100000 in
theorem c_sMirrorRoof (r : Rf) (hr : r.Ok) (w : World) : Calls Try.prog 9 #[.agg (rcells r)] w fun e w' => e = .returned (.tuple #[.agg (rcells (mirV r)), .int .i64 (if validB r = true then 0 else 1)]) ∧ Below w.heap.size w w' := by
  have HA : Hid ((mrW w r).heap[w.heap.size]? = some (.cells (rcells r) 27 (0,0))) := block_alloc (block_new1 w _ rfl) _
  have HZ : Hid ((mrW w r).heap[w.heap.size + 1]? = some (.cells (rcells Rf.zero) 27 (0,0))) := block_new1 _ _ (by simp)
  have HW : Hid (Below w.heap.size w (mrW w r)) := ((Below.refl _ w).alloc (Nat.le_refl _) _).alloc (by simp) _
  have hB : Hid (w.heap.size + 2 ≤ (mrW w r).heap.size) := by simp [Hid]
  have HB : Hid (Below (w.heap.size + 2) (mrW w r) (mrW w r)) := Below.refl _ _
  have l0 : w.heap.size < w.heap.size + 2 := by omega
  have l1 : w.heap.size + 1 < w.heap.size + 2 := by omega
  unfold mirV
  cases hv : validB r
  · rw [if_neg (by decide), if_neg (by decide)]
    have V := hid hv
    clear hv
    go_enter Try.func9, Try.ntmps9
    go_wp2_with (first
      | (go_at_call 31; ((with_reducible refine (c_l01OkM r hr _ _ V.out _ HA.out).mono ?_); rintro e w1 ⟨rfl, hb1⟩; replace HB := hstep hB HB hb1; clear hb1; (have ca0 := cell_block (block_below HB.out HA.out l0) (rc0 r)); (have ca1 := cell_block (block_below HB.out HA.out l0) (rc1 r)); (have ca2 := cell_block (block_below HB.out HA.out l0) (rc2 r))))
      | ((with_reducible refine gate (N := 9) rfl ?_); refine wpList_run rfl (.agg (rcells Rf.zero)) (by unfold execOp; go_simp; exact run_build_zero _) ?_)
      | ((with_reducible refine gateN rfl ?_); refine wp_store_roof rfl (.tmp 2) _ rfl (w.heap.size + 1) Rf.zero _ Rf.zero_ok Rf.zero_ok (block_below HB.out HZ.out l1) rfl rfl ?_; intro w2 hw2 hg hsz; have HV := hid hw2; clear hw2))
    exact bodyPost_ret (res_roof rfl _ _ (w.heap.size + 1) _ Rf.zero_ok _ rfl HV.out rfl) rfl ⟨rfl, (HW.out.trans (HB.out.mono (by omega))).grown hg (Nat.le_trans (by omega) (Nat.le_trans hB.out HB.out.size)) (fun k hk => by cases hk; omega)⟩
  · rw [if_pos rfl, if_pos rfl]
    have zbd : ∀ x ∈ List.replicate 64 (0:Int), 0 ≤ x ∧ x ≤ 255 := fun x hx => by rw [(List.mem_replicate.1 hx).2]; omega
    have hbase : mirS r.t r r.h.toNat 0 = mirS (List.replicate 64 0) r r.h.toNat 0 := by unfold mirS; rw [mirT_base hr hv]
    rw [hbase]
    clear hbase
    have vh := valid_head hv
    have V := hid hv
    clear hv
    have s1 := hr.s1
    have hs1 : IntKind.u8.wrap (1 - r.s) = 1 - r.s := IntWalk.u8_in _ (by omega)
    obtain ⟨W, hW⟩ := Int.eq_ofNat_of_zero_le (by omega : 0 ≤ r.w)
    obtain ⟨H, hH⟩ := Int.eq_ofNat_of_zero_le (by omega : 0 ≤ r.h)
    have eW : r.w.toNat = W := by rw [hW]; rfl
    have eH : r.h.toNat = H := by rw [hH]; rfl
    have W8 : W ≤ 8 := by omega
    have H8 : H ≤ 8 := by omega
    have HWw := hid hW
    have HHh := hid hH
    rw [eH]
    have HOK := hid (mirS_ok hr vh.2.2.2.2 zbd H 0)
    have HOKa := hid (fun i k => mirS_ok hr vh.2.2.2.2 zbd i k)
    have EW := hid eW
    have EZ : Hid (mirS (List.replicate 64 0) r 0 0 = ⟨r.w, r.h, 1 - r.s, List.replicate 64 0⟩) := by unfold mirS; rw [mirT_start (by simp)]; exact rfl
    clear s1 vh hW hH eW eH
    go_enter Try.func9, Try.ntmps9
    go_wp2_with (first
      | (go_at_call 31; ((with_reducible refine (c_l01OkM r hr _ _ V.out _ HA.out).mono ?_); rintro e w1 ⟨rfl, hb1⟩; replace HB := hstep hB HB hb1; clear hb1; (have ca0 := cell_block (block_below HB.out HA.out l0) (rc0 r)); (have ca1 := cell_block (block_below HB.out HA.out l0) (rc1 r)); (have ca2 := cell_block (block_below HB.out HA.out l0) (rc2 r))))
      | ((with_reducible refine gate (N := 17) rfl ?_); refine wpList_run rfl (.agg (rcells ⟨r.w, r.h, 1 - r.s, List.replicate 64 0⟩)) (by unfold execOp; go_simp; exact run_build_roof _ _ _ _) ?_)
      | ((with_reducible refine gateN rfl ?_); refine wp_store_roof rfl (.tmp 4) (.tmp 17) rfl w1.heap.size Rf.zero _ Rf.zero_ok (EZ.out ▸ HOKa.out 0 0) (block_new1 w1 _ rfl) rfl rfl ?_; intro w3 hw3 hg hsz; have HV := hid hw3; (have HB3 := hstore hB HB hg); clear hw3 hg hsz ca0 ca1 ca2))
    have HV3 : Hid (w3.heap[w1.heap.size]? = some (.cells (rcells (mirS (List.replicate 64 0) r 0 0)) 27 (0, 0))) := by rw [EZ.out]; exact HV.out
    have hne : ¬ w.heap.size = w1.heap.size := by have := Nat.le_trans hB.out HB.out.size; omega
    have hq : w.heap.size + 2 ≤ w1.heap.size := Nat.le_trans hB.out HB.out.size
    clear HV
    obtain ⟨q, hqe⟩ : ∃ q, q = w1.heap.size := ⟨_, rfl⟩
    rw [← hqe] at HV3 hq hne ⊢
    clear hqe
    go_loopw [5] (fun v wr => ∃ i : Nat, v = .int .i8 i ∧ i ≤ H ∧ Hid (wr.heap[q]? = some (.cells (rcells (mirS (List.replicate 64 0) r i 0)) 27 (0, 0))) ∧ Hid (Below (w.heap.size + 2) (mrW w r) wr)) (fun v _ => H - (intOf v).toNat)
    case atStart => exact ⟨0, rfl, by omega, HV3, HB3⟩
    case round =>
      obtain ⟨i, rfl, hi, hQ, hb⟩ := hrel
      have ca0 := cell_block (block_below hb.out HA.out l0) (rc0 r)
      have ca1 := cell_block (block_below hb.out HA.out l0) (rc1 r)
      by_cases hih : i < H
      · have hd : decide ((i : Int) < r.h) = true := decide_eq_true (by have := HHh.out; omega)
        go_wp2_with fail
        clear ca0 ca1
        go_loopw [6] (fun v wr => ∃ k : Nat, v = .int .i8 k ∧ k ≤ W ∧ Hid (wr.heap[q]? = some (.cells (rcells (mirS (List.replicate 64 0) r i k)) 27 (0, 0))) ∧ Hid (Below (w.heap.size + 2) (mrW w r) wr)) (fun v _ => W - (intOf v).toNat)
        case atStart => exact ⟨0, rfl, by omega, hQ, hb⟩
        case round =>
          obtain ⟨k, rfl, hk, hQ, hb⟩ := hrel
          have ca0 := cell_block (block_below hb.out HA.out l0) (rc0 r)
          by_cases hkw : k < W
          · have hd2 : decide ((k : Int) < r.w) = true := decide_eq_true (by have := HWw.out; omega)
            have i8 : i < 8 := by omega
            have k8 : k < 8 := by omega
            obtain ⟨m, hm⟩ : ∃ m, m = W - 1 - k := ⟨_, rfl⟩
            have m8 : m < 8 := by omega
            have a1 : IntKind.i8.wrap (r.w - 1) = r.w - 1 := IntWalk.i8_in _ (by have := HWw.out; omega)
            have a2 : IntKind.i8.wrap (r.w - 1 - (k : Int)) = (m : Int) := by
              have := HWw.out
              rw [IntWalk.i8_in _ (by omega)]; omega
            have m0 : (0 : Int) ≤ (m : Int) := by omega
            have m1 : (m : Int) < 8 := by omega
            have i0 : (0 : Int) ≤ (i : Int) := by omega
            have i1 : (i : Int) < 8 := by omega
            have k0 : (0 : Int) ≤ (k : Int) := by omega
            have k1 : (k : Int) < 8 := by omega
            have ct := roof_cell hr (block_below hb.out HA.out l0) i k i8 k8
            have cq := roof_cell (HOKa.out i k) hQ.out i m i8 m8
            have fq := frozen_of_row _ _ (3 + i * 8 + m) _ _ hQ.out
            obtain ⟨u, hu⟩ : ∃ u, u = r.at i k := ⟨_, rfl⟩
            rw [← hu] at ct
            have HS : Hid ((rcells (mirS (List.replicate 64 0) r i k)).setIfInBounds (3 + i * 8 + m) (.int .u8 u) = rcells (mirS (List.replicate 64 0) r i (k + 1))) := by
              rw [rset _ (HOKa.out i k), hu]
              have e : (mirS (List.replicate 64 0) r i k).set i m (r.at i k) = mirS (List.replicate 64 0) r i (k + 1) := by
                rw [hm]; unfold Rf.set mirS; dsimp only; rw [EW.out, mirT_step (List.replicate 64 0) r W i k i8 W8 hkw]
              rw [e]; exact rfl
            clear hu hm
            go_wp2_with fail
            refine wp_region_tail 15 (by kernel_rfl) (by kernel_rfl) ?_
            simp only [List.take_succ_cons, List.take_zero, List.drop_succ_cons, List.drop_zero]
            repeat still_step
            refine wpStill_nil ?_
            go_wp2_with fail
            refine ⟨⟨k + 1, by go_num, by omega, ?_, ?_⟩, by simp [intOf]; omega⟩
            · show _ = _
              rw [← HS.out]; exact heap_setCell_same _ _ _ _ _ _ hQ.out
            · exact (Below.setCell hb.out (p := ⟨q, 3 + i * 8 + m, none⟩) hq _).drew
          · obtain rfl : k = W := by omega
            have hd2 : decide ((k : Int) < r.w) = false := decide_eq_false (by have := HWw.out; omega)
            go_wp2_with fail
            have e : mirS (List.replicate 64 0) r i k = mirS (List.replicate 64 0) r (i + 1) 0 := by unfold mirS; rw [EW.out, mirT_row]
            rw [e] at hQ
            exact ⟨⟨i + 1, by go_num, by omega, hQ, hb⟩, by simp [intOf]; omega⟩
      · obtain rfl : i = H := by omega
        have hd : decide ((i : Int) < r.h) = false := decide_eq_false (by have := HHh.out; omega)
        have HZw := hid (block_below hb.out HZ.out l1)
        go_wp2_with (first
          | ((with_reducible refine gate (N := 45) rfl ?_); refine wp_roof 27 Try.underlying27 rfl Try.infoRoof rfl (.tmp 4) rfl q rfl _ HOK.out hQ.out ?_)
          | ((with_reducible refine gateN rfl ?_); refine wp_store_roof rfl (.tmp 2) (.tmp 45) rfl (w.heap.size + 1) Rf.zero _ Rf.zero_ok HOK.out HZw.out rfl rfl ?_; intro w5 hw5 hg5 hsz5; have HV5 := hid hw5; clear hw5))
        have b2 := HW.out.trans (hb.out.mono (by omega))
        exact bodyPost_ret (res_roof rfl _ _ (w.heap.size + 1) _ HOK.out _ rfl HV5.out rfl) rfl ⟨rfl, b2.grown hg5 b2.size (fun k hk => by cases hk; omega)⟩
end Go.Proofs.Ytecobdnpbkojmaa
