/- The laws' conversions of roofs and places. -/
import Derived.Test.YtjcmdihadblodaaRoof
namespace Go.Proofs.Ytjcmdihadblodaa
open Go.RowKit
set_option linter.unusedVariables false
set_option linter.unusedSimpArgs false

/-- The first k elements of t, the rest zero. -/
def upd (t : List Int) (k : Nat) : List Int := t.take k ++ List.replicate (t.length - k) 0
theorem upd_all (t : List Int) : upd t t.length = t := by simp [upd]
theorem len_upd (t : List Int) (k : Nat) : (upd t k).length = t.length := by simp [upd]; omega
theorem upd_set (t : List Int) (k : Nat) (hk : k < t.length) : (tcells (upd t k)).setIfInBounds k (.int .u8 (t.getD k 0)) = tcells (upd t (k + 1)) := by
  apply Array.ext_getElem?
  intro j
  have hd : List.replicate (t.length - k) (0 : Int) = 0 :: List.replicate (t.length - (k + 1)) 0 := by
    have : t.length - k = (t.length - (k + 1)) + 1 := by omega
    rw [this]; rfl
  simp only [Array.getElem?_setIfInBounds, tcells, upd, List.getElem?_toArray, List.size_toArray, List.length_map, List.length_append, List.length_take, List.length_replicate, List.getElem?_map]
  by_cases hj : k = j
  · subst hj
    rw [if_pos rfl, if_pos (by omega), List.take_succ_eq_append_getElem hk, List.append_assoc, List.getElem?_append_right (by simp; omega)]
    have e : k - (List.take k t).length = 0 := by simp; omega
    rw [e]
    simp [List.getD, List.getElem?_eq_getElem hk]
  · rw [if_neg hj, List.take_succ_eq_append_getElem hk, List.append_assoc]
    by_cases hlt : j < k
    · rw [List.getElem?_append_left (by simp; omega), List.getElem?_append_left (by simp; omega)]
    · rw [List.getElem?_append_right (by simp; omega), List.getElem?_append_right (by simp; omega)]
      have e : (List.take k t).length = k := by simp; omega
      rw [e, hd]
      have e2 : j - k = (j - k - 1) + 1 := by omega
      rw [e2]
      simp

set_option maxRecDepth 100000 in
theorem c_toByteA8 (t : List Int) (ht : t.length = 8) (w : World) : Calls Try.prog 55 #[.agg (tcells t)] w fun e w' => e = .returned (.agg (tcells t)) ∧ Below w.heap.size w w' := by
  have hz : (#[Value.int .u8 0, .int .u8 0, .int .u8 0, .int .u8 0, .int .u8 0, .int .u8 0, .int .u8 0, .int .u8 0] : Array Value) = tcells (upd t 0) := by simp [upd, ht, tcells, List.replicate]
  have HZ := hid hz; clear hz
  go_enter Try.func55, Try.ntmps55
  go_wp2_with fail
  go_loopw [4] (fun i wr => ∃ k : Nat, k ≤ 8 ∧ i = .int .i64 k ∧ Below w.heap.size w wr ∧ wr.heap[w.heap.size]? = some (.cells (tcells t) 30 (0, 0)) ∧ wr.heap[w.heap.size + 1]? = some (.cells (tcells (upd t 0)) 30 (0, 0)) ∧
      wr.heap[w.heap.size + 1 + 1]? = some (.cells (tcells (upd t k)) 30 (0, 0))) (fun i _ => 8 - (intOf i).toNat)
  case atStart =>
    rw [HZ.out]
    exact ⟨0, by omega, rfl, (((Below.refl _ w).alloc (Nat.le_refl _) _).alloc (by simp) _).alloc (by simp; omega) _, block_alloc (block_alloc (block_new1 w _ rfl) _) _, block_alloc (block_new1 _ _ (by simp)) _, block_new1 _ _ (by simp)⟩
  case round =>
    obtain ⟨k, hk, rfl, hb, h0, h1, h2⟩ := hrel
    by_cases hlt : k < 8
    · obtain ⟨v, hv⟩ : ∃ v, v = t.getD k 0 := ⟨_, rfl⟩
      have hc0 := cell_block h0 (tc_at t k (by omega))
      rw [← hv] at hc0
      have hc2 := cell_block h2 (tc_at (upd t k) k (by rw [len_upd]; omega))
      have hf2 := frozen_of_row _ _ k _ _ h2
      have H0 := hid h0; clear h0
      have H1 := hid h1; clear h1
      have H2 := hid h2; clear h2
      have HV := hid hv; clear hv
      generalize (upd t k).getD k 0 = u at hc2
      go_wp2_with fail
      go_roundw
      case rel =>
        refine ⟨k + 1, by omega, by go_num, hb.setCell (by simp; omega) _, block_set_other H0.out _ (by simp; omega), block_set_other H1.out _ (by simp), ?_⟩
        rw [heap_setCell_same _ _ _ _ _ _ H2.out, HV.out, upd_set t k (by omega)]
      case measure => simp [intOf]; omega
    · obtain rfl : k = 8 := by omega
      have hu : upd t 8 = t := by rw [← ht]; exact upd_all t
      rw [hu] at h2
      have H0 := hid h0; clear h0
      have H1 := hid h1; clear h1
      have H2 := hid h2; clear h2
      clear hu
      go_wp2_with (first
        | ((with_reducible refine gate (N := 14) rfl ?_); refine wp_row rfl (.tmp 3) rfl (w.heap.size + 1 + 1) rfl t ht H2.out ?_)
        | ((with_reducible refine gateN rfl ?_); refine wpList_store_block rfl 30 (.tmp 2) (.tmp 14) rfl (w.heap.size + 1) 0 _ (tcells t) (tcells t) _ H1.out rfl rfl (by rw [size_tcells, size_tcells, len_upd]; omega) (by rw [Try.infoRow, size_tcells, ht]) (tcells_one t) (setAll_whole (by rw [size_tcells, size_tcells, len_upd])) ?_; intro w2 hw2 hg hsz; have HW := hid hw2; clear hw2))
      exact bodyPost_ret (results_cell_row rfl _ _ (w.heap.size + 1) _ _ _ _ rfl HW.out Try.underlying30 rfl (by rw [Try.infoRow, size_tcells, ht])) rfl ⟨rfl, hb.grown hg hb.size (fun k hk => by cases hk; omega)⟩
theorem tc_ext {cs : Array Value} {t : List Int} (hs : cs.size = t.length) (h : ∀ j, j < t.length → cs[j]? = some (.int .u8 (t.getD j 0))) : cs = tcells t := by
  apply Array.ext_getElem?
  intro j
  by_cases hj : j < t.length
  · rw [h j hj, tc_at t j hj]
  · rw [Array.getElem?_eq_none (by omega), Array.getElem?_eq_none (by rw [size_tcells]; omega)]
theorem upd_at (t : List Int) (k j : Nat) (hj : j < t.length) : (upd t k).getD j 0 = if j < k then t.getD j 0 else 0 := by
  unfold upd
  simp only [List.getD]
  by_cases h : j < k
  · rw [if_pos h, List.getElem?_append_left (by simp; omega), List.getElem?_take, if_pos h]
  · rw [if_neg h, List.getElem?_append_right (by simp; omega), List.getElem?_replicate]
    split <;> rfl
theorem upd_row (t : List Int) (ht : t.length = 64) (k : Nat) (hk : k < 8) : setAll (tcells (upd t (8 * k))) (k * 8) (tcells (trow t k)).toList = tcells (upd t (8 * (k + 1))) := by
  have hr := len_trow t ht k hk
  apply setAll_eq
  · simp [size_tcells, len_upd, ht, tcells, hr]; omega
  · simp [size_tcells, len_upd]
  · intro j hj
    rw [size_tcells, len_upd] at hj
    rw [tc_at _ j (by rw [len_upd]; exact hj), upd_at _ _ _ hj]
    by_cases h1 : k * 8 ≤ j ∧ j < k * 8 + (tcells (trow t k)).toList.length
    · rw [if_pos h1]
      have h2 : j < k * 8 + 8 := by simpa [tcells, hr] using h1.2
      have e : (tcells (trow t k)).toList[j - k * 8]? = some (.int .u8 ((trow t k).getD (j - k * 8) 0)) := by
        rw [Array.getElem?_toList, tc_at _ _ (by omega)]
      rw [e, trow_at t k _ (by omega), if_pos (by omega)]
      congr 3
      omega
    · rw [if_neg h1, tc_at _ j (by rw [len_upd]; exact hj), upd_at _ _ _ hj]
      have h3 : ¬ (k * 8 ≤ j ∧ j < k * 8 + 8) := by
        simpa [tcells, hr] using h1
      by_cases h4 : j < 8 * k
      · rw [if_pos (by omega), if_pos h4]
      · rw [if_neg (by omega), if_neg h4]

set_option maxRecDepth 100000 in
set_option maxHeartbeats 400000 in
theorem c_toByteA8A8 (t : List Int) (ht : t.length = 64) (w : World) : Calls Try.prog 32 #[.agg (tcells t)] w fun e w' => e = .returned (.agg (tcells t)) ∧ Below w.heap.size w w' := by
  go_enter Try.func32, Try.ntmps32
  go_wp2_with fail
  go_loopw [4] (fun i wr => ∃ k : Nat, k ≤ 8 ∧ i = .int .i64 k ∧ Below w.heap.size w wr ∧ wr.heap[w.heap.size]? = some (.cells (tcells t) 31 (0, 0)) ∧ wr.heap[w.heap.size + 1]? = some (.cells (tcells (upd t 0)) 31 (0, 0)) ∧
      wr.heap[w.heap.size + 1 + 1]? = some (.cells (tcells (upd t (8 * k))) 31 (0, 0))) (fun i _ => 8 - (intOf i).toNat)
  case atStart =>
    refine ⟨0, by omega, rfl, (((Below.refl _ w).alloc (Nat.le_refl _) _).alloc (by simp) _).alloc (by simp; omega) _, block_alloc (block_alloc (block_new1 w _ rfl) _) _, ?_, ?_⟩
    · rw [block_alloc (block_new1 _ _ (by simp)) _]; simp [upd, ht, tcells, List.replicate]
    · rw [block_new1 _ _ (by simp)]; simp [upd, ht, tcells, List.replicate]
  case round =>
    obtain ⟨k, hk, rfl, hb, h0, h1, h2⟩ := hrel
    by_cases hlt : k < 8
    · have H0 := hid h0; clear h0
      have H1 := hid h1; clear h1
      have H2 := hid h2; clear h2
      have hr0 := range_mid (o := 0) H0.out (fun j hj => by rw [Nat.zero_add]; exact tc_at t j hj) k ht hlt
      rw [Nat.zero_add] at hr0
      have HR := hid hr0; clear hr0
      go_wp2_with (first
        | ((with_reducible refine gate (N := 12) rfl ?_); refine wpList_load_mid rfl 30 (.tmp 11) rfl w.heap.size (k * 8) rfl ((trow t k).map (Value.int .u8)) _ HR.out Try.underlying30 rfl (by rw [Try.infoRow]; simp [len_trow t ht k hlt]) ?_)
        | (go_at_call 55; (refine (c_toByteA8 (trow t k) (len_trow t ht k hlt) _).mono ?_; rintro e w1 ⟨rfl, hb1⟩))
        | ((with_reducible refine gateN rfl ?_); refine wpList_store_block rfl 30 (.tmp 14) (.tmp 13) rfl (w.heap.size + 1 + 1) (k * 8) _ (tcells (trow t k)) _ _ (block_below hb1 H2.out (block_lt H2.out)) rfl rfl (by rw [size_tcells, size_tcells, len_upd, len_trow t ht k hlt]; omega) (by rw [Try.infoRow, size_tcells, len_trow t ht k hlt]) (tcells_one _) (upd_row t ht k hlt) ?_; intro w2 hw2 hg hsz; have HW := hid hw2; clear hw2))
      have hb2 : Below w.heap.size w w2 := (hb.trans (hb1.mono hb.size)).grown hg (by have := hb.size; have := hb1.size; omega) (fun k hk => by cases hk; omega)
      go_roundw
      case rel => exact ⟨k + 1, by omega, by go_num, hb2, block_grown hg (block_below hb1 H0.out (block_lt H0.out)) (by omega), block_grown hg (block_below hb1 H1.out (block_lt H1.out)) (by omega), HW.out⟩
      case measure => simp [intOf]; omega
    · obtain rfl : k = 8 := by omega
      have hu : upd t (8 * 8) = t := by rw [show 8 * 8 = t.length by omega]; exact upd_all t
      rw [hu] at h2
      have H0 := hid h0; clear h0
      have H1 := hid h1; clear h1
      have H2 := hid h2; clear h2
      clear hu
      have hr2 := range_mid (o := 0) H2.out (fun j hj => by rw [Nat.zero_add]; exact tc_at t j hj)
      have HR : Hid ((wr.rangeAt (w.heap.size + 1 + 1) 0 (t.map (Value.int .u8)))) := range_row H2.out
      clear hr2
      go_wp2_with (first
        | ((with_reducible refine gate (N := 15) rfl ?_); refine wpList_load_mid rfl 31 (.tmp 3) rfl (w.heap.size + 1 + 1) 0 rfl (t.map (Value.int .u8)) _ HR.out Try.underlying31 rfl (by rw [Try.infoTiles]; simp [ht]) ?_)
        | ((with_reducible refine gateN rfl ?_); refine wpList_store_block rfl 31 (.tmp 2) (.tmp 15) rfl (w.heap.size + 1) 0 _ (tcells t) (tcells t) _ H1.out rfl rfl (by rw [size_tcells, size_tcells, len_upd]; omega) (by rw [Try.infoTiles, size_tcells, ht]) (tcells_one t) (setAll_whole (by rw [size_tcells, size_tcells, len_upd])) ?_; intro w2 hw2 hg hsz; have HW := hid hw2; clear hw2))
      exact bodyPost_ret (results_cell_row rfl _ _ (w.heap.size + 1) _ _ _ _ rfl HW.out Try.underlying31 rfl (by rw [Try.infoTiles, size_tcells, ht])) rfl ⟨rfl, hb.grown hg hb.size (fun k hk => by cases hk; omega)⟩
set_option maxRecDepth 100000 in
set_option maxHeartbeats 800000 in
theorem c_toRoof (r : Rf) (hr : r.Ok) (w : World) : Calls Try.prog 17 #[.agg (rcells r)] w fun e w' => e = .returned (.agg (rcells r)) ∧ Below w.heap.size w w' := by
  go_enter Try.func17, Try.ntmps17
  go_wp2_with (first
    | ((with_reducible refine gate (N := 14) rfl ?_); refine wp_tiles rfl (.tmp 13) rfl w.heap.size rfl r hr (block_alloc (block_alloc (block_new1 w _ rfl) _) _) ?_)
    | (go_at_call 32; (refine (c_toByteA8A8 r.t hr.len _).mono ?_; rintro e w1 ⟨rfl, hb1⟩))
    | ((with_reducible refine gateN rfl ?_); refine wpList_store_block rfl 31 (.tmp 16) (.tmp 15) rfl (w.heap.size + 1 + 1) 3 _ (tcells r.t) (rcells r) _ (block_below hb1 (block_new1 _ _ (by simp)) (by simp)) rfl rfl (Nat.le_of_eq (by rw [size_tcells, hr.len]; rfl)) (by rw [Try.infoTiles, size_tcells, hr.len]) (tcells_one _) (setAll_roof hr rfl rfl rfl rfl) ?_; intro w2 hw2 hg hsz; have HW := hid hw2; clear hw2)
    | ((with_reducible refine gate (N := 17) rfl ?_); refine wp_roof 38 Try.underlying38 rfl Try.infoRoof rfl (.tmp 3) rfl (w.heap.size + 1 + 1) rfl r hr HW.out ?_)
    | ((with_reducible refine gateN rfl ?_); refine wpList_store_block rfl 38 (.tmp 2) (.tmp 17) rfl (w.heap.size + 1) 0 _ (rcells r) (rcells r) _ (block_grown hg (block_below hb1 (block_alloc (block_new1 _ _ (by simp)) _) (by simp)) (by omega)) rfl rfl (by first | (simp [size_rcells, hr.len, Rf.zero]; done) | (rw [size_rcells, hr.len]; exact Nat.le_refl _)) (by rw [Try.infoRoof, size_rcells, hr.len]) (rcells_one r) (setAll_whole (by first | (simp [size_rcells, hr.len, Rf.zero]; done) | (rw [size_rcells, hr.len]; rfl))) ?_; intro w3 hw3 hg3 hsz3; have HW3 := hid hw3; clear hw3))
  refine bodyPost_ret (results_cell_row rfl _ _ (w.heap.size + 1) _ _ _ _ rfl HW3.out Try.underlying38 rfl (by rw [Try.infoRoof, size_rcells, hr.len])) rfl ⟨rfl, ?_⟩
  have hb0 := (((Below.refl w.heap.size w).alloc (Nat.le_refl _) _).alloc (by simp) _).alloc (by simp; omega) _ |>.trans (hb1.mono (by simp; omega))
  have s1 := hb0.size
  exact (hb0.grown hg s1 (fun k hk => by cases hk; omega)).grown hg3 (by omega) (fun k hk => by cases hk; omega)
end Go.Proofs.Ytjcmdihadblodaa
