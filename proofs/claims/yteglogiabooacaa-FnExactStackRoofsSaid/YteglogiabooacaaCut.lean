/- CutRoof, the program's and the reference's. -/
import Derived.Test.YteglogiabooacaaKindAt
import Derived.Test.YteglogiabooacaaReg
import Derived.Laws.CopyRow
import Derived.Laws.CopyOwn
namespace Go.Proofs.Yteglogiabooacaa
open Go.RowKit
set_option linter.unusedSimpArgs false
set_option linter.unusedVariables false

/-- 'copy' of whole rows. -/
theorem run_copy_rows {P : Program} (w : World) (dT sT ty elem : TypeId) (m g o dLen dCap : Nat) (a : Addr) (sLen sCap : Nat) (cur : Array Value) (t : TypeId) (cs : List Value)
    (hu : P.underlying dT = some (.slice elem)) (hs : (P.info? elem).map (·.size) = some m)
    (hg : w.heap[g]? = some (.cells cur t (0, 0))) (k : Nat) (hk : Nat.min sLen dLen = k) (hn : cs.length = k * m)
    (hsrc : ∀ j v, cs[j]? = some v → w.cell? (a.add j) = some v) (hfit : o + cs.length ≤ cur.size) (h1 : ∀ v ∈ cs, v.oneCell' = true) :
    (Builtin.copy_ #[dT, sT] ty #[.slice (some ⟨g, o, none⟩) dLen dCap, .slice (some a) sLen sCap]).run P w =
      .ok (goInt k) (w.setRow g (cur.toList.take o ++ cs ++ cur.toList.drop (o + cs.length)).toArray) := by
  have hl := run_loadCells_list (P := P) w a cs hsrc
  have hst := run_storeCells_at P g o t cs 0 cur w hg (by simpa using hfit) h1
  cases hq : P.info? elem with
  | none => simp [hq] at hs
  | some i =>
    have hi : i.size = m := by simpa [hq] using hs
    simp [Builtin.copy_, run_underlying hu, Builtin.lenOf, Builtin.firstCells, sizeOf, typeInfo, hq, hi, hk, ← hn, hl, hst]

theorem wpList_copy_rows {P : Program} {w : World} {ops : Array Oper} {rest : List Oper} {o : Oper} {a : Act} {Q : Exit → Act → World → Prop} (hgd : o.guard = none) (d s : Operand) (dT sT : TypeId)
    (ho : o.op = .call { callee := .builtin .copy, args := #[d, s], argTypes := #[dT, sT] }) (elem : TypeId) (m : Nat) (hu : P.underlying dT = some (.slice elem)) (hsz : (P.info? elem).map (·.size) = some m)
    (g off dLen dCap : Nat) (ad : Addr) (sLen sCap : Nat) (hd : a.eval d = .slice (some ⟨g, off, none⟩) dLen dCap) (hs : a.eval s = .slice (some ad) sLen sCap)
    (cur : Array Value) (t : TypeId) (hg : w.heap[g]? = some (.cells cur t (0, 0))) (cs : List Value) (k : Nat) (hk : Nat.min sLen dLen = k) (hn : cs.length = k * m)
    (hsrc : ∀ j v, cs[j]? = some v → w.cell? (ad.add j) = some v) (hfit : off + cs.length ≤ cur.size) (h1 : ∀ v ∈ cs, v.oneCell' = true)
    (res : Array Value) (hres : (cur.toList.take off ++ cs ++ cur.toList.drop (off + cs.length)).toArray = res)
    (h : ∀ w2, w2.heap[g]? = some (.cells res t (0, 0)) → w.grownBy w2 (some g) → w2.heap.size = w.heap.size → wpList P ops Q rest (a.put o.dst (goInt k)) w2) : wpList P ops Q (o :: rest) a w := by
  refine wpList_plain hgd fun K hK => ?_
  have hrun := run_copy_rows (P := P) w dT sT o.type elem m g off dLen dCap ad sLen sCap cur t cs hu hsz hg k hk hn hsrc hfit h1
  rw [hres] at hrun
  unfold Oper.wp
  simp [execOp, ho, resolve, invoke, builtin, hd, hs, hrun, Result.andThen]
  refine hK _ _ (h _ (setRow_heap w g _ _ t _ hg) ⟨rfl, rfl, rfl, by simp [World.setRow], fun k hk hne => setRow_other w g k _ (fun e => hne (by rw [e]))⟩ (by simp [World.setRow]))

/-- The kinds of some courses, moved to the top. -/
def cutT (t : List Int) (c n : Nat) : List Int := (List.range 64).map fun j => if j < 8 * n then t.getD (8 * c + j) 0 else 0
/-- The roof of some courses. -/
def cutR (r : Rf) (c n : Int) (k : Nat) : Rf := ⟨r.w, n, shiftOf r c, cutT r.t c.toNat k⟩
theorem cutR_ok {r : Rf} (hr : r.Ok) (c n : Int) (k : Nat) (hn : 0 ≤ n ∧ n ≤ 8) : (cutR r c n k).Ok := by
  have := shiftOf_01 r c
  refine ⟨hr.w1, hr.w2, ?_, ?_, ?_, ?_, by simp [cutR, cutT], fun v hv => ?_⟩
  · show -128 ≤ n; omega
  · show n ≤ 127; omega
  · show 0 ≤ shiftOf r c; omega
  · show shiftOf r c ≤ 255; omega
  · obtain ⟨j, _, rfl⟩ := List.mem_map.1 hv
    split
    · rw [List.getD_eq_getElem?_getD]
      cases h : r.t[8 * c.toNat + j]? with
      | none => simp
      | some x => exact hr.t1 x (List.mem_of_getElem? h)
    · omega
theorem cutT_zero (t : List Int) (c : Nat) : cutT t c 0 = List.replicate 64 0 := by
  have h : cutT t c 0 = (List.range 64).map (fun _ => (0 : Int)) := List.map_congr_left (fun j _ => by simp)
  rw [h, List.map_const', List.length_range]
theorem cut_copy (r : Rf) (hr : r.Ok) (c n : Int) (k : Nat) (hk : c.toNat + k ≤ 8) : ((rcells ⟨r.w, n, shiftOf r c, List.replicate 64 0⟩).toList.take 3 ++ ((r.t.drop (8 * c.toNat)).take (k * 8)).map (Value.int .u8) ++ (rcells ⟨r.w, n, shiftOf r c, List.replicate 64 0⟩).toList.drop (3 + (((r.t.drop (8 * c.toNat)).take (k * 8)).map (Value.int .u8)).length)).toArray = rcells (cutR r c n k) := by
  have hl : ((r.t.drop (8 * c.toNat)).take (k * 8)).length = 8 * k := by rw [List.length_take, List.length_drop, hr.len]; omega
  apply Array.toList_inj.1
  have e : (rcells (cutR r c n k)).toList = [.int .i8 r.w, .int .i8 n, .int .u8 (shiftOf r c)] ++ (cutT r.t c.toNat k).map (Value.int .u8) := by simp [rcells, cutR]
  have e0 : (rcells ⟨r.w, n, shiftOf r c, List.replicate 64 0⟩).toList = [.int .i8 r.w, .int .i8 n, .int .u8 (shiftOf r c)] ++ (List.replicate 64 (0 : Int)).map (Value.int .u8) := by simp [rcells]
  rw [e, e0]
  rw [List.length_map, hl]
  have e1 : ([Value.int .i8 r.w, .int .i8 n, .int .u8 (shiftOf r c)] ++ (List.replicate 64 (0 : Int)).map (Value.int .u8)).take 3 = [Value.int .i8 r.w, .int .i8 n, .int .u8 (shiftOf r c)] := rfl
  have e2 : ([Value.int .i8 r.w, .int .i8 n, .int .u8 (shiftOf r c)] ++ (List.replicate 64 (0 : Int)).map (Value.int .u8)).drop (3 + 8 * k) = ((List.replicate 64 (0 : Int)).map (Value.int .u8)).drop (8 * k) := by
    rw [← List.drop_drop]; rfl
  rw [e1, e2, List.append_assoc, ← List.map_drop, ← List.map_append]
  simp only [List.append_cancel_left_eq]
  congr 1
  apply List.ext_getElem?
  intro j
  have e3 : (cutT r.t c.toNat k)[j]? = if j < 64 then some (if j < 8 * k then r.t.getD (8 * c.toNat + j) 0 else 0) else none := by
    unfold cutT
    rw [List.getElem?_map]
    by_cases hj : j < 64
    · rw [List.getElem?_range hj, if_pos hj]; rfl
    · rw [List.getElem?_eq_none (by simp; omega), if_neg hj]; rfl
  rw [e3, List.getElem?_append, hl]
  by_cases hjk : j < 8 * k
  · rw [if_pos hjk, if_pos (by omega), if_pos hjk, List.getElem?_take, if_pos (by omega), List.getElem?_drop, List.getD_eq_getElem?_getD, List.getElem?_eq_getElem (by rw [hr.len]; omega)]; rfl
  · rw [if_neg hjk, List.getElem?_drop, if_neg hjk]
    by_cases hj : j < 64
    · rw [if_pos hj, List.getElem?_replicate, if_pos (by omega)]
    · rw [if_neg hj, List.getElem?_replicate, if_neg (by omega)]
/-- One operation whose run is known, the world too. -/
theorem wpList_runW {P : Program} {ops : Array Oper} {rest : List Oper} {o : Oper} {a : Act} {w w' : World} {Q : Exit → Act → World → Prop} (hgd : o.guard = none) (v : Value)
    (h : (execOp a.eval o).run P w = .ok (.value v) w') (k : wpList P ops Q rest (a.put o.dst v) w') : wpList P ops Q (o :: rest) a w :=
  wpList_plain hgd fun K hK => by unfold Oper.wp; rw [h]; exact hK _ _ k
/-- What CutRoof returns. -/
def cutC (r : Rf) (c n : Int) : Int := codeOf (validB r) (inB c 0 (r.h - 1) && inB n 1 (r.h - c))
def cutV (r : Rf) (c n : Int) : Rf := if cutC r c n = 0 then cutR r c n n.toNat else Rf.zero
theorem cutC0 {r : Rf} {c n : Int} (h : cutC r c n = 0) : validB r = true ∧ (1 ≤ r.h ∧ r.h ≤ 8) ∧ (0 ≤ c ∧ 1 ≤ n ∧ c + n ≤ 8) := by
  unfold cutC at h
  rcases codeOf_cases (validB r) (inB c 0 (r.h - 1) && inB n 1 (r.h - c)) with ⟨_, h1⟩ | ⟨_, _, h1⟩ | ⟨h1, h2, _⟩
  · rw [h1] at h; cases h
  · rw [h1] at h; cases h
  · rw [Bool.and_eq_true] at h2
    have := valid_head h1; have := inB_iff.1 h2.1; have := inB_iff.1 h2.2; exact ⟨h1, by omega⟩
theorem cutV_ok {r : Rf} (hr : r.Ok) (c n : Int) : (cutV r c n).Ok := by
  unfold cutV
  split
  · rename_i h; have := cutC0 h; exact cutR_ok hr _ _ _ (by omega)
  · exact Rf.zero_ok
set_option maxRecDepth 100000 in
theorem c_CutRoof (r : Rf) (hr : r.Ok) (c n : Int) (w : World) : Calls Try.prog 21 #[.agg (rcells r), .int .i64 c, .int .i64 n] w fun e w' => e = .returned (.tuple #[.agg (rcells (cutV r c n)), .int .i64 (cutC r c n)]) ∧ Below w.heap.size w w' := by
  have key : ∀ (g1 g2 : Bool) (k : Int) (R : Rf), inB c 0 (r.h - 1) = g1 → inB n 1 (r.h - c) = g2 → codeOf (validB r) (g1 && g2) = k → R.Ok → (k = 0 → ((1 ≤ r.h ∧ r.h ≤ 8) ∧ (0 ≤ c ∧ 1 ≤ n ∧ c + n ≤ 8)) ∧ R = cutR r c n n.toNat) → (k ≠ 0 → R = Rf.zero) → (k = 1 ∨ k = 2 ∨ k = 0) →
      Calls Try.prog 21 #[.agg (rcells r), .int .i64 c, .int .i64 n] w fun e w' => e = .returned (.tuple #[.agg (rcells R), .int .i64 k]) ∧ Below w.heap.size w w' := by
    intro g1 g2 k R h1 h2 hk hok h0 hn0 hcs
    have hb1 : g1 = true → IntKind.i64.wrap (r.h - c) = r.h - c := fun e => by
      have := inB_iff.1 (h1.trans e); have := hr.h1; have := hr.h2
      exact IntWalk.i64_in _ (by omega)
    have H1 := hid h1; have H2 := hid h2; have HOK := hid hok
    clear h1 h2 hok
    have H0 := hid h0; clear h0
    have H9 := hid hn0; clear hn0
    have hh1 := hr.h1; have hh2 := hr.h2
    have hh : (w.alloc (.cells (rcells r) 29)).cell? ⟨w.heap.size, 1, none⟩ = some (.int .i8 r.h) := cell_block (block_new1 w _ rfl) (rc1 r)
    have HW := hid (block_new1 (n := w.heap.size + 1) (w.alloc (.cells (rcells r) 29)) (.cells (rcells Rf.zero) 29) (by simp))
    have HR : Hid (((w.alloc (.cells (rcells r) 29)).alloc (.cells (rcells Rf.zero) 29)).heap[w.heap.size]? = some (.cells (rcells r) 29 (0,0))) := block_alloc (block_new1 w _ rfl) _
    have HB : Hid (w.heap.size + 2 ≤ ((w.alloc (.cells (rcells r) 29)).alloc (.cells (rcells Rf.zero) 29)).heap.size) := by simp [Hid]
    have HA : Hid (Below w.heap.size w ((w.alloc (.cells (rcells r) 29)).alloc (.cells (rcells Rf.zero) 29))) := ((Below.refl _ w).alloc (Nat.le_refl _) _).alloc (by simp) _
    have l0 : w.heap.size < w.heap.size + 2 := by omega
    have l1 : w.heap.size + 1 < w.heap.size + 2 := by omega
    cases g1
    all_goals
      have HK := hid hk
      clear hk
      simp only [Bool.true_and, Bool.false_and] at HK
      try have hwr := hb1 rfl
      clear hb1
      rcases hcs with rfl | rfl | rfl
    case false.inr.inr => have := HK.out; unfold codeOf at this; split at this <;> simp at this
    case true.inr.inr =>
      obtain ⟨⟨⟨q1, q2⟩, ⟨q3, q4, q5⟩⟩, rfl⟩ := H0.out rfl
      clear H0 H9
      obtain ⟨i, rfl⟩ := Int.eq_ofNat_of_zero_le q3
      obtain ⟨m, rfl⟩ := Int.eq_ofNat_of_zero_le (by omega : (0:Int) ≤ n)
      simp only [Int.toNat_natCast] at HOK ⊢
      have im : i + m ≤ 8 := by omega
      have m1 : 1 ≤ m := by omega
      have sh := shiftOf_01 r i
      have v1 : IntKind.i8.wrap (m : Int) = m := IntWalk.i8_in _ (by omega)
      have v2 : IntKind.u8.wrap (shiftOf r i) = shiftOf r i := IntWalk.u8_in _ (by omega)
      have HZ : Hid (Rf.Ok ⟨r.w, m, shiftOf r i, List.replicate 64 0⟩) := by
        have := cutR_ok hr (i : Int) m 0 (by omega)
        unfold cutR at this
        rwa [cutT_zero] at this
      have HC := hid (cut_copy r hr i m m (by simpa using im))
      simp only [Int.toNat_natCast] at HC
      clear q3
      go_enter Try.func21, Try.ntmps21
      go_wp2_with fail
      refine wp_region_ext (w.heap.size + 2) (by kernel_rfl) (by kernel_rfl) ?_
      repeat (first
        | ((with_reducible refine wpQuiet_run (N := 10) rfl rfl (.agg (rcells r)) ?_ ?_); (rintro _ ⟨x, rfl⟩; exact execOp_load rfl rfl (run_load_roof 29 Try.underlying29 rfl Try.infoRoof hr (block_below x.h HR.out l0))); go_simp)
        | ((with_reducible refine wpQuiet_run (N := 11) rfl rfl (.agg (rcells r)) ?_ ?_); (rintro _ ⟨x, rfl⟩; exact execOp_load rfl rfl (run_load_roof 29 Try.underlying29 rfl Try.infoRoof hr (block_below x.h HR.out l0))); go_simp)
        | go_big_quiet_step (first | (go_at_call 29; with_reducible exact Calls.ext HB.out (c_isCourse r hr _ _ _ H1.out)) | (go_at_call 43; with_reducible exact Calls.ext_same (c_within64 _ _ _ _ _ H2.out)) | (go_at_call 28; with_reducible exact Calls.ext HB.out (c_roofCodeK r hr _ _ HK.out _))))
      refine wpQuiet_nil ?_
      intro x
      have HX := hid x.h
      have hbx : Hid (w.heap.size + 2 ≤ x.out.heap.size) := Nat.le_trans HB.out x.h.size
      go_wp2_with fail
      refine wp_region_law0 (w.heap.size + 2) ?s1 9 10 9 _ _ 29 (.tmp 36) (rcells Rf.zero) (rcells ⟨r.w, m, shiftOf r i, List.replicate 64 0⟩) (by kernel_rfl) (by kernel_rfl) (by kernel_rfl) rfl rfl rfl rfl rfl rfl (by kernel_rfl) (by kernel_rfl) rfl Try.allocRoof (by rw [Try.infoRoof, size_rcells, HZ.out.len]) (rcells_one _) (by rw [size_rcells, size_rcells, HZ.out.len]; rfl) hbx.out ?q1 ?v1 ?h1
      case q1 =>
        intro S hSn
        simp only [List.map_cons, List.map_nil, mute, isQ, if_true, Bool.false_eq_true, if_false]
        repeat (first
          | ((with_reducible refine wpQuiet_run (N := 32) rfl rfl (.agg (rcells r)) ?_ ?_); (rintro _ ⟨z, rfl⟩; exact execOp_load rfl rfl (run_load_roof 29 Try.underlying29 rfl Try.infoRoof hr (block_below z.h (block_below HX.out HR.out l0) l0))); go_simp)
          | ((with_reducible refine wpQuiet_run (N := 36) rfl rfl (.agg (rcells ⟨r.w, m, shiftOf r i, List.replicate 64 0⟩)) ?_ ?_); (rintro _ ⟨z, rfl⟩; exact execOp_buildRoof rfl rfl rfl rfl); go_simp)
          | go_big_quiet_step ((go_at_call 30; with_reducible exact Calls.extS hbx.out (c_shift r hr _ (by omega) _))))
        refine wpQuiet_nil ?_
        exact rfl
      case v1 => rfl
      intro y q hq hyq
      have HQ := hid hyq; clear hyq
      have HY := hid y.h
      go_wp2_with fail
      have i8 : (i : Int) ≤ 8 := by omega
      have m8 : (m : Int) ≤ 8 := by omega
      have i0 : (0 : Int) ≤ (i : Int) := by omega
      have m0 : (0 : Int) ≤ (m : Int) := by omega
      have i8' : ¬ (8 = i) := by omega
      refine wp_region_tail 6 (by kernel_rfl) (by kernel_rfl) ?_
      simp only [List.take_succ_cons, List.take_zero, List.drop_succ_cons, List.drop_zero]
      repeat still_step
      refine wpStill_nil ?_
      have HRy := hid (block_below HY.out (block_below HX.out HR.out l0) l0)
      have HWy := hid (block_below HY.out (block_below HX.out HW.out l1) l1)
      have hty : (Try.prog.info? 23).map (·.size) = some 8 := by kernel_rfl
      with_reducible refine gate (N := 43) rfl ?_
      refine wpList_copy_rows rfl (.tmp 39) (.tmp 42) 66 66 rfl 23 8 Try.underlying66 hty q 3 m 8 ⟨w.heap.size, 3 + i * 8, none⟩ (8 - i) (8 - i) rfl rfl (rcells ⟨r.w, m, shiftOf r i, List.replicate 64 0⟩) 29 HQ.out (((r.t.drop (8 * i)).take (m * 8)).map (Value.int .u8)) m (by show min _ _ = _; omega) ?c1 ?c2 ?c3 ?c4 _ HC.out ?c5
      case c1 => rw [List.length_map, List.length_take, List.length_drop, hr.len]; omega
      case c2 =>
        intro j v hj
        rw [List.getElem?_map, List.getElem?_take] at hj
        by_cases hjm : j < m * 8
        · rw [if_pos hjm, List.getElem?_drop] at hj
          have hl : 8 * i + j < r.t.length := by rw [hr.len]; omega
          rw [List.getElem?_eq_getElem hl] at hj
          simp only [Option.map_some, Option.some.injEq] at hj
          subst hj
          have := rct r hr (8 * i + j) (by omega)
          have e : (⟨w.heap.size, 3 + i * 8, none⟩ : Addr).add j = ⟨w.heap.size, 3 + (8 * i + j), none⟩ := by
            unfold Addr.add; split <;> simp <;> omega
          rw [e]
          refine (cell_of_row _ _ _ _ _ _ HRy.out).trans ?_
          rw [this, List.getD_eq_getElem?_getD, List.getElem?_eq_getElem hl]; rfl
        · rw [if_neg hjm] at hj; simp at hj
      case c3 =>
        rw [List.length_map, List.length_take, List.length_drop, size_rcells]
        have : (⟨r.w, m, shiftOf r i, List.replicate 64 0⟩ : Rf).t.length = 64 := HZ.out.len
        rw [this, hr.len]; omega
      case c4 =>
        intro v hv
        obtain ⟨x, _, rfl⟩ := List.mem_map.1 hv
        rfl
      case c5 =>
        intro w3 hw3 hg3 hs3
        have HV3 := hid hw3; clear hw3
        have HG3 := hid hg3; clear hg3
        go_wp2_with (first
          | ((with_reducible refine gate (N := 44) rfl ?_); refine wp_roof 29 Try.underlying29 rfl Try.infoRoof rfl (.tmp 9) rfl q rfl _ HOK.out HV3.out ?_)
          | ((with_reducible refine gateN rfl ?_); refine wp_store_roof rfl (.tmp 6) (.tmp 44) rfl (w.heap.size + 1) Rf.zero _ Rf.zero_ok HOK.out (block_grown HG3.out HWy.out (by omega)) rfl rfl ?_; intro w2 hw2 hg hsz; have HV := hid hw2; clear hw2))
        have b1 := HA.out.trans (HX.out.mono (by omega))
        have b2 := b1.trans (HY.out.mono (by omega))
        have b3 := b2.drew.grown HG3.out b2.size (fun k hk => by cases hk; omega)
        exact bodyPost_ret (res_roof rfl _ _ (w.heap.size + 1) _ HOK.out _ rfl HV.out rfl) rfl ⟨rfl, b3.grown hg b3.size (fun k hk => by cases hk; omega)⟩
    all_goals
      obtain rfl := H9.out (by decide)
      clear H0 H9
      go_enter Try.func21, Try.ntmps21
      go_wp2_with fail
      refine wp_region_ext (w.heap.size + 2) (by kernel_rfl) (by kernel_rfl) ?_
      repeat (first
        | ((with_reducible refine wpQuiet_run (N := 10) rfl rfl (.agg (rcells r)) ?_ ?_); (rintro _ ⟨x, rfl⟩; exact execOp_load rfl rfl (run_load_roof 29 Try.underlying29 rfl Try.infoRoof hr (block_below x.h HR.out l0))); go_simp)
        | ((with_reducible refine wpQuiet_run (N := 11) rfl rfl (.agg (rcells r)) ?_ ?_); (rintro _ ⟨x, rfl⟩; exact execOp_load rfl rfl (run_load_roof 29 Try.underlying29 rfl Try.infoRoof hr (block_below x.h HR.out l0))); go_simp)
        | go_big_quiet_step (first | (go_at_call 29; with_reducible exact Calls.ext HB.out (c_isCourse r hr c _ _ H1.out)) | (go_at_call 43; with_reducible exact Calls.ext_same (c_within64 _ _ _ _ _ H2.out)) | (go_at_call 28; with_reducible exact Calls.ext HB.out (c_roofCodeK r hr _ _ HK.out _))))
      refine wpQuiet_nil ?_
      intro x
      go_wp2_with (first
        | ((with_reducible refine gate (N := 26) rfl ?_); refine wpList_run rfl (.agg (rcells Rf.zero)) (by unfold execOp; go_simp; exact run_build_zero _) ?_)
        | ((with_reducible refine gateN rfl ?_); refine wp_store_roof rfl (.tmp 6) (.tmp 26) rfl (w.heap.size + 1) Rf.zero _ Rf.zero_ok Rf.zero_ok (block_below x.h HW.out (by omega)) rfl rfl ?_; intro w2 hw2 hg hsz; have HV := hid hw2; clear hw2))
      have b1 := HA.out.trans (x.h.mono (by omega))
      exact bodyPost_ret (res_roof rfl _ _ (w.heap.size + 1) _ Rf.zero_ok _ rfl HV.out rfl) rfl ⟨rfl, b1.grown hg b1.size (fun k hk => by cases hk; omega)⟩
  refine key _ _ _ _ rfl rfl rfl (cutV_ok hr c n) (fun h => ⟨(cutC0 h).2, ?_⟩) (fun h => ?_) (codeOf_012 _ _)
  · unfold cutV; rw [if_pos h]
  · unfold cutV; rw [if_neg h]
/-- A course stored into a roof. -/
theorem set_row {r : Rf} (hr : r.Ok) {row : List Int} (hl : row.length = 8) {j : Nat} (hj : j < 8) {t' : List Int} (ht' : t'.length = 64) (h : ∀ n, n < 64 → t'.getD n 0 = if 8 * j ≤ n ∧ n < 8 * j + 8 then row.getD (n - 8 * j) 0 else r.t.getD n 0) : setAll (rcells r) (3 + j * 8) (tcells row).toList = rcells { r with t := t' } := by
  have hs : (rcells r).size = 67 := by rw [size_rcells, hr.len]
  have hts : (tcells row).toList.length = 8 := by simp [size_tcells, hl]
  have hr' : ∀ n, n < 64 → (rcells { r with t := t' })[3 + n]? = some (.int .u8 (t'.getD n 0)) := fun n hn => by
    have e : 3 + n = n + 1 + 1 + 1 := by omega
    have hn' : n < t'.length := by omega
    rw [e]
    simp only [rcells, List.getElem?_toArray, List.getElem?_cons_succ, List.getElem?_map, List.getElem?_eq_getElem hn', Option.map_some, List.getD, Option.getD_some]
  apply setAll_eq
  · rw [hts, hs]; omega
  · rw [hs, size_rcells, ht']
  · intro n hn
    rw [hts]
    rw [hs] at hn
    by_cases h3 : 3 ≤ n
    · have e : n = 3 + (n - 3) := by omega
      rw [e, hr' _ (by omega), h _ (by omega)]
      by_cases hc : 8 * j ≤ n - 3 ∧ n - 3 < 8 * j + 8
      · rw [if_pos hc, if_pos (by omega), Array.getElem?_toList, tc_at row _ (by omega)]
        congr 3; omega
      · rw [if_neg hc, if_neg (by omega), rct r hr _ (by omega)]
    · rw [if_neg (by omega)]
      match n, (by omega : n < 3) with
      | 0, _ => simp [rcells]
      | 1, _ => simp [rcells]
      | 2, _ => simp [rcells]
theorem cutT_getD (t : List Int) (c k n : Nat) (hn : n < 64) : (cutT t c k).getD n 0 = if n < 8 * k then t.getD (8 * c + n) 0 else 0 := by
  unfold cutT
  rw [List.getD_eq_getElem?_getD, List.getElem?_map, List.getElem?_range hn]; rfl
theorem cut_step (r : Rf) (hr : r.Ok) (i m j : Nat) (hm : m ≤ 8) (hj : j < m) (hij : i + j < 8) : setAll (rcells (cutR r i m j)) (3 + j * 8) (tcells (trow r.t (i + j))).toList = rcells (cutR r i m (j + 1)) := by
  refine set_row (cutR_ok hr i m j (by omega)) (len_trow r.t hr.len (i + j) hij) (by omega) (t' := cutT r.t i (j + 1)) (by simp [cutT]) fun n hn => ?_
  have e0 : (cutR r i m j).t = cutT r.t i j := by simp [cutR]
  rw [e0, cutT_getD _ _ _ _ hn, cutT_getD _ _ _ _ hn]
  by_cases h : 8 * j ≤ n ∧ n < 8 * j + 8
  · rw [if_pos (by omega), if_pos h, trow_at _ _ _ (by omega)]; congr 1; omega
  · rw [if_neg h]
    by_cases h2 : n < 8 * j
    · rw [if_pos (by omega), if_pos h2]
    · rw [if_neg (by omega), if_neg h2]
set_option maxRecDepth 100000 in
theorem c_sCutRoof (r : Rf) (hr : r.Ok) (c n : Int) (hcb : -9223372036854775808 ≤ c ∧ c ≤ 9223372036854775807) (w : World) : Calls Try.prog 20 #[.agg (rcells r), .int .i64 c, .int .i64 n] w fun e w' => e = .returned (.tuple #[.agg (rcells (cutV r c n)), .int .i64 (cutC r c n)]) ∧ Below w.heap.size w w' := by
  have key : ∀ (g1 g2 : Bool) (k0 k : Int) (R : Rf), inB c 0 (r.h - 1) = g1 → codeOf (validB r) g1 = k0 → (k0 = 0 → inB n 1 (r.h - c) = g2 ∧ IntKind.i64.wrap (r.h - c) = r.h - c) → R.Ok → (k = 0 → ((1 ≤ r.h ∧ r.h ≤ 8) ∧ (0 ≤ c ∧ 1 ≤ n ∧ c + n ≤ 8)) ∧ R = cutR r c n n.toNat) → (k ≠ 0 → R = Rf.zero) → ((k0 = 1 ∧ k = 1) ∨ (k0 = 2 ∧ k = 2) ∨ (k0 = 0 ∧ g2 = false ∧ k = 2) ∨ (k0 = 0 ∧ g2 = true ∧ k = 0)) →
      Calls Try.prog 20 #[.agg (rcells r), .int .i64 c, .int .i64 n] w fun e w' => e = .returned (.tuple #[.agg (rcells R), .int .i64 k]) ∧ Below w.heap.size w w' := by
    intro g1 g2 k0 k R h1 hk0 h2 hok h0 hn0 hcs
    have H1 := hid h1; have H2 := hid h2; have HOK := hid hok
    clear h1 h2 hok
    have H0 := hid h0; clear h0
    have H9 := hid hn0; clear hn0
    have HK := hid hk0; clear hk0
    have hh1 := hr.h1; have hh2 := hr.h2
    have HW := hid (block_new1 (n := w.heap.size + 1) (w.alloc (.cells (rcells r) 29)) (.cells (rcells Rf.zero) 29) (by simp))
    have HR : Hid (((w.alloc (.cells (rcells r) 29)).alloc (.cells (rcells Rf.zero) 29)).heap[w.heap.size]? = some (.cells (rcells r) 29 (0,0))) := block_alloc (block_new1 w _ rfl) _
    have HB : Hid (w.heap.size + 2 ≤ ((w.alloc (.cells (rcells r) 29)).alloc (.cells (rcells Rf.zero) 29)).heap.size) := by simp [Hid]
    have HA : Hid (Below w.heap.size w ((w.alloc (.cells (rcells r) 29)).alloc (.cells (rcells Rf.zero) 29))) := ((Below.refl _ w).alloc (Nat.le_refl _) _).alloc (by simp) _
    have l0 : w.heap.size < w.heap.size + 2 := by omega
    have l1 : w.heap.size + 1 < w.heap.size + 2 := by omega
    rcases hcs with ⟨rfl, rfl⟩ | ⟨rfl, rfl⟩ | ⟨rfl, rfl, rfl⟩ | ⟨rfl, rfl, rfl⟩
    case inr.inr.inr =>
      obtain ⟨⟨⟨q1, q2⟩, ⟨q3, q4, q5⟩⟩, rfl⟩ := H0.out rfl
      obtain ⟨h2, hwr⟩ := H2.out rfl
      clear H0 H9 H2
      have H2 := hid h2; clear h2
      obtain ⟨i, rfl⟩ := Int.eq_ofNat_of_zero_le q3
      obtain ⟨m, rfl⟩ := Int.eq_ofNat_of_zero_le (by omega : (0:Int) ≤ n)
      simp only [Int.toNat_natCast] at HOK ⊢
      have im : i + m ≤ 8 := by omega
      have m1 : 1 ≤ m := by omega
      have sh := shiftOf_01 r i
      have v1 : IntKind.i8.wrap (m : Int) = m := IntWalk.i8_in _ (by omega)
      have v2 : IntKind.u8.wrap (shiftOf r i) = shiftOf r i := IntWalk.u8_in _ (by omega)
      have HZ : Hid (Rf.Ok ⟨r.w, m, shiftOf r i, List.replicate 64 0⟩) := by
        have := cutR_ok hr (i : Int) m 0 (by omega)
        unfold cutR at this
        rwa [cutT_zero] at this
      clear q3 hcb
      go_enter Try.func20, Try.ntmps20
      go_wp2_with (first
        | (go_at_call 25; ((with_reducible refine (c_l01Course r hr _ _ _ HR.out _ H1.out).mono ?_); rintro e w1 ⟨rfl, rfl⟩))
        | (go_at_call 24; ((with_reducible refine (c_l01ToldK r hr _ _ _ HK.out _ HR.out).mono ?_); rintro e w1 ⟨rfl, hb1⟩); have c1 := hb1.cell (p := ⟨w.heap.size, 1, none⟩) (by simp <;> omega); have c0 := hb1.cell (p := ⟨w.heap.size, 0, none⟩) (by simp <;> omega); simp [go_sem] at c1 c0)
        | (go_at_call 42; ((with_reducible refine (c_l00In _ _ _ _ _ H2.out).mono ?_); rintro e w1 ⟨rfl, rfl⟩)))
      have hbx : Hid (w.heap.size + 2 ≤ w1.heap.size) := Nat.le_trans HB.out hb1.size
      have HR1 := hid (block_below hb1 HR.out (by simp <;> omega))
      have HW1 := hid (block_below hb1 HW.out (by simp <;> omega))
      refine wp_region_law0 (w.heap.size + 2) ?s1 8 9 9 _ _ 29 (.tmp 34) (rcells Rf.zero) (rcells ⟨r.w, m, shiftOf r i, List.replicate 64 0⟩) (by kernel_rfl) (by kernel_rfl) (by kernel_rfl) rfl rfl rfl rfl rfl rfl (by kernel_rfl) (by kernel_rfl) rfl Try.allocRoof (by rw [Try.infoRoof, size_rcells, HZ.out.len]) (rcells_one _) (by rw [size_rcells, size_rcells, HZ.out.len]; rfl) hbx.out ?q1 ?v1 ?h1
      case q1 =>
        intro S hSn
        simp only [List.map_cons, List.map_nil, mute, isQ, if_true, Bool.false_eq_true, if_false]
        repeat (first
          | ((with_reducible refine wpQuiet_run (N := 34) rfl rfl (.agg (rcells ⟨r.w, m, shiftOf r i, List.replicate 64 0⟩)) ?_ ?_); (rintro _ ⟨z, rfl⟩; exact execOp_buildRoof rfl rfl rfl rfl); go_simp)
          | go_big_quiet_step ((go_at_call 26; with_reducible exact Calls.extS_same (c_l01By r hr _ _ (by omega) _ (block_below (ExtS.h _) HR1.out l0)))))
        refine wpQuiet_nil ?_
        exact rfl
      case v1 => rfl
      intro y q hq hyq
      have HQ := hid hyq; clear hyq
      have HY := hid y.h
      have HRy := hid (block_below HY.out HR1.out l0)
      have HWy := hid (block_below HY.out HW1.out l1)
      go_wp2_with fail
      go_loopw [10] (fun v wr => ∃ j : Nat, v = .int .i64 j ∧ j ≤ m ∧ Hid (wr.heap[q]? = some (.cells (rcells (cutR r i m j)) 29 (0, 0))) ∧ Hid (Below (w.heap.size + 2) y.out wr)) (fun v _ => m - (intOf v).toNat)
      case atStart =>
        refine ⟨0, rfl, by omega, ?_, Below.refl _ _⟩
        have : cutR r i m 0 = ⟨r.w, m, shiftOf r i, List.replicate 64 0⟩ := by unfold cutR; rw [cutT_zero]
        rw [this]; exact HQ.out
      case round =>
        obtain ⟨j, rfl, hj, hQ, hb⟩ := hrel
        by_cases hjm : j < m
        · have hd : decide ((j : Int) < (m : Int)) = true := decide_eq_true (by omega)
          have ij8 : i + j < 8 := by omega
          have j8 : j < 8 := by omega
          have a0 : (0 : Int) ≤ (i : Int) + (j : Int) := by omega
          have a1 : (i : Int) + (j : Int) < 8 := by omega
          have a2 : IntKind.i64.wrap ((i : Int) + (j : Int)) = (i : Int) + (j : Int) := IntWalk.i64_in _ (by omega)
          have a3 : (0 : Int) ≤ (j : Int) := by omega
          have a4 : (j : Int) < 8 := by omega
          have a5 : ((i : Int) + (j : Int)).toNat = i + j := by omega
          have HRw := hid (block_below hb.out HRy.out l0)
          have hcsz : 3 + j * 8 + (tcells (trow r.t (i + j))).size ≤ (rcells (cutR r i m j)).size := by
            rw [size_tcells, len_trow _ hr.len _ ij8, size_rcells, (cutR_ok hr (i : Int) m j (by omega)).len]; omega
          have hcs := hid hcsz; clear hcsz
          go_wp2_with (first
            | ((with_reducible refine gate (N := 46) rfl ?_); refine wpList_run rfl (.agg (tcells (trow r.t (i + j)))) (execOp_load rfl rfl (run_load_mid8 (len_trow _ hr.len _ ij8) (range_mid HRw.out (fun k hk => rct r hr k (by rw [hr.len] at hk; exact hk)) (i + j) hr.len ij8))) ?_)
            | ((with_reducible refine gateN rfl ?_); refine wpList_store_block rfl 23 (.tmp 48) (.tmp 46) rfl q (3 + j * 8) (rcells (cutR r i m j)) (tcells (trow r.t (i + j))) _ 29 hQ.out rfl rfl hcs.out (by rw [Try.infoRow, size_tcells, len_trow _ hr.len _ ij8]) (tcells_one _) (cut_step r hr i m j (by omega) hjm ij8) ?_; intro w2 hw2 hg hsz; have HV := hid hw2; clear hw2))
          have hb2 := hb.out.grown hg (Nat.le_trans hbx.out (Nat.le_trans HY.out.size hb.out.size)) (fun k hk => by cases hk; omega)
          go_roundw
          case rel => exact ⟨j + 1, by go_num, by omega, HV.out, hb2⟩
          case measure => simp [intOf]; omega
        · obtain rfl : j = m := by omega
          have hd : decide ((j : Int) < (j : Int)) = false := decide_eq_false (by omega)
          have HWw := hid (block_below hb.out HWy.out l1)
          go_wp2_with (first
            | ((with_reducible refine gate (N := 49) rfl ?_); refine wp_roof 29 Try.underlying29 rfl Try.infoRoof rfl (.tmp 9) rfl q rfl _ HOK.out hQ.out ?_)
            | ((with_reducible refine gateN rfl ?_); refine wp_store_roof rfl (.tmp 6) (.tmp 49) rfl (w.heap.size + 1) Rf.zero _ Rf.zero_ok HOK.out HWw.out rfl rfl ?_; intro w2 hw2 hg hsz; have HV := hid hw2; clear hw2))
          have b1 := HA.out.trans (hb1.mono (by simp <;> omega))
          have b2 := b1.trans (HY.out.mono (by omega))
          have b3 := b2.trans (hb.out.mono (by omega))
          exact bodyPost_ret (res_roof rfl _ _ (w.heap.size + 1) _ HOK.out _ rfl HV.out rfl) rfl ⟨rfl, b3.grown hg b3.size (fun k hk => by cases hk; omega)⟩
    case inr.inr.inl =>
      obtain rfl := H9.out (by decide)
      obtain ⟨h2, hwr⟩ := H2.out rfl
      clear H0 H9 H2
      have H2 := hid h2; clear h2
      go_enter Try.func20, Try.ntmps20
      go_wp2_with (first
        | (go_at_call 25; ((with_reducible refine (c_l01Course r hr _ c _ HR.out _ H1.out).mono ?_); rintro e w1 ⟨rfl, rfl⟩))
        | (go_at_call 24; ((with_reducible refine (c_l01ToldK r hr _ _ _ HK.out _ HR.out).mono ?_); rintro e w1 ⟨rfl, hb1⟩); have c1 := hb1.cell (p := ⟨w.heap.size, 1, none⟩) (by simp <;> omega); simp [go_sem] at c1)
        | (go_at_call 42; ((with_reducible refine (c_l00In _ _ _ _ _ H2.out).mono ?_); rintro e w1 ⟨rfl, rfl⟩))
        | ((with_reducible refine gate (N := 26) rfl ?_); refine wpList_run rfl (.agg (rcells Rf.zero)) (by unfold execOp; go_simp; exact run_build_zero _) ?_)
        | ((with_reducible refine gateN rfl ?_); refine wp_store_roof rfl (.tmp 6) (.tmp 26) rfl (w.heap.size + 1) Rf.zero _ Rf.zero_ok Rf.zero_ok (block_below hb1 HW.out (by simp <;> omega)) rfl rfl ?_; intro w2 hw2 hg hsz; have HV := hid hw2; clear hw2))
      have b1 := HA.out.trans (hb1.mono (by simp <;> omega))
      exact bodyPost_ret (res_roof rfl _ _ (w.heap.size + 1) _ Rf.zero_ok _ rfl HV.out rfl) rfl ⟨rfl, b1.grown hg b1.size (fun k hk => by cases hk; omega)⟩
    all_goals
      obtain rfl := H9.out (by decide)
      clear H0 H9 H2
      go_enter Try.func20, Try.ntmps20
      go_wp2_with (first
        | (go_at_call 25; ((with_reducible refine (c_l01Course r hr _ c _ HR.out _ H1.out).mono ?_); rintro e w1 ⟨rfl, rfl⟩))
        | (go_at_call 24; ((with_reducible refine (c_l01ToldK r hr _ _ _ HK.out _ HR.out).mono ?_); rintro e w1 ⟨rfl, hb1⟩))
        | ((with_reducible refine gate (N := 16) rfl ?_); refine wpList_run rfl (.agg (rcells Rf.zero)) (by unfold execOp; go_simp; exact run_build_zero _) ?_)
        | ((with_reducible refine gateN rfl ?_); refine wp_store_roof rfl (.tmp 6) (.tmp 16) rfl (w.heap.size + 1) Rf.zero _ Rf.zero_ok Rf.zero_ok (block_below hb1 HW.out (by simp <;> omega)) rfl rfl ?_; intro w2 hw2 hg hsz; have HV := hid hw2; clear hw2))
      have b1 := HA.out.trans (hb1.mono (by simp <;> omega))
      exact bodyPost_ret (res_roof rfl _ _ (w.heap.size + 1) _ Rf.zero_ok _ rfl HV.out rfl) rfl ⟨rfl, b1.grown hg b1.size (fun k hk => by cases hk; omega)⟩
  refine key _ (inB n 1 (r.h - c)) _ (cutC r c n) _ rfl rfl (fun h => ⟨rfl, ?_⟩) (cutV_ok hr c n) (fun h => ⟨(cutC0 h).2, ?_⟩) (fun h => ?_) ?_
  · rcases codeOf_cases (validB r) (inB c 0 (r.h - 1)) with ⟨_, h1⟩ | ⟨_, _, h1⟩ | ⟨_, h1, _⟩
    · rw [h1] at h; cases h
    · rw [h1] at h; cases h
    · have := inB_iff.1 h1; have := hr.h2; exact IntWalk.i64_in _ (by omega)
  · unfold cutV; rw [if_pos h]
  · unfold cutV; rw [if_neg h]
  · unfold cutC
    cases validB r <;> cases inB c 0 (r.h - 1) <;> cases inB n 1 (r.h - c) <;> simp [codeOf]
end Go.Proofs.Yteglogiabooacaa
