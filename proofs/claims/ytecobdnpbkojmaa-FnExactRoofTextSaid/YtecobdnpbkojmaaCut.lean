/- CutRoof, the program's and the reference's. -/
import Derived.Test.YtecobdnpbkojmaaKindAt
import Derived.Test.YtecobdnpbkojmaaReg
import Derived.Laws.CopyRow
import Derived.Laws.CopyOwn
namespace Go.Proofs.Ytecobdnpbkojmaa
open Go.RowKit
set_option linter.unusedSimpArgs false
set_option linter.unusedVariables false

/-- 'copy' of whole rows. -/
theorem run_copy_rows {P : Program} (w : World) (dT sT ty elem : TypeId) (m g o dLen dCap : Nat) (a : Addr) (sLen sCap : Nat) (cur : Array Value) (t : TypeId) (cs : List Value)
    (hu : P.underlying dT = some (.slice elem)) (hs : (P.info? elem).map (·.size) = some m)
    (hg : w.heap[g]? = some (.cells cur t (0, 0))) (k : Nat) (hk : Nat.min sLen dLen = k) (hn : cs.length = k * m)
    (hsrc : ∀ j v, cs[j]? = some v → w.cell? (a.add j) = some v) (hfit : o + cs.length ≤ cur.size) (h1 : ∀ v ∈ cs, v.oneCell' = true) :
    (Builtin.copy_ #[dT, sT] ty #[.slice (some ⟨g, o, none⟩) dLen dCap, .slice (some a) sLen sCap]).run P w =
      .ok (goInt k) (w.setRow g (cur.toList.take o ++ cs ++ cur.toList.drop (o + cs.length)).toArray) := by
  have hl := run_loadCells_list (P := P) w a cs hsrc
  have hst := run_storeCells_at P g o t cs 0 cur w hg (by simpa using hfit) h1
  cases hq : P.info? elem with
  | none => simp [hq] at hs
  | some i =>
    have hi : i.size = m := by simpa [hq] using hs
    simp [Builtin.copy_, run_underlying hu, Builtin.lenOf, Builtin.firstCells, sizeOf, typeInfo, hq, hi, hk, ← hn, hl, hst]

theorem wpList_copy_rows {P : Program} {w : World} {ops : Array Oper} {rest : List Oper} {o : Oper} {a : Act} {Q : Exit → Act → World → Prop} (hgd : o.guard = none) (d s : Operand) (dT sT : TypeId)
    (ho : o.op = .call { callee := .builtin .copy, args := #[d, s], argTypes := #[dT, sT] }) (elem : TypeId) (m : Nat) (hu : P.underlying dT = some (.slice elem)) (hsz : (P.info? elem).map (·.size) = some m)
    (g off dLen dCap : Nat) (ad : Addr) (sLen sCap : Nat) (hd : a.eval d = .slice (some ⟨g, off, none⟩) dLen dCap) (hs : a.eval s = .slice (some ad) sLen sCap)
    (cur : Array Value) (t : TypeId) (hg : w.heap[g]? = some (.cells cur t (0, 0))) (cs : List Value) (k : Nat) (hk : Nat.min sLen dLen = k) (hn : cs.length = k * m)
    (hsrc : ∀ j v, cs[j]? = some v → w.cell? (ad.add j) = some v) (hfit : off + cs.length ≤ cur.size) (h1 : ∀ v ∈ cs, v.oneCell' = true)
    (res : Array Value) (hres : (cur.toList.take off ++ cs ++ cur.toList.drop (off + cs.length)).toArray = res)
    (h : ∀ w2, w2.heap[g]? = some (.cells res t (0, 0)) → w.grownBy w2 (some g) → w2.heap.size = w.heap.size → wpList P ops Q rest (a.put o.dst (goInt k)) w2) : wpList P ops Q (o :: rest) a w := by
  refine wpList_plain hgd fun K hK => ?_
  have hrun := run_copy_rows (P := P) w dT sT o.type elem m g off dLen dCap ad sLen sCap cur t cs hu hsz hg k hk hn hsrc hfit h1
  rw [hres] at hrun
  unfold Oper.wp
  simp [execOp, ho, resolve, invoke, builtin, hd, hs, hrun, Result.andThen]
  refine hK _ _ (h _ (setRow_heap w g _ _ t _ hg) ⟨rfl, rfl, rfl, by simp [World.setRow], fun k hk hne => setRow_other w g k _ (fun e => hne (by rw [e]))⟩ (by simp [World.setRow]))

/-- The kinds of some courses, moved to the top. -/
def cutT (t : List Int) (c n : Nat) : List Int := (List.range 64).map fun j => if j < 8 * n then t.getD (8 * c + j) 0 else 0
/-- The roof of some courses. -/
def cutR (r : Rf) (c n : Int) (k : Nat) : Rf := ⟨r.w, n, shiftOf r c, cutT r.t c.toNat k⟩
theorem cutR_ok {r : Rf} (hr : r.Ok) (c n : Int) (k : Nat) (hn : 0 ≤ n ∧ n ≤ 8) : (cutR r c n k).Ok := by
  have := shiftOf_01 r c
  refine ⟨hr.w1, hr.w2, ?_, ?_, ?_, ?_, by simp [cutR, cutT], fun v hv => ?_⟩
  · show -128 ≤ n; omega
  · show n ≤ 127; omega
  · show 0 ≤ shiftOf r c; omega
  · show shiftOf r c ≤ 255; omega
  · obtain ⟨j, _, rfl⟩ := List.mem_map.1 hv
    split
    · rw [List.getD_eq_getElem?_getD]
      cases h : r.t[8 * c.toNat + j]? with
      | none => simp
      | some x => exact hr.t1 x (List.mem_of_getElem? h)
    · omega
theorem cutT_zero (t : List Int) (c : Nat) : cutT t c 0 = List.replicate 64 0 := by
  have h : cutT t c 0 = (List.range 64).map (fun _ => (0 : Int)) := List.map_congr_left (fun j _ => by simp)
  rw [h, List.map_const', List.length_range]
theorem cut_copy (r : Rf) (hr : r.Ok) (c n : Int) (k : Nat) (hk : c.toNat + k ≤ 8) : ((rcells ⟨r.w, n, shiftOf r c, List.replicate 64 0⟩).toList.take 3 ++ ((r.t.drop (8 * c.toNat)).take (k * 8)).map (Value.int .u8) ++ (rcells ⟨r.w, n, shiftOf r c, List.replicate 64 0⟩).toList.drop (3 + (((r.t.drop (8 * c.toNat)).take (k * 8)).map (Value.int .u8)).length)).toArray = rcells (cutR r c n k) := by
  have hl : ((r.t.drop (8 * c.toNat)).take (k * 8)).length = 8 * k := by rw [List.length_take, List.length_drop, hr.len]; omega
  apply Array.toList_inj.1
  have e : (rcells (cutR r c n k)).toList = [.int .i8 r.w, .int .i8 n, .int .u8 (shiftOf r c)] ++ (cutT r.t c.toNat k).map (Value.int .u8) := by simp [rcells, cutR]
  have e0 : (rcells ⟨r.w, n, shiftOf r c, List.replicate 64 0⟩).toList = [.int .i8 r.w, .int .i8 n, .int .u8 (shiftOf r c)] ++ (List.replicate 64 (0 : Int)).map (Value.int .u8) := by simp [rcells]
  rw [e, e0]
  rw [List.length_map, hl]
  have e1 : ([Value.int .i8 r.w, .int .i8 n, .int .u8 (shiftOf r c)] ++ (List.replicate 64 (0 : Int)).map (Value.int .u8)).take 3 = [Value.int .i8 r.w, .int .i8 n, .int .u8 (shiftOf r c)] := rfl
  have e2 : ([Value.int .i8 r.w, .int .i8 n, .int .u8 (shiftOf r c)] ++ (List.replicate 64 (0 : Int)).map (Value.int .u8)).drop (3 + 8 * k) = ((List.replicate 64 (0 : Int)).map (Value.int .u8)).drop (8 * k) := by
    rw [← List.drop_drop]; rfl
  rw [e1, e2, List.append_assoc, ← List.map_drop, ← List.map_append]
  simp only [List.append_cancel_left_eq]
  congr 1
  apply List.ext_getElem?
  intro j
  have e3 : (cutT r.t c.toNat k)[j]? = if j < 64 then some (if j < 8 * k then r.t.getD (8 * c.toNat + j) 0 else 0) else none := by
    unfold cutT
    rw [List.getElem?_map]
    by_cases hj : j < 64
    · rw [List.getElem?_range hj, if_pos hj]; rfl
    · rw [List.getElem?_eq_none (by simp; omega), if_neg hj]; rfl
  rw [e3, List.getElem?_append, hl]
  by_cases hjk : j < 8 * k
  · rw [if_pos hjk, if_pos (by omega), if_pos hjk, List.getElem?_take, if_pos (by omega), List.getElem?_drop, List.getD_eq_getElem?_getD, List.getElem?_eq_getElem (by rw [hr.len]; omega)]; rfl
  · rw [if_neg hjk, List.getElem?_drop, if_neg hjk]
    by_cases hj : j < 64
    · rw [if_pos hj, List.getElem?_replicate, if_pos (by omega)]
    · rw [if_neg hj, List.getElem?_replicate, if_neg (by omega)]
/-- One operation whose run is known, the world too. -/
theorem wpList_runW {P : Program} {ops : Array Oper} {rest : List Oper} {o : Oper} {a : Act} {w w' : World} {Q : Exit → Act → World → Prop} (hgd : o.guard = none) (v : Value)
    (h : (execOp a.eval o).run P w = .ok (.value v) w') (k : wpList P ops Q rest (a.put o.dst v) w') : wpList P ops Q (o :: rest) a w :=
  wpList_plain hgd fun K hK => by unfold Oper.wp; rw [h]; exact hK _ _ k
/-- What CutRoof returns. -/
def cutC (r : Rf) (c n : Int) : Int := codeOf (validB r) (inB c 0 (r.h - 1) && inB n 1 (r.h - c))
def cutV (r : Rf) (c n : Int) : Rf := if cutC r c n = 0 then cutR r c n n.toNat else Rf.zero
theorem cutC0 {r : Rf} {c n : Int} (h : cutC r c n = 0) : validB r = true ∧ (1 ≤ r.h ∧ r.h ≤ 8) ∧ (0 ≤ c ∧ 1 ≤ n ∧ c + n ≤ 8) := by
  unfold cutC at h
  rcases codeOf_cases (validB r) (inB c 0 (r.h - 1) && inB n 1 (r.h - c)) with ⟨_, h1⟩ | ⟨_, _, h1⟩ | ⟨h1, h2, _⟩
  · rw [h1] at h; cases h
  · rw [h1] at h; cases h
  · rw [Bool.and_eq_true] at h2
    have := valid_head h1; have := inB_iff.1 h2.1; have := inB_iff.1 h2.2; exact ⟨h1, by omega⟩
theorem cutV_ok {r : Rf} (hr : r.Ok) (c n : Int) : (cutV r c n).Ok := by
  unfold cutV
  split
  · rename_i h; have := cutC0 h; exact cutR_ok hr _ _ _ (by omega)
  · exact Rf.zero_ok
/-- A course stored into a roof. -/
theorem set_row {r : Rf} (hr : r.Ok) {row : List Int} (hl : row.length = 8) {j : Nat} (hj : j < 8) {t' : List Int} (ht' : t'.length = 64) (h : ∀ n, n < 64 → t'.getD n 0 = if 8 * j ≤ n ∧ n < 8 * j + 8 then row.getD (n - 8 * j) 0 else r.t.getD n 0) : setAll (rcells r) (3 + j * 8) (tcells row).toList = rcells { r with t := t' } := by
  have hs : (rcells r).size = 67 := by rw [size_rcells, hr.len]
  have hts : (tcells row).toList.length = 8 := by simp [size_tcells, hl]
  have hr' : ∀ n, n < 64 → (rcells { r with t := t' })[3 + n]? = some (.int .u8 (t'.getD n 0)) := fun n hn => by
    have e : 3 + n = n + 1 + 1 + 1 := by omega
    have hn' : n < t'.length := by omega
    rw [e]
    simp only [rcells, List.getElem?_toArray, List.getElem?_cons_succ, List.getElem?_map, List.getElem?_eq_getElem hn', Option.map_some, List.getD, Option.getD_some]
  apply setAll_eq
  · rw [hts, hs]; omega
  · rw [hs, size_rcells, ht']
  · intro n hn
    rw [hts]
    rw [hs] at hn
    by_cases h3 : 3 ≤ n
    · have e : n = 3 + (n - 3) := by omega
      rw [e, hr' _ (by omega), h _ (by omega)]
      by_cases hc : 8 * j ≤ n - 3 ∧ n - 3 < 8 * j + 8
      · rw [if_pos hc, if_pos (by omega), Array.getElem?_toList, tc_at row _ (by omega)]
        congr 3; omega
      · rw [if_neg hc, if_neg (by omega), rct r hr _ (by omega)]
    · rw [if_neg (by omega)]
      match n, (by omega : n < 3) with
      | 0, _ => simp [rcells]
      | 1, _ => simp [rcells]
      | 2, _ => simp [rcells]
theorem cutT_getD (t : List Int) (c k n : Nat) (hn : n < 64) : (cutT t c k).getD n 0 = if n < 8 * k then t.getD (8 * c + n) 0 else 0 := by
  unfold cutT
  rw [List.getD_eq_getElem?_getD, List.getElem?_map, List.getElem?_range hn]; rfl
theorem cut_step (r : Rf) (hr : r.Ok) (i m j : Nat) (hm : m ≤ 8) (hj : j < m) (hij : i + j < 8) : setAll (rcells (cutR r i m j)) (3 + j * 8) (tcells (trow r.t (i + j))).toList = rcells (cutR r i m (j + 1)) := by
  refine set_row (cutR_ok hr i m j (by omega)) (len_trow r.t hr.len (i + j) hij) (by omega) (t' := cutT r.t i (j + 1)) (by simp [cutT]) fun n hn => ?_
  have e0 : (cutR r i m j).t = cutT r.t i j := by simp [cutR]
  rw [e0, cutT_getD _ _ _ _ hn, cutT_getD _ _ _ _ hn]
  by_cases h : 8 * j ≤ n ∧ n < 8 * j + 8
  · rw [if_pos (by omega), if_pos h, trow_at _ _ _ (by omega)]; congr 1; omega
  · rw [if_neg h]
    by_cases h2 : n < 8 * j
    · rw [if_pos (by omega), if_pos h2]
    · rw [if_neg (by omega), if_neg h2]
end Go.Proofs.Ytecobdnpbkojmaa
