/- Roofs and places as values: their cells, and how the walk reads them. -/
import Derived.Test.YtjcmdihadblodaaBase
namespace Go.Proofs.Ytjcmdihadblodaa
open Go.RowKit
set_option linter.unusedVariables false
set_option linter.unusedSimpArgs false

/-- A roof: Wide, High, Shift, and the 64 kinds. -/
structure Rf where
  w : Int
  h : Int
  s : Int
  t : List Int
/-- The numbers are of their kinds. -/
structure Rf.Ok (r : Rf) : Prop where
  w1 : -128 ≤ r.w
  w2 : r.w ≤ 127
  h1 : -128 ≤ r.h
  h2 : r.h ≤ 127
  s1 : 0 ≤ r.s
  s2 : r.s ≤ 255
  len : r.t.length = 64
  t1 : ∀ n ∈ r.t, 0 ≤ n ∧ n ≤ 255
/-- The kind at a course and an index. -/
def Rf.at (r : Rf) (i k : Nat) : Int := r.t.getD (8 * i + k) 0
theorem Rf.Ok.at {r : Rf} (h : r.Ok) (i k : Nat) : 0 ≤ r.at i k ∧ r.at i k ≤ 255 := by
  unfold Rf.at
  by_cases hj : 8 * i + k < r.t.length
  · have := h.t1 r.t[8 * i + k] (List.getElem_mem hj)
    simp [List.getD, List.getElem?_eq_getElem hj]; omega
  · simp [List.getD, List.getElem?_eq_none (by omega : r.t.length ≤ 8 * i + k)]
theorem Rf.ext_at {r r' : Rf} (h : r.Ok) (h' : r'.Ok) (hw : r.w = r'.w) (hh : r.h = r'.h) (hs : r.s = r'.s) (ht : ∀ i k, i < 8 → k < 8 → r.at i k = r'.at i k) : r = r' := by
  cases r with | mk w h0 s t =>
  cases r' with | mk w' h0' s' t' =>
  obtain rfl := hw; obtain rfl := hh; obtain rfl := hs
  congr 1
  apply List.ext_getElem?
  intro j
  by_cases hj : j < 64
  · have := ht (j / 8) (j % 8) (by omega) (by omega)
    unfold Rf.at at this
    have e : 8 * (j / 8) + j % 8 = j := by omega
    rw [e] at this
    have l1 : j < t.length := by rw [h.len]; exact hj
    have l2 : j < t'.length := by rw [h'.len]; exact hj
    simpa [List.getD, List.getElem?_eq_getElem l1, List.getElem?_eq_getElem l2] using this
  · rw [List.getElem?_eq_none (by rw [h.len]; omega), List.getElem?_eq_none (by rw [h'.len]; omega)]
/-- The cells of the 64 kinds; of one course; of the whole roof. -/
def tcells (t : List Int) : Array Value := (t.map (Value.int .u8)).toArray
def trow (t : List Int) (i : Nat) : List Int := (t.drop (8 * i)).take 8
def rcells (r : Rf) : Array Value := (Value.int .i8 r.w :: Value.int .i8 r.h :: Value.int .u8 r.s :: r.t.map (Value.int .u8)).toArray
@[go_sem] theorem rc0 (r : Rf) : (rcells r)[0]? = some (.int .i8 r.w) := by simp [rcells]
@[go_sem] theorem rc1 (r : Rf) : (rcells r)[1]? = some (.int .i8 r.h) := by simp [rcells]
@[go_sem] theorem rc2 (r : Rf) : (rcells r)[2]? = some (.int .u8 r.s) := by simp [rcells]
theorem size_tcells (t : List Int) : (tcells t).size = t.length := by simp [tcells]
@[go_sem] theorem size_rcells (r : Rf) : (rcells r).size = 3 + r.t.length := by simp [rcells]; omega
theorem rct (r : Rf) (h : r.Ok) (j : Nat) (hj : j < 64) : (rcells r)[3 + j]? = some (.int .u8 (r.t.getD j 0)) := by
  have hl : j < r.t.length := by rw [h.len]; exact hj
  have e : 3 + j = j + 1 + 1 + 1 := by omega
  rw [e]
  simp only [rcells, List.getElem?_toArray, List.getElem?_cons_succ, List.getElem?_map, List.getElem?_eq_getElem hl, Option.map_some, List.getD, Option.getD_some]
theorem tc_at (t : List Int) (j : Nat) (hj : j < t.length) : (tcells t)[j]? = some (.int .u8 (t.getD j 0)) := by
  simp only [tcells, List.getElem?_toArray, List.getElem?_map, List.getElem?_eq_getElem hj, Option.map_some, List.getD, Option.getD_some]
theorem extract_tcells (t : List Int) (i : Nat) : (tcells t).extract (i * 8) (i * 8 + 8) = tcells (trow t i) := by
  apply Array.toList_inj.1
  simp [tcells, trow, Array.toList_extract, List.map_drop, List.map_take, Nat.mul_comm]
theorem len_trow (t : List Int) (ht : t.length = 64) (i : Nat) (hi : i < 8) : (trow t i).length = 8 := by simp [trow, ht]; omega
theorem trow_at (t : List Int) (i k : Nat) (hk : k < 8) : (trow t i).getD k 0 = t.getD (8 * i + k) 0 := by
  simp [trow, List.getD, List.getElem?_take, hk, List.getElem?_drop]
theorem range_tiles {W : World} {b : Nat} {r : Rf} {T : TypeId} {fr : Nat × Nat} (hb : W.heap[b]? = some (.cells (rcells r) T fr)) : W.rangeAt b 3 (r.t.map (Value.int .u8)) := fun j v hv => by
  rw [cell_of_row W b (3 + j) _ _ _ hb]
  have e : 3 + j = j + 1 + 1 + 1 := by omega
  rw [e]
  simpa [rcells] using hv
theorem range_roof {W : World} {b : Nat} {r : Rf} {T : TypeId} {fr : Nat × Nat} (hb : W.heap[b]? = some (.cells (rcells r) T fr)) : W.rangeAt b 0 (rcells r).toList := fun j v hv => by
  rw [cell_of_row W b (0 + j) _ _ _ hb]
  simpa using hv
theorem range_row {W : World} {b : Nat} {t : List Int} {T : TypeId} {fr : Nat × Nat} (hb : W.heap[b]? = some (.cells (tcells t) T fr)) : W.rangeAt b 0 (t.map (Value.int .u8)) := fun j v hv => by
  rw [cell_of_row W b (0 + j) _ _ _ hb]
  simpa [tcells] using hv
/-- A course in the midst of a block that holds kinds from offset o on. -/
theorem range_mid {W : World} {b o : Nat} {cs : Array Value} {t : List Int} {T : TypeId} {fr : Nat × Nat} (hb : W.heap[b]? = some (.cells cs T fr)) (hcs : ∀ j, j < t.length → cs[o + j]? = some (.int .u8 (t.getD j 0))) (i : Nat) (ht : t.length = 64) (hi : i < 8) :
    W.rangeAt b (o + i * 8) ((trow t i).map (Value.int .u8)) := fun j v hv => by
  have hj : j < 8 := by have := (List.getElem?_eq_some_iff.1 hv).1; simpa [len_trow t ht i hi] using this
  rw [cell_of_row W b (o + i * 8 + j) _ _ _ hb]
  have e : o + i * 8 + j = o + (8 * i + j) := by omega
  rw [e, hcs _ (by omega), ← trow_at t i j hj]
  have hl : j < (trow t i).length := by rw [len_trow t ht i hi]; exact hj
  rw [List.getElem?_map, List.getElem?_eq_getElem hl] at hv
  simp only [Option.map_some, Option.some.injEq] at hv
  rw [← hv, List.getD, List.getElem?_eq_getElem hl, Option.getD_some]
theorem rcells_one (r : Rf) : (rcells r).all (·.oneCell') = true := by simp [rcells, Value.oneCell']
theorem tcells_one (t : List Int) : (tcells t).all (·.oneCell') = true := by simp [tcells, Value.oneCell']
/-- The empty roof. -/
def Rf.zero : Rf := ⟨0, 0, 0, List.replicate 64 0⟩
theorem Rf.zero_ok : Rf.zero.Ok := ⟨by decide, by decide, by decide, by decide, by decide, by decide, by decide, by decide⟩

theorem Try.infoRow : (Try.prog.info? 30).map (·.size) = some 8 := by kernel_rfl
theorem Try.infoTiles : (Try.prog.info? 31).map (·.size) = some 64 := by kernel_rfl
theorem Try.infoRoof : (Try.prog.info? 38).map (·.size) = some 67 := by kernel_rfl
@[go_sem] theorem Try.zeroRoofCells : Try.zeroCells38 = rcells Rf.zero := by kernel_rfl
@[go_sem high] theorem Try.zeroRoof (w : World) : (zeroValue 38).run Try.prog w = .ok (.agg (rcells Rf.zero)) w := by kernel_rfl
section
variable {ops : Array Oper} {rest : List Oper} {o : Oper} {a : Act} {w : World} {Q : Exit → Act → World → Prop}
/-- All kinds, loaded out of a roof in memory. -/
theorem wp_tiles (hgd : o.guard = none) (x : Operand) (ho : o.op = .load 31 x) (b : Nat) (hx : a.eval x = .pointer (some ⟨b, 3, none⟩)) (r : Rf) (hr : r.Ok) {T : TypeId} {fr : Nat × Nat}
    (hb : w.heap[b]? = some (.cells (rcells r) T fr)) (h : wpList Try.prog ops Q rest (a.put o.dst (.agg (tcells r.t))) w) : wpList Try.prog ops Q (o :: rest) a w :=
  wpList_load_mid hgd 31 x ho b 3 hx (r.t.map (Value.int .u8)) _ (range_tiles hb) Try.underlying31 rfl (by rw [Try.infoTiles]; simp [hr.len]) h
theorem run_load_mid8 {w : World} {b o : Nat} {t : List Int} (ht : t.length = 8) (hr : w.rangeAt b o (t.map (Value.int .u8))) : (Instr.loadAt 30 (.pointer (some ⟨b, o, none⟩))).run Try.prog w = .ok (.agg (tcells t)) w :=
  run_loadAt_mid w b o 30 (t.map (Value.int .u8)) _ hr Try.underlying30 rfl (by rw [Try.infoRow]; simp [ht])
theorem run_load_roof (T' : TypeId) {d : TypeDesc} (hu : Try.prog.underlying T' = some d) (hd : d.isRow = true) (hi : (Try.prog.info? T').map (·.size) = some 67) {w : World} {b : Nat} {r : Rf} (hr : r.Ok) {T : TypeId} {fr : Nat × Nat} (hb : w.heap[b]? = some (.cells (rcells r) T fr)) :
    (Instr.loadAt T' (.pointer (some ⟨b, 0, none⟩))).run Try.prog w = .ok (.agg (rcells r)) w := by
  have := run_loadAt_mid w b 0 T' (rcells r).toList _ (range_roof hb) hu hd (by rw [hi]; simp [size_rcells, hr.len])
  simpa using this
/-- A whole roof, loaded. -/
theorem wp_roof (T' : TypeId) {d : TypeDesc} (hu : Try.prog.underlying T' = some d) (hd : d.isRow = true) (hi : (Try.prog.info? T').map (·.size) = some 67) (hgd : o.guard = none) (x : Operand) (ho : o.op = .load T' x) (b : Nat) (hx : a.eval x = .pointer (some ⟨b, 0, none⟩)) (r : Rf) (hr : r.Ok) {T : TypeId} {fr : Nat × Nat}
    (hb : w.heap[b]? = some (.cells (rcells r) T fr)) (h : wpList Try.prog ops Q rest (a.put o.dst (.agg (rcells r))) w) : wpList Try.prog ops Q (o :: rest) a w :=
  wpList_load_mid hgd T' x ho b 0 hx (rcells r).toList _ (range_roof hb) hu hd (by rw [hi]; simp [size_rcells, hr.len]) (by simpa using h)
/-- A course, loaded out of a block of its own. -/
theorem wp_row (hgd : o.guard = none) (x : Operand) (ho : o.op = .load 30 x) (b : Nat) (hx : a.eval x = .pointer (some ⟨b, 0, none⟩)) (t : List Int) (ht : t.length = 8) {T : TypeId} {fr : Nat × Nat}
    (hb : w.heap[b]? = some (.cells (tcells t) T fr)) (h : wpList Try.prog ops Q rest (a.put o.dst (.agg (tcells t))) w) : wpList Try.prog ops Q (o :: rest) a w :=
  wpList_load_mid hgd 30 x ho b 0 hx (t.map (Value.int .u8)) _ (range_row hb) Try.underlying30 rfl (by rw [Try.infoRow]; simp [ht]) h
/-- A course, stored into the block that was just laid for it. -/
theorem wp_store_row (hgd : o.guard = none) (x y : Operand) (ho : o.op = .store 30 x y) (cs : Array Value) (hs : cs.size = 8) (t : List Int) (ht : t.length = 8) {T : TypeId}
    (hx : a.eval x = .pointer (some ⟨w.heap.size, 0, none⟩)) (hy : a.eval y = .agg (tcells t))
    (h : wpList Try.prog ops Q rest (a.put o.dst undef) (w.alloc (.cells (tcells t) T))) : wpList Try.prog ops Q (o :: rest) a (w.alloc (.cells cs T)) :=
  wpList_store_new hgd 30 x y ho cs (tcells t) T hx hy (by rw [size_tcells, ht, hs]) (by rw [Try.infoRow, size_tcells, ht]) (tcells_one t) h
end
theorem res_roof {fn : Func} {p u : Tmp} (h : fn.results = #[.cell p 38, .tmp u]) (tmps : Array Value) (w : World) (g : Nat) (R : Rf) (hr : R.Ok) {T : TypeId} {fr : Nat × Nat} (v : Value) (hp : tmps.getD p undef = .pointer (some ⟨g, 0, none⟩))
    (hg : w.heap[g]? = some (.cells (rcells R) T fr)) (hv : tmps.getD u undef = v) : (results fn tmps).run Try.prog w = .ok (.tuple #[.agg (rcells R), v]) w := by
  have hl := run_loadVar_mid (P := Try.prog) w g 0 38 (rcells R).toList _ (range_roof hg) Try.underlying38 rfl (by rw [Try.infoRoof]; simp [size_rcells, hr.len])
  rw [results_cell_tmp h, hp, hv]
  have e : (rcells R).toList.toArray = rcells R := by simp
  rw [e] at hl
  simp [asAddr, hl]
/-- A whole roof stored into a block that holds one. -/
theorem wp_store_roof {ops : Array Oper} {rest : List Oper} {op : Oper} {a : Act} {W : World} {Q : Exit → Act → World → Prop} (hgd : op.guard = none) (x y : Operand) (ho : op.op = .store 38 x y) (b : Nat) (S R : Rf) (hs : S.Ok) (hr : R.Ok) {T : TypeId}
    (hb : W.heap[b]? = some (.cells (rcells S) T (0, 0))) (hx : a.eval x = .pointer (some ⟨b, 0, none⟩)) (hy : a.eval y = .agg (rcells R))
    (h : ∀ w2, w2.heap[b]? = some (.cells (rcells R) T (0, 0)) → W.grownBy w2 (some b) → w2.heap.size = W.heap.size → wpList Try.prog ops Q rest (a.put op.dst undef) w2) : wpList Try.prog ops Q (op :: rest) a W :=
  wpList_store_block hgd 38 x y ho b 0 (rcells S) (rcells R) (rcells R) T hb hx hy (by rw [size_rcells, size_rcells, hs.len, hr.len]; omega) (by rw [Try.infoRoof, size_rcells, hr.len]) (rcells_one R) (setAll_whole (by rw [size_rcells, size_rcells, hs.len, hr.len])) h
theorem run_build_zero (w : World) : (Instr.build 38 #[]).run Try.prog w = .ok (.agg (rcells Rf.zero)) w := by kernel_rfl
theorem run_build_roof (w : World) (a b c : Int) : (Instr.build 38 #[(0, .int .i8 a), (1, .int .i8 b), (2, .int .u8 c)]).run Try.prog w = .ok (.agg (rcells ⟨a, b, c, List.replicate 64 0⟩)) w := by kernel_rfl
theorem setAll_roof {cs : Array Value} {r : Rf} (hr : r.Ok) (hs : cs.size = 67) (h0 : cs[0]? = some (.int .i8 r.w)) (h1 : cs[1]? = some (.int .i8 r.h)) (h2 : cs[2]? = some (.int .u8 r.s)) : setAll cs 3 (tcells r.t).toList = rcells r := by
  apply setAll_eq
  · simp [size_tcells, hr.len, hs]
  · simp [size_rcells, hr.len, hs]
  · intro j hj
    by_cases h : 3 ≤ j ∧ j < 3 + (tcells r.t).toList.length
    · rw [if_pos h, Array.getElem?_toList]
      have hj2 : j - 3 < 64 := by simp [size_tcells, hr.len] at h; omega
      have e : j = 3 + (j - 3) := by omega
      rw [tc_at _ _ (by rw [hr.len]; exact hj2), e, rct r hr _ hj2, ← e]
    · rw [if_neg h]
      have : j < 3 := by simp [size_tcells, hr.len] at h; omega
      match j, this with
      | 0, _ => rw [h0]; exact rc0 r
      | 1, _ => rw [h1]; exact rc1 r
      | 2, _ => rw [h2]; exact rc2 r
/-- A course out of the kinds. -/
theorem run_tiles (w : World) (t : List Int) (k : IntKind) (i : Nat) (hi : i < 8) : (Instr.index 31 (.agg (tcells t)) (.int k (i : Int))).run Try.prog w = .ok (.agg (tcells (trow t i))) w := by
  rw [run_index_row w _ 30 8 8 5 _ k i Try.underlying31 Try.underlying30 Try.infoRow hi, extract_tcells]
/-- A kind out of a course. -/
theorem run_kind (w : World) (t : List Int) (ht : t.length = 8) (k : IntKind) (i : Nat) (hi : i < 8) : (Instr.index 30 (.agg (tcells t)) (.int k (i : Int))).run Try.prog w = .ok (.int .u8 (t.getD i 0)) w := by
  have h1 : (0 : Int) ≤ (i : Int) ∧ (i : Int) < ((8 : Nat) : Int) := ⟨by omega, by omega⟩
  have hq : (Try.prog.info? 5).map (·.size) = some 1 := by kernel_rfl
  have ha : (isAgg 5).run Try.prog w = .ok false w := by kernel_rfl
  cases hi' : Try.prog.info? 5 with
  | none => simp [hi'] at hq
  | some inf =>
    have hs : inf.size = 1 := by simpa [hi'] using hq
    have := tc_at t i (by omega)
    simp only [Instr.index, asIntOf, Sem.run_bind, Sem.run_pure, Result.andThen_ok, run_underlying Try.underlying30 w]
    rw [if_pos h1]
    simp [part, ha, sizeOf, typeInfo, hi', hs, Sem.run_bind, this]
end Go.Proofs.Ytjcmdihadblodaa
