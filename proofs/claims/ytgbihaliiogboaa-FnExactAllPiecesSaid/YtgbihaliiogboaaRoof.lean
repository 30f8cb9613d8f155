/- Roofs and places as values: their cells, and how the walk reads them. -/
import Derived.Test.YtgbihaliiogboaaBase
namespace Go.Proofs.Ytgbihaliiogboaa
open Go.RowKit
set_option linter.unusedVariables false
set_option linter.unusedSimpArgs false

/-- A roof: Wide, High, Shift, and the 64 kinds. -/
structure Rf where
  w : Int
  h : Int
  s : Int
  t : List Int
/-- The numbers are of their kinds. -/
structure Rf.Ok (r : Rf) : Prop where
  w1 : -128 ≤ r.w
  w2 : r.w ≤ 127
  h1 : -128 ≤ r.h
  h2 : r.h ≤ 127
  s1 : 0 ≤ r.s
  s2 : r.s ≤ 255
  len : r.t.length = 64
  t1 : ∀ n ∈ r.t, 0 ≤ n ∧ n ≤ 255
/-- The kind at a course and an index. -/
def Rf.at (r : Rf) (i k : Nat) : Int := r.t.getD (8 * i + k) 0
theorem Rf.Ok.at {r : Rf} (h : r.Ok) (i k : Nat) : 0 ≤ r.at i k ∧ r.at i k ≤ 255 := by
  unfold Rf.at
  by_cases hj : 8 * i + k < r.t.length
  · have := h.t1 r.t[8 * i + k] (List.getElem_mem hj)
    simp [List.getD, List.getElem?_eq_getElem hj]; omega
  · simp [List.getD, List.getElem?_eq_none (by omega : r.t.length ≤ 8 * i + k)]
theorem Rf.ext_at {r r' : Rf} (h : r.Ok) (h' : r'.Ok) (hw : r.w = r'.w) (hh : r.h = r'.h) (hs : r.s = r'.s) (ht : ∀ i k, i < 8 → k < 8 → r.at i k = r'.at i k) : r = r' := by
  cases r with | mk w h0 s t =>
  cases r' with | mk w' h0' s' t' =>
  obtain rfl := hw; obtain rfl := hh; obtain rfl := hs
  congr 1
  apply List.ext_getElem?
  intro j
  by_cases hj : j < 64
  · have := ht (j / 8) (j % 8) (by omega) (by omega)
    unfold Rf.at at this
    have e : 8 * (j / 8) + j % 8 = j := by omega
    rw [e] at this
    have l1 : j < t.length := by rw [h.len]; exact hj
    have l2 : j < t'.length := by rw [h'.len]; exact hj
    simpa [List.getD, List.getElem?_eq_getElem l1, List.getElem?_eq_getElem l2] using this
  · rw [List.getElem?_eq_none (by rw [h.len]; omega), List.getElem?_eq_none (by rw [h'.len]; omega)]
/-- The cells of the 64 kinds; of one course; of the whole roof. -/
def tcells (t : List Int) : Array Value := (t.map (Value.int .u8)).toArray
def trow (t : List Int) (i : Nat) : List Int := (t.drop (8 * i)).take 8
def rcells (r : Rf) : Array Value := (Value.int .i8 r.w :: Value.int .i8 r.h :: Value.int .u8 r.s :: r.t.map (Value.int .u8)).toArray
@[go_sem] theorem rc0 (r : Rf) : (rcells r)[0]? = some (.int .i8 r.w) := by simp [rcells]
@[go_sem] theorem rc1 (r : Rf) : (rcells r)[1]? = some (.int .i8 r.h) := by simp [rcells]
@[go_sem] theorem rc2 (r : Rf) : (rcells r)[2]? = some (.int .u8 r.s) := by simp [rcells]
theorem size_tcells (t : List Int) : (tcells t).size = t.length := by simp [tcells]
@[go_sem] theorem size_rcells (r : Rf) : (rcells r).size = 3 + r.t.length := by simp [rcells]; omega
theorem rct (r : Rf) (h : r.Ok) (j : Nat) (hj : j < 64) : (rcells r)[3 + j]? = some (.int .u8 (r.t.getD j 0)) := by
  have hl : j < r.t.length := by rw [h.len]; exact hj
  have e : 3 + j = j + 1 + 1 + 1 := by omega
  rw [e]
  simp only [rcells, List.getElem?_toArray, List.getElem?_cons_succ, List.getElem?_map, List.getElem?_eq_getElem hl, Option.map_some, List.getD, Option.getD_some]
theorem tc_at (t : List Int) (j : Nat) (hj : j < t.length) : (tcells t)[j]? = some (.int .u8 (t.getD j 0)) := by
  simp only [tcells, List.getElem?_toArray, List.getElem?_map, List.getElem?_eq_getElem hj, Option.map_some, List.getD, Option.getD_some]
theorem extract_tcells (t : List Int) (i : Nat) : (tcells t).extract (i * 8) (i * 8 + 8) = tcells (trow t i) := by
  apply Array.toList_inj.1
  simp [tcells, trow, Array.toList_extract, List.map_drop, List.map_take, Nat.mul_comm]
theorem len_trow (t : List Int) (ht : t.length = 64) (i : Nat) (hi : i < 8) : (trow t i).length = 8 := by simp [trow, ht]; omega
theorem trow_at (t : List Int) (i k : Nat) (hk : k < 8) : (trow t i).getD k 0 = t.getD (8 * i + k) 0 := by
  simp [trow, List.getD, List.getElem?_take, hk, List.getElem?_drop]
theorem range_tiles {W : World} {b : Nat} {r : Rf} {T : TypeId} {fr : Nat × Nat} (hb : W.heap[b]? = some (.cells (rcells r) T fr)) : W.rangeAt b 3 (r.t.map (Value.int .u8)) := fun j v hv => by
  rw [cell_of_row W b (3 + j) _ _ _ hb]
  have e : 3 + j = j + 1 + 1 + 1 := by omega
  rw [e]
  simpa [rcells] using hv
theorem range_roof {W : World} {b : Nat} {r : Rf} {T : TypeId} {fr : Nat × Nat} (hb : W.heap[b]? = some (.cells (rcells r) T fr)) : W.rangeAt b 0 (rcells r).toList := fun j v hv => by
  rw [cell_of_row W b (0 + j) _ _ _ hb]
  simpa using hv
theorem range_row {W : World} {b : Nat} {t : List Int} {T : TypeId} {fr : Nat × Nat} (hb : W.heap[b]? = some (.cells (tcells t) T fr)) : W.rangeAt b 0 (t.map (Value.int .u8)) := fun j v hv => by
  rw [cell_of_row W b (0 + j) _ _ _ hb]
  simpa [tcells] using hv
/-- A course in the midst of a block that holds kinds from offset o on. -/
theorem range_mid {W : World} {b o : Nat} {cs : Array Value} {t : List Int} {T : TypeId} {fr : Nat × Nat} (hb : W.heap[b]? = some (.cells cs T fr)) (hcs : ∀ j, j < t.length → cs[o + j]? = some (.int .u8 (t.getD j 0))) (i : Nat) (ht : t.length = 64) (hi : i < 8) :
    W.rangeAt b (o + i * 8) ((trow t i).map (Value.int .u8)) := fun j v hv => by
  have hj : j < 8 := by have := (List.getElem?_eq_some_iff.1 hv).1; simpa [len_trow t ht i hi] using this
  rw [cell_of_row W b (o + i * 8 + j) _ _ _ hb]
  have e : o + i * 8 + j = o + (8 * i + j) := by omega
  rw [e, hcs _ (by omega), ← trow_at t i j hj]
  have hl : j < (trow t i).length := by rw [len_trow t ht i hi]; exact hj
  rw [List.getElem?_map, List.getElem?_eq_getElem hl] at hv
  simp only [Option.map_some, Option.some.injEq] at hv
  rw [← hv, List.getD, List.getElem?_eq_getElem hl, Option.getD_some]
theorem rcells_one (r : Rf) : (rcells r).all (·.oneCell') = true := by simp [rcells, Value.oneCell']
theorem tcells_one (t : List Int) : (tcells t).all (·.oneCell') = true := by simp [tcells, Value.oneCell']
/-- The empty roof. -/
def Rf.zero : Rf := ⟨0, 0, 0, List.replicate 64 0⟩
theorem Rf.zero_ok : Rf.zero.Ok := ⟨by decide, by decide, by decide, by decide, by decide, by decide, by decide, by decide⟩

section
variable {ops : Array Oper} {rest : List Oper} {o : Oper} {a : Act} {w : World} {Q : Exit → Act → World → Prop}
theorem run_load_roof (T' : TypeId) {d : TypeDesc} (hu : Try.prog.underlying T' = some d) (hd : d.isRow = true) (hi : (Try.prog.info? T').map (·.size) = some 67) {w : World} {b : Nat} {r : Rf} (hr : r.Ok) {T : TypeId} {fr : Nat × Nat} (hb : w.heap[b]? = some (.cells (rcells r) T fr)) :
    (Instr.loadAt T' (.pointer (some ⟨b, 0, none⟩))).run Try.prog w = .ok (.agg (rcells r)) w := by
  have := run_loadAt_mid w b 0 T' (rcells r).toList _ (range_roof hb) hu hd (by rw [hi]; simp [size_rcells, hr.len])
  simpa using this
/-- A whole roof, loaded. -/
theorem wp_roof (T' : TypeId) {d : TypeDesc} (hu : Try.prog.underlying T' = some d) (hd : d.isRow = true) (hi : (Try.prog.info? T').map (·.size) = some 67) (hgd : o.guard = none) (x : Operand) (ho : o.op = .load T' x) (b : Nat) (hx : a.eval x = .pointer (some ⟨b, 0, none⟩)) (r : Rf) (hr : r.Ok) {T : TypeId} {fr : Nat × Nat}
    (hb : w.heap[b]? = some (.cells (rcells r) T fr)) (h : wpList Try.prog ops Q rest (a.put o.dst (.agg (rcells r))) w) : wpList Try.prog ops Q (o :: rest) a w :=
  wpList_load_mid hgd T' x ho b 0 hx (rcells r).toList _ (range_roof hb) hu hd (by rw [hi]; simp [size_rcells, hr.len]) (by simpa using h)
end
theorem setAll_roof {cs : Array Value} {r : Rf} (hr : r.Ok) (hs : cs.size = 67) (h0 : cs[0]? = some (.int .i8 r.w)) (h1 : cs[1]? = some (.int .i8 r.h)) (h2 : cs[2]? = some (.int .u8 r.s)) : setAll cs 3 (tcells r.t).toList = rcells r := by
  apply setAll_eq
  · simp [size_tcells, hr.len, hs]
  · simp [size_rcells, hr.len, hs]
  · intro j hj
    by_cases h : 3 ≤ j ∧ j < 3 + (tcells r.t).toList.length
    · rw [if_pos h, Array.getElem?_toList]
      have hj2 : j - 3 < 64 := by simp [size_tcells, hr.len] at h; omega
      have e : j = 3 + (j - 3) := by omega
      rw [tc_at _ _ (by rw [hr.len]; exact hj2), e, rct r hr _ hj2, ← e]
    · rw [if_neg h]
      have : j < 3 := by simp [size_tcells, hr.len] at h; omega
      match j, this with
      | 0, _ => rw [h0]; exact rc0 r
      | 1, _ => rw [h1]; exact rc1 r
      | 2, _ => rw [h2]; exact rc2 r
end Go.Proofs.Ytgbihaliiogboaa
