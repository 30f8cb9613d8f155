/- Roofs compared. -/
import Derived.Test.YtajopobhpfajfaaRoof
namespace Go.Proofs.Ytajopobhpfajfaa
open Go.RowKit
set_option linter.unusedSimpArgs false
set_option linter.unusedVariables false

theorem run_equalIn_arr {P : Program} (w : World) (d : Nat) (t elem : TypeId) (len n : Nat) (xs ys : Array Value) (ht : P.underlying t = some (.array len elem)) (hn : (sizeOf elem).run P w = .ok n w) (f : Nat → Bool)
    (hf : ∀ i, i < len → ∃ a b, (part elem xs (i * n)).run P w = .ok a w ∧ (part elem ys (i * n)).run P w = .ok b w ∧ (Op.equalIn d elem a b).run P w = .ok (f i) w) :
    (Op.equalIn (d + 1) t (.agg xs) (.agg ys)).run P w = .ok ((List.range len).all f) w := by
  simp only [Op.equalIn, Sem.run_bind, run_underlying ht, Result.andThen_ok, hn]
  rw [Std.Legacy.Range.forIn_eq_forIn_range']
  simp only [Std.Legacy.Range.size, Nat.sub_zero, Nat.add_sub_cancel, Nat.div_one, List.range_eq_range']
  generalize hl : List.range' 0 len 1 = l
  have hm : ∀ i ∈ l, i < len := fun i hi => by rw [← hl] at hi; simp at hi; exact hi
  clear hl
  induction l with
  | nil => simp
  | cons i l ih =>
    obtain ⟨a, b, h1, h2, h3⟩ := hf i (hm i (List.mem_cons_self))
    have ih' := ih (fun j hj => hm j (List.mem_cons_of_mem _ hj))
    simp only [List.forIn_cons, Sem.run_bind, h1, h2, h3, Result.andThen_ok, Sem.run_ite]
    cases hfi : f i
    · simp [hfi]
    · simpa [hfi] using ih'
theorem all_beq (a b : List Int) (n : Nat) (ha : a.length = n) (hb : b.length = n) : ((List.range n).all fun i => a.getD i 0 == b.getD i 0) = (a == b) := by
  rw [Bool.eq_iff_iff]
  simp only [List.all_eq_true, List.mem_range, beq_iff_eq]
  constructor
  · intro h
    apply List.ext_getElem (by omega)
    intro i h1 h2
    have := h i (by omega)
    simpa [List.getD, List.getElem?_eq_getElem h1, List.getElem?_eq_getElem h2] using this
  · rintro rfl i _; rfl
theorem run_part_kind (w : World) (t : List Int) (i : Nat) (hi : i < t.length) : (part 5 (tcells t) i).run Try.prog w = .ok (.int .u8 (t.getD i 0)) w := by
  have ha : (isAgg 5).run Try.prog w = .ok false w := by kernel_rfl
  simp [part, ha, Sem.run_bind, tc_at t i hi]
theorem run_part_row (w : World) (t : List Int) (i : Nat) : (part 26 (tcells t) (i * 8)).run Try.prog w = .ok (.agg (tcells (trow t i))) w := by
  have ha := run_isAgg_array Try.underlying26 w
  have hs := Try.infoRow
  cases hq : Try.prog.info? 26 with
  | none => simp [hq] at hs
  | some inf =>
    have hs' : inf.size = 8 := by simpa [hq] using hs
    simp [part, ha, sizeOf, typeInfo, hq, hs', Sem.run_bind, extract_tcells]
theorem run_eq_row (w : World) (d : Nat) (a b : List Int) (ha : a.length = 8) (hb : b.length = 8) : (Op.equalIn (d + 2) 26 (.agg (tcells a)) (.agg (tcells b))).run Try.prog w = .ok (a == b) w := by
  have hz : (sizeOf 5).run Try.prog w = .ok 1 w := by kernel_rfl
  rw [run_equalIn_arr w (d + 1) _ _ 8 1 _ _ Try.underlying26 hz (fun i => a.getD i 0 == b.getD i 0), all_beq a b 8 ha hb]
  intro i hi
  refine ⟨_, _, ?_, ?_, run_equalIn_int w d _ .u8 .u8 _ _ Try.underlying5⟩
  · rw [Nat.mul_one]; exact run_part_kind w a i (by omega)
  · rw [Nat.mul_one]; exact run_part_kind w b i (by omega)
theorem rows_eq (a b : List Int) (ha : a.length = 64) (hb : b.length = 64) : ((List.range 8).all fun i => trow a i == trow b i) = (a == b) := by
  rw [Bool.eq_iff_iff]
  simp only [List.all_eq_true, List.mem_range, beq_iff_eq]
  constructor
  · intro h
    apply List.ext_getElem (by omega)
    intro j h1 h2
    have h3 := trow_at a (j / 8) (j % 8) (by omega)
    have h4 := trow_at b (j / 8) (j % 8) (by omega)
    rw [h (j / 8) (by omega), h4] at h3
    have e : 8 * (j / 8) + j % 8 = j := by omega
    rw [e] at h3
    simpa [List.getD, List.getElem?_eq_getElem h1, List.getElem?_eq_getElem h2] using h3.symm
  · rintro rfl i _; rfl
theorem run_eq_tiles (w : World) (d : Nat) (a b : List Int) (ha : a.length = 64) (hb : b.length = 64) : (Op.equalIn (d + 3) 27 (.agg (tcells a)) (.agg (tcells b))).run Try.prog w = .ok (a == b) w := by
  have hz : (sizeOf 26).run Try.prog w = .ok 8 w := by kernel_rfl
  rw [run_equalIn_arr w (d + 2) _ _ 8 8 _ _ Try.underlying27 hz (fun i => trow a i == trow b i), rows_eq a b ha hb]
  intro i hi
  exact ⟨_, _, run_part_row w a i, run_part_row w b i, run_eq_row w d _ _ (len_trow a ha i hi) (len_trow b hb i hi)⟩
/-- Whether two roofs are equal. -/
def eqRf (a b : Rf) : Bool := (a.w == b.w) && ((a.h == b.h) && ((a.s == b.s) && (a.t == b.t)))
theorem eqRf_iff {a b : Rf} : eqRf a b = true ↔ a = b := by
  cases a; cases b; simp [eqRf]
theorem eqRf_self (a : Rf) : eqRf a a = true := eqRf_iff.2 rfl
theorem run_eql_roof (w : World) (a b : Rf) (ha : a.Ok) (hb : b.Ok) : (binOp .eql 31 (.agg (rcells a)) (.agg (rcells b))).run Try.prog w = .ok (.bool (eqRf a b)) w := by
  have hS : Try.prog.underlying 31 = some (.struct (Try.prog.fieldsOf 31)) := by kernel_rfl
  have hp : Try.prog.stoodInHeld 31 = false := by kernel_rfl
  have p0 : ∀ r : Rf, (part 25 (rcells r) 0).run Try.prog w = .ok (.int .i8 r.w) w := fun r => by
    have h : (isAgg 25).run Try.prog w = .ok false w := by kernel_rfl
    simp [part, h, Sem.run_bind, rc0]
  have p1 : ∀ r : Rf, (part 25 (rcells r) 1).run Try.prog w = .ok (.int .i8 r.h) w := fun r => by
    have h : (isAgg 25).run Try.prog w = .ok false w := by kernel_rfl
    simp [part, h, Sem.run_bind, rc1]
  have p2 : ∀ r : Rf, (part 5 (rcells r) 2).run Try.prog w = .ok (.int .u8 r.s) w := fun r => by
    have h : (isAgg 5).run Try.prog w = .ok false w := by kernel_rfl
    simp [part, h, Sem.run_bind, rc2]
  have p3 : ∀ r : Rf, r.Ok → (part 27 (rcells r) 3).run Try.prog w = .ok (.agg (tcells r.t)) w := fun r hr => by
    have h := run_isAgg_array Try.underlying27 w
    have hs := Try.infoTiles
    cases hq : Try.prog.info? 27 with
    | none => simp [hq] at hs
    | some inf =>
      have hs' : inf.size = 64 := by simpa [hq] using hs
      have e : (rcells r).extract 3 67 = tcells r.t := by
        apply Array.toList_inj.1
        simp only [rcells, tcells, List.extract_toArray, List.extract_eq_take_drop, List.drop_succ_cons, List.drop_zero]
        exact List.take_of_length_le (by simp [hr.len])
      simp [part, h, sizeOf, typeInfo, hq, hs', Sem.run_bind, e]
  have q3 := run_eq_tiles w 9996 a.t b.t ha.len hb.len
  have q0 := run_equalIn_int (P := Try.prog) w 9998 25 .i8 .i8 a.w b.w Try.underlying25
  have q1 := run_equalIn_int (P := Try.prog) w 9998 25 .i8 .i8 a.h b.h Try.underlying25
  have q2 := run_equalIn_int (P := Try.prog) w 9998 5 .u8 .u8 a.s b.s Try.underlying5
  rw [run_eql_struct, show (10000 : Nat) = 9999 + 1 from rfl, run_equalIn_agg w 9999 31 _ _ hS hp]
  simp only [Program.fieldsOf, Try.underlying31]
  simp only [Op.eqFields, Sem.run_bind, Sem.run_ite, p0, p1, p2, p3 a ha, p3 b hb, q0, q1, q2, q3, Result.andThen_ok]
  unfold eqRf
  by_cases h0 : a.w = b.w <;> by_cases h1 : a.h = b.h <;> by_cases h2 : a.s = b.s <;> by_cases h3 : a.t = b.t <;> simp [h0, h1, h2, h3]
end Go.Proofs.Ytajopobhpfajfaa
