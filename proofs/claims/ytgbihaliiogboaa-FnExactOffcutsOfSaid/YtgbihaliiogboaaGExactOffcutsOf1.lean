/- Texts of the claim FnExactOffcutsOf, part 1 of 5. -/
import Derived.Test.YtgbihaliiogboaaRows
import Derived.WalkKit
import Derived.WalkLawsBesides
import Derived.WalkSpells
import Derived.Deep.QuietTactic
import Derived.BigQuiet
import Derived.Deep.MidRow
import Derived.StillTailTactics
import Derived.Outline
import Derived.OpenShut
import Derived.ProofKit
import Derived.SizedLaws
import Derived.Laws.AppendOwn
import Derived.WalkSmall
import Derived.Deep.Onto
import Derived.Shelf.Abstract
import Derived.Test.YtgbihaliiogboaaProg
import Derived.ChangeOld
import Derived.ChangeSlices
/- Words for the walks of this seat: worlds above a world, roofs and places as values, the calls of the simplest functions. -/
namespace Go.Proofs.Ytgbihaliiogboaa
open Go.RowKit
set_option linter.unusedVariables false
set_option linter.unusedSimpArgs false

theorem hid {p : Prop} (h : p) : Hid p := h

theorem all_succ {p : Nat → Prop} {q : Nat} (h : ∀ k, k < q → p k) (hq : p q) : ∀ k, k < q + 1 → p k := fun k hk => by
  rcases Nat.lt_succ_iff_lt_or_eq.1 hk with h1 | h1
  · exact h k h1
  · exact h1 ▸ hq
theorem ret_bool {a b : Bool} (h : a = b) : Ending.returned (.bool a) = .returned (.bool b) := by rw [h]
theorem ret_int {k : IntKind} {a b : Int} (h : a = b) : Ending.returned (.int k a) = .returned (.int k b) := by rw [h]

/-! ### Worlds above a world -/
/-- A world that lies above W from block number B on. -/
structure Ext (B : Nat) (W : World) where
  w : World
  h : Below B W w
instance {B : Nat} {W : World} : Inhabited (Ext B W) := ⟨⟨W, Below.refl B W⟩⟩
def Ext.out {B : Nat} {W : World} (x : Ext B W) : World := x.w
theorem Ext.below {B : Nat} {W : World} (x : Ext B W) : Below B W x.out := x.h
@[go_sem] theorem Ext.cell {B : Nat} {W : World} (x : Ext B W) (b o : Nat) (h : b < B) : x.out.cell? ⟨b, o, none⟩ = W.cell? ⟨b, o, none⟩ := x.h.cell (p := ⟨b, o, none⟩) h
@[go_sem] theorem Ext.frozen {B : Nat} {W : World} (x : Ext B W) (b o : Nat) (h : b < B) : x.out.frozen? ⟨b, o, none⟩ = W.frozen? ⟨b, o, none⟩ := x.h.frozen (p := ⟨b, o, none⟩) h
theorem Ext.block {B : Nat} {W : World} (x : Ext B W) (b : Nat) (h : b < B) : x.out.heap[b]? = W.heap[b]? := x.h.block b h
theorem ext_of {B : Nat} {W w' : World} (h : Below B W w') : ∃ x : Ext B W, w' = x.out := ⟨⟨w', h⟩, rfl⟩

/-- One call more, above a world that stays. -/
theorem hstep {B : Nat} {W0 wr w1 : World} (hB : Hid (B ≤ W0.heap.size)) (h : Hid (Below B W0 wr)) (h1 : Below wr.heap.size wr w1) : Hid (Below B W0 w1) := h.out.trans (h1.mono (Nat.le_trans hB.out h.out.size))

/-- A region that draws its order, whose operations read below B, and whose callees turn nothing below B: walked once, in the order of the text. -/
theorem wp_region_ext {P : Program} {id : Nat} {Q : Exit → Act → World → Prop} {a : Act} {w : World} {l : List Oper} (B : Nat) (hm : P.follows .mixedOrders = true) (hB : Region.lexB .any l.toArray = true)
    (h : wpQuiet P l.toArray (fun w' => ∃ x : Ext B w, w' = x.out) (fun a' => ∀ x : Ext B w, Q .normal a' x.out) l a) : (Code.region id l.toArray true).wp P Q a w :=
  wp_region_quiet (C := fun w' => ∃ x : Ext B w, w' = x.out) hm hB ⟨⟨_, (Below.refl B w).drew⟩, rfl⟩ (by simpa using h)
/-- The same, from a world that already lies above another one. -/
theorem wp_region_ext' {P : Program} {id : Nat} {Q : Exit → Act → World → Prop} {a : Act} {B : Nat} {W : World} {y : Ext B W} {l : List Oper} (hm : P.follows .mixedOrders = true) (hB : Region.lexB .any l.toArray = true)
    (h : wpQuiet P l.toArray (fun w' => ∃ x : Ext B W, w' = x.out) (fun a' => ∀ x : Ext B W, Q .normal a' x.out) l a) : (Code.region id l.toArray true).wp P Q a y.out :=
  wp_region_quiet (C := fun w' => ∃ x : Ext B W, w' = x.out) hm hB ⟨⟨_, y.h.drew⟩, rfl⟩ (by simpa using h)

theorem Calls.ext {P : Program} {f : FuncId} {args : Array Value} {B : Nat} {W : World} {x : Ext B W} {v : Value} (hB : B ≤ W.heap.size)
    (h : Calls P f args x.out fun e w' => e = .returned v ∧ Below x.out.heap.size x.out w') : Calls P f args x.out fun e w' => e = .returned v ∧ ∃ y : Ext B W, w' = y.out :=
  h.mono fun _ _ ⟨he, hb⟩ => ⟨he, ⟨_, x.h.trans (hb.mono (Nat.le_trans hB x.h.size))⟩, rfl⟩
theorem Calls.ext_same {P : Program} {f : FuncId} {args : Array Value} {B : Nat} {W : World} {x : Ext B W} {v : Value}
    (h : Calls P f args x.out fun e w' => e = .returned v ∧ x.out = w') : Calls P f args x.out fun e w' => e = .returned v ∧ ∃ y : Ext B W, w' = y.out :=
  h.mono fun _ _ ⟨he, hb⟩ => ⟨he, x, hb.symm⟩
/-- A call out of the world W itself. -/
theorem Calls.ext0 {P : Program} {f : FuncId} {args : Array Value} {B : Nat} {W : World} {v : Value} (hB : B ≤ W.heap.size)
    (h : Calls P f args W fun e w' => e = .returned v ∧ Below W.heap.size W w') : Calls P f args W fun e w' => e = .returned v ∧ ∃ y : Ext B W, w' = y.out :=
  h.mono fun _ _ ⟨he, hb⟩ => ⟨he, ⟨_, hb.mono hB⟩, rfl⟩
theorem Calls.below {P : Program} {f : FuncId} {args : Array Value} {w : World} {v : Value} (h : Calls P f args w fun e w' => e = .returned v ∧ w = w') :
    Calls P f args w fun e w' => e = .returned v ∧ Below w.heap.size w w' := h.mono fun _ _ ⟨he, hw⟩ => ⟨he, hw ▸ Below.refl _ _⟩

/-- In a region that draws its order: one operation whose run is known in every world of the class. -/
theorem wpQuiet_run {P : Program} {ops : Array Oper} {C : World → Prop} {Q : Act → Prop} {a : Act} {o : Oper} {rest : List Oper} {N : Nat} (_ : o.dst = some N) (hgd : o.guard = none) (v : Value)
    (h : ∀ w', C w' → (execOp a.eval o).run P w' = .ok (.value v) w') (k : wpQuiet P ops C Q rest (a.put o.dst v)) : wpQuiet P ops C Q (o :: rest) a :=
  wpQuiet_step fun K hK => by
    rw [if_pos (by simp [Region.wanted, hgd])]
    exact ⟨v, fun w' hw' => by unfold Oper.quietAt; rw [h w' hw']; exact ⟨rfl, rfl⟩, hK _ k⟩
theorem execOp_load {P : Program} {o : Oper} {a : Act} {w : World} {t : TypeId} {x : Operand} {u v : Value} (ho : o.op = .load t x) (hx : a.eval x = u) (h : (Instr.loadAt t u).run P w = .ok v w) : (execOp a.eval o).run P w = .ok (.value v) w := by
  unfold execOp; simp [ho, hx, Sem.run_bind, h]
/-- '==' between two structs or arrays. -/
theorem execOp_eql {P : Program} {o : Oper} {a : Act} {w : World} {t t' : TypeId} {x y : Operand} {xs ys : Array Value} {v : Value} (ho : o.op = .binOp .eql t x y t') (hx : a.eval x = .agg xs) (hy : a.eval y = .agg ys) (hm : P.eqGuardType P.depth t = false)
    (h : (binOp .eql t (.agg xs) (.agg ys)).run P w = .ok v w) : (execOp a.eval o).run P w = .ok (.value v) w := by
  unfold execOp; simp [ho, hx, hy, Sem.run_bind, run_eqGuard_agg w .eql t x y xs ys hm, h]
/-- A region that draws its order, whose first n operations leave the world alone, and whose others come behind them in their order. -/
theorem wp_region_tail {P : Program} {id : Nat} {Q : Exit → Act → World → Prop} {a : Act} {w : World} {l : List Oper} (n : Nat) (hm : P.follows .mixedOrders = true) (hB : Region.lexTailB .any l.toArray n = true)
    (h : wpStill P l.toArray w.drew (fun a' => wpList P l.toArray Q (l.drop n) a' w.drew) (l.take n) a) : (Code.region id l.toArray true).wp P Q a w := wp_region_still_tail n hm hB h
/-- Only at the operation that writes slot N; only at one that writes none. -/
theorem gate {P : Program} {ops : Array Oper} {rest : List Oper} {o : Oper} {a : Act} {w : World} {Q : Exit → Act → World → Prop} {N : Nat} (_ : o.dst = some N) (k : wpList P ops Q (o :: rest) a w) : wpList P ops Q (o :: rest) a w := k
theorem gateN {P : Program} {ops : Array Oper} {rest : List Oper} {o : Oper} {a : Act} {w : World} {Q : Exit → Act → World → Prop} (_ : o.dst = none) (k : wpList P ops Q (o :: rest) a w) : wpList P ops Q (o :: rest) a w := k
/-- One operation whose run is known. -/
theorem wpList_run {P : Program} {ops : Array Oper} {rest : List Oper} {o : Oper} {a : Act} {w : World} {Q : Exit → Act → World → Prop} (hgd : o.guard = none) (v : Value)
    (h : (execOp a.eval o).run P w = .ok (.value v) w) (k : wpList P ops Q rest (a.put o.dst v) w) : wpList P ops Q (o :: rest) a w :=
  wpList_plain hgd fun _ hK => by unfold Oper.wp; rw [h]; exact hK _ _ k

/-- An index into an array value. -/
theorem wpList_index {P : Program} {ops : Array Oper} {rest : List Oper} {o : Oper} {a : Act} {w : World} {Q : Exit → Act → World → Prop} (hgd : o.guard = none) (t : TypeId) (x y : Operand) (ho : o.op = .index t x y)
    (u v res : Value) (hx : a.eval x = u) (hy : a.eval y = v) (h : (Instr.index t u v).run P w = .ok res w) (k : wpList P ops Q rest (a.put o.dst res) w) : wpList P ops Q (o :: rest) a w :=
  wpList_run hgd res (by unfold execOp; simp [ho, hx, hy, h]) k
/-- A whole array or struct stored into the block that was just laid: the block holds it. -/
theorem setCells_new (W : World) (E : TypeId) : ∀ (vs : List Value) (o : Nat) (pre : List Value) (post : List Value), o = pre.length → post.length = vs.length →
    (W.alloc (.cells (pre ++ post).toArray E)).setCells W.heap.size o vs = W.alloc (.cells (pre ++ vs).toArray E)
  | [], o, pre, post, _, hl => by
    have : post = [] := by cases post <;> simp_all
    subst this; rfl
  | v :: vs, o, pre, post, ho, hl => by
    cases post with
    | nil => simp at hl
    | cons p post =>
      rw [World.setCells]
      have e : (W.alloc (.cells (pre ++ p :: post).toArray E)).setCell ⟨W.heap.size, o, none⟩ v = W.alloc (.cells ((pre ++ [v]) ++ post).toArray E) := by
        rw [World.setCell_alloc_at _ _ _ _ _ rfl]
        congr 2
        subst ho
        simp
      rw [e, setCells_new W E vs (o + 1) (pre ++ [v]) post (by simp [ho]) (by simpa using hl)]
      simp
theorem setCells_new' (W : World) (E : TypeId) (cs cells : Array Value) (h : cs.size = cells.size) : (W.alloc (.cells cs E)).setCells W.heap.size 0 cells.toList = W.alloc (.cells cells E) := by
  have := setCells_new W E cells.toList 0 [] cs.toList rfl (by simpa using h)
  simpa using this
theorem there_new (W : World) (E : TypeId) (cs : Array Value) : (W.alloc (.cells cs E)).there W.heap.size 0 cs.size := fun j hj => by
  have hg := heap_alloc_new W (.cells cs E)
  refine ⟨?_, ?_⟩
  · rw [cell_of_row _ W.heap.size (0 + j) _ _ _ hg]; simp [hj]
  · exact frozen_of_row _ W.heap.size (0 + j) _ _ hg
theorem wpList_store_new {P : Program} {ops : Array Oper} {rest : List Oper} {op : Oper} {a : Act} {W : World} {Q : Exit → Act → World → Prop} (hgd : op.guard = none) (ty : TypeId) (x y : Operand) (ho : op.op = .store ty x y)
    (cs cells : Array Value) (E : TypeId) (hx : a.eval x = .pointer (some ⟨W.heap.size, 0, none⟩)) (hy : a.eval y = .agg cells) (hs : cs.size = cells.size) (hi : (P.info? ty).map (·.size) = some cells.size) (h1 : cells.all (·.oneCell') = true)
    (h : wpList P ops Q rest (a.put op.dst undef) (W.alloc (.cells cells E))) : wpList P ops Q (op :: rest) a (W.alloc (.cells cs E)) :=
  wpList_store_mid hgd ty x y ho W.heap.size 0 cells hx hy (by rw [← hs]; exact there_new W E cs) hi h1 (by rw [setCells_new' W E cs cells hs]; exact h)

/-- The cells of a block behind a store of several of them. -/
def setAll : Array Value → Nat → List Value → Array Value
  | cs, _, [] => cs
  | cs, o, v :: r => setAll (cs.setIfInBounds o v) (o + 1) r
theorem size_setAll : ∀ (vs : List Value) (cs : Array Value) (o : Nat), (setAll cs o vs).size = cs.size
  | [], _, _ => rfl
  | v :: r, cs, o => by rw [setAll, size_setAll r]; simp
theorem setAll_get : ∀ (vs : List Value) (cs : Array Value) (o j : Nat), o + vs.length ≤ cs.size → (setAll cs o vs)[j]? = if o ≤ j ∧ j < o + vs.length then vs[j - o]? else cs[j]?
  | [], cs, o, j, _ => by rw [setAll, if_neg (by simp)]
  | v :: r, cs, o, j, h => by
    simp only [List.length_cons] at h
    rw [setAll, setAll_get r _ _ j (by simp; omega), Array.getElem?_setIfInBounds]
    by_cases h1 : o = j
    · subst h1
      rw [if_neg (by omega), if_pos rfl, if_pos (by omega), if_pos ⟨Nat.le_refl _, by simp⟩]; simp
    · by_cases h2 : o + 1 ≤ j ∧ j < o + 1 + r.length
      · rw [if_pos h2, if_pos ⟨by omega, by simp; omega⟩]
        have e : j - o = (j - (o + 1)) + 1 := by omega
        rw [e]; simp
      · rw [if_neg h2, if_neg h1, if_neg (by simp; omega)]
/-- Two arrays that hold the same at each place. -/
theorem setAll_eq {cs cs' : Array Value} {o : Nat} {vs : List Value} (hl : o + vs.length ≤ cs.size) (hs : cs'.size = cs.size) (h : ∀ j, j < cs.size → cs'[j]? = if o ≤ j ∧ j < o + vs.length then vs[j - o]? else cs[j]?) : setAll cs o vs = cs' := by
  apply Array.ext_getElem?
  intro j
  rw [setAll_get vs cs o j hl]
  by_cases hj : j < cs.size
  · exact (h j hj).symm
  · rw [if_neg (by omega), Array.getElem?_eq_none (by omega), Array.getElem?_eq_none (by omega)]
theorem setCells_heap (b : Nat) (T : TypeId) : ∀ (vs : List Value) (o : Nat) (W : World) (cs : Array Value), W.heap[b]? = some (.cells cs T (0, 0)) →
    (W.setCells b o vs).heap[b]? = some (.cells (setAll cs o vs) T (0, 0)) ∧ W.grownBy (W.setCells b o vs) (some b) ∧ (W.setCells b o vs).heap.size = W.heap.size
  | [], _, W, cs, h => ⟨h, ⟨rfl, rfl, rfl, Nat.le_refl _, fun _ _ _ => rfl⟩, rfl⟩
  | v :: r, o, W, cs, h => by
    have h1 := heap_setCell_same W b o cs T v h
    obtain ⟨i1, i2, i3⟩ := setCells_heap b T r (o + 1) (W.setCell ⟨b, o, none⟩ v) (cs.setIfInBounds o v) h1
    refine ⟨i1, ⟨i2.os, i2.tape, i2.output, ?_, fun k hk hne => ?_⟩, ?_⟩
    · rw [World.setCells, i3]; simp [World.setCell]
    · rw [World.setCells, i2.block k (by simpa [World.setCell] using hk) hne]
      exact heap_setCell_other W ⟨b, o, none⟩ k v (fun e => hne (by simp [e]))
    · rw [World.setCells, i3]; simp [World.setCell]
theorem there_block {W : World} {b : Nat} {cs : Array Value} {T : TypeId} (hb : W.heap[b]? = some (.cells cs T (0, 0))) (o n : Nat) (h : o + n ≤ cs.size) : W.there b o n := fun j hj => by
  refine ⟨?_, frozen_of_row _ b (o + j) _ _ hb⟩
  rw [cell_of_row _ b (o + j) _ _ _ hb]
  have : o + j < cs.size := by omega
  simp [this]
/-- A whole array or struct stored into a block that is known, from an offset on. -/
theorem wpList_store_block {P : Program} {ops : Array Oper} {rest : List Oper} {op : Oper} {a : Act} {W : World} {Q : Exit → Act → World → Prop} (hgd : op.guard = none) (ty : TypeId) (x y : Operand) (ho : op.op = .store ty x y)
    (b o : Nat) (cs cells cs' : Array Value) (T : TypeId) (hb : W.heap[b]? = some (.cells cs T (0, 0))) (hx : a.eval x = .pointer (some ⟨b, o, none⟩)) (hy : a.eval y = .agg cells) (hl : o + cells.size ≤ cs.size)
    (hi : (P.info? ty).map (·.size) = some cells.size) (h1 : cells.all (·.oneCell') = true) (he : setAll cs o cells.toList = cs')
    (h : ∀ w2, w2.heap[b]? = some (.cells cs' T (0, 0)) → W.grownBy w2 (some b) → w2.heap.size = W.heap.size → wpList P ops Q rest (a.put op.dst undef) w2) : wpList P ops Q (op :: rest) a W := by
  obtain ⟨i1, i2, i3⟩ := setCells_heap b T cells.toList o W cs hb
  rw [he] at i1
  exact wpList_store_mid hgd ty x y ho b o cells hx hy (there_block hb o cells.size hl) hi h1 (h _ i1 i2 i3)
theorem setAll_whole {cs cells : Array Value} (h : cs.size = cells.size) : setAll cs 0 cells.toList = cells :=
  setAll_eq (by simp [h]) h.symm fun j hj => by rw [if_pos ⟨Nat.zero_le _, by simp; omega⟩]; simp

theorem block_lt {W : World} {b : Nat} {o : Obj} (h : W.heap[b]? = some o) : b < W.heap.size := (Array.getElem?_eq_some_iff.1 h).1
theorem block_alloc {W : World} {b : Nat} {o : Obj} (h : W.heap[b]? = some o) (o' : Obj) : (W.alloc o').heap[b]? = some o := by rw [heap_alloc_old _ _ (block_lt h)]; exact h
theorem block_new1 {n : Nat} (W : World) (o : Obj) (h : n = W.heap.size) : (W.alloc o).heap[n]? = some o := h ▸ heap_alloc_new W o
theorem block_set_other {W : World} {b : Nat} {o : Obj} (h : W.heap[b]? = some o) {a : Addr} (v : Value) (hne : b ≠ a.block) : (W.setCell a v).heap[b]? = some o := (heap_setCell_other W a b v hne).trans h
theorem block_below {B : Nat} {W W' : World} (hb : Below B W W') {b : Nat} {o : Obj} (h : W.heap[b]? = some o) (hlt : b < B) : W'.heap[b]? = some o := (hb.block b hlt).trans h
theorem block_grown {W W' : World} {b row : Nat} {o : Obj} (hg : W.grownBy W' (some row)) (h : W.heap[b]? = some o) (hne : b ≠ row) : W'.heap[b]? = some o := (hg.block b (block_lt h) (fun e => hne (by simpa using e))).trans h
theorem cell_block {W : World} {b j : Nat} {cs : Array Value} {T : TypeId} {fr : Nat × Nat} {v : Value} (h : W.heap[b]? = some (.cells cs T fr)) (hv : cs[j]? = some v) : W.cell? ⟨b, j, none⟩ = some v := (cell_of_row W b j cs T fr h).trans hv

/-! ### Arrays as values -/
theorem run_isAgg_array {P : Program} {t : TypeId} {n : Nat} {e : TypeId} (h : P.underlying t = some (.array n e)) (w : World) : (isAgg t).run P w = .ok true w := by
  unfold isAgg
  rw [Sem.run_bind, run_underlying h w]
  rfl
/-- An element that is itself an array, out of an array value. -/
theorem run_index_row {P : Program} (w : World) (t e : TypeId) (n m : Nat) (e' : TypeId) (cs : Array Value) (k : IntKind) (i : Nat) (hu : P.underlying t = some (.array n e)) (he : P.underlying e = some (.array m e'))
    (hs : (P.info? e).map (·.size) = some m) (hi : i < n) : (Instr.index t (.agg cs) (.int k (i : Int))).run P w = .ok (.agg (cs.extract (i * m) (i * m + m))) w := by
  have ha := run_isAgg_array he w
  cases hq : P.info? e with
  | none => simp [hq] at hs
  | some inf =>
    have hs' : inf.size = m := by simpa [hq] using hs
    have h1 : (0 : Int) ≤ (i : Int) ∧ (i : Int) < (n : Int) := ⟨by omega, by omega⟩
    simp [Instr.index, asIntOf, run_underlying hu w, part, ha, sizeOf, typeInfo, hq, hs', h1, Sem.run_bind]
    omega
end Go.Proofs.Ytgbihaliiogboaa

/- The calls of the functions on numbers alone. -/
namespace Go.Proofs.Ytgbihaliiogboaa
open Go.RowKit
set_option linter.unusedVariables false
set_option linter.unusedSimpArgs false

/-- Whether a number lies in a range. -/
def inB (n a b : Int) : Bool := decide (a ≤ n) && decide (n ≤ b)
theorem inB_true {n a b : Int} (h : a ≤ n ∧ n ≤ b) : inB n a b = true := by simpa [inB] using h
theorem inB_false {n a b : Int} (h : ¬ (a ≤ n ∧ n ≤ b)) : inB n a b = false := by
  cases hb : inB n a b with
  | false => rfl
  | true => exact absurd (by simpa [inB] using hb) h
theorem inB_iff {n a b : Int} : inB n a b = true ↔ a ≤ n ∧ n ≤ b := by simp [inB]
theorem inB_elim {n a b : Int} (h : inB n a b = false) : n < a ∨ b < n := by
  have : ¬ (a ≤ n ∧ n ≤ b) := fun h' => by rw [inB_true h'] at h; cases h
  omega
theorem c_within8 (n a b : Int) (w : World) (g : Bool) (h : inB n a b = g) : Calls Try.prog 85 #[.int .i8 n, .int .i8 a, .int .i8 b] w fun e w' => e = .returned (.bool g) ∧ w = w' := by
  subst h
  go_enter Try.func85, Try.ntmps85
  go_wp2
  · go_ret
    exact ⟨ret_bool (by simp [inB, *]), rfl⟩
  · go_ret
    exact ⟨ret_bool (inB_false (by omega)).symm, rfl⟩
theorem c_within64 (n a b : Int) (w : World) (g : Bool) (h : inB n a b = g) : Calls Try.prog 36 #[.int .i64 n, .int .i64 a, .int .i64 b] w fun e w' => e = .returned (.bool g) ∧ w = w' := by
  subst h
  go_enter Try.func36, Try.ntmps36
  go_wp2
  · go_ret
    exact ⟨ret_bool (by simp [inB, *]), rfl⟩
  · go_ret
    exact ⟨ret_bool (inB_false (by omega)).symm, rfl⟩
theorem c_withinI (n a b : Int) (w : World) (g : Bool) (h : inB n a b = g) : Calls Try.prog 58 #[.int .i64 n, .int .i64 a, .int .i64 b] w fun e w' => e = .returned (.bool g) ∧ w = w' := by
  subst h
  go_enter Try.func58, Try.ntmps58
  go_wp2
  · go_ret
    exact ⟨ret_bool (by simp [inB, *]), rfl⟩
  · go_ret
    exact ⟨ret_bool (inB_false (by omega)).symm, rfl⟩
theorem c_l00In (n a b : Int) (w : World) (g : Bool) (h : inB n a b = g) : Calls Try.prog 32 #[.int .i64 n, .int .i64 a, .int .i64 b] w fun e w' => e = .returned (.bool g) ∧ w = w' := by
  subst h
  go_enter Try.func32, Try.ntmps32
  go_wp2
  · go_ret
    exact ⟨ret_bool (by simp [inB, *]), rfl⟩
  · go_ret
    exact ⟨ret_bool (inB_false (by omega)).symm, rfl⟩
end Go.Proofs.Ytgbihaliiogboaa

/- A region that draws its order, by an invariant of one's own. -/
namespace Go.Proofs.Ytgbihaliiogboaa
open Go.RowKit
set_option linter.unusedSimpArgs false
set_option linter.unusedVariables false

/-- Each edge that binds leads back. -/
def backB (l : List Oper) : Bool := l.zipIdx.all fun x => x.1.after.all fun e => !Region.binds .any e || decide (e.on < x.2)
theorem backB_of {l : List Oper} (h : backB l = true) (i : Nat) (o : Oper) (ho : l[i]? = some o) (e : Edge) (he : e ∈ o.after) (hb : Region.binds .any e = true) : e.on < i := by
  unfold backB at h
  rw [List.all_eq_true] at h
  have h1 := h (o, i) (by rw [List.mk_mem_zipIdx_iff_getElem?]; exact ho)
  simp only [Array.all_eq_true_iff_forall_mem] at h1
  have h2 := h1 e he
  simpa [hb] using h2
/-- The operations that have been carried out, and one more. -/
def plus (L : Nat → Bool) (i : Nat) : Nat → Bool := fun j => if j = i then true else L j
theorem wpAny_inv {P : Program} {l : List Oper} {Q : Exit → Act → World → Prop} (Inv : (Nat → Bool) → Act → World → Prop) (hback : backB l = true)
    (hstep : ∀ L a w i o, l[i]? = some o → L i = false → (∀ e ∈ o.after, Region.binds .any e = true → L e.on = true) → Inv L a w →
      if Region.wanted o (yielded l.toArray a.tmps) then o.wp P a w (Inv (plus L i)) Q else Inv (plus L i) (a.put o.dst undef) w)
    (hend : ∀ L a w, (∀ i, i < l.length → L i = true) → Inv L a w → Q .normal a w) :
    ∀ (fuel : Nat) (listed : Array Bool) (a : Act) (w : World), listed.size = l.length → ((List.range l.length).filter fun i => !listed.getD i true).length ≤ fuel →
      Inv (fun i => listed.getD i true) a w → wpAny P .any l.toArray Q fuel listed a w := by
  have hall : ∀ listed : Array Bool, listed.size = l.length → Region.ready .any l.toArray listed = [] → ∀ i, i < l.length → listed.getD i true = true := by
    intro listed hs hr
    have key : ∀ i, (∀ j, j < i → j < l.length → listed.getD j true = true) → i < l.length → listed.getD i true = true := by
      intro i hj hi
      cases hl : listed.getD i true with
      | true => rfl
      | false =>
        exfalso
        have hm : i ∈ Region.ready .any l.toArray listed := by
          unfold Region.ready
          rw [List.mem_filter]
          refine ⟨by simpa using hi, ?_⟩
          have ho : l[i]? = some l[i] := List.getElem?_eq_getElem hi
          simp only [hl, Bool.not_false, Bool.true_and, List.getElem?_toArray, ho, Option.map_some, Option.getD_some]
          rw [Array.all_eq_true_iff_forall_mem]
          intro e he
          cases hb : Region.binds .any e with
          | false => simp
          | true =>
            have h1 := backB_of hback i _ ho e he hb
            have h2 := hj e.on h1 (by omega)
            have h3 : e.on < listed.size := by omega
            simp only [Array.getD_eq_getD_getElem?, Array.getElem?_eq_getElem h3, Option.getD_some] at h2 ⊢
            simp [h2]
        rw [hr] at hm
        cases hm
    intro i
    induction i using Nat.strongRecOn with
    | _ i ih => exact fun hi => key i (fun j hj hjl => ih j hj hjl) hi
  intro fuel
  induction fuel with
  | zero =>
    intro listed a w hs hc hI
    have hr : Region.ready .any l.toArray listed = [] := by
      rw [List.eq_nil_iff_forall_not_mem]
      intro i hi
      unfold Region.ready at hi
      rw [List.mem_filter] at hi
      have : i ∈ (List.range l.length).filter fun i => !listed.getD i true := by
        rw [List.mem_filter]
        refine ⟨by simpa using hi.1, ?_⟩
        have := hi.2
        rw [Bool.and_eq_true] at this
        exact this.1
      rw [List.length_eq_zero_iff.1 (Nat.le_zero.1 hc)] at this
      cases this
    exact ⟨hr, hend _ _ _ (hall listed hs hr) hI⟩
  | succ fuel ih =>
    intro listed a w hs hc hI
    refine ⟨fun hr => hend _ _ _ (hall listed hs hr) hI, fun i hi => ?_⟩
    unfold Region.ready at hi
    rw [List.mem_filter] at hi
    obtain ⟨hi1, hi2⟩ := hi
    have hil : i < l.length := by simpa using hi1
    have ho : l[i]? = some l[i] := List.getElem?_eq_getElem hil
    rw [Bool.and_eq_true] at hi2
    obtain ⟨hn, he⟩ := hi2
    have hn' : listed.getD i true = false := by simpa using hn
    have hsi : i < listed.size := by omega
    simp only [List.getElem?_toArray, ho, Option.map_some, Option.getD_some, Array.all_eq_true_iff_forall_mem] at he
    have hL : (fun j => (listed.setIfInBounds i true).getD j true) = plus (fun j => listed.getD j true) i := by
      funext j
      unfold plus
      by_cases hj : j = i
      · subst hj; simp [Array.getD_eq_getD_getElem?, hsi]
      · rw [if_neg hj]; simp [Array.getD_eq_getD_getElem?, Array.getElem?_setIfInBounds_ne (Ne.symm hj)]
    have hcount : ((List.range l.length).filter fun j => !(listed.setIfInBounds i true).getD j true).length ≤ fuel := by
      have hsub : ((List.range l.length).filter fun j => !(listed.setIfInBounds i true).getD j true).length < ((List.range l.length).filter fun j => !listed.getD j true).length := by
        have e : ((List.range l.length).filter fun j => !(listed.setIfInBounds i true).getD j true) = (((List.range l.length).filter fun j => !listed.getD j true).filter fun j => decide (j ≠ i)) := by
          rw [List.filter_filter]
          apply List.filter_congr
          intro j _
          have := congrFun hL j
          rw [this]
          unfold plus
          by_cases hj : j = i <;> simp [hj]
        rw [e]
        apply List.length_filter_lt_length_iff_exists.2
        exact ⟨i, by rw [List.mem_filter]; exact ⟨by simpa using hil, by simp [hn']⟩, by simp⟩
      omega
    have hs' := hstep (fun j => listed.getD j true) a w i _ ho hn' (fun e hmem hb => by
      have := he e hmem
      simp only [hb, Bool.not_true, Bool.false_or] at this
      have h3 : e.on < listed.size := by have := backB_of hback i _ ho e hmem hb; omega
      simp only [Array.getD_eq_getD_getElem?, Array.getElem?_eq_getElem h3, Option.getD_some] at this ⊢
      exact this) hI
    have ih' := fun a w (h : Inv (plus (fun j => listed.getD j true) i) a w) => ih (listed.setIfInBounds i true) a w (by simpa using hs) hcount (by rw [hL]; exact h)
    unfold wpOp
    simp only [List.getElem?_toArray, ho]
    split
    · rename_i hw
      rw [if_pos hw] at hs'
      exact .inl (Oper.wp_mono ih' hs')
    · rename_i hw
      rw [if_neg hw] at hs'
      exact ih' _ _ hs'
theorem wp_region_inv {P : Program} {id : Nat} {Q : Exit → Act → World → Prop} {a : Act} {w : World} {l : List Oper} (hm : P.follows .mixedOrders = true) (hback : backB l = true) (Inv : (Nat → Bool) → Act → World → Prop)
    (h0 : ∀ L, (∀ i, i < l.length → L i = false) → Inv L a w.drew)
    (hstep : ∀ L a w i o, l[i]? = some o → L i = false → (∀ e ∈ o.after, Region.binds .any e = true → L e.on = true) → Inv L a w →
      if Region.wanted o (yielded l.toArray a.tmps) then o.wp P a w (Inv (plus L i)) Q else Inv (plus L i) (a.put o.dst undef) w)
    (hend : ∀ L a w, (∀ i, i < l.length → L i = true) → Inv L a w → Q .normal a w) : (Code.region id l.toArray true).wp P Q a w := by
  refine wp_region_any hm (wpAny_inv Inv hback hstep hend _ _ a _ (by simp) ?_ ?_)
  · exact Nat.le_trans (List.length_filter_le _ _) (by simp)
  · refine h0 _ fun i hi => ?_
    simp [Array.getD_eq_getD_getElem?, hi]
end Go.Proofs.Ytgbihaliiogboaa

/- Roofs and places as values: their cells, and how the walk reads them. -/
namespace Go.Proofs.Ytgbihaliiogboaa
open Go.RowKit
set_option linter.unusedVariables false
set_option linter.unusedSimpArgs false

/-- A roof: Wide, High, Shift, and the 64 kinds. -/
structure Rf where
  w : Int
  h : Int
  s : Int
  t : List Int
/-- The numbers are of their kinds. -/
structure Rf.Ok (r : Rf) : Prop where
  w1 : -128 ≤ r.w
  w2 : r.w ≤ 127
  h1 : -128 ≤ r.h
  h2 : r.h ≤ 127
  s1 : 0 ≤ r.s
  s2 : r.s ≤ 255
  len : r.t.length = 64
  t1 : ∀ n ∈ r.t, 0 ≤ n ∧ n ≤ 255
/-- The kind at a course and an index. -/
def Rf.at (r : Rf) (i k : Nat) : Int := r.t.getD (8 * i + k) 0
theorem Rf.Ok.at {r : Rf} (h : r.Ok) (i k : Nat) : 0 ≤ r.at i k ∧ r.at i k ≤ 255 := by
  unfold Rf.at
  by_cases hj : 8 * i + k < r.t.length
  · have := h.t1 r.t[8 * i + k] (List.getElem_mem hj)
    simp [List.getD, List.getElem?_eq_getElem hj]; omega
  · simp [List.getD, List.getElem?_eq_none (by omega : r.t.length ≤ 8 * i + k)]
theorem Rf.ext_at {r r' : Rf} (h : r.Ok) (h' : r'.Ok) (hw : r.w = r'.w) (hh : r.h = r'.h) (hs : r.s = r'.s) (ht : ∀ i k, i < 8 → k < 8 → r.at i k = r'.at i k) : r = r' := by
  cases r with | mk w h0 s t =>
  cases r' with | mk w' h0' s' t' =>
  obtain rfl := hw; obtain rfl := hh; obtain rfl := hs
  congr 1
  apply List.ext_getElem?
  intro j
  by_cases hj : j < 64
  · have := ht (j / 8) (j % 8) (by omega) (by omega)
    unfold Rf.at at this
    have e : 8 * (j / 8) + j % 8 = j := by omega
    rw [e] at this
    have l1 : j < t.length := by rw [h.len]; exact hj
    have l2 : j < t'.length := by rw [h'.len]; exact hj
    simpa [List.getD, List.getElem?_eq_getElem l1, List.getElem?_eq_getElem l2] using this
  · rw [List.getElem?_eq_none (by rw [h.len]; omega), List.getElem?_eq_none (by rw [h'.len]; omega)]
/-- The cells of the 64 kinds; of one course; of the whole roof. -/
def tcells (t : List Int) : Array Value := (t.map (Value.int .u8)).toArray
def trow (t : List Int) (i : Nat) : List Int := (t.drop (8 * i)).take 8
def rcells (r : Rf) : Array Value := (Value.int .i8 r.w :: Value.int .i8 r.h :: Value.int .u8 r.s :: r.t.map (Value.int .u8)).toArray
@[go_sem] theorem rc0 (r : Rf) : (rcells r)[0]? = some (.int .i8 r.w) := by simp [rcells]
@[go_sem] theorem rc1 (r : Rf) : (rcells r)[1]? = some (.int .i8 r.h) := by simp [rcells]
@[go_sem] theorem rc2 (r : Rf) : (rcells r)[2]? = some (.int .u8 r.s) := by simp [rcells]
theorem size_tcells (t : List Int) : (tcells t).size = t.length := by simp [tcells]
@[go_sem] theorem size_rcells (r : Rf) : (rcells r).size = 3 + r.t.length := by simp [rcells]; omega
theorem rct (r : Rf) (h : r.Ok) (j : Nat) (hj : j < 64) : (rcells r)[3 + j]? = some (.int .u8 (r.t.getD j 0)) := by
  have hl : j < r.t.length := by rw [h.len]; exact hj
  have e : 3 + j = j + 1 + 1 + 1 := by omega
  rw [e]
  simp only [rcells, List.getElem?_toArray, List.getElem?_cons_succ, List.getElem?_map, List.getElem?_eq_getElem hl, Option.map_some, List.getD, Option.getD_some]
theorem tc_at (t : List Int) (j : Nat) (hj : j < t.length) : (tcells t)[j]? = some (.int .u8 (t.getD j 0)) := by
  simp only [tcells, List.getElem?_toArray, List.getElem?_map, List.getElem?_eq_getElem hj, Option.map_some, List.getD, Option.getD_some]
theorem extract_tcells (t : List Int) (i : Nat) : (tcells t).extract (i * 8) (i * 8 + 8) = tcells (trow t i) := by
  apply Array.toList_inj.1
  simp [tcells, trow, Array.toList_extract, List.map_drop, List.map_take, Nat.mul_comm]
theorem len_trow (t : List Int) (ht : t.length = 64) (i : Nat) (hi : i < 8) : (trow t i).length = 8 := by simp [trow, ht]; omega
theorem trow_at (t : List Int) (i k : Nat) (hk : k < 8) : (trow t i).getD k 0 = t.getD (8 * i + k) 0 := by
  simp [trow, List.getD, List.getElem?_take, hk, List.getElem?_drop]
theorem range_tiles {W : World} {b : Nat} {r : Rf} {T : TypeId} {fr : Nat × Nat} (hb : W.heap[b]? = some (.cells (rcells r) T fr)) : W.rangeAt b 3 (r.t.map (Value.int .u8)) := fun j v hv => by
  rw [cell_of_row W b (3 + j) _ _ _ hb]
  have e : 3 + j = j + 1 + 1 + 1 := by omega
  rw [e]
  simpa [rcells] using hv
theorem range_roof {W : World} {b : Nat} {r : Rf} {T : TypeId} {fr : Nat × Nat} (hb : W.heap[b]? = some (.cells (rcells r) T fr)) : W.rangeAt b 0 (rcells r).toList := fun j v hv => by
  rw [cell_of_row W b (0 + j) _ _ _ hb]
  simpa using hv
theorem range_row {W : World} {b : Nat} {t : List Int} {T : TypeId} {fr : Nat × Nat} (hb : W.heap[b]? = some (.cells (tcells t) T fr)) : W.rangeAt b 0 (t.map (Value.int .u8)) := fun j v hv => by
  rw [cell_of_row W b (0 + j) _ _ _ hb]
  simpa [tcells] using hv
/-- A course in the midst of a block that holds kinds from offset o on. -/
theorem range_mid {W : World} {b o : Nat} {cs : Array Value} {t : List Int} {T : TypeId} {fr : Nat × Nat} (hb : W.heap[b]? = some (.cells cs T fr)) (hcs : ∀ j, j < t.length → cs[o + j]? = some (.int .u8 (t.getD j 0))) (i : Nat) (ht : t.length = 64) (hi : i < 8) :
    W.rangeAt b (o + i * 8) ((trow t i).map (Value.int .u8)) := fun j v hv => by
  have hj : j < 8 := by have := (List.getElem?_eq_some_iff.1 hv).1; simpa [len_trow t ht i hi] using this
  rw [cell_of_row W b (o + i * 8 + j) _ _ _ hb]
  have e : o + i * 8 + j = o + (8 * i + j) := by omega
  rw [e, hcs _ (by omega), ← trow_at t i j hj]
  have hl : j < (trow t i).length := by rw [len_trow t ht i hi]; exact hj
  rw [List.getElem?_map, List.getElem?_eq_getElem hl] at hv
  simp only [Option.map_some, Option.some.injEq] at hv
  rw [← hv, List.getD, List.getElem?_eq_getElem hl, Option.getD_some]
theorem rcells_one (r : Rf) : (rcells r).all (·.oneCell') = true := by simp [rcells, Value.oneCell']
theorem tcells_one (t : List Int) : (tcells t).all (·.oneCell') = true := by simp [tcells, Value.oneCell']
/-- The empty roof. -/
def Rf.zero : Rf := ⟨0, 0, 0, List.replicate 64 0⟩
theorem Rf.zero_ok : Rf.zero.Ok := ⟨by decide, by decide, by decide, by decide, by decide, by decide, by decide, by decide⟩

section
variable {ops : Array Oper} {rest : List Oper} {o : Oper} {a : Act} {w : World} {Q : Exit → Act → World → Prop}
theorem run_load_roof (T' : TypeId) {d : TypeDesc} (hu : Try.prog.underlying T' = some d) (hd : d.isRow = true) (hi : (Try.prog.info? T').map (·.size) = some 67) {w : World} {b : Nat} {r : Rf} (hr : r.Ok) {T : TypeId} {fr : Nat × Nat} (hb : w.heap[b]? = some (.cells (rcells r) T fr)) :
    (Instr.loadAt T' (.pointer (some ⟨b, 0, none⟩))).run Try.prog w = .ok (.agg (rcells r)) w := by
  have := run_loadAt_mid w b 0 T' (rcells r).toList _ (range_roof hb) hu hd (by rw [hi]; simp [size_rcells, hr.len])
  simpa using this
/-- A whole roof, loaded. -/
theorem wp_roof (T' : TypeId) {d : TypeDesc} (hu : Try.prog.underlying T' = some d) (hd : d.isRow = true) (hi : (Try.prog.info? T').map (·.size) = some 67) (hgd : o.guard = none) (x : Operand) (ho : o.op = .load T' x) (b : Nat) (hx : a.eval x = .pointer (some ⟨b, 0, none⟩)) (r : Rf) (hr : r.Ok) {T : TypeId} {fr : Nat × Nat}
    (hb : w.heap[b]? = some (.cells (rcells r) T fr)) (h : wpList Try.prog ops Q rest (a.put o.dst (.agg (rcells r))) w) : wpList Try.prog ops Q (o :: rest) a w :=
  wpList_load_mid hgd T' x ho b 0 hx (rcells r).toList _ (range_roof hb) hu hd (by rw [hi]; simp [size_rcells, hr.len]) (by simpa using h)
end
theorem setAll_roof {cs : Array Value} {r : Rf} (hr : r.Ok) (hs : cs.size = 67) (h0 : cs[0]? = some (.int .i8 r.w)) (h1 : cs[1]? = some (.int .i8 r.h)) (h2 : cs[2]? = some (.int .u8 r.s)) : setAll cs 3 (tcells r.t).toList = rcells r := by
  apply setAll_eq
  · simp [size_tcells, hr.len, hs]
  · simp [size_rcells, hr.len, hs]
  · intro j hj
    by_cases h : 3 ≤ j ∧ j < 3 + (tcells r.t).toList.length
    · rw [if_pos h, Array.getElem?_toList]
      have hj2 : j - 3 < 64 := by simp [size_tcells, hr.len] at h; omega
      have e : j = 3 + (j - 3) := by omega
      rw [tc_at _ _ (by rw [hr.len]; exact hj2), e, rct r hr _ hj2, ← e]
    · rw [if_neg h]
      have : j < 3 := by simp [size_tcells, hr.len] at h; omega
      match j, this with
      | 0, _ => rw [h0]; exact rc0 r
      | 1, _ => rw [h1]; exact rc1 r
      | 2, _ => rw [h2]; exact rc2 r
end Go.Proofs.Ytgbihaliiogboaa

/- A region that draws its order, of quiet operations, one 'alloc' and one store to what it made: walked once. -/
namespace Go.Proofs.Ytgbihaliiogboaa
open Go.RowKit
set_option linter.unusedSimpArgs false
set_option linter.unusedVariables false

/-- An operation under a guard that says yes, its run known. -/
theorem wpList_runG {P : Program} {ops : Array Oper} {rest : List Oper} {o : Oper} {a : Act} {w : World} {Q : Exit → Act → World → Prop} (hw : Region.wanted o (yielded ops a.tmps) = true) (v : Value)
    (h : (execOp a.eval o).run P w = .ok (.value v) w) (k : wpList P ops Q rest (a.put o.dst v) w) : wpList P ops Q (o :: rest) a w :=
  BigFrame.wpList_want hw fun _ hK => by unfold Oper.wp; rw [h]; exact hK _ _ k
theorem wpQuiet_runG {P : Program} {ops : Array Oper} {C : World → Prop} {Q : Act → Prop} {a : Act} {o : Oper} {rest : List Oper} {N : Nat} (_ : o.dst = some N) (hw : Region.wanted o (yielded ops a.tmps) = true) (v : Value)
    (h : ∀ w', C w' → (execOp a.eval o).run P w' = .ok (.value v) w') (k : wpQuiet P ops C Q rest (a.put o.dst v)) : wpQuiet P ops C Q (o :: rest) a :=
  wpQuiet_step fun K hK => by
    rw [if_pos hw]
    exact ⟨v, fun w' hw' => by unfold Oper.quietAt; rw [h w' hw']; exact ⟨rfl, rfl⟩, hK _ k⟩
theorem hstore {B : Nat} {W0 wr w2 : World} {cs : Array Value} {T : TypeId} (hB : Hid (B ≤ W0.heap.size)) (h : Hid (Below B W0 wr)) (hg : (wr.alloc (.cells cs T)).grownBy w2 (some wr.heap.size)) : Hid (Below B W0 w2) :=
  (h.out.alloc (Nat.le_trans hB.out h.out.size) _).grown hg (by have := Nat.le_trans hB.out h.out.size; simp; omega) (fun k hk => by cases hk; exact Nat.le_trans hB.out h.out.size)
theorem wpStill_run {P : Program} {ops : Array Oper} {w : World} {Q : Act → Prop} {a : Act} {o : Oper} {rest : List Oper} {N : Nat} (_ : o.dst = some N) (hgd : o.guard = none) (v : Value)
    (h : (execOp a.eval o).run P w = .ok (.value v) w) (k : wpStill P ops w Q rest (a.put o.dst v)) : wpStill P ops w Q (o :: rest) a :=
  wpStill_step fun K hK => by
    rw [if_pos (by simp [Region.wanted, hgd])]
    unfold Oper.still; rw [h]; exact ⟨rfl, hK _ k⟩
/-- A world above W from B on, whose blocks bear what S says. -/
structure ExtS (B : Nat) (W : World) (S : Nat → Option Obj) where
  w : World
  h : Below B W w
  s : ∀ p o, S p = some o → w.heap[p]? = some o
def ExtS.out {B : Nat} {W : World} {S : Nat → Option Obj} (x : ExtS B W S) : World := x.w
@[go_sem] theorem ExtS.cell {B : Nat} {W : World} {S : Nat → Option Obj} (x : ExtS B W S) (b o : Nat) (h : b < B) : x.out.cell? ⟨b, o, none⟩ = W.cell? ⟨b, o, none⟩ := x.h.cell (p := ⟨b, o, none⟩) h
@[go_sem] theorem ExtS.frozen {B : Nat} {W : World} {S : Nat → Option Obj} (x : ExtS B W S) (b o : Nat) (h : b < B) : x.out.frozen? ⟨b, o, none⟩ = W.frozen? ⟨b, o, none⟩ := x.h.frozen (p := ⟨b, o, none⟩) h
theorem Calls.extS {P : Program} {f : FuncId} {args : Array Value} {B : Nat} {W : World} {S : Nat → Option Obj} {x : ExtS B W S} {v : Value} (hB : B ≤ W.heap.size)
    (h : Calls P f args x.out fun e w' => e = .returned v ∧ Below x.out.heap.size x.out w') : Calls P f args x.out fun e w' => e = .returned v ∧ ∃ y : ExtS B W S, w' = y.out :=
  h.mono fun _ _ ⟨he, hb⟩ => ⟨he, ⟨_, x.h.trans (hb.mono (Nat.le_trans hB x.h.size)), fun p o hp => block_below hb (x.s p o hp) (block_lt (x.s p o hp))⟩, rfl⟩
theorem Calls.extS_same {P : Program} {f : FuncId} {args : Array Value} {B : Nat} {W : World} {S : Nat → Option Obj} {x : ExtS B W S} {v : Value}
    (h : Calls P f args x.out fun e w' => e = .returned v ∧ x.out = w') : Calls P f args x.out fun e w' => e = .returned v ∧ ∃ y : ExtS B W S, w' = y.out :=
  h.mono fun _ _ ⟨he, hb⟩ => ⟨he, x, hb.symm⟩
abbrev ClsS (B : Nat) (W : World) (S : Nat → Option Obj) : World → Prop := fun w' => ∃ x : ExtS B W S, w' = x.out

/-- What a walk of the operations one after another has shown of each. -/
def StepsS (P : Program) (ops : Array Oper) (C : World → Prop) : List Oper → List Value → Act → Prop
  | [], [], _ => True
  | o :: rest, v :: vs, a => YieldsIn P ops C o v a ∧ StepsS P ops C rest vs (a.put o.dst v)
  | _, _, _ => False
def putsS : List Oper → List Value → Act → Act
  | o :: rest, v :: vs, a => putsS rest vs (a.put o.dst v)
  | _, _, a => a
theorem stepsS_of {P : Program} {ops : Array Oper} {C : World → Prop} {Q : Act → Prop} : ∀ (l : List Oper) (a : Act), wpQuiet P ops C Q l a → ∃ vs, StepsS P ops C l vs a ∧ Q (putsS l vs a)
  | [], a, h => ⟨[], trivial, h⟩
  | o :: rest, a, h => by
    unfold wpQuiet at h
    split at h
    · rename_i hw
      obtain ⟨v, h1, h2⟩ := h
      obtain ⟨vs, h3, h4⟩ := stepsS_of rest _ h2
      exact ⟨v :: vs, ⟨.inl ⟨hw, h1⟩, h3⟩, h4⟩
    · rename_i hw
      obtain ⟨vs, h3, h4⟩ := stepsS_of rest _ h
      exact ⟨undef :: vs, ⟨.inr ⟨by simpa using hw, rfl⟩, h3⟩, h4⟩
theorem put_size (a : Act) (d : Option Tmp) (v : Value) : (a.put d v).tmps.size = a.tmps.size := by cases d <;> simp [Act.put]
theorem put_defers' (a : Act) (d : Option Tmp) (v : Value) : (a.put d v).defers = a.defers := by cases d <;> rfl
theorem put_other (a : Act) (d : Option Tmp) (v : Value) (t : Nat) (h : d ≠ some t) : (a.put d v).tmps.getD t undef = a.tmps.getD t undef := by
  cases d with
  | none => rfl
  | some d => simp [Act.put, Array.getD_eq_getD_getElem?, Array.getElem?_setIfInBounds_ne (fun e : d = t => h (by rw [e]))]
theorem put_here (a : Act) (d : Nat) (v : Value) (h : d < a.tmps.size) : (a.put (some d) v).tmps.getD d undef = v := by
  simp [Act.put, Array.getD_eq_getD_getElem?, h]
theorem putsS_size : ∀ (l : List Oper) (vs : List Value) (a : Act), (putsS l vs a).tmps.size = a.tmps.size
  | [], vs, a => by cases vs <;> rfl
  | o :: rest, [], a => rfl
  | o :: rest, v :: vs, a => by unfold putsS; rw [putsS_size rest vs, put_size]
theorem putsS_defers : ∀ (l : List Oper) (vs : List Value) (a : Act), (putsS l vs a).defers = a.defers
  | [], vs, a => by cases vs <;> rfl
  | o :: rest, [], a => rfl
  | o :: rest, v :: vs, a => by unfold putsS; rw [putsS_defers rest vs, put_defers']
theorem putsS_other (t : Nat) : ∀ (l : List Oper) (vs : List Value) (a : Act), (∀ o ∈ l, o.dst ≠ some t) → (putsS l vs a).tmps.getD t undef = a.tmps.getD t undef
  | [], vs, a, _ => by cases vs <;> rfl
  | o :: rest, [], a, _ => rfl
  | o :: rest, v :: vs, a, h => by
    unfold putsS
    rw [putsS_other t rest vs _ fun o' ho' => h o' (List.mem_cons_of_mem _ ho'), put_other _ _ _ _ (h o (List.mem_cons_self ..))]

def isQ (o : Oper) : Bool := match o.op with | .alloc _ | .store _ _ _ => false | _ => true
/-- The places that an operation looks at. -/
def eyes (o : Oper) : List Nat := o.op.operands.toList.filterMap fun | .tmp t => some t | _ => none
def notSelect (o : Oper) : Bool := match o.op with | .select _ _ => false | _ => true
/-- No guard; no 'select'; what an operation looks at no operation of the region writes, or one that comes before it on each way; each slot is written once, within n slots. -/
def lawB (l : List Oper) (n : Nat) : Bool :=
  l.zipIdx.all fun x => x.1.guard.isNone && notSelect x.1 && (match x.1.dst with | some d => decide (d < n) | none => true) &&
    (l.zipIdx.all fun y => (y.2 == x.2) || (match y.1.dst with | none => true | some d => x.1.dst != some d)) &&
    (eyes x.1).all fun t => l.zipIdx.all fun y => y.1.dst != some t || (decide (y.2 < x.2) && x.1.after.toList.any fun e => Region.binds .any e && e.on == y.2)
/-- What 'lawB' says of one operation. -/
theorem lawB_of {l : List Oper} {n : Nat} (h : lawB l n = true) (i : Nat) (o : Oper) (ho : l[i]? = some o) :
    o.guard = none ∧ notSelect o = true ∧ (∀ d, o.dst = some d → d < n) ∧ (∀ j o', l[j]? = some o' → j ≠ i → ∀ d, o'.dst = some d → o.dst ≠ some d) ∧
    (∀ t ∈ eyes o, ∀ j o', l[j]? = some o' → o'.dst = some t → j < i ∧ ∃ e ∈ o.after, Region.binds .any e = true ∧ e.on = j) := by
  unfold lawB at h
  rw [List.all_eq_true] at h
  have h1 := h (o, i) (by rw [List.mk_mem_zipIdx_iff_getElem?]; exact ho)
  simp only [Bool.and_eq_true, List.all_eq_true] at h1
  obtain ⟨⟨⟨⟨h2, h3⟩, h4⟩, h5⟩, h6⟩ := h1
  refine ⟨by simpa using h2, h3, ?_, ?_, ?_⟩
  · intro d hd; rw [hd] at h4; simpa using h4
  · intro j o' hj hne d hd
    have := h5 (o', j) (by rw [List.mk_mem_zipIdx_iff_getElem?]; exact hj)
    simp only [hd, Bool.or_eq_true, beq_iff_eq, hne, false_or] at this
    simpa using this
  · intro t ht j o' hj hd
    have := h6 t ht (o', j) (by rw [List.mk_mem_zipIdx_iff_getElem?]; exact hj)
    simp only [hd, bne_self_eq_false, Bool.false_or, Bool.and_eq_true, decide_eq_true_eq, List.any_eq_true, beq_iff_eq, Array.mem_toList_iff] at this
    exact this
theorem stepsS_at {P : Program} {ops : Array Oper} {C : World → Prop} : ∀ (l : List Oper) (vs : List Value) (a : Act) (i : Nat) (o : Oper), StepsS P ops C l vs a → l[i]? = some o →
    ∃ v ai, YieldsIn P ops C o v ai ∧ putsS l vs a = putsS (l.drop (i + 1)) (vs.drop (i + 1)) (ai.put o.dst v) ∧ ai.tmps.size = a.tmps.size ∧
      (∀ t, (∀ j o', j < i → l[j]? = some o' → o'.dst ≠ some t) → ai.tmps.getD t undef = a.tmps.getD t undef)
  | [], vs, a, i, o, _, hi => by simp at hi
  | o1 :: rest, [], a, i, o, h, _ => h.elim
  | o1 :: rest, v1 :: vs, a, 0, o, h, hi => by
    simp at hi; subst hi
    exact ⟨v1, a, h.1, rfl, rfl, fun _ _ => rfl⟩
  | o1 :: rest, v1 :: vs, a, i + 1, o, h, hi => by
    obtain ⟨v, ai, h1, h2, h3, h4⟩ := stepsS_at rest vs _ i o h.2 (by simpa using hi)
    refine ⟨v, ai, h1, ?_, h3.trans (put_size _ _ _), fun t ht => (h4 t fun j o' hj hl => ht (j + 1) o' (by omega) (by simpa using hl)).trans (put_other _ _ _ _ (ht 0 o1 (by omega) rfl))⟩
    exact h2
/-- The region with its 'alloc' and its store struck out. -/
def mute (o : Oper) : Oper := if isQ o then o else { o with op := .move (.const undef), dst := none }
theorem mute_get {l : List Oper} {j : Nat} {o : Oper} {d : Nat} (h : (l.map mute)[j]? = some o) (hd : o.dst = some d) : l[j]? = some o := by
  rw [List.getElem?_map] at h
  cases hl : l[j]? with
  | none => rw [hl] at h; cases h
  | some o' =>
    rw [hl] at h
    simp only [Option.map_some, Option.some.injEq] at h
    subst h
    unfold mute at hd ⊢
    split at hd
    · rename_i hq; rw [if_pos hq]
    · cases hd
theorem eval_eyes {a a' : Act} {o : Oper} (h : ∀ t ∈ eyes o, a.tmps.getD t undef = a'.tmps.getD t undef) (x : Operand) (hx : x ∈ o.op.operands) : a.eval x = a'.eval x := by
  cases x with
  | tmp t => exact h t (List.mem_filterMap.2 ⟨.tmp t, by simpa using hx, rfl⟩)
  | _ => rfl
set_option maxHeartbeats 1600000 in
theorem wp_region_law {P : Program} {id : Nat} {Q : Exit → Act → World → Prop} {a0 : Act} {B : Nat} {W : World} {y : Ext B W} {l : List Oper} {ops : Array Oper} (aσ : Act) (ia is sa : Nat) (oa os : Oper) (T : TypeId) (yv : Operand) (cs0 cs : Array Value)
    (hm : P.follows .mixedOrders = true) (hback : backB l = true) (hn : lawB l a0.tmps.size = true)
    (hoa : l[ia]? = some oa) (hos : l[is]? = some os) (ha1 : oa.op = .alloc T) (ha2 : oa.dst = some sa) (hs1 : os.op = .store T (.tmp sa) yv) (hs2 : os.dst = none)
    (honly : (l.zipIdx.all fun x => isQ x.1 || (x.2 == ia) || (x.2 == is)) = true) (hsee : (l.zipIdx.all fun x => (x.2 == is) || !(eyes x.1).contains sa) = true)
    (hyv : ∀ t, yv = .tmp t → t ≠ sa)
    (hal : ∀ w, (Instr.alloc T true (.tuple #[])).run P w = .ok (.pointer (some ⟨w.heap.size, 0, none⟩)) (w.alloc (.cells cs0 T)))
    (hval : aσ.eval yv = .agg cs) (hi : (P.info? T).map (·.size) = some cs.size) (hone : cs.all (·.oneCell') = true) (hsz : cs0.size = cs.size) (hBW : B ≤ W.heap.size)
    (hw : ∀ S, Nonempty (ExtS B W S) → wpQuiet P ops (fun w' => ∃ x : ExtS B W S, w' = x.out) (fun a' => a' = aσ) (l.map mute) a0)
    (h : ∀ (x : Ext B W) (p : Nat), B ≤ p → x.out.heap[p]? = some (.cells cs T (0, 0)) → Q .normal (aσ.put (some sa) (.pointer (some ⟨p, 0, none⟩))) x.out) :
    (Code.region id l.toArray true).wp P Q a0 y.out := by
  have hL := fun i o ho => lawB_of hn i o ho
  have hQ : ∀ i o, l[i]? = some o → i ≠ ia → i ≠ is → isQ o = true := by
    intro i o ho h1 h2
    rw [List.all_eq_true] at honly
    have := honly (o, i) (by rw [List.mk_mem_zipIdx_iff_getElem?]; exact ho)
    simpa [h1, h2] using this
  have hE : ∀ i o, l[i]? = some o → i ≠ is → sa ∉ eyes o := by
    intro i o ho h1 hmem
    rw [List.all_eq_true] at hsee
    have := hsee (o, i) (by rw [List.mk_mem_zipIdx_iff_getElem?]; exact ho)
    simp [h1, hmem] at this
  have key : ∀ S, Nonempty (ExtS B W S) → ∀ i o, l[i]? = some o → i ≠ ia → i ≠ is → ∃ v ai, YieldsIn P ops (fun w' => ∃ x : ExtS B W S, w' = x.out) o v ai ∧ (∀ d, o.dst = some d → v = aσ.tmps.getD d undef) ∧
      (∀ t : Nat, (∀ (j : Nat) (o' : Oper), l[j]? = some o' → o'.dst ≠ some t) → ai.tmps.getD t undef = a0.tmps.getD t undef) ∧ (∀ (t j : Nat) (o' : Oper), j < i → l[j]? = some o' → o'.dst = some t → ai.tmps.getD t undef = aσ.tmps.getD t undef) := by
    intro S hSn i o ho h1 h2
    obtain ⟨vs, hst, hfin⟩ := stepsS_of _ _ (hw S hSn)
    have ho' : (l.map mute)[i]? = some o := by rw [List.getElem?_map, ho]; simp [mute, hQ i o ho h1 h2]
    obtain ⟨v, ai, k1, k2, k3, k4⟩ := stepsS_at _ _ _ _ _ hst ho'
    rw [hfin] at k2
    have hdrop : ∀ t : Nat, (∀ (j : Nat) (o' : Oper), i < j → l[j]? = some o' → o'.dst ≠ some t) → ∀ o' ∈ (l.map mute).drop (i + 1), o'.dst ≠ some t := by
      intro t ht o' hm' hd
      obtain ⟨k, hk, rfl⟩ := List.getElem_of_mem hm'
      have hk2 := List.getElem?_eq_getElem hk
      rw [List.getElem?_drop] at hk2
      exact ht _ _ (by omega) (mute_get hk2 hd) hd
    obtain ⟨hg, _, hd1, hd2, _⟩ := hL i o ho
    refine ⟨v, ai, k1, ?_, ?_, ?_⟩
    · intro d hd
      rw [k2, putsS_other d _ _ _ (hdrop d fun j o' hj hl hdd => hd2 j o' hl (by omega) d hdd hd), hd, put_here _ _ _ (by rw [k3]; exact hd1 d hd)]
    · intro t ht
      exact k4 t fun j o' _ hl hd => ht j o' (mute_get hl hd) hd
    · intro t j o' hj hl hd
      have hne : ∀ (j' : Nat) (o'' : Oper), l[j']? = some o'' → j' ≠ j → o''.dst ≠ some t := fun j' o'' hl' hne hd' => (hL j o' hl).2.2.2.1 j' o'' hl' hne t hd' hd
      rw [k2, putsS_other t _ _ _ (hdrop t fun j' o'' hj' hl' => hne j' o'' hl' (by omega)), put_other _ _ _ _ (hne i o ho (by omega))]
  have hsize : aσ.tmps.size = a0.tmps.size := by
    obtain ⟨vs, hst, hfin⟩ := stepsS_of _ _ (hw (fun _ => none) ⟨⟨y.w, y.h, fun _ _ h => by cases h⟩⟩)
    rw [← hfin, putsS_size]
  have hdef : aσ.defers = a0.defers := by
    obtain ⟨vs, hst, hfin⟩ := stepsS_of _ _ (hw (fun _ => none) ⟨⟨y.w, y.h, fun _ _ h => by cases h⟩⟩)
    rw [← hfin, putsS_defers]
  have hout : ∀ t : Nat, (∀ (i : Nat) (o : Oper), l[i]? = some o → i ≠ ia → o.dst ≠ some t) → aσ.tmps.getD t undef = a0.tmps.getD t undef := by
    obtain ⟨vs, hst, hfin⟩ := stepsS_of _ _ (hw (fun _ => none) ⟨⟨y.w, y.h, fun _ _ h => by cases h⟩⟩)
    intro t ht
    rw [← hfin, putsS_other]
    intro o' hm' hd
    obtain ⟨k, hk, rfl⟩ := List.getElem_of_mem hm'
    have hk2 := List.getElem?_eq_getElem hk
    by_cases hka : k = ia
    · subst hka
      rw [List.getElem?_map, hoa] at hk2
      simp only [Option.map_some, Option.some.injEq] at hk2
      rw [← hk2] at hd
      simp [mute, isQ, ha1] at hd
    · exact ht _ _ (mute_get hk2 hd) hka hd
  refine wp_region_inv hm hback (fun L a w => (∃ x : Ext B W, w = x.out) ∧ a.defers = a0.defers ∧ a.tmps.size = a0.tmps.size ∧
    (∀ t : Nat, (∀ (i : Nat) (o : Oper), l[i]? = some o → o.dst ≠ some t) → a.tmps.getD t undef = a0.tmps.getD t undef) ∧
    (∀ (i : Nat) (o : Oper) (d : Nat), l[i]? = some o → i ≠ ia → L i = true → o.dst = some d → a.tmps.getD d undef = aσ.tmps.getD d undef) ∧
    (L ia = true → ∃ p, B ≤ p ∧ a.tmps.getD sa undef = .pointer (some ⟨p, 0, none⟩) ∧ w.heap[p]? = some (.cells (if L is then cs else cs0) T (0, 0))) ∧ (L is = true → L ia = true)) ?_ ?_ ?_
  · intro L hL0
    have hia : ia < l.length := (List.getElem?_eq_some_iff.1 hoa).1
    have his : is < l.length := (List.getElem?_eq_some_iff.1 hos).1
    exact ⟨⟨⟨_, y.h.drew⟩, rfl⟩, rfl, rfl, fun _ _ => rfl, fun i o d ho _ hLi _ => (by rw [hL0 i (List.getElem?_eq_some_iff.1 ho).1] at hLi; cases hLi), fun hLi => (by rw [hL0 ia hia] at hLi; cases hLi), fun hLi => (by rw [hL0 is his] at hLi; cases hLi)⟩
  · intro L a w i o ho hLi hafter ⟨⟨x, hx⟩, i1, i2, i3, i4, i5, i6⟩
    have hB : B ≤ w.heap.size := by rw [hx]; exact Nat.le_trans hBW x.h.size
    have hxb : Below B W w := by rw [hx]; exact x.h
    clear hx
    obtain ⟨hg, hns, hd1, hd2, heyes⟩ := hL i o ho
    rw [if_pos (by simp [Region.wanted, hg])]
    have hsee' : ∀ t ∈ eyes o, t ≠ sa → a.tmps.getD t undef = aσ.tmps.getD t undef := by
      intro t ht hne
      by_cases hex : ∃ (j : Nat) (o' : Oper), l[j]? = some o' ∧ o'.dst = some t
      · obtain ⟨j, o', hj, hd⟩ := hex
        obtain ⟨hji, e, he, hb, rfl⟩ := heyes t ht j o' hj hd
        refine i4 _ o' t hj (fun e' => ?_) (hafter e he hb) hd
        rw [e', hoa] at hj
        simp only [Option.some.injEq] at hj
        rw [← hj, ha2] at hd
        exact hne (Option.some.inj hd).symm
      · have hno : ∀ (j : Nat) (o' : Oper), l[j]? = some o' → o'.dst ≠ some t := fun j o' hj hd => hex ⟨j, o', hj, hd⟩
        rw [i3 t hno, hout t fun j o' hj _ => hno j o' hj]
    have hne' : is ≠ ia := fun e => by rw [e, hoa] at hos; obtain rfl := Option.some.inj hos; rw [ha1] at hs1; cases hs1
    by_cases hia : i = ia
    · subst hia
      rw [hoa] at ho
      obtain rfl := Option.some.inj ho
      unfold Oper.wp execOp
      simp only [ha1, Sem.run_bind, hal, Result.andThen_ok, Sem.run_pure, Oper.upon_value]
      rw [ha2]
      have hLs : L is = false := by
        cases hc : L is with
        | false => rfl
        | true => rw [i6 hc] at hLi; cases hLi
      refine ⟨⟨⟨_, hxb.alloc hB _⟩, rfl⟩, (put_defers' _ _ _).trans i1, (put_size _ _ _).trans i2, fun t ht => ?_, fun j o' d hj hne hLj hd => ?_, fun _ => ⟨w.heap.size, hB, put_here _ _ _ (by rw [i2]; exact hd1 sa ha2), ?_⟩, fun _ => by simp [plus]⟩
      · rw [put_other _ _ _ _ (by rw [← ha2]; exact ht i oa hoa)]; exact i3 t ht
      · have hLj' : L j = true := by unfold plus at hLj; rwa [if_neg hne] at hLj
        rw [put_other _ _ _ _ (by rw [← ha2]; exact hd2 j o' hj hne d hd)]; exact i4 j o' d hj hne hLj' hd
      · have : plus L i is = false := by unfold plus; rw [if_neg hne', hLs]
        rw [this]; exact heap_alloc_new w _
    · by_cases his : i = is
      · subst his
        rw [hos] at ho
        obtain rfl := Option.some.inj ho
        have hsa : sa ∈ eyes os := by unfold eyes; rw [hs1]; simp [Op.operands]
        have hLa : L ia = true := by
          obtain ⟨_, e, he, hb, rfl⟩ := heyes sa hsa ia oa hoa ha2
          exact hafter e he hb
        obtain ⟨p, hp, hpt, hpb⟩ := i5 hLa
        rw [hLi] at hpb
        simp only [Bool.false_eq_true, if_false] at hpb
        have hye : a.eval yv = .agg cs := by
          rw [← hval]
          cases hyy : yv with
          | tmp t => exact hsee' t (by unfold eyes; rw [hs1]; simp [Op.operands, hyy]) (hyv t hyy)
          | _ => rfl
        refine wp_store_mid T (.tmp sa) yv hs1 p 0 cs hpt hye (there_block hpb 0 cs.size (by omega)) hi hone ?_
        obtain ⟨e1, e2, e3⟩ := setCells_heap p T cs.toList 0 w cs0 hpb
        rw [setAll_whole hsz] at e1
        rw [hs2]
        refine ⟨⟨⟨_, hxb.grown e2 hB (fun k hk => by cases hk; exact hp)⟩, rfl⟩, i1, i2, i3, fun j o' d hj hne hLj hd => ?_, fun _ => ⟨p, hp, hpt, ?_⟩, fun _ => ?_⟩
        · have hji : j ≠ i := fun e => by rw [e, hos] at hj; obtain rfl := Option.some.inj hj; rw [hs2] at hd; cases hd
          have hLj' : L j = true := by unfold plus at hLj; rwa [if_neg hji] at hLj
          exact i4 j o' d hj hne hLj' hd
        · have : plus L i i = true := by simp [plus]
          rw [this]; exact e1
        · unfold plus; rw [if_neg (Ne.symm hne')]; exact hLa
      · obtain ⟨S, hS, hSp⟩ : ∃ S : Nat → Option Obj, (∀ p o, S p = some o → w.heap[p]? = some o) ∧ (L ia = true → ∃ p, B ≤ p ∧ a.tmps.getD sa undef = .pointer (some ⟨p, 0, none⟩) ∧ S p = some (.cells (if L is then cs else cs0) T (0, 0))) := by
          cases hc : L ia with
          | false => exact ⟨fun _ => none, ⟨fun _ _ h => (by cases h), fun h => (by cases h)⟩⟩
          | true =>
            obtain ⟨p, hp, hpt, hpb⟩ := i5 hc
            refine ⟨fun k => if k = p then some (.cells (if L is then cs else cs0) T (0, 0)) else none, fun k o h => ?_, fun _ => ⟨p, hp, hpt, by simp⟩⟩
            by_cases hk : k = p
            · subst hk; simp only [if_true] at h; rw [hpb]; exact h
            · simp [hk] at h
        obtain ⟨v, ai, hY, hv, hno, hyes⟩ := key S ⟨⟨w, hxb, hS⟩⟩ i o ho hia his
        have he : execOp a.eval o = execOp ai.eval o := by
          refine execOp_congr o (fun c b hc => by rw [notSelect, hc] at hns; cases hns) (eval_eyes fun t ht => ?_)
          by_cases hex : ∃ (j : Nat) (o' : Oper), l[j]? = some o' ∧ o'.dst = some t
          · obtain ⟨j, o', hj, hd⟩ := hex
            obtain ⟨hji, _⟩ := heyes t ht j o' hj hd
            rw [hyes t j o' hji hj hd]
            exact hsee' t ht fun e => hE i o ho his (e ▸ ht)
          · have hn' : ∀ (j : Nat) (o' : Oper), l[j]? = some o' → o'.dst ≠ some t := fun j o' hj hd => hex ⟨j, o', hj, hd⟩
            rw [i3 t hn', hno t hn']
        have hY' := hY.of_same he (by simp [Region.wanted, hg])
        rcases hY' with ⟨_, hq⟩ | ⟨hw0, _⟩
        · refine Oper.wp_of_quiet (C := ClsS B W S) (K := fun a' => a' = a.put o.dst v) ⟨⟨w, hxb, hS⟩, rfl⟩ ?_ ⟨v, hq, rfl⟩
          rintro a' w' ⟨z, rfl⟩ rfl
          refine ⟨⟨⟨z.w, z.h⟩, rfl⟩, (put_defers' _ _ _).trans i1, (put_size _ _ _).trans i2, fun t ht => ?_, fun j o' d hj hne hLj hd => ?_, fun hLp => ?_, fun hLp => ?_⟩
          · rw [put_other _ _ _ _ (ht i o ho)]; exact i3 t ht
          · by_cases hji : j = i
            · subst hji
              rw [ho] at hj
              obtain rfl := Option.some.inj hj
              rw [hd, put_here _ _ _ (by rw [i2]; exact hd1 d hd)]
              exact hv d hd
            · have hLj' : L j = true := by unfold plus at hLj; rwa [if_neg hji] at hLj
              rw [put_other _ _ _ _ (hd2 j o' hj hji d hd)]; exact i4 j o' d hj hne hLj' hd
          · have hLp' : L ia = true := by unfold plus at hLp; rwa [if_neg (Ne.symm hia)] at hLp
            obtain ⟨p, hp, hpt, hpb⟩ := hSp hLp'
            refine ⟨p, hp, ?_, ?_⟩
            · rw [put_other _ _ _ _ (hd2 ia oa hoa (Ne.symm hia) sa ha2)]; exact hpt
            · have : plus L i is = L is := by unfold plus; rw [if_neg (Ne.symm his)]
              rw [this]; exact z.s p _ hpb
          · have hLp' : L is = true := by unfold plus at hLp; rwa [if_neg (Ne.symm his)] at hLp
            unfold plus; rw [if_neg (Ne.symm hia)]; exact i6 hLp'
        · simp [Region.wanted, hg] at hw0
  · intro L a w hall ⟨⟨x, hx⟩, i1, i2, i3, i4, i5, i6⟩
    have hia : ia < l.length := (List.getElem?_eq_some_iff.1 hoa).1
    have his : is < l.length := (List.getElem?_eq_some_iff.1 hos).1
    obtain ⟨p, hp, hpt, hpb⟩ := i5 (hall ia hia)
    rw [hall is his] at hpb
    simp only [if_true] at hpb
    have ha : a = aσ.put (some sa) (.pointer (some ⟨p, 0, none⟩)) := by
      have ht : a.tmps = (aσ.put (some sa) (.pointer (some ⟨p, 0, none⟩))).tmps := by
        have hgd : ∀ k, a.tmps.getD k undef = (aσ.put (some sa) (.pointer (some ⟨p, 0, none⟩))).tmps.getD k undef := by
          intro k
          by_cases hk : k = sa
          · subst hk
            rw [put_here _ _ _ (by rw [hsize]; exact (hL ia oa hoa).2.2.1 k ha2)]; exact hpt
          · rw [put_other _ _ _ _ (fun e => hk (Option.some.inj e).symm)]
            by_cases hex : ∃ (j : Nat) (o' : Oper), l[j]? = some o' ∧ o'.dst = some k
            · obtain ⟨j, o', hj, hd⟩ := hex
              refine i4 j o' k hj (fun e => ?_) (hall j (List.getElem?_eq_some_iff.1 hj).1) hd
              rw [e, hoa] at hj
              obtain rfl := Option.some.inj hj
              rw [ha2] at hd
              exact hk (Option.some.inj hd).symm
            · have hn' : ∀ (j : Nat) (o' : Oper), l[j]? = some o' → o'.dst ≠ some k := fun j o' hj hd => hex ⟨j, o', hj, hd⟩
              rw [i3 k hn', hout k fun j o' hj _ => hn' j o' hj]
        apply Array.ext
        · rw [put_size, i2, hsize]
        · intro k hk1 hk2
          have := hgd k
          rwa [Array.getD_eq_getD_getElem?, Array.getD_eq_getD_getElem?, Array.getElem?_eq_getElem hk1, Array.getElem?_eq_getElem hk2] at this
      have hd : a.defers = (aσ.put (some sa) (.pointer (some ⟨p, 0, none⟩))).defers := by rw [put_defers', hdef, i1]
      cases a
      cases hp2 : aσ.put (some sa) (.pointer (some ⟨p, 0, none⟩))
      rw [hp2] at ht hd
      dsimp only at ht hd
      subst ht hd
      rfl
    rw [ha, hx]
    exact h x p hp (hx ▸ hpb)
def tmpOf : Operand → Option Nat
  | .tmp t => some t
  | _ => none
theorem wp_region_law0 {P : Program} {id : Nat} {Q : Exit → Act → World → Prop} {a0 : Act} {W : World} {l : List Oper} (B : Nat) (aσ : Act) (ia is sa : Nat) (oa os : Oper) (T : TypeId) (yv : Operand) (cs0 cs : Array Value)
    (hm : P.follows .mixedOrders = true) (hback : backB l = true) (hn : lawB l a0.tmps.size = true)
    (hoa : l[ia]? = some oa) (hos : l[is]? = some os) (ha1 : oa.op = .alloc T) (ha2 : oa.dst = some sa) (hs1 : os.op = .store T (.tmp sa) yv) (hs2 : os.dst = none)
    (honly : (l.zipIdx.all fun x => isQ x.1 || (x.2 == ia) || (x.2 == is)) = true) (hsee : (l.zipIdx.all fun x => (x.2 == is) || !(eyes x.1).contains sa) = true)
    (hyv : (tmpOf yv == some sa) = false)
    (hal : ∀ w, (Instr.alloc T true (.tuple #[])).run P w = .ok (.pointer (some ⟨w.heap.size, 0, none⟩)) (w.alloc (.cells cs0 T)))
    (hi : (P.info? T).map (·.size) = some cs.size) (hone : cs.all (·.oneCell') = true) (hsz : cs0.size = cs.size) (hBW : B ≤ W.heap.size)
    (hw : ∀ S, Nonempty (ExtS B W S) → wpQuiet P l.toArray (fun w' => ∃ x : ExtS B W S, w' = x.out) (fun a' => a' = aσ) (l.map mute) a0)
    (hval : aσ.eval yv = .agg cs)
    (h : ∀ (x : Ext B W) (p : Nat), B ≤ p → x.out.heap[p]? = some (.cells cs T (0, 0)) → Q .normal (aσ.put (some sa) (.pointer (some ⟨p, 0, none⟩))) x.out) :
    (Code.region id l.toArray true).wp P Q a0 W :=
  wp_region_law (y := ⟨W, Below.refl _ _⟩) aσ ia is sa oa os T yv cs0 cs hm hback hn hoa hos ha1 ha2 hs1 hs2 honly hsee (fun t ht e => by subst ht; subst e; simp [tmpOf] at hyv) hal hval hi hone hsz hBW hw h
end Go.Proofs.Ytgbihaliiogboaa

/- Slices of numbers that a call has made: compared, marked, held against their marks. -/
namespace Go.Proofs.Ytgbihaliiogboaa
open Go.RowKit
set_option linter.unusedSimpArgs false
set_option linter.unusedVariables false

/-- The cells of numbers. -/
def icells (l : List Int) : List Value := l.map (Value.int .i64)
/-- A slice's elements, numbers, lie at A. -/
def SlI (w : World) (A : Option Addr) (l : List Int) : Prop := ∀ j n, l[j]? = some n → ∃ b off, A = some ⟨b, off, none⟩ ∧ b < w.heap.size ∧ w.cell? ⟨b, off + j, none⟩ = some (.int .i64 n)
theorem SlI.below {B : Nat} {w w' : World} {A : Option Addr} {l : List Int} (h : SlI w A l) (hb : Below B w w') (hB : w.heap.size ≤ B) : SlI w' A l := fun j n hj => by
  obtain ⟨b, off, e, h1, h2⟩ := h j n hj
  exact ⟨b, off, e, Nat.lt_of_lt_of_le h1 hb.size, (hb.cell (p := ⟨b, _, none⟩) (by show b < B; omega)).trans h2⟩
/-- The slice v holds the numbers l; its array, if l is not empty, lies in a block from lo on, below hi, that starts with them. -/
def OwI (lo hi : Nat) (w : World) (v : Value) (l : List Int) : Prop :=
  ∃ A c, v = .slice A l.length c ∧ (l ≠ [] → ∃ (b : Nat) (cs : Array Value), A = some ⟨b, 0, none⟩ ∧ lo ≤ b ∧ b < hi ∧ w.heap[b]? = some (.cells cs 2 (0, 0)) ∧ l.length ≤ cs.size ∧ ∀ (j : Nat) (n : Int), l[j]? = some n → cs[j]? = some (.int .i64 n))
theorem OwI.below {lo hi B : Nat} {w w' : World} {v : Value} {l : List Int} (h : OwI lo hi w v l) (hb : Below B w w') (hB : hi ≤ B) : OwI lo hi w' v l := by
  obtain ⟨A, c, rfl, h⟩ := h
  refine ⟨A, c, rfl, fun hl => ?_⟩
  obtain ⟨b, cs, h1, h2, h3, h4, h5⟩ := h hl
  exact ⟨b, cs, h1, h2, h3, block_below hb h4 (by omega), h5⟩
theorem OwI.cells {lo hi : Nat} {w : World} {v : Value} {l : List Int} (h : OwI lo hi w v l) {j : Nat} {n : Int} (hj : l[j]? = some n) :
    ∃ b c, v = .slice (some ⟨b, 0, none⟩) l.length c ∧ lo ≤ b ∧ b < hi ∧ b < w.heap.size ∧ w.cell? ⟨b, j, none⟩ = some (.int .i64 n) ∧ w.frozen? ⟨b, j, none⟩ = false := by
  obtain ⟨A, c, rfl, h⟩ := h
  obtain ⟨b, cs, rfl, h2, h3, h4, h5, h6⟩ := h (by rintro rfl; simp at hj)
  exact ⟨b, c, rfl, h2, h3, block_lt h4, cell_block h4 (h6 j n hj), frozen_of_row _ _ _ _ _ h4⟩
set_option maxRecDepth 100000 in
theorem c_eqInt64S (lo hi lo' hi' : Nat) (v v' : Value) (l : List Int) (hlen : l.length ≤ 70368744177664) (w : World) (h : OwI lo hi w v l) (h' : OwI lo' hi' w v' l) (hh : hi ≤ w.heap.size) (hh' : hi' ≤ w.heap.size) :
    Calls Try.prog 50 #[v, v'] w fun e w' => e = .returned (.bool true) ∧ Below w.heap.size w w' := by
  have HA := hid h
  have HA' := hid h'
  obtain ⟨A, c, rfl, h0⟩ := h
  obtain ⟨A', c', rfl, h0'⟩ := h'
  clear h0 h0'
  go_enter Try.func50, Try.ntmps50
  go_wp2_with fail
  go_loopw [5] (fun i wr => ∃ k : Nat, k ≤ l.length ∧ i = .int .i64 k ∧ Hid (Below w.heap.size w wr)) (fun i _ => l.length - (intOf i).toNat)
  case atStart => exact ⟨0, by omega, rfl, Below.refl _ _⟩
  case round =>
    obtain ⟨k, hk, rfl, hb⟩ := hrel
    by_cases hkl : k < l.length
    · have hd : decide ((k : Int) < (l.length : Int)) = true := decide_eq_true (by omega)
      have hkI : (k : Int) < (l.length : Int) := by omega
      have hk0 : (0 : Int) ≤ (k : Int) := by omega
      have hp := List.getElem?_eq_getElem hkl
      obtain ⟨p, hpp⟩ : ∃ p, p = l[k] := ⟨_, rfl⟩
      rw [← hpp] at hp
      obtain ⟨b, c1, e1, _, _, q1, q2, _⟩ := (HA.out.below hb.out hh).cells hp
      obtain ⟨b', c1', e1', _, _, q1', q2', _⟩ := (HA'.out.below hb.out hh').cells hp
      obtain ⟨rfl, rfl⟩ : A = some ⟨b, 0, none⟩ ∧ c = c1 := by simpa using e1
      obtain ⟨rfl, rfl⟩ : A' = some ⟨b', 0, none⟩ ∧ c' = c1' := by simpa using e1'
      have hne : (p != p) = false := by simp
      clear hp hpp e1 e1'
      go_wp2_with fail
      refine wp_region_ext wr.heap.size (by kernel_rfl) (by kernel_rfl) ?_
      repeat (go_big_quiet_step (fail))
      refine wpQuiet_nil ?_
      intro x
      go_wp2_with fail
      exact ⟨⟨k + 1, by omega, by go_num, hb.out.trans (x.below.mono hb.out.size)⟩, by simp [intOf]; omega⟩
    · obtain rfl : k = l.length := by omega
      have hd : decide ((l.length : Int) < (l.length : Int)) = false := decide_eq_false (by omega)
      go_wp2_with fail
      go_ret
      exact ⟨rfl, hb.out⟩
/-- One number of such a slice, replaced. -/
theorem OwI.put {lo hi : Nat} {w : World} {b c : Nat} {l : List Int} (h : OwI lo hi w (.slice (some ⟨b, 0, none⟩) l.length c) l) {k : Nat} (hk : k < l.length) (x : Int) :
    OwI lo hi (w.setCell ⟨b, k, none⟩ (.int .i64 x)) (.slice (some ⟨b, 0, none⟩) l.length c) (l.set k x) := by
  obtain ⟨A, c', e, h⟩ := h
  have hne : l ≠ [] := by rintro rfl; simp at hk
  obtain ⟨b', cs, rfl, h2, h3, h4, h5, h6⟩ := h hne
  have e1 := (Value.slice.inj e).1
  obtain rfl : b = b' := by simpa using e1
  have g1 := heap_setCell_same w b k cs _ (.int .i64 x) h4
  refine ⟨_, c, by simp, fun _ => ⟨b, _, rfl, h2, h3, g1, by simp; omega, fun j n hj => ?_⟩⟩
  rw [List.getElem?_set] at hj
  by_cases hjk : k = j
  · subst hjk
    rw [if_pos rfl, if_pos hk] at hj
    obtain rfl := Option.some.inj hj
    rw [Array.getElem?_setIfInBounds, if_pos rfl, if_pos (by omega)]
  · rw [if_neg hjk] at hj
    rw [Array.getElem?_setIfInBounds_ne hjk]
    exact h6 j n hj
/-- The numbers l, those below k marked from m on. -/
def mkI (l : List Int) (m : Int) (k : Nat) : List Int := (List.range l.length).map fun j => if j < k then m + j else l.getD j 0
theorem mkI_len (l : List Int) (m : Int) (k : Nat) : (mkI l m k).length = l.length := by simp [mkI]
theorem mkI_get (l : List Int) (m : Int) (k j : Nat) : (mkI l m k)[j]? = if j < l.length then some (if j < k then m + j else l.getD j 0) else none := by
  unfold mkI
  rw [List.getElem?_map]
  by_cases hj : j < l.length
  · rw [List.getElem?_range hj, if_pos hj]; rfl
  · rw [List.getElem?_eq_none (by simp; omega), if_neg hj]; rfl
theorem mkI_zero (l : List Int) (m : Int) : mkI l m 0 = l := by
  apply List.ext_getElem?
  intro j
  rw [mkI_get]
  by_cases hj : j < l.length
  · rw [if_pos hj, if_neg (by omega), List.getD_eq_getElem?_getD, List.getElem?_eq_getElem hj]; rfl
  · rw [if_neg hj, List.getElem?_eq_none (by omega)]
theorem mkI_step (l : List Int) (m : Int) (k : Nat) (hk : k < l.length) : (mkI l m k).set k (m + k) = mkI l m (k + 1) := by
  apply List.ext_getElem?
  intro j
  rw [List.getElem?_set, mkI_get, mkI_get, mkI_len]
  by_cases hj : j < l.length
  · rw [if_pos hj, if_pos hj]
    by_cases hjk : k = j
    · subst hjk; rw [if_pos rfl, if_pos hk, if_pos (by omega)]
    · rw [if_neg hjk]
      by_cases h2 : j < k
      · rw [if_pos h2, if_pos (by omega)]
      · rw [if_neg h2, if_neg (by omega)]
  · rw [if_neg hj, if_neg hj]
    by_cases hjk : k = j
    · omega
    · rw [if_neg hjk]
set_option maxRecDepth 100000 in
theorem c_markInt64S (lo hi : Nat) (v : Value) (l : List Int) (m : Int) (hm : 0 ≤ m ∧ m ≤ 1000000) (hlen : l.length ≤ 10000000) (w : World) (h : OwI lo hi w v l) (hh : hi ≤ w.heap.size) (hlo : lo ≤ w.heap.size) :
    Calls Try.prog 51 #[v, .int .i64 m] w fun e w' => e = .returned (.int .i64 (m + l.length)) ∧ Below lo w w' ∧ OwI lo hi w' v (mkI l m l.length) := by
  have h0 := h
  obtain ⟨A, c, rfl, _⟩ := h
  go_enter Try.func51, Try.ntmps51
  go_wp2_with fail
  go_loopw [1, 5] (fun q i wr => ∃ k : Nat, k ≤ l.length ∧ i = .int .i64 k ∧ q = .int .i64 (m + k) ∧ Hid (Below lo w wr) ∧ Hid (OwI lo hi wr (.slice A l.length c) (mkI l m k))) (fun _ i _ => l.length - (intOf i).toNat)
  case atStart => exact ⟨0, by omega, rfl, by simp, Below.refl _ _, by rw [mkI_zero]; exact h0⟩
  case round =>
    obtain ⟨k, hk, rfl, rfl, hb, hO⟩ := hrel
    by_cases hkl : k < l.length
    · have hd : decide ((k : Int) < (l.length : Int)) = true := decide_eq_true (by omega)
      have hkI : (k : Int) < (l.length : Int) := by omega
      have hk0 : (0 : Int) ≤ (k : Int) := by omega
      have hkl' : k < (mkI l m k).length := by rw [mkI_len]; exact hkl
      have hp := List.getElem?_eq_getElem hkl'
      obtain ⟨p, hpp⟩ : ∃ p, p = (mkI l m k)[k] := ⟨_, rfl⟩
      rw [← hpp] at hp
      obtain ⟨b, c1, e1, r1, _, q1, q2, f2⟩ := hO.out.cells hp
      obtain ⟨rfl, _, rfl⟩ : A = some ⟨b, 0, none⟩ ∧ l.length = (mkI l m k).length ∧ c = c1 := by simpa using e1
      have HP : Hid (OwI lo hi (wr.setCell ⟨b, k, none⟩ (.int .i64 (m + k))) (.slice (some ⟨b, 0, none⟩) l.length c) (mkI l m (k + 1))) := by
        have := hO.out
        rw [← mkI_len l m k] at this
        have := OwI.put this hkl' (m + k)
        rw [mkI_step l m k hkl, mkI_len] at this
        exact this
      clear hp hpp e1 h0 hkl'
      go_wp2_with fail
      exact ⟨⟨k + 1, by omega, by go_num, congrArg (Value.int .i64) (by omega), Below.setCell hb.out (p := ⟨b, k, none⟩) r1 _, HP.out⟩, by simp [intOf]; omega⟩
    · obtain rfl : k = l.length := by omega
      have hd : decide ((l.length : Int) < (l.length : Int)) = false := decide_eq_false (by omega)
      go_wp2_with fail
      go_ret
      exact ⟨rfl, hb.out, hO.out⟩
set_option maxRecDepth 100000 in
theorem c_heldInt64S (lo hi : Nat) (v : Value) (l : List Int) (m : Int) (hm : 0 ≤ m ∧ m ≤ 1000000) (hlen : l.length ≤ 10000000) (w : World) (h : OwI lo hi w v (mkI l m l.length)) :
    Calls Try.prog 52 #[v, .int .i64 m] w fun e w' => e = .returned (.int .i64 (m + l.length)) ∧ Below w.heap.size w w' := by
  have h0 := hid h
  obtain ⟨A, c, rfl, _⟩ := h
  rw [mkI_len] at h0 ⊢
  go_enter Try.func52, Try.ntmps52
  go_wp2_with fail
  go_loop [1, 5] (fun q i => ∃ k : Nat, k ≤ l.length ∧ i = .int .i64 k ∧ q = .int .i64 (m + k)) (fun _ i => l.length - (intOf i).toNat)
  case atStart => exact ⟨0, by omega, rfl, by simp⟩
  case round =>
    obtain ⟨k, hk, rfl, rfl⟩ := hrel
    by_cases hkl : k < l.length
    · have hd : decide ((k : Int) < (l.length : Int)) = true := decide_eq_true (by omega)
      have hkI : (k : Int) < (l.length : Int) := by omega
      have hk0 : (0 : Int) ≤ (k : Int) := by omega
      have hp : (mkI l m l.length)[k]? = some (m + k) := by rw [mkI_get, if_pos hkl, if_pos hkl]
      obtain ⟨b, c1, e1, r1, _, q1, q2, _⟩ := h0.out.cells hp
      obtain ⟨rfl, _⟩ : A = some ⟨b, 0, none⟩ ∧ c = c1 := by simpa [mkI_len] using e1
      have hne : (m + (k : Int) != m + (k : Int)) = false := by simp
      clear hp e1
      go_wp2_with fail
      exact ⟨⟨k + 1, by omega, by go_num, congrArg (Value.int .i64) (by omega)⟩, by simp [intOf]; omega⟩
    · obtain rfl : k = l.length := by omega
      have hd : decide ((l.length : Int) < (l.length : Int)) = false := decide_eq_false (by omega)
      go_wp2_with fail
      go_ret
      exact ⟨rfl, Below.refl _ _⟩
theorem OwI.of_owns {w : World} {base : Nat} {v : Value} {l : List Int} (h : w.ownsRow base 2 1 v l.length (icells l)) : OwI base w.heap.size w v l := by
  rcases h.2 with ⟨rfl, hn⟩ | ⟨g, cap, cur, rfl, hb, hg, hc, hm, hs, ht⟩
  · exact ⟨none, 0, by rw [hn], fun hl => absurd (List.eq_nil_of_length_eq_zero hn) hl⟩
  · refine ⟨_, cap, rfl, fun _ => ⟨g, cur, rfl, hb, block_lt hg, hg, by rw [hs]; omega, fun j n hj => ?_⟩⟩
    have hjl := (List.getElem?_eq_some_iff.1 hj).1
    have hp : (icells l)[j]? = some (.int .i64 n) := by unfold icells; rw [List.getElem?_map, hj]; rfl
    rw [← ht, List.getElem?_take, if_pos (by omega)] at hp
    simpa using hp
theorem owns_slice' {w : World} {base : Nat} {T : TypeId} {s n : Nat} {v : Value} {xs : List Value} (h : w.ownsRow base T s v n xs) : ∃ A c, v = .slice A n c := by
  rcases h.2 with ⟨rfl, rfl⟩ | ⟨g, cap, cur, rfl, _⟩
  · exact ⟨none, 0, rfl⟩
  · exact ⟨_, _, rfl⟩
/-- A result of two: a slice of numbers and a code. -/
def RetI (w : World) (l : List Int) (k : Int) (e : Ending) (w' : World) : Prop := ∃ v, e = .returned (.tuple #[v, .int .i64 k]) ∧ Below w.heap.size w w' ∧ w'.ownsRow w.heap.size 2 1 v l.length (icells l)
/-- A slice of numbers whose array lies in the blocks lo .. hi, all of them laid. -/
def OwJ (lo hi : Nat) (w : World) (v : Value) (l : List Int) : Prop := OwI lo hi w v l ∧ lo ≤ hi ∧ hi ≤ w.heap.size
theorem OwJ.below {lo hi : Nat} {w w' : World} {v : Value} {l : List Int} (h : OwJ lo hi w v l) (hb : Below w.heap.size w w') : OwJ lo hi w' v l := ⟨h.1.below hb h.2.2, h.2.1, Nat.le_trans h.2.2 hb.size⟩
theorem OwJ.below' {lo hi B : Nat} {w w' : World} {v : Value} {l : List Int} (h : OwJ lo hi w v l) (hb : Below B w w') (hB : hi ≤ B) (hs : w.heap.size ≤ w'.heap.size) : OwJ lo hi w' v l := ⟨h.1.below hb hB, h.2.1, Nat.le_trans h.2.2 hs⟩
theorem OwJ.of {w w' : World} {v : Value} {l : List Int} (h : w'.ownsRow w.heap.size 2 1 v l.length (icells l)) (hb : Below w.heap.size w w') : OwJ w.heap.size w'.heap.size w' v l := ⟨OwI.of_owns h, hb.size, Nat.le_refl _⟩
theorem q_eqInt64S {lo hi lo' hi' : Nat} {v v' : Value} {l : List Int} (hlen : l.length ≤ 1000000) {w : World} (h : OwJ lo hi w v l) (h' : OwJ lo' hi' w v' l) :
    Calls Try.prog 50 #[v, v'] w fun e w' => e = .returned (.bool true) ∧ Below w.heap.size w w' :=
  c_eqInt64S lo hi lo' hi' v v' l (Nat.le_trans hlen (by decide)) w h.1 h'.1 h.2.2 h'.2.2
theorem q_markInt64S {lo hi : Nat} {v : Value} {l : List Int} (hlen : l.length ≤ 1000000) {w : World} (h : OwJ lo hi w v l) :
    Calls Try.prog 51 #[v, .int .i64 1] w fun e w' => e = .returned (.int .i64 (1 + l.length)) ∧ Below lo w w' ∧ OwJ lo hi w' v (mkI l 1 l.length) :=
  (c_markInt64S lo hi v l 1 (by decide) (Nat.le_trans hlen (by decide)) w h.1 h.2.2 (Nat.le_trans h.2.1 h.2.2)).mono fun _ _ ⟨he, hb, ho⟩ => ⟨he, hb, ho, h.2.1, Nat.le_trans h.2.2 hb.size⟩
theorem q_heldInt64S {lo hi : Nat} {v : Value} {l : List Int} (hlen : l.length ≤ 1000000) {w : World} (h : OwJ lo hi w v (mkI l 1 l.length)) :
    Calls Try.prog 52 #[v, .int .i64 1] w fun e w' => e = .returned (.int .i64 (1 + l.length)) ∧ Below w.heap.size w w' :=
  c_heldInt64S lo hi v l 1 (by decide) (Nat.le_trans hlen (by decide)) w h.1
/-- What a call out of a world above W has left: a slice of numbers and a code. -/
def WildI (B : Nat) (W : World) (l : List Int) (k : Int) (u : Value) (w' : World) : Prop := ∃ (x : Ext B W) (A : Option Addr) (c : Nat), u = .tuple #[.slice A l.length c, .int .i64 k] ∧ Below x.out.heap.size x.out w' ∧ OwJ x.out.heap.size w'.heap.size w' (.slice A l.length c) l
theorem WildI.of {B : Nat} {W : World} {x : Ext B W} {P : Program} {f : FuncId} {args : Array Value} {l : List Int} {k : Int} (h : Calls P f args x.out (RetI x.out l k)) : Calls P f args x.out fun e w' => ∃ u, e = .returned u ∧ WildI B W l k u w' :=
  h.mono fun e w' ⟨v, he, hb, ho⟩ => by
    obtain ⟨A, c, rfl⟩ := owns_slice' ho
    exact ⟨_, he, x, A, c, rfl, hb, OwJ.of ho hb⟩
theorem Try.infoI64 : (Try.prog.info? 2).map (fun i => (i.zero, i.size, i.bytes)) = some (some (.int .i64 0), 1, 8) := by kernel_rfl
end Go.Proofs.Ytgbihaliiogboaa

/- areAll and IndexFunc over numbers, at a function value. -/
namespace Go.Proofs.Ytgbihaliiogboaa
open Go.RowKit
set_option linter.unusedSimpArgs false
set_option linter.unusedVariables false

/-- A function value that tells of the numbers of a list, in all worlds above a world. -/
def TellsI (g : Nat) (fst cap : Array Value) (f : Int → Bool) (l : List Int) (w : World) : Prop :=
  ∀ (W : World) (p : Int), p ∈ l → Below w.heap.size w W → Calls Try.prog g (fst ++ #[.int .i64 p] ++ cap) W fun e w' => e = .returned (.bool (f p)) ∧ Below W.heap.size W w'
/-- The first number's index of which f says yes, or -1. -/
def idxI (f : Int → Bool) (l : List Int) : Int := if l.any f = true then (l.findIdx f : Int) else -1
theorem idxI_at {f : Int → Bool} {l : List Int} {k : Nat} (hk : k < l.length) (h : (l.take k).any f = false) (hf : f l[k] = true) : (k : Int) = idxI f l := by
  have h1 : l.any f = true := List.any_eq_true.2 ⟨_, List.getElem_mem hk, hf⟩
  unfold idxI
  rw [if_pos h1]
  have e : l = l.take k ++ l.drop k := (List.take_append_drop k l).symm
  have h2 : (l.take k).findIdx f = k := by
    have h3 : (l.take k).findIdx f = (l.take k).length := List.findIdx_eq_length.2 fun x hx => by
      have := List.any_eq_false.1 h x hx
      simpa using this
    rw [h3, List.length_take]; omega
  have h4 : (l.drop k).findIdx f = 0 := by
    rw [List.drop_eq_getElem_cons hk, List.findIdx_cons, hf]; rfl
  rw [e, List.findIdx_append, h2, h4, List.length_take, if_neg (by omega)]
  omega
end Go.Proofs.Ytgbihaliiogboaa

/- Slices that came in, opened: of pairs of numbers, of numbers. -/
namespace Go.Proofs.Ytgbihaliiogboaa
open Go.RowKit Go.ChangeShapes Go.WideShapes
set_option linter.unusedVariables false
set_option linter.unusedSimpArgs false

theorem addr_plain {w : World} {a : Addr} {v : Value} (h : w.cell? a = some v) : a = ⟨a.block, a.off, none⟩ := by
  unfold World.cell? at h
  split at h
  · obtain ⟨b, o, s⟩ := a
    cases s with
    | none => rfl
    | some s => simp at h
  · cases h
theorem add_plain (b o n : Nat) : (⟨b, o, none⟩ : Addr).add n = ⟨b, o + n, none⟩ := by
  unfold Addr.add
  split
  · subst ‹_›; rfl
  · rfl
theorem list_of {α : Type} [Inhabited α] {P : Nat → α → Prop} (n : Nat) (h : ∀ i, i < n → ∃ x, P i x) : ∃ l : List α, l.length = n ∧ ∀ i x, l[i]? = some x → P i x := by
  refine ⟨(List.range n).map fun i => if hi : i < n then Classical.choose (h i hi) else default, by simp, fun i x hx => ?_⟩
  rw [List.getElem?_map] at hx
  by_cases hi : i < n
  · rw [List.getElem?_range hi] at hx
    simp only [Option.map_some, hi, dif_pos, Option.some.injEq] at hx
    rw [← hx]; exact Classical.choose_spec (h i hi)
  · rw [List.getElem?_eq_none (by simp; omega)] at hx; cases hx
section
variable {H : Type} {enc : TypeId × Value → H} {P : Program} {w : World} {base : Nat} {spare : Nat → Bool} {held : Bool}
/-- Pairs of numbers in a slice that came in. -/
theorem open_pairs {t e : TypeId} {k1 k2 : IntKind} {R : Int × Int → Prop} (ht : P.underlying t = some (.slice e)) (hc : P.cellsOf e = 2)
    (hop : ∀ {fuel : Nat} {cs : List Value} {x : DataW H × List MemPlace}, DataW.trod enc P w base spare held fuel e cs = some x → cs.length = 2 → ∃ a b : Int, cs = [.int k1 a, .int k2 b] ∧ R (a, b))
    {fuel : Nat} {cs : List Value} {x : DataW H × List MemPlace} (h : DataW.trod enc P w base spare held fuel t cs = some x) :
    ∃ (A : Option Addr) (c : Nat) (l : List (Int × Int)), cs = [.slice A l.length c] ∧ l.length ≤ c ∧ c ≤ maxLen ∧ (∀ p ∈ l, R p) ∧
      ∀ j p, l[j]? = some p → ∃ b off, A = some ⟨b, off, none⟩ ∧ b < w.heap.size ∧ w.cell? ⟨b, off + j * 2, none⟩ = some (.int k1 p.1) ∧ w.cell? ⟨b, off + j * 2 + 1, none⟩ = some (.int k2 p.2) := by
  rcases DataW.trod_slice ht h with ⟨rfl, rfl⟩ | ⟨a, len, cap, elems, rest, n, _, rfl, rfl, hb, hl, hm, hlen, hel, _, _⟩
  · exact ⟨none, 0, [], rfl, by simp, by decide, fun p hp => by simp at hp, fun j p hj => by simp at hj⟩
  · have key : ∀ i, i < len → ∃ p : Int × Int, R p ∧ w.cell? (a.add (i * 2)) = some (.int k1 p.1) ∧ w.cell? ((a.add (i * 2)).add 1) = some (.int k2 p.2) := by
      intro i hi
      have h1 := hel i hi
      rw [hc, List.getElem?_eq_getElem (by omega : i < elems.length), Option.bind_eq_some_iff] at h1
      obtain ⟨cs', h2, h3⟩ := h1
      obtain ⟨_, hl2, hcl⟩ := World.cells?_some h2
      obtain ⟨p1, p2, rfl, hr⟩ := hop h3 hl2
      have c0 := hcl 0 (by omega)
      have c1 := hcl 1 (by omega)
      refine ⟨(p1, p2), hr, ?_, c1⟩
      have e : (a.add (i * 2)).add 0 = a.add (i * 2) := by simp [Addr.add]
      rw [e] at c0; exact c0
    obtain ⟨l, hll, hlp⟩ := list_of len key
    refine ⟨some a, cap, l, by rw [hll], by omega, hm, fun p hp => ?_, fun j p hj => ?_⟩
    · obtain ⟨i, hi, rfl⟩ := List.getElem_of_mem hp
      exact (hlp i _ (List.getElem?_eq_getElem hi)).1
    · obtain ⟨_, h1, h2⟩ := hlp j p hj
      have hj' := (List.getElem?_eq_some_iff.1 hj).1
      obtain ⟨p0, _, h3, _⟩ := key 0 (by omega)
      have e0 : a.add (0 * 2) = a := by simp [Addr.add]
      rw [e0] at h3
      have hp := addr_plain h3
      obtain ⟨ab, ao, asp⟩ := a
      dsimp only at hp
      obtain ⟨_, _, rfl⟩ : ab = ab ∧ ao = ao ∧ asp = none := by simpa using hp
      rw [add_plain] at h1
      rw [add_plain, add_plain] at h2
      exact ⟨ab, ao, rfl, World.block_lt_of_cell? w _ h1, h1, h2⟩
/-- Numbers in a slice that came in. -/
theorem open_nums {t e : TypeId} {k : IntKind} (ht : P.underlying t = some (.slice e)) (he : P.underlying e = some (.int k)) (hc : P.cellsOf e = 1)
    {fuel : Nat} {cs : List Value} {x : DataW H × List MemPlace} (h : DataW.trod enc P w base spare held fuel t cs = some x) :
    ∃ (A : Option Addr) (c : Nat) (l : List Int), cs = [.slice A l.length c] ∧ l.length ≤ c ∧ c ≤ maxLen ∧ (∀ n ∈ l, (Lit.int k n).wf = true) ∧
      ∀ j n, l[j]? = some n → ∃ b off, A = some ⟨b, off, none⟩ ∧ b < w.heap.size ∧ w.cell? ⟨b, off + j, none⟩ = some (.int k n) := by
  rcases DataW.trod_slice ht h with ⟨rfl, rfl⟩ | ⟨a, len, cap, elems, rest, n, _, rfl, rfl, hb, hl, hm, hlen, hel, _, _⟩
  · exact ⟨none, 0, [], rfl, by simp, by decide, fun p hp => by simp at hp, fun j p hj => by simp at hj⟩
  · have key : ∀ i, i < len → ∃ m : Int, (Lit.int k m).wf = true ∧ w.cell? (a.add i) = some (.int k m) := by
      intro i hi
      have h1 := hel i hi
      rw [hc, Nat.mul_one, List.getElem?_eq_getElem (by omega : i < elems.length), Option.bind_eq_some_iff] at h1
      obtain ⟨cs', h2, h3⟩ := h1
      obtain ⟨m, rfl, _, hw⟩ := DataW.trod_int he h3
      exact ⟨m, hw, cell_of_cells?_one h2⟩
    obtain ⟨l, hll, hlp⟩ := list_of len key
    refine ⟨some a, cap, l, by rw [hll], by omega, hm, fun p hp => ?_, fun j p hj => ?_⟩
    · obtain ⟨i, hi, rfl⟩ := List.getElem_of_mem hp
      exact (hlp i _ (List.getElem?_eq_getElem hi)).1
    · obtain ⟨_, h1⟩ := hlp j p hj
      have hj' := (List.getElem?_eq_some_iff.1 hj).1
      obtain ⟨p0, _, h3⟩ := key 0 (by omega)
      have e0 : a.add 0 = a := by simp [Addr.add]
      rw [e0] at h3
      have hp := addr_plain h3
      obtain ⟨ab, ao, asp⟩ := a
      dsimp only at hp
      obtain ⟨_, _, rfl⟩ : ab = ab ∧ ao = ao ∧ asp = none := by simpa using hp
      rw [add_plain] at h1
      exact ⟨ab, ao, rfl, World.block_lt_of_cell? w _ h1, h1⟩
theorem list2' (l : List Value) (hl : l.length = 2) : l = (l.drop 0).take 1 ++ (l.drop 1).take 1 := by
  match l, hl with
  | [a, b], _ => rfl
/-- A struct of two numbers. -/
theorem open_two {e : TypeId} {fs : Array Field} {t1 t2 : TypeId} {k1 k2 : IntKind} {i1 i2 : Field} (hu : P.underlying e = some (.struct fs)) (h0 : fs.toList = [i1, i2]) (ho1 : i1.offset = 0) (ho2 : i2.offset = 1) (ht1 : i1.type = t1) (ht2 : i2.type = t2)
    (hu1 : P.underlying t1 = some (.int k1)) (hu2 : P.underlying t2 = some (.int k2)) (hc1 : P.cellsOf t1 = 1) (hc2 : P.cellsOf t2 = 1)
    {fuel : Nat} {cs : List Value} {x : DataW H × List MemPlace} (hf : DataW.trod enc P w base spare held fuel e cs = some x) (hsz : cs.length = 2) :
    ∃ a b : Int, cs = [.int k1 a, .int k2 b] ∧ (Lit.int k1 a).wf = true ∧ (Lit.int k2 b).wf = true := by
  obtain ⟨xs, m, _, _, hl, hn, hel⟩ := DataW.trod_struct hu hf
  have hs : fs.size = 2 := by have := congrArg List.length h0; simpa using this
  have g0 : fs[0]? = some i1 := by rw [← Array.getElem?_toList, h0]; rfl
  have g1 : fs[1]? = some i2 := by rw [← Array.getElem?_toList, h0]; rfl
  have f0 := hel 0 _ g0
  have f1 := hel 1 _ g1
  rw [ho1, ht1, hc1, List.getElem?_eq_getElem (by omega : 0 < xs.length)] at f0
  rw [ho2, ht2, hc2, List.getElem?_eq_getElem (by omega : 1 < xs.length)] at f1
  obtain ⟨a, ea, _, wa⟩ := DataW.trod_int hu1 f0
  obtain ⟨b, eb, _, wb⟩ := DataW.trod_int hu2 f1
  refine ⟨a, b, ?_, wa, wb⟩
  rw [list2' cs hsz, ea, eb]; rfl
end
end Go.Proofs.Ytgbihaliiogboaa

/- Arguments of the laws that hold slices, opened. -/
namespace Go.Proofs.Ytgbihaliiogboaa
open Go.RowKit Go.ChangeShapes Go.WideShapes
set_option linter.unusedVariables false
set_option linter.unusedSimpArgs false

theorem ok_i8 {n : Int} (h : (Lit.int .i8 n).wf = true) : -128 ≤ n ∧ n ≤ 127 := by simp [Lit.wf, IntKind.min, IntKind.max, IntKind.bits, IntKind.signed] at h; omega
theorem ok_i16 {n : Int} (h : (Lit.int .i16 n).wf = true) : -32768 ≤ n ∧ n ≤ 32767 := by simp [Lit.wf, IntKind.min, IntKind.max, IntKind.bits, IntKind.signed] at h; omega
theorem ok_u8 {n : Int} (h : (Lit.int .u8 n).wf = true) : 0 ≤ n ∧ n ≤ 255 := by simp [Lit.wf, IntKind.min, IntKind.max, IntKind.bits, IntKind.signed] at h; omega
theorem ok_i64 {n : Int} (h : (Lit.int .i64 n).wf = true) : -9223372036854775808 ≤ n ∧ n ≤ 9223372036854775807 := by simp [Lit.wf, IntKind.min, IntKind.max, IntKind.bits, IntKind.signed] at h; omega
/-- Pairs of numbers lie at A. -/
def PairsAt (k1 k2 : IntKind) (w : World) (A : Option Addr) (l : List (Int × Int)) : Prop := ∀ j p, l[j]? = some p → ∃ b off, A = some ⟨b, off, none⟩ ∧ b < w.heap.size ∧ w.cell? ⟨b, off + j * 2, none⟩ = some (.int k1 p.1) ∧ w.cell? ⟨b, off + j * 2 + 1, none⟩ = some (.int k2 p.2)
section
variable {H : Type} {enc : TypeId × Value → H} {w : World} {base : Nat} {spare : Nat → Bool} {held : Bool}
set_option maxRecDepth 100000 in
theorem open_span {fuel : Nat} {cs : List Value} {x : DataW H × List MemPlace} (hf : DataW.trod enc Try.prog w base spare held fuel 85 cs = some x) (hsz : cs.length = 2) :
    ∃ a b : Int, cs = [.int .i16 a, .int .i16 b] ∧ ((-32768 ≤ a ∧ a ≤ 32767) ∧ (-32768 ≤ b ∧ b ≤ 32767)) := by
  obtain ⟨a, b, e, wa, wb⟩ := open_two Try.underlying85 rfl rfl rfl rfl rfl Try.underlying80 Try.underlying80 (by kernel_rfl) (by kernel_rfl) hf hsz
  exact ⟨a, b, e, ok_i16 wa, ok_i16 wb⟩
set_option maxRecDepth 100000 in
theorem open_spanV {r : Reach} {b0 : Nat} {v : Value} {d : DataW H} {p : List MemPlace} (hv : Value.okWide Try.prog w r b0 85 v) (h : DataW.Trod enc Try.prog w base spare held 85 v d p) :
    ∃ a b : Int, v = .agg #[.int .i16 a, .int .i16 b] ∧ (-32768 ≤ a ∧ a ≤ 32767) ∧ (-32768 ≤ b ∧ b ≤ 32767) := by
  obtain ⟨cs, rfl, hsz⟩ := okWide_struct Try.underlying85 hv
  obtain ⟨fuel, hf⟩ := h
  have hc : Try.prog.cellsOf 85 = 2 := by kernel_rfl
  have hl : cs.toList.length = 2 := by
    obtain ⟨xs, m, _, _, hl, _, _⟩ := DataW.trod_struct Try.underlying85 hf
    rw [hc] at hl; exact hl
  obtain ⟨a, b, e, ba⟩ := open_span hf hl
  refine ⟨a, b, ?_, ba.1, ba.2⟩
  congr 1
  apply Array.toList_inj.1
  exact e
set_option maxRecDepth 100000 in
theorem open_shape {r : Reach} {b0 : Nat} {v : Value} {d : DataW H} {p : List MemPlace} (hv : Value.okWide Try.prog w r b0 24 v) (h : DataW.Trod enc Try.prog w base spare held 24 v d p) :
    ∃ (s : Int) (A : Option Addr) (c : Nat) (l : List (Int × Int)), v = .agg #[.int .u8 s, .slice A l.length c] ∧ (0 ≤ s ∧ s ≤ 255) ∧ l.length ≤ c ∧ c ≤ maxLen ∧ (∀ p ∈ l, (-32768 ≤ p.1 ∧ p.1 ≤ 32767) ∧ (-32768 ≤ p.2 ∧ p.2 ≤ 32767)) ∧ PairsAt .i16 .i16 w A l := by
  obtain ⟨cs, rfl, hsz⟩ := okWide_struct Try.underlying24 hv
  obtain ⟨fuel, hf⟩ := h
  obtain ⟨xs, m, _, _, hl, hn, hel⟩ := DataW.trod_struct Try.underlying24 hf
  have hc1 : Try.prog.cellsOf 5 = 1 := by kernel_rfl
  have hc2 : Try.prog.cellsOf 22 = 1 := by kernel_rfl
  have hc4 : Try.prog.cellsOf 24 = 2 := by kernel_rfl
  simp only [Value.cells] at hl hel
  rw [hc4] at hl
  have hn2 : xs.length = 2 := hn
  have f0 : DataW.trod enc Try.prog w base spare held m 5 ((cs.toList.drop 0).take (Try.prog.cellsOf 5)) = xs[0]? := hel 0 _ rfl
  have f1 : DataW.trod enc Try.prog w base spare held m 22 ((cs.toList.drop 1).take (Try.prog.cellsOf 22)) = xs[1]? := hel 1 _ rfl
  rw [hc1, List.getElem?_eq_getElem (by omega : 0 < xs.length)] at f0
  rw [hc2, List.getElem?_eq_getElem (by omega : 1 < xs.length)] at f1
  obtain ⟨a, ea, _, wa⟩ := DataW.trod_int Try.underlying5 f0
  have hcS : Try.prog.cellsOf 85 = 2 := by kernel_rfl
  obtain ⟨A, c, l, e1, g1, g2, g3, g4⟩ := open_pairs (k1 := .i16) (k2 := .i16) (R := fun p => (-32768 ≤ p.1 ∧ p.1 ≤ 32767) ∧ (-32768 ≤ p.2 ∧ p.2 ≤ 32767)) Try.underlying22 hcS (fun hf hsz => open_span hf hsz) f1
  refine ⟨a, A, c, l, ?_, ok_u8 wa, g1, g2, g3, g4⟩
  congr 1
  apply Array.toList_inj.1
  rw [list2' cs.toList hl, ea, e1]; rfl
set_option maxRecDepth 100000 in
theorem open_piece {fuel : Nat} {cs : List Value} {x : DataW H × List MemPlace} (hf : DataW.trod enc Try.prog w base spare held fuel 71 cs = some x) (hsz : cs.length = 2) :
    ∃ a b : Int, cs = [.int .i8 a, .int .i8 b] ∧ ((-128 ≤ a ∧ a ≤ 127) ∧ (-128 ≤ b ∧ b ≤ 127)) := by
  obtain ⟨a, b, e, wa, wb⟩ := open_two Try.underlying71 rfl rfl rfl rfl rfl Try.underlying62 Try.underlying62 (by kernel_rfl) (by kernel_rfl) hf hsz
  exact ⟨a, b, e, ok_i8 wa, ok_i8 wb⟩
set_option maxRecDepth 100000 in
theorem open_pieces {r : Reach} {b0 : Nat} {v : Value} {d : DataW H} {p : List MemPlace} (hv : Value.okWide Try.prog w r b0 40 v) (h : DataW.Trod enc Try.prog w base spare held 40 v d p) :
    ∃ (A : Option Addr) (c : Nat) (l : List (Int × Int)), v = .slice A l.length c ∧ l.length ≤ c ∧ c ≤ maxLen ∧ (∀ p ∈ l, (-128 ≤ p.1 ∧ p.1 ≤ 127) ∧ (-128 ≤ p.2 ∧ p.2 ≤ 127)) ∧ PairsAt .i8 .i8 w A l := by
  obtain ⟨a, len, cap, rfl⟩ := okWide_slice Try.underlying40 hv
  obtain ⟨fuel, hf⟩ := h
  have hcS : Try.prog.cellsOf 71 = 2 := by kernel_rfl
  obtain ⟨A, c, l, e1, g1, g2, g3, g4⟩ := open_pairs (k1 := .i8) (k2 := .i8) (R := fun p => (-128 ≤ p.1 ∧ p.1 ≤ 127) ∧ (-128 ≤ p.2 ∧ p.2 ≤ 127)) Try.underlying40 hcS (fun hf hsz => open_piece hf hsz) hf
  refine ⟨A, c, l, ?_, g1, g2, g3, g4⟩
  simpa [Value.cells] using e1
set_option maxRecDepth 100000 in
theorem open_i64s {r : Reach} {b0 : Nat} {v : Value} {d : DataW H} {p : List MemPlace} (hv : Value.okWide Try.prog w r b0 75 v) (h : DataW.Trod enc Try.prog w base spare held 75 v d p) :
    ∃ (A : Option Addr) (c : Nat) (l : List Int), v = .slice A l.length c ∧ l.length ≤ c ∧ c ≤ maxLen ∧ (∀ n ∈ l, -9223372036854775808 ≤ n ∧ n ≤ 9223372036854775807) ∧
      ∀ j n, l[j]? = some n → ∃ b off, A = some ⟨b, off, none⟩ ∧ b < w.heap.size ∧ w.cell? ⟨b, off + j, none⟩ = some (.int .i64 n) := by
  obtain ⟨a, len, cap, rfl⟩ := okWide_slice Try.underlying75 hv
  obtain ⟨fuel, hf⟩ := h
  obtain ⟨A, c, l, e1, g1, g2, g3, g4⟩ := open_nums (k := .i64) Try.underlying75 Try.underlying2 (by kernel_rfl) hf
  refine ⟨A, c, l, ?_, g1, g2, fun n hn => ok_i64 (g3 n hn), g4⟩
  simpa [Value.cells] using e1
end
theorem and_mk {a b : Bool} (ha : a = true) (hb : b = true) : (a && b) = true := by rw [ha, hb]; rfl
theorem Try.laidOut : laidOutB Try.prog = true := by kernel_rfl
theorem Try.own : ownKnob Try.prog.godebug = none := by kernel_rfl
end Go.Proofs.Ytgbihaliiogboaa

/- areAll and IndexFunc over slices of pieces, at a function value. -/
namespace Go.Proofs.Ytgbihaliiogboaa
open Go.RowKit
set_option linter.unusedSimpArgs false
set_option linter.unusedVariables false
def SlV (w : World) (A : Option Addr) (l : List (Value × Bool)) : Prop := ∀ j v, l[j]? = some v → ∃ b off, A = some ⟨b, off, none⟩ ∧ b < w.heap.size ∧ w.cell? ⟨b, off + j, none⟩ = some v.1
theorem SlV.below {B : Nat} {w w' : World} {A : Option Addr} {l : List (Value × Bool)} (h : SlV w A l) (hb : Below B w w') (hB : w.heap.size ≤ B) : SlV w' A l := fun j n hj => by
  obtain ⟨b, off, e, h1, h2⟩ := h j n hj
  exact ⟨b, off, e, Nat.lt_of_lt_of_le h1 hb.size, (hb.cell (p := ⟨b, _, none⟩) (by show b < B; omega)).trans h2⟩
def TellsV (g : Nat) (fst cap : Array Value) (f : Value × Bool → Bool) (l : List (Value × Bool)) (w : World) : Prop :=
  ∀ (W : World) (p : Value × Bool), p ∈ l → Below w.heap.size w W → Calls Try.prog g (fst ++ #[p.1] ++ cap) W fun e w' => e = .returned (.bool (f p)) ∧ Below W.heap.size W w'
def idxV (f : Value × Bool → Bool) (l : List (Value × Bool)) : Int := if l.any f = true then (l.findIdx f : Int) else -1
theorem idxV_at {f : Value × Bool → Bool} {l : List (Value × Bool)} {k : Nat} (hk : k < l.length) (h : (l.take k).any f = false) (hf : f l[k] = true) : (k : Int) = idxV f l := by
  have h1 : l.any f = true := List.any_eq_true.2 ⟨_, List.getElem_mem hk, hf⟩
  unfold idxV
  rw [if_pos h1]
  have e : l = l.take k ++ l.drop k := (List.take_append_drop k l).symm
  have h2 : (l.take k).findIdx f = k := by
    have h3 : (l.take k).findIdx f = (l.take k).length := List.findIdx_eq_length.2 fun x hx => by
      have := List.any_eq_false.1 h x hx
      simpa using this
    rw [h3, List.length_take]; omega
  have h4 : (l.drop k).findIdx f = 0 := by
    rw [List.drop_eq_getElem_cons hk, List.findIdx_cons, hf]; rfl
  rw [e, List.findIdx_append, h2, h4, List.length_take, if_neg (by omega)]
  omega

set_option maxRecDepth 100000 in
theorem c_indexFV (g : Nat) (fst cap : Array Value) (eg : ∀ args w, (callFunc g args).run Try.prog w = .ok (.enter g args) w) (f : Value × Bool → Bool) (A : Option Addr) (cc : Nat) (l : List (Value × Bool)) (hlen : l.length ≤ 1048576) (w : World) (hA : SlV w A l) (hf : TellsV g fst cap f l w) :
    Calls Try.prog 90 #[.slice A l.length cc, .func (.func g) fst cap] w fun e w' => ∃ n : Int, e = .returned (.int .i64 n) ∧ Below w.heap.size w w' ∧ decide (n ≥ 0) = l.any f ∧ n = idxV f l := by
  have HA := hid hA; clear hA
  have HF := hid hf; clear hf
  go_enter Try.func90, Try.ntmps90
  go_wp2_with fail
  go_loopw [8] (fun i wr => ∃ k : Nat, k ≤ l.length ∧ i = .int .i64 k ∧ Hid (Below w.heap.size w wr) ∧ Hid ((l.take k).any f = false)) (fun i _ => l.length - (intOf i).toNat)
  case atStart => exact ⟨0, by omega, rfl, Below.refl _ _, by simp [Hid]⟩
  case round =>
    obtain ⟨k, hk, rfl, hb, hno⟩ := hrel
    by_cases hkl : k < l.length
    · have hd : decide ((k : Int) < (l.length : Int)) = true := decide_eq_true (by omega)
      have hkI : (k : Int) < (l.length : Int) := by omega
      have hk0 : (0 : Int) ≤ (k : Int) := by omega
      have hp := List.getElem?_eq_getElem hkl
      obtain ⟨p1, hpp⟩ : ∃ p, p = l[k] := ⟨_, rfl⟩
      rw [← hpp] at hp
      have HM : Hid (p1 ∈ l) := by rw [hpp]; exact List.getElem_mem hkl
      have HIX : Hid (f p1 = true → (k : Int) = idxV f l) := fun h => by rw [hpp] at h; exact idxV_at hkl hno.out h
      have HTk : Hid ((l.take (k + 1)).any f = f p1) := by
        show _ = _
        rw [List.take_succ_eq_append_getElem hkl, List.any_append, hno.out, ← hpp]; simp
      obtain ⟨b, off, rfl, r1, r2⟩ := HA.out k _ hp
      have c0 := (hb.out.cell (p := ⟨b, _, none⟩) r1).trans r2
      have HC := hid (HF.out wr p1 HM.out hb.out)
      clear hp hpp r2
      cases hq : f p1 with
      | true =>
        have HQ := hid hq; clear hq
        have hcall := HC.out
        rw [HQ.out] at hcall
        have HC' := hid hcall
        clear hcall HC
        go_wp2_with (go_at_fn g; refine HC'.out.mono ?_; rintro e w2 ⟨rfl, hb2⟩)
        go_ret
        refine ⟨_, rfl, hb.out.trans (hb2.mono hb.out.size), ?_, HIX.out HQ.out⟩
        have h1 : l.any f = true := List.any_eq_true.2 ⟨_, HM.out, HQ.out⟩
        rw [h1]; exact decide_eq_true (by omega)
      | false =>
        have HQ := hid hq; clear hq
        have hcall := HC.out
        rw [HQ.out] at hcall
        have HC' := hid hcall
        clear hcall HC
        go_wp2_with (go_at_fn g; refine HC'.out.mono ?_; rintro e w2 ⟨rfl, hb2⟩)
        exact ⟨⟨k + 1, by omega, by go_num, hb.out.trans (hb2.mono hb.out.size), HTk.out.trans HQ.out⟩, by simp [intOf]; omega⟩
    · obtain rfl : k = l.length := by omega
      have hd : decide ((l.length : Int) < (l.length : Int)) = false := decide_eq_false (by omega)
      rw [List.take_length] at hno
      go_wp2_with fail
      go_ret
      exact ⟨_, rfl, hb.out, by rw [hno.out]; rfl, by unfold idxV; rw [hno.out]; rfl⟩
set_option maxRecDepth 100000 in
theorem c_containsFV (g : Nat) (fst cap : Array Value) (eg : ∀ args w, (callFunc g args).run Try.prog w = .ok (.enter g args) w) (f : Value × Bool → Bool) (A : Option Addr) (cc : Nat) (l : List (Value × Bool)) (hlen : l.length ≤ 1048576) (w : World) (hA : SlV w A l) (hf : TellsV g fst cap f l w) :
    Calls Try.prog 81 #[.slice A l.length cc, .func (.func g) fst cap] w fun e w' => e = .returned (.bool (l.any f)) ∧ Below w.heap.size w w' := by
  have HC := hid (c_indexFV g fst cap eg f A cc l hlen w hA hf); clear hA hf
  go_enter Try.func81, Try.ntmps81
  go_wp2_with (go_at_call 90; refine HC.out.mono ?_; rintro e w1 ⟨n, rfl, hb1, hn, he⟩; have HN := hid hn; clear hn he)
  all_goals
    go_ret
    exact ⟨ret_bool HN.out, hb1⟩
set_option maxRecDepth 100000 in
theorem c_areAllCloV (g : Nat) (fst cap : Array Value) (eg : ∀ args w, (callFunc g args).run Try.prog w = .ok (.enter g args) w) (f : Value × Bool → Bool) (l : List (Value × Bool)) (p : Value × Bool) (hp : p ∈ l) (bx : Nat) (w : World) (hb : w.heap[bx]? = some (.cells #[.func (.func g) fst cap] 96 (0, 0))) (hf : TellsV g fst cap f l w) :
    Calls Try.prog 82 #[p.1, .pointer (some ⟨bx, 0, none⟩)] w fun e w' => e = .returned (.bool (!f p)) ∧ Below w.heap.size w w' := by
  have k0 : w.cell? ⟨bx, 0, none⟩ = some (.func (.func g) fst cap) := cell_block hb rfl
  have HC := hid (hf w p hp (Below.refl _ w))
  clear hb hf hp
  go_enter Try.func82, Try.ntmps82
  go_wp2_with (go_at_fn g; refine HC.out.mono ?_; rintro e w2 ⟨rfl, hb2⟩)
  go_ret
  exact ⟨rfl, hb2⟩
set_option maxRecDepth 100000 in
theorem c_areAllV (g : Nat) (fst cap : Array Value) (eg : ∀ args w, (callFunc g args).run Try.prog w = .ok (.enter g args) w) (f : Value × Bool → Bool) (A : Option Addr) (cc : Nat) (l : List (Value × Bool)) (hlen : l.length ≤ 1048576) (w : World) (hA : SlV w A l) (hf : TellsV g fst cap f l w) :
    Calls Try.prog 67 #[.slice A l.length cc, .func (.func g) fst cap] w fun e w' => e = .returned (.bool (l.all f)) ∧ Below w.heap.size w w' := by
  have B0 : Below w.heap.size w (w.alloc (.cells #[.func (.func g) fst cap] 96)) := (Below.refl _ w).alloc (Nat.le_refl _) _
  have HX := hid (block_new1 w (.cells #[.func (.func g) fst cap] 96) rfl)
  have HT : Hid (TellsV 82 #[] #[.pointer (some ⟨w.heap.size, 0, none⟩)] (fun p => !f p) l (w.alloc (.cells #[.func (.func g) fst cap] 96))) := by
    intro W p hp hb
    refine c_areAllCloV g fst cap eg f l p hp _ W (block_below hb HX.out (by simp)) ?_
    intro W2 q hq hb2
    exact hf W2 q hq (B0.trans (hb.trans (hb2.mono hb.size) |>.mono (by simp)))
  have HC := hid (c_containsFV 82 #[] _ (enters_of Try.func82 (by kernel_rfl) rfl) _ A cc l hlen _ (hA.below B0 (Nat.le_refl _)) HT.out)
  clear hA hf HT
  go_enter Try.func67, Try.ntmps67
  go_wp2_with (go_at_call 81; ((with_reducible refine HC.out.mono ?_); rintro e w1 ⟨rfl, hb1⟩))
  go_ret
  refine ⟨ret_bool ?_, B0.trans (hb1.mono (by simp))⟩
  rw [List.all_eq_not_any_not]
end Go.Proofs.Ytgbihaliiogboaa

/- Validity of roofs: the program's and the reference's. -/
namespace Go.Proofs.Ytgbihaliiogboaa
open Go.RowKit
set_option linter.unusedVariables false
set_option linter.unusedSimpArgs false

/-- What a roof has to be at one place. -/
def tileOk (r : Rf) (i k : Nat) : Bool := decide (r.at i k ≤ 3) && (decide (r.at i k = 0) || (decide ((i : Int) < r.h) && decide ((k : Int) < r.w)))
def headOk (r : Rf) : Bool := inB r.w 1 8 && (inB r.h 1 8 && decide (r.s ≤ 1))
/-- Whether a roof is valid. -/
def validB (r : Rf) : Bool := headOk r && (List.range 8).all fun i => (List.range 8).all fun k => tileOk r i k
theorem validB_true {r : Rf} (h : headOk r = true) (ht : ∀ i k, i < 8 → k < 8 → tileOk r i k = true) : validB r = true := by
  simp [validB, h]; intro i hi k hk; exact ht i k hi hk
theorem validB_tile {r : Rf} {i k : Nat} (hi : i < 8) (hk : k < 8) (h : tileOk r i k = false) : validB r = false := by
  cases hv : validB r with
  | false => rfl
  | true => simp [validB] at hv; have := hv.2 i hi k hk; simp [h] at this
theorem validB_head {r : Rf} (h : headOk r = false) : validB r = false := by simp [validB, h]

theorem tileYes {r : Rf} {i k : Nat} (h : r.at i k ≤ 3 ∧ (r.at i k = 0 ∨ ((i : Int) < r.h ∧ (k : Int) < r.w))) : tileOk r i k = true := by simpa [tileOk] using h
theorem tileNo {r : Rf} {i k : Nat} (h : ¬ (r.at i k ≤ 3 ∧ (r.at i k = 0 ∨ ((i : Int) < r.h ∧ (k : Int) < r.w)))) : tileOk r i k = false := by
  cases ht : tileOk r i k with
  | false => rfl
  | true => exact absurd (by simpa [tileOk] using ht) h

/-- Whether there is a place. -/
def isPl (r : Rf) (c t : Int) : Bool := inB c 0 (r.h - 1) && inB t 0 (r.w - 1)

theorem isPl_true {r : Rf} {c t : Int} (h : 0 ≤ c ∧ c ≤ r.h - 1 ∧ 0 ≤ t ∧ t ≤ r.w - 1) : isPl r c t = true := by
  unfold isPl; rw [inB_true ⟨h.1, h.2.1⟩, inB_true ⟨h.2.2.1, h.2.2.2⟩]; rfl
theorem isPl_iff {r : Rf} {c t : Int} : isPl r c t = true ↔ 0 ≤ c ∧ c ≤ r.h - 1 ∧ 0 ≤ t ∧ t ≤ r.w - 1 := by
  unfold isPl; rw [Bool.and_eq_true, inB_iff, inB_iff]; omega
theorem isPl_false {r : Rf} {c t : Int} (h : ¬ (0 ≤ c ∧ c ≤ r.h - 1 ∧ 0 ≤ t ∧ t ≤ r.w - 1)) : isPl r c t = false := by
  cases hp : isPl r c t with
  | false => rfl
  | true => exact absurd (isPl_iff.1 hp) h

end Go.Proofs.Ytgbihaliiogboaa

/- Codes of roofs; places, courses, shifts: the program's and the reference's small functions. -/
namespace Go.Proofs.Ytgbihaliiogboaa
open Go.RowKit
set_option linter.unusedSimpArgs false
set_option linter.unusedVariables false

/-- The code of a roof and of what has to be so. -/
def codeOf (v g : Bool) : Int := if v = true then (if g = true then 0 else 2) else 1
theorem codeOf_cases (v g : Bool) : (v = false ∧ codeOf v g = 1) ∨ (v = true ∧ g = false ∧ codeOf v g = 2) ∨ (v = true ∧ g = true ∧ codeOf v g = 0) := by cases v <;> cases g <;> simp [codeOf]
theorem codeOf_012 (v g : Bool) : codeOf v g = 1 ∨ codeOf v g = 2 ∨ codeOf v g = 0 := by cases v <;> cases g <;> simp [codeOf]
theorem codeOf_zero {v g : Bool} (h : codeOf v g = 0) : v = true ∧ g = true := by cases v <;> cases g <;> simp [codeOf] at h <;> simp
theorem valid_head {r : Rf} (h : validB r = true) : 1 ≤ r.w ∧ r.w ≤ 8 ∧ 1 ≤ r.h ∧ r.h ≤ 8 ∧ r.s ≤ 1 := by
  simp only [validB, headOk, Bool.and_eq_true, inB_iff, decide_eq_true_eq] at h
  omega
theorem valid_tile {r : Rf} (h : validB r = true) {i k : Nat} (hi : i < 8) (hk : k < 8) : r.at i k ≤ 3 ∧ (r.at i k = 0 ∨ ((i : Int) < r.h ∧ (k : Int) < r.w)) := by
  have : tileOk r i k = true := by
    cases ht : tileOk r i k with
    | true => rfl
    | false => rw [validB_tile hi hk ht] at h; cases h
  simpa [tileOk] using this

/-- 1 for a course that is shifted, 0 otherwise. -/
def shiftOf (r : Rf) (n : Int) : Int := (n + r.s) % 2
theorem shiftOf_01 (r : Rf) (n : Int) : 0 ≤ shiftOf r n ∧ shiftOf r n ≤ 1 := by unfold shiftOf; omega
/-- Whether a roof has a place, in int8. -/
def hasB (r : Rf) (c t : Int) : Bool := inB c 0 (IntKind.i8.wrap (r.h - 1)) && inB t 0 (IntKind.i8.wrap (r.w - 1))
theorem hasB_valid {r : Rf} (h : validB r = true) (c t : Int) : hasB r c t = isPl r c t := by
  have := valid_head h
  have e1 : IntKind.i8.wrap (r.h - 1) = r.h - 1 := by simp [IntKind.wrap, IntKind.bits, IntKind.signed]; omega
  have e2 : IntKind.i8.wrap (r.w - 1) = r.w - 1 := by simp [IntKind.wrap, IntKind.bits, IntKind.signed]; omega
  unfold hasB isPl; rw [e1, e2]
theorem codeOf_has (r : Rf) (c t : Int) (g : Bool) : codeOf (validB r) (hasB r c t && g) = codeOf (validB r) (isPl r c t && g) := by
  cases hv : validB r with
  | false => rfl
  | true => rw [hasB_valid hv]
theorem Calls.ext_hid {B : Nat} {W : World} (h : B ≤ W.heap.size) : Hid (B ≤ W.heap.size) := h
end Go.Proofs.Ytgbihaliiogboaa

/- The laws' conversions of roofs and places. -/
namespace Go.Proofs.Ytgbihaliiogboaa
open Go.RowKit
set_option linter.unusedVariables false
set_option linter.unusedSimpArgs false

/-- The first k elements of t, the rest zero. -/
def upd (t : List Int) (k : Nat) : List Int := t.take k ++ List.replicate (t.length - k) 0
theorem upd_all (t : List Int) : upd t t.length = t := by simp [upd]
theorem len_upd (t : List Int) (k : Nat) : (upd t k).length = t.length := by simp [upd]; omega
theorem upd_set (t : List Int) (k : Nat) (hk : k < t.length) : (tcells (upd t k)).setIfInBounds k (.int .u8 (t.getD k 0)) = tcells (upd t (k + 1)) := by
  apply Array.ext_getElem?
  intro j
  have hd : List.replicate (t.length - k) (0 : Int) = 0 :: List.replicate (t.length - (k + 1)) 0 := by
    have : t.length - k = (t.length - (k + 1)) + 1 := by omega
    rw [this]; rfl
  simp only [Array.getElem?_setIfInBounds, tcells, upd, List.getElem?_toArray, List.size_toArray, List.length_map, List.length_append, List.length_take, List.length_replicate, List.getElem?_map]
  by_cases hj : k = j
  · subst hj
    rw [if_pos rfl, if_pos (by omega), List.take_succ_eq_append_getElem hk, List.append_assoc, List.getElem?_append_right (by simp; omega)]
    have e : k - (List.take k t).length = 0 := by simp; omega
    rw [e]
    simp [List.getD, List.getElem?_eq_getElem hk]
  · rw [if_neg hj, List.take_succ_eq_append_getElem hk, List.append_assoc]
    by_cases hlt : j < k
    · rw [List.getElem?_append_left (by simp; omega), List.getElem?_append_left (by simp; omega)]
    · rw [List.getElem?_append_right (by simp; omega), List.getElem?_append_right (by simp; omega)]
      have e : (List.take k t).length = k := by simp; omega
      rw [e, hd]
      have e2 : j - k = (j - k - 1) + 1 := by omega
      rw [e2]
      simp

theorem tc_ext {cs : Array Value} {t : List Int} (hs : cs.size = t.length) (h : ∀ j, j < t.length → cs[j]? = some (.int .u8 (t.getD j 0))) : cs = tcells t := by
  apply Array.ext_getElem?
  intro j
  by_cases hj : j < t.length
  · rw [h j hj, tc_at t j hj]
  · rw [Array.getElem?_eq_none (by omega), Array.getElem?_eq_none (by rw [size_tcells]; omega)]
theorem upd_at (t : List Int) (k j : Nat) (hj : j < t.length) : (upd t k).getD j 0 = if j < k then t.getD j 0 else 0 := by
  unfold upd
  simp only [List.getD]
  by_cases h : j < k
  · rw [if_pos h, List.getElem?_append_left (by simp; omega), List.getElem?_take, if_pos h]
  · rw [if_neg h, List.getElem?_append_right (by simp; omega), List.getElem?_replicate]
    split <;> rfl
theorem upd_row (t : List Int) (ht : t.length = 64) (k : Nat) (hk : k < 8) : setAll (tcells (upd t (8 * k))) (k * 8) (tcells (trow t k)).toList = tcells (upd t (8 * (k + 1))) := by
  have hr := len_trow t ht k hk
  apply setAll_eq
  · simp [size_tcells, len_upd, ht, tcells, hr]; omega
  · simp [size_tcells, len_upd]
  · intro j hj
    rw [size_tcells, len_upd] at hj
    rw [tc_at _ j (by rw [len_upd]; exact hj), upd_at _ _ _ hj]
    by_cases h1 : k * 8 ≤ j ∧ j < k * 8 + (tcells (trow t k)).toList.length
    · rw [if_pos h1]
      have h2 : j < k * 8 + 8 := by simpa [tcells, hr] using h1.2
      have e : (tcells (trow t k)).toList[j - k * 8]? = some (.int .u8 ((trow t k).getD (j - k * 8) 0)) := by
        rw [Array.getElem?_toList, tc_at _ _ (by omega)]
      rw [e, trow_at t k _ (by omega), if_pos (by omega)]
      congr 3
      omega
    · rw [if_neg h1, tc_at _ j (by rw [len_upd]; exact hj), upd_at _ _ _ hj]
      have h3 : ¬ (k * 8 ≤ j ∧ j < k * 8 + 8) := by
        simpa [tcells, hr] using h1
      by_cases h4 : j < 8 * k
      · rw [if_pos (by omega), if_pos h4]
      · rw [if_neg (by omega), if_neg h4]

end Go.Proofs.Ytgbihaliiogboaa

/- The laws' own comparisons of roofs, at one roof and itself. -/
namespace Go.Proofs.Ytgbihaliiogboaa
open Go.RowKit
set_option linter.unusedSimpArgs false
set_option linter.unusedVariables false
end Go.Proofs.Ytgbihaliiogboaa

/- The kind of a tile: read and replaced. -/
namespace Go.Proofs.Ytgbihaliiogboaa
open Go.RowKit
set_option linter.unusedSimpArgs false
set_option linter.unusedVariables false

theorem roof_cell {W : World} {b : Nat} {r : Rf} (hr : r.Ok) {T : TypeId} {fr : Nat × Nat} (hb : W.heap[b]? = some (.cells (rcells r) T fr)) (i k : Nat) (hi : i < 8) (hk : k < 8) : W.cell? ⟨b, 3 + i * 8 + k, none⟩ = some (.int .u8 (r.at i k)) := by
  have := rct r hr (8 * i + k) (by omega)
  have e : 3 + i * 8 + k = 3 + (8 * i + k) := by omega
  rw [cell_of_row W b _ _ _ _ hb, e]; exact this
end Go.Proofs.Ytgbihaliiogboaa

/- Lists of places in memory; the code of a roof and of places. -/
namespace Go.Proofs.Ytgbihaliiogboaa
open Go.RowKit
set_option linter.unusedSimpArgs false
set_option linter.unusedVariables false

/-- A slice's elements, places, lie at A. -/
def SlP (w : World) (A : Option Addr) (l : List (Int × Int)) : Prop := ∀ j p, l[j]? = some p → ∃ b off, A = some ⟨b, off, none⟩ ∧ b < w.heap.size ∧ w.cell? ⟨b, off + j * 2, none⟩ = some (.int .i8 p.1) ∧ w.cell? ⟨b, off + j * 2 + 1, none⟩ = some (.int .i8 p.2)
theorem SlP.nil (w : World) (A : Option Addr) : SlP w A [] := fun j p h => by simp at h
theorem SlP.below {B : Nat} {w w' : World} {A : Option Addr} {l : List (Int × Int)} (h : SlP w A l) (hb : Below B w w') (hB : w.heap.size ≤ B) : SlP w' A l := fun j p hj => by
  obtain ⟨b, off, e, h1, h2, h3⟩ := h j p hj
  exact ⟨b, off, e, Nat.lt_of_lt_of_le h1 hb.size, (hb.cell (p := ⟨b, _, none⟩) (by show b < B; omega)).trans h2, (hb.cell (p := ⟨b, _, none⟩) (by show b < B; omega)).trans h3⟩
/-- The numbers of places are of their kinds. -/
def PlB (l : List (Int × Int)) : Prop := ∀ p ∈ l, (-128 ≤ p.1 ∧ p.1 ≤ 127) ∧ (-128 ≤ p.2 ∧ p.2 ≤ 127)
/-- The code of a roof, of what has to be so, and of how many places there are. -/
def codeL (v g : Bool) (n : Nat) : Int := if codeOf v g = 0 ∧ 8 < n then 3 else codeOf v g
theorem codeL_cases (v g : Bool) (n : Nat) : (v = false ∧ codeL v g n = 1) ∨ (v = true ∧ g = false ∧ codeL v g n = 2) ∨ (v = true ∧ g = true ∧ 8 < n ∧ codeL v g n = 3) ∨ (v = true ∧ g = true ∧ n ≤ 8 ∧ codeL v g n = 0) := by
  cases v <;> cases g <;> by_cases h : 8 < n <;> simp [codeL, codeOf, h] <;> omega
def allPl (r : Rf) (l : List (Int × Int)) : Bool := l.all fun p => isPl r p.1 p.2
theorem allPl_snoc (r : Rf) (l : List (Int × Int)) (k : Nat) (p : Int × Int) (h : l[k]? = some p) : allPl r (l.take (k + 1)) = (allPl r (l.take k) && isPl r p.1 p.2) := by
  obtain ⟨hk, rfl⟩ := List.getElem?_eq_some_iff.1 h
  unfold allPl
  rw [List.take_succ_eq_append_getElem hk, List.all_append]
  simp

end Go.Proofs.Ytgbihaliiogboaa

/- Slices of pieces that a call has made: compared, marked, held against their marks. -/
namespace Go.Proofs.Ytgbihaliiogboaa
open Go.RowKit
set_option linter.unusedSimpArgs false
set_option linter.unusedVariables false

/-- The slice v holds the pieces l; its array, if l is not empty, lies in a block from lo on, below hi, that starts with them. -/
def OwC (lo hi : Nat) (w : World) (v : Value) (l : List (Int × Int)) : Prop :=
  ∃ A c, v = .slice A l.length c ∧ (l ≠ [] → ∃ b cs, A = some ⟨b, 0, none⟩ ∧ lo ≤ b ∧ b < hi ∧ w.heap[b]? = some (.cells cs 64 (0, 0)) ∧ l.length * 2 ≤ cs.size ∧
    ∀ j p, l[j]? = some p → cs[j * 2]? = some (.int .i8 p.1) ∧ cs[j * 2 + 1]? = some (.int .i8 p.2))
theorem OwC.below {lo hi B : Nat} {w w' : World} {v : Value} {l : List (Int × Int)} (h : OwC lo hi w v l) (hb : Below B w w') (hB : hi ≤ B) : OwC lo hi w' v l := by
  obtain ⟨A, c, rfl, h⟩ := h
  refine ⟨A, c, rfl, fun hl => ?_⟩
  obtain ⟨b, cs, h1, h2, h3, h4, h5⟩ := h hl
  exact ⟨b, cs, h1, h2, h3, block_below hb h4 (by omega), h5⟩
theorem OwC.cells {lo hi : Nat} {w : World} {v : Value} {l : List (Int × Int)} (h : OwC lo hi w v l) {j : Nat} {p : Int × Int} (hj : l[j]? = some p) :
    ∃ b c, v = .slice (some ⟨b, 0, none⟩) l.length c ∧ lo ≤ b ∧ b < hi ∧ b < w.heap.size ∧ w.cell? ⟨b, j * 2, none⟩ = some (.int .i8 p.1) ∧ w.cell? ⟨b, j * 2 + 1, none⟩ = some (.int .i8 p.2) := by
  obtain ⟨A, c, rfl, h⟩ := h
  obtain ⟨b, cs, rfl, h2, h3, h4, h5, h6⟩ := h (by rintro rfl; simp at hj)
  have := h6 j p hj
  exact ⟨b, c, rfl, h2, h3, block_lt h4, cell_block h4 this.1, cell_block h4 this.2⟩
set_option maxRecDepth 100000 in
theorem c_eqPiece (c t : Int) (w : World) : Calls Try.prog 38 #[.agg #[.int .i8 c, .int .i8 t], .agg #[.int .i8 c, .int .i8 t]] w fun e w' => e = .returned (.bool true) ∧ Below w.heap.size w w' := by
  go_enter Try.func38, Try.ntmps38
  go_wp2_with fail
  go_ret
  exact ⟨rfl, ((Below.refl _ w).alloc (Nat.le_refl _) _).alloc (by simp) _⟩
set_option maxRecDepth 100000 in
theorem c_eqPieceS (lo hi lo' hi' : Nat) (v v' : Value) (l : List (Int × Int)) (hlen : l.length ≤ 70368744177664) (w : World) (h : OwC lo hi w v l) (h' : OwC lo' hi' w v' l) (hh : hi ≤ w.heap.size) (hh' : hi' ≤ w.heap.size) :
    Calls Try.prog 12 #[v, v'] w fun e w' => e = .returned (.bool true) ∧ Below w.heap.size w w' := by
  have HA := hid h
  have HA' := hid h'
  obtain ⟨A, c, rfl, h0⟩ := h
  obtain ⟨A', c', rfl, h0'⟩ := h'
  clear h0 h0'
  go_enter Try.func12, Try.ntmps12
  go_wp2_with fail
  go_loopw [5] (fun i wr => ∃ k : Nat, k ≤ l.length ∧ i = .int .i64 k ∧ Hid (Below w.heap.size w wr)) (fun i _ => l.length - (intOf i).toNat)
  case atStart => exact ⟨0, by omega, rfl, Below.refl _ _⟩
  case round =>
    obtain ⟨k, hk, rfl, hb⟩ := hrel
    by_cases hkl : k < l.length
    · have hd : decide ((k : Int) < (l.length : Int)) = true := decide_eq_true (by omega)
      have hp := List.getElem?_eq_getElem hkl
      obtain ⟨⟨p1, p2⟩, hpp⟩ : ∃ p, p = l[k] := ⟨_, rfl⟩
      rw [← hpp] at hp
      obtain ⟨b, c1, e1, _, _, q1, q2, q3⟩ := (HA.out.below hb.out hh).cells hp
      obtain ⟨b', c1', e1', _, _, q1', q2', q3'⟩ := (HA'.out.below hb.out hh').cells hp
      obtain ⟨rfl, rfl⟩ : A = some ⟨b, 0, none⟩ ∧ c = c1 := by simpa using e1
      obtain ⟨rfl, rfl⟩ : A' = some ⟨b', 0, none⟩ ∧ c' = c1' := by simpa using e1'
      have HW : Hid (Below wr.heap.size wr wr) := Below.refl _ _
      clear hp hpp e1 e1'
      go_wp2_with fail
      refine wp_region_ext wr.heap.size (by kernel_rfl) (by kernel_rfl) ?_
      repeat (go_big_quiet_step ((go_at_call 38; with_reducible exact Calls.ext (Nat.le_refl _) (c_eqPiece p1 p2 _))))
      refine wpQuiet_nil ?_
      intro x
      go_wp2_with fail
      exact ⟨⟨k + 1, by omega, by go_num, hb.out.trans (x.h.mono hb.out.size)⟩, by simp [intOf]; omega⟩
    · obtain rfl : k = l.length := by omega
      have hd : decide ((l.length : Int) < (l.length : Int)) = false := decide_eq_false (by omega)
      go_wp2_with fail
      go_ret
      exact ⟨rfl, hb.out⟩
/-- One place of such a slice, replaced. -/
theorem OwC.put {lo hi : Nat} {w : World} {b c : Nat} {l : List (Int × Int)} (h : OwC lo hi w (.slice (some ⟨b, 0, none⟩) l.length c) l) {k : Nat} (hk : k < l.length) (x y : Int) :
    OwC lo hi ((w.setCell ⟨b, k * 2, none⟩ (.int .i8 x)).setCell ⟨b, k * 2 + 1, none⟩ (.int .i8 y)) (.slice (some ⟨b, 0, none⟩) l.length c) (l.set k (x, y)) := by
  obtain ⟨A, c', e, h⟩ := h
  have hne : l ≠ [] := by rintro rfl; simp at hk
  obtain ⟨b', cs, rfl, h2, h3, h4, h5, h6⟩ := h hne
  have e1 := (Value.slice.inj e).1
  obtain rfl : b = b' := by simpa using e1
  have g1 := heap_setCell_same w b (k * 2) cs _ (.int .i8 x) h4
  have g2 := heap_setCell_same _ b (k * 2 + 1) _ _ (.int .i8 y) g1
  refine ⟨_, c, by simp, fun _ => ⟨b, _, rfl, h2, h3, g2, by simp; omega, fun j p hj => ?_⟩⟩
  rw [List.getElem?_set] at hj
  by_cases hjk : k = j
  · subst hjk
    rw [if_pos rfl, if_pos hk] at hj
    obtain rfl := Option.some.inj hj
    constructor
    · rw [Array.getElem?_setIfInBounds_ne (by omega), Array.getElem?_setIfInBounds, if_pos rfl, if_pos (by omega)]
    · rw [Array.getElem?_setIfInBounds, if_pos rfl, if_pos (by simp; omega)]
  · rw [if_neg hjk] at hj
    have := h6 j p hj
    rw [Array.getElem?_setIfInBounds_ne (by omega), Array.getElem?_setIfInBounds_ne (by omega), Array.getElem?_setIfInBounds_ne (by omega), Array.getElem?_setIfInBounds_ne (by omega)]
    exact this
/-- The pieces l, those below k marked from m on. -/
def mkC (l : List (Int × Int)) (m : Int) (k : Nat) : List (Int × Int) := (List.range l.length).map fun j => if j < k then (IntKind.i8.wrap (m + 2 * j), IntKind.i8.wrap (m + 2 * j + 1)) else l.getD j (0, 0)
theorem mkC_len (l : List (Int × Int)) (m : Int) (k : Nat) : (mkC l m k).length = l.length := by simp [mkC]
theorem mkC_get (l : List (Int × Int)) (m : Int) (k j : Nat) : (mkC l m k)[j]? = if j < l.length then some (if j < k then (IntKind.i8.wrap (m + 2 * j), IntKind.i8.wrap (m + 2 * j + 1)) else l.getD j (0, 0)) else none := by
  unfold mkC
  rw [List.getElem?_map]
  by_cases hj : j < l.length
  · rw [List.getElem?_range hj, if_pos hj]; rfl
  · rw [List.getElem?_eq_none (by simp; omega), if_neg hj]; rfl
theorem mkC_zero (l : List (Int × Int)) (m : Int) : mkC l m 0 = l := by
  apply List.ext_getElem?
  intro j
  rw [mkC_get]
  by_cases hj : j < l.length
  · rw [if_pos hj, if_neg (by omega), List.getD_eq_getElem?_getD, List.getElem?_eq_getElem hj]; rfl
  · rw [if_neg hj, List.getElem?_eq_none (by omega)]
theorem mkC_step (l : List (Int × Int)) (m : Int) (k : Nat) (hk : k < l.length) : (mkC l m k).set k (IntKind.i8.wrap (m + 2 * k), IntKind.i8.wrap (m + 2 * k + 1)) = mkC l m (k + 1) := by
  apply List.ext_getElem?
  intro j
  rw [List.getElem?_set, mkC_get, mkC_get, mkC_len]
  by_cases hj : j < l.length
  · rw [if_pos hj, if_pos hj]
    by_cases hjk : k = j
    · subst hjk; rw [if_pos rfl, if_pos hk, if_pos (by omega)]
    · rw [if_neg hjk]
      by_cases h2 : j < k
      · rw [if_pos h2, if_pos (by omega)]
      · rw [if_neg h2, if_neg (by omega)]
  · rw [if_neg hj, if_neg hj]
    by_cases hjk : k = j
    · omega
    · rw [if_neg hjk]
set_option maxRecDepth 100000 in
theorem c_markPieceS (lo hi : Nat) (v : Value) (l : List (Int × Int)) (m : Int) (hm : 0 ≤ m ∧ m ≤ 1000000) (hlen : l.length ≤ 1048576) (w : World) (h : OwC lo hi w v l) (hh : hi ≤ w.heap.size) (hlo : lo ≤ w.heap.size) :
    Calls Try.prog 15 #[v, .int .i64 m] w fun e w' => e = .returned (.int .i64 (m + 2 * l.length)) ∧ Below lo w w' ∧ OwC lo hi w' v (mkC l m l.length) := by
  have h0 := h
  obtain ⟨A, c, rfl, _⟩ := h
  go_enter Try.func15, Try.ntmps15
  go_wp2_with fail
  go_loopw [1, 5] (fun q i wr => ∃ k : Nat, k ≤ l.length ∧ i = .int .i64 k ∧ q = .int .i64 (m + 2 * k) ∧ Hid (Below lo w wr) ∧ Hid (OwC lo hi wr (.slice A l.length c) (mkC l m k))) (fun _ i _ => l.length - (intOf i).toNat)
  case atStart => exact ⟨0, by omega, rfl, by simp, Below.refl _ _, by rw [mkC_zero]; exact h0⟩
  case round =>
    obtain ⟨k, hk, rfl, rfl, hb, hO⟩ := hrel
    by_cases hkl : k < l.length
    · have hd : decide ((k : Int) < (l.length : Int)) = true := decide_eq_true (by omega)
      have hkl' : k < (mkC l m k).length := by rw [mkC_len]; exact hkl
      have hp := List.getElem?_eq_getElem hkl'
      obtain ⟨⟨p1, p2⟩, hpp⟩ : ∃ p, p = (mkC l m k)[k] := ⟨_, rfl⟩
      rw [← hpp] at hp
      obtain ⟨b, c1, e1, r1, _, q1, q2, q3⟩ := hO.out.cells hp
      obtain ⟨rfl, _, rfl⟩ : A = some ⟨b, 0, none⟩ ∧ l.length = (mkC l m k).length ∧ c = c1 := by simpa using e1
      have HP : Hid (OwC lo hi ((wr.setCell ⟨b, k * 2, none⟩ (.int .i8 (IntKind.i8.wrap (m + 2 * k)))).setCell ⟨b, k * 2 + 1, none⟩ (.int .i8 (IntKind.i8.wrap (m + 2 * k + 1)))) (.slice (some ⟨b, 0, none⟩) l.length c) (mkC l m (k + 1))) := by
        have := hO.out
        rw [← mkC_len l m k] at this
        have := OwC.put this hkl' (IntKind.i8.wrap (m + 2 * k)) (IntKind.i8.wrap (m + 2 * k + 1))
        rw [mkC_step l m k hkl, mkC_len] at this
        exact this
      have f2 : wr.frozen? ⟨b, k * 2, none⟩ = false := by
        obtain ⟨A', c', e', h'⟩ := hO.out
        obtain ⟨b', cs, rfl, _, _, h4, _⟩ := h' (by intro e; rw [e] at hkl'; simp at hkl')
        obtain rfl : b = b' := by simpa using (Value.slice.inj e').1
        exact frozen_of_row _ _ _ _ _ h4
      have f3 : wr.frozen? ⟨b, k * 2 + 1, none⟩ = false := by
        obtain ⟨A', c', e', h'⟩ := hO.out
        obtain ⟨b', cs, rfl, _, _, h4, _⟩ := h' (by intro e; rw [e] at hkl'; simp at hkl')
        obtain rfl : b = b' := by simpa using (Value.slice.inj e').1
        exact frozen_of_row _ _ _ _ _ h4
      clear hp hpp e1 h0 hkl'
      go_wp2_with fail
      exact ⟨⟨k + 1, by omega, by go_num, congrArg (Value.int .i64) (by omega), Below.setCell (Below.setCell hb.out (p := ⟨b, k * 2, none⟩) r1 _) (p := ⟨b, k * 2 + 1, none⟩) r1 _, HP.out⟩, by simp [intOf]; omega⟩
    · obtain rfl : k = l.length := by omega
      have hd : decide ((l.length : Int) < (l.length : Int)) = false := decide_eq_false (by omega)
      go_wp2_with fail
      go_ret
      exact ⟨rfl, hb.out, hO.out⟩
set_option maxRecDepth 100000 in
theorem c_heldPieceS (lo hi : Nat) (v : Value) (l : List (Int × Int)) (m : Int) (hm : 0 ≤ m ∧ m ≤ 1000000) (hlen : l.length ≤ 1048576) (w : World) (h : OwC lo hi w v (mkC l m l.length)) :
    Calls Try.prog 16 #[v, .int .i64 m] w fun e w' => e = .returned (.int .i64 (m + 2 * l.length)) ∧ Below w.heap.size w w' := by
  have h0 := hid h
  obtain ⟨A, c, rfl, _⟩ := h
  rw [mkC_len] at h0 ⊢
  go_enter Try.func16, Try.ntmps16
  go_wp2_with fail
  go_loop [1, 5] (fun q i => ∃ k : Nat, k ≤ l.length ∧ i = .int .i64 k ∧ q = .int .i64 (m + 2 * k)) (fun _ i => l.length - (intOf i).toNat)
  case atStart => exact ⟨0, by omega, rfl, by simp⟩
  case round =>
    obtain ⟨k, hk, rfl, rfl⟩ := hrel
    by_cases hkl : k < l.length
    · have hd : decide ((k : Int) < (l.length : Int)) = true := decide_eq_true (by omega)
      have hp : (mkC l m l.length)[k]? = some (IntKind.i8.wrap (m + 2 * k), IntKind.i8.wrap (m + 2 * k + 1)) := by rw [mkC_get, if_pos hkl, if_pos hkl]
      obtain ⟨b, c1, e1, r1, _, q1, q2, q3⟩ := h0.out.cells hp
      obtain ⟨rfl, _⟩ : A = some ⟨b, 0, none⟩ ∧ c = c1 := by simpa [mkC_len] using e1
      dsimp only at q2 q3
      clear hp e1
      go_wp2_with fail
      exact ⟨⟨k + 1, by omega, by go_num, congrArg (Value.int .i64) (by omega)⟩, by simp [intOf]; omega⟩
    · obtain rfl : k = l.length := by omega
      have hd : decide ((l.length : Int) < (l.length : Int)) = false := decide_eq_false (by omega)
      go_wp2_with fail
      go_ret
      exact ⟨rfl, Below.refl _ _⟩
/-- The cells of pieces. -/
def ccells (l : List (Int × Int)) : List Value := l.flatMap fun p => [.int .i8 p.1, .int .i8 p.2]
theorem ccells_len (l : List (Int × Int)) : (ccells l).length = l.length * 2 := by
  induction l with
  | nil => rfl
  | cons p l ih => simp only [ccells, List.flatMap_cons, List.length_append] at ih ⊢; rw [ih]; simp; omega
theorem ccells_get (l : List (Int × Int)) : ∀ j p, l[j]? = some p → (ccells l)[j * 2]? = some (.int .i8 p.1) ∧ (ccells l)[j * 2 + 1]? = some (.int .i8 p.2) := by
  induction l with
  | nil => intro j p h; simp at h
  | cons q l ih =>
    intro j p h
    cases j with
    | zero => simp at h; subst h; simp [ccells]
    | succ j =>
      have := ih j p (by simpa using h)
      have e1 : (j + 1) * 2 = j * 2 + 1 + 1 := by omega
      rw [e1]
      simpa [ccells] using this
theorem ccells_snoc (l : List (Int × Int)) (p : Int × Int) : ccells (l ++ [p]) = ccells l ++ [.int .i8 p.1, .int .i8 p.2] := by simp [ccells]
theorem OwC.of_owns {w : World} {base : Nat} {v : Value} {l : List (Int × Int)} (h : w.ownsRow base 64 2 v l.length (ccells l)) : OwC base w.heap.size w v l := by
  rcases h.2 with ⟨rfl, hn⟩ | ⟨g, cap, cur, rfl, hb, hg, hc, hm, hs, ht⟩
  · exact ⟨none, 0, by rw [hn], fun hl => absurd (List.eq_nil_of_length_eq_zero hn) hl⟩
  · refine ⟨_, cap, rfl, fun _ => ⟨g, cur, rfl, hb, block_lt hg, hg, by rw [hs]; omega, fun j p hj => ?_⟩⟩
    have hjl := (List.getElem?_eq_some_iff.1 hj).1
    have hp := ccells_get l j p hj
    rw [← ht, List.getElem?_take, List.getElem?_take, if_pos (by omega), if_pos (by omega)] at hp
    simpa using hp
end Go.Proofs.Ytgbihaliiogboaa

/- Worlds in which nothing but some blocks was turned; pairs that lie in memory, later on. -/
namespace Go.Proofs.Ytgbihaliiogboaa
open Go.RowKit
set_option linter.unusedSimpArgs false
set_option linter.unusedVariables false

/-- Nothing but the blocks lo .. hi is turned. -/
structure OutS (lo hi : Nat) (w w' : World) : Prop where
  size : w.heap.size ≤ w'.heap.size
  block : ∀ b, b < w.heap.size → b < lo ∨ hi ≤ b → w'.heap[b]? = w.heap[b]?
theorem OutS.refl (lo hi : Nat) (w : World) : OutS lo hi w w := ⟨Nat.le_refl _, fun _ _ _ => rfl⟩
theorem OutS.trans {lo hi : Nat} {w w1 w2 : World} (h : OutS lo hi w w1) (h2 : OutS lo hi w1 w2) : OutS lo hi w w2 := ⟨Nat.le_trans h.size h2.size, fun b hb hr => (h2.block b (Nat.lt_of_lt_of_le hb h.size) hr).trans (h.block b hb hr)⟩
theorem OutS.setCell {lo hi : Nat} {w w1 : World} (h : OutS lo hi w w1) {a : Addr} (u : Value) (h1 : lo ≤ a.block) (h2 : a.block < hi) : OutS lo hi w (w1.setCell a u) :=
  ⟨by simpa using h.size, fun b hb hr => by
    rw [← h.block b hb hr]
    have hb1 := Nat.lt_of_lt_of_le hb h.size
    have h3 := block_set_other (Array.getElem?_eq_getElem hb1) (a := a) u (by omega)
    rw [h3, Array.getElem?_eq_getElem hb1]⟩
theorem OutS.alloc {lo hi : Nat} (w : World) (o : Obj) : OutS lo hi w (w.alloc o) := ⟨by simp, fun b hb _ => heap_alloc_old w o hb⟩
theorem OutS.keep {lo hi b : Nat} {w w' : World} {o : Obj} (h : OutS lo hi w w') (hb : w.heap[b]? = some o) (hr : b < lo ∨ hi ≤ b) : w'.heap[b]? = some o := (h.block b (block_lt hb) hr).trans hb
theorem PairsAt.below {k1 k2 : IntKind} {B : Nat} {w w' : World} {A : Option Addr} {l : List (Int × Int)} (h : PairsAt k1 k2 w A l) (hb : Below B w w') (hB : w.heap.size ≤ B) : PairsAt k1 k2 w' A l := fun j p hj => by
  obtain ⟨b, off, e, h1, h2, h3⟩ := h j p hj
  exact ⟨b, off, e, Nat.lt_of_lt_of_le h1 hb.size, (hb.cell (p := ⟨b, _, none⟩) (by show b < B; omega)).trans h2, (hb.cell (p := ⟨b, _, none⟩) (by show b < B; omega)).trans h3⟩
end Go.Proofs.Ytgbihaliiogboaa

/- Slices of pieces: copied out of the law's arguments, marked, their sizes asked. -/
namespace Go.Proofs.Ytgbihaliiogboaa
open Go.RowKit
set_option linter.unusedSimpArgs false
set_option linter.unusedVariables false

theorem OwC.pairs {lo hi : Nat} {w : World} {A : Option Addr} {n c : Nat} {l : List (Int × Int)} (h : OwC lo hi w (.slice A n c) l) : PairsAt .i8 .i8 w A l := fun j p hj => by
  obtain ⟨b, c', e, _, _, h1, h2, h3⟩ := h.cells hj
  obtain ⟨rfl, _, _⟩ : A = some ⟨b, 0, none⟩ ∧ n = l.length ∧ c = c' := by simpa using e
  exact ⟨b, 0, rfl, h1, by rw [Nat.zero_add]; exact h2, by rw [Nat.zero_add]; exact h3⟩
/-- A slice of pieces whose array lies in the blocks lo .. hi, all of them laid. -/
def OwD (lo hi : Nat) (w : World) (v : Value) (l : List (Int × Int)) : Prop := OwC lo hi w v l ∧ lo ≤ hi ∧ hi ≤ w.heap.size
theorem OwD.below {lo hi : Nat} {w w' : World} {v : Value} {l : List (Int × Int)} (h : OwD lo hi w v l) (hb : Below w.heap.size w w') : OwD lo hi w' v l := ⟨h.1.below hb h.2.2, h.2.1, Nat.le_trans h.2.2 hb.size⟩
theorem OwD.below' {lo hi B : Nat} {w w' : World} {v : Value} {l : List (Int × Int)} (h : OwD lo hi w v l) (hb : Below B w w') (hB : hi ≤ B) : OwD lo hi w' v l := ⟨h.1.below hb hB, h.2.1, Nat.le_trans h.2.2 hb.size⟩
theorem OwD.alloc {lo hi : Nat} {w : World} {v : Value} {l : List (Int × Int)} (h : OwD lo hi w v l) (o : Obj) : OwD lo hi (w.alloc o) v l := h.below ((Below.refl _ w).alloc (Nat.le_refl _) o)
theorem OwD.of {w w' : World} {v : Value} {l : List (Int × Int)} (h : w'.ownsRow w.heap.size 64 2 v l.length (ccells l)) (hb : Below w.heap.size w w') : OwD w.heap.size w'.heap.size w' v l := ⟨OwC.of_owns h, hb.size, Nat.le_refl _⟩
theorem OwD.pairs {lo hi : Nat} {w : World} {A : Option Addr} {n c : Nat} {l : List (Int × Int)} (h : OwD lo hi w (.slice A n c) l) : PairsAt .i8 .i8 w A l := h.1.pairs
theorem OwD.lo {lo lo' hi : Nat} {w : World} {v : Value} {l : List (Int × Int)} (h : OwD lo hi w v l) (hl : lo' ≤ lo) : OwD lo' hi w v l := by
  obtain ⟨⟨A, c, rfl, h⟩, h2, h3⟩ := h
  exact ⟨⟨A, c, rfl, fun hl => by obtain ⟨b, cs, h1, h2, h3, h4⟩ := h hl; exact ⟨b, cs, h1, by omega, by omega, h4⟩⟩, by omega, h3⟩
theorem OwD.outS {lo hi lo' hi' : Nat} {w w' : World} {v : Value} {l : List (Int × Int)} (h : OwD lo hi w v l) (hO : OutS lo' hi' w w') (hd : hi ≤ lo' ∨ hi' ≤ lo) : OwD lo hi w' v l := by
  obtain ⟨⟨A, c, rfl, h⟩, h2, h3⟩ := h
  refine ⟨⟨A, c, rfl, fun hl => ?_⟩, h2, Nat.le_trans h3 hO.size⟩
  obtain ⟨b, cs, r1, r2, r3, r4, r5⟩ := h hl
  exact ⟨b, cs, r1, r2, r3, hO.keep r4 (by omega), r5⟩
theorem OwC.hi {lo hi lo' hi' : Nat} {w : World} {v : Value} {l : List (Int × Int)} (h : OwC lo hi w v l) (hl : lo' ≤ lo) (hh : hi ≤ hi') : OwC lo' hi' w v l := by
  obtain ⟨A, c, rfl, h⟩ := h
  exact ⟨A, c, rfl, fun hl => by obtain ⟨b, cs, h1, h2, h3, h4⟩ := h hl; exact ⟨b, cs, h1, by omega, by omega, h4⟩⟩
set_option maxRecDepth 100000 in
theorem c_toPiece (c t : Int) (w : World) : Calls Try.prog 45 #[.agg #[.int .i8 c, .int .i8 t]] w fun e w' => e = .returned (.agg #[.int .i8 c, .int .i8 t]) ∧ Below w.heap.size w w' := by
  go_enter Try.func45, Try.ntmps45
  go_wp2_with fail
  refine bodyPost_ret (v := .agg #[.int .i8 c, .int .i8 t]) (by simp [results, Try.results45, go_sem]) rfl ⟨rfl, ?_⟩
  exact (((Below.refl _ w).alloc (Nat.le_refl _) _).alloc (by simp) _).alloc (by simp; omega) _
/-- The first k pairs of a list, zeros behind. -/
def padD (l : List (Int × Int)) (k : Nat) : List (Int × Int) := l.take k ++ List.replicate (l.length - k) (0, 0)
theorem padD_len (l : List (Int × Int)) (k : Nat) (hk : k ≤ l.length) : (padD l k).length = l.length := by simp [padD]; omega
theorem padD_zero (l : List (Int × Int)) : padD l 0 = List.replicate l.length (0, 0) := by simp [padD]
theorem padD_all (l : List (Int × Int)) : padD l l.length = l := by simp [padD]
theorem padD_step (l : List (Int × Int)) (k : Nat) (hk : k < l.length) (p : Int × Int) (hp : p = l[k]) : (padD l k).set k (p.1, p.2) = padD l (k + 1) := by
  apply List.ext_getElem?
  intro j
  unfold padD
  have e : l.length - k = (l.length - (k + 1)) + 1 := by omega
  have h1 : (l.take k).length = k := by simp; omega
  have h2 : (l.take k ++ List.replicate (l.length - k) ((0, 0) : Int × Int)).set k (p.1, p.2) = l.take k ++ (List.replicate (l.length - k) ((0, 0) : Int × Int)).set 0 (p.1, p.2) := by
    rw [List.set_append_right _ _ (by omega)]; rw [h1, Nat.sub_self]
  rw [h2, e, List.replicate_succ, List.set_cons_zero, List.take_succ_eq_append_getElem hk, List.append_assoc, ← hp]
  rfl
theorem owD_free {lo hi : Nat} {w : World} {b n c : Nat} {l : List (Int × Int)} (h : OwC lo hi w (.slice (some ⟨b, 0, none⟩) n c) l) {k : Nat} (hk : k < l.length) :
    (∃ v, w.cell? ⟨b, k * 2, none⟩ = some v) ∧ (∃ v, w.cell? ⟨b, k * 2 + 1, none⟩ = some v) ∧ w.frozen? ⟨b, k * 2, none⟩ = false ∧ w.frozen? ⟨b, k * 2 + 1, none⟩ = false ∧ lo ≤ b := by
  have hne : l ≠ [] := by rintro rfl; simp at hk
  obtain ⟨b', c', e, h1, h2, h3, h4, h5⟩ := h.cells (List.getElem?_eq_getElem hk)
  obtain ⟨A, c2, e2, h⟩ := h
  obtain ⟨b2, cs, rfl, q2, q3, q4, _⟩ := h hne
  obtain ⟨rfl, _⟩ : b = b' ∧ n = l.length ∧ c = c' := by simpa using e
  obtain ⟨rfl, _⟩ : b = b2 ∧ n = l.length ∧ c = c2 := by simpa using e2
  exact ⟨⟨_, h4⟩, ⟨_, h5⟩, frozen_of_row _ _ _ _ _ q4, frozen_of_row _ _ _ _ _ q4, q2⟩
theorem made_twoD (x : Value) (m : Nat) : (madeCells #[x, x] m).toList = List.replicate m x := by
  apply List.ext_getElem
  · simp [madeCells]
  · intro j h1 h2
    have h3 : j % 2 = 0 ∨ j % 2 = 1 := by omega
    rcases h3 with h3 | h3 <;> simp [madeCells, h3]
theorem ccells_rep (n : Nat) : ccells (List.replicate n (0, 0)) = List.replicate (n * 2) (.int .i8 0) := by
  induction n with
  | zero => rfl
  | succ n ih =>
    rw [List.replicate_succ', ccells_snoc, ih, show (n + 1) * 2 = n * 2 + 1 + 1 by omega, List.replicate_succ', List.replicate_succ', List.append_assoc]
    rfl
theorem made_D (n : Nat) {w : World} {base cap : Nat} {A : Option Addr} (h : w.ownsRow base 64 2 (.slice A n cap) n (madeCells (Value.agg #[.int .i8 0, .int .i8 0]).cells (n * 2)).toList) : OwC base w.heap.size w (.slice A n cap) (List.replicate n (0, 0)) := by
  have e : (madeCells (Value.agg #[.int .i8 0, .int .i8 0]).cells (n * 2)).toList = ccells (List.replicate n (0, 0)) := by
    rw [ccells_rep]
    exact made_twoD (.int .i8 0) (n * 2)
  rw [e] at h
  have h2 : w.ownsRow base 64 2 (.slice A n cap) (List.replicate n ((0, 0) : Int × Int)).length (ccells (List.replicate n (0, 0))) := by rw [List.length_replicate]; exact h
  exact OwC.of_owns h2
theorem Try.infoToPiece : (Try.prog.info? 64).map (fun i => (i.zero, i.size, i.bytes)) = some (some (.agg #[.int .i8 0, .int .i8 0]), 2, 2) := by kernel_rfl
theorem toPiece_parts : ∃ i, Try.prog.info? 64 = some i ∧ i.zero = some (.agg #[.int .i8 0, .int .i8 0]) ∧ i.size = 2 ∧ i.bytes = 2 := by
  have h := Try.infoToPiece
  cases hi : Try.prog.info? 64 with
  | none => rw [hi] at h; cases h
  | some i => rw [hi] at h; simp at h; exact ⟨i, rfl, h.1, h.2.1, h.2.2⟩
set_option maxHeartbeats 800000 in
set_option maxRecDepth 100000 in
theorem c_toPieceS (A : Option Addr) (c : Nat) (l : List (Int × Int)) (hlen : l.length ≤ 1048576) (w : World) (hA : PairsAt .i8 .i8 w A l) :
    Calls Try.prog 21 #[.slice A l.length c] w fun e w' => ∃ (A' : Option Addr) (c' : Nat), e = .returned (.slice A' l.length c') ∧ Below w.heap.size w w' ∧ OwD w.heap.size w'.heap.size w' (.slice A' l.length c') l := by
  obtain ⟨i0, hi, hz0, hz1, hz2⟩ := toPiece_parts
  have HA := hid hA; clear hA
  go_enter Try.func21, Try.ntmps21
  go_wp2_with ((with_reducible refine gate (N := 7) rfl ?_); refine wpList_make_full _ rfl (.tmp 6) (.tmp 6) 26 rfl w.heap.size 64 i0 (.agg #[.int .i8 0, .int .i8 0]) 2 Try.underlying26 hi hz0 hz1 .i64 .i64 (l.length : Int) (l.length : Int) l.length rfl rfl rfl rfl (by rw [hz2]; omega) (Nat.le_trans hlen (by decide)) (Nat.le_refl _) ?_; intro w1 hown hgrow)
  have HB1 : Hid (Below w.heap.size w w1) := (Below.refl _ w).grown hgrow (Nat.le_refl _) (fun k hk => by cases hk)
  have HO1 : Hid (OwC w.heap.size w1.heap.size w1 (.slice (some ⟨w.heap.size, 0, none⟩) l.length l.length) (padD l 0)) := by
    rw [padD_zero]
    have := made_D l.length hown
    simpa [Hid] using this
  have hS1 : Hid (w.heap.size ≤ w1.heap.size) := HB1.out.size
  clear hown hgrow
  go_loopw [4] (fun i wr => ∃ k : Nat, k ≤ l.length ∧ i = .int .i64 k ∧ Hid (Below w.heap.size w wr) ∧ Hid (w1.heap.size ≤ wr.heap.size) ∧ Hid (OwC w.heap.size w1.heap.size wr (.slice (some ⟨w.heap.size, 0, none⟩) l.length l.length) (padD l k))) (fun i _ => l.length - (intOf i).toNat)
  case atStart => exact ⟨0, by omega, rfl, HB1, Nat.le_refl _, HO1⟩
  case round =>
    obtain ⟨k, hk, rfl, hb, hS, hO⟩ := hrel
    by_cases hkl : k < l.length
    · have hd : decide ((k : Int) < (l.length : Int)) = true := decide_eq_true (by omega)
      have hkI : (k : Int) < (l.length : Int) := by omega
      have hk0 : (0 : Int) ≤ (k : Int) := by omega
      have hp := List.getElem?_eq_getElem hkl
      obtain ⟨⟨p1, p2⟩, hpp⟩ : ∃ p, p = l[k] := ⟨_, rfl⟩
      rw [← hpp] at hp
      have HST : Hid ((padD l k).set k (p1, p2) = padD l (k + 1)) := padD_step l k hkl _ hpp
      have HL := hid (padD_len l k hk)
      obtain ⟨b, off, rfl, r1, r2, r3⟩ := HA.out k _ hp
      dsimp only at r2 r3
      have c0 := (hb.out.cell (p := ⟨b, _, none⟩) r1).trans r2
      have c1 := (hb.out.cell (p := ⟨b, _, none⟩) r1).trans r3
      clear hp hpp r2 r3
      go_wp2_with (go_at_call 45; refine (c_toPiece p1 p2 _).mono ?_; rintro e w2 ⟨rfl, hb2⟩; have O2 := hid (hO.out.below hb2 hS.out); have hb := hid (hb.out.trans (hb2.mono hb.out.size)); have hS := hid (Nat.le_trans hS.out hb2.size); clear hb2; obtain ⟨⟨v0, m0⟩, ⟨v1, m1⟩, m2, m3, m4⟩ := owD_free O2.out (k := k) (by rw [HL.out]; exact hkl))
      refine ⟨⟨k + 1, by omega, by go_num, Below.setCell (Below.setCell hb.out (p := ⟨w.heap.size, k * 2, none⟩) (Nat.le_refl _) _) (p := ⟨w.heap.size, k * 2 + 1, none⟩) (Nat.le_refl _) _, ?_, ?_⟩, by simp [intOf]; omega⟩
      · have := hS.out; simpa [Hid] using this
      · have h1 := O2.out
        rw [← HL.out] at h1
        have h2 := OwC.put h1 (by rw [HL.out]; exact hkl) p1 p2
        rw [HST.out, HL.out] at h2
        exact h2
    · obtain rfl : k = l.length := by omega
      have hd : decide ((l.length : Int) < (l.length : Int)) = false := decide_eq_false (by omega)
      rw [padD_all] at hO
      go_wp2_with fail
      go_ret
      exact ⟨_, _, rfl, hb.out, ⟨hO.out.hi (Nat.le_refl _) hS.out, hb.out.size, Nat.le_refl _⟩⟩
set_option maxRecDepth 100000 in
theorem c_szPieceS (A : Option Addr) (c : Nat) (n : Nat) (hn : n ≤ 9223372036854775807) (m : Int) (hm : 0 ≤ m ∧ m ≤ 1048576) (w : World) :
    Calls Try.prog 19 #[.slice A n c, .int .i64 m] w fun e w' => e = .returned (.int .i64 (if (n : Int) ≤ m then (m - n : Int) else -1)) ∧ w = w' := by
  by_cases h : (n : Int) ≤ m
  · have h1 : ¬ ((m : Int) - n < 0) := by omega
    have hd : decide ((m : Int) - n < 0) = false := decide_eq_false h1
    rw [if_pos h]
    go_enter Try.func19, Try.ntmps19
    go_wp2_with fail
    go_ret
    exact ⟨rfl, rfl⟩
  · have h1 : ((m : Int) - n < 0) := by omega
    have hd : decide ((m : Int) - n < 0) = true := decide_eq_true h1
    rw [if_neg h]
    go_enter Try.func19, Try.ntmps19
    go_wp2_with fail
    go_ret
    exact ⟨rfl, rfl⟩
theorem e_PieceS {lo hi lo' hi' : Nat} {v v' : Value} {l : List (Int × Int)} (hlen : l.length ≤ 1048576) {w : World} (h : OwD lo hi w v l) (h' : OwD lo' hi' w v' l) :
    Calls Try.prog 12 #[v, v'] w fun e w' => e = .returned (.bool true) ∧ Below w.heap.size w w' :=
  c_eqPieceS lo hi lo' hi' v v' l (Nat.le_trans hlen (by decide)) w h.1 h'.1 h.2.2 h'.2.2
set_option maxRecDepth 100000 in
theorem m_PieceS {lo hi : Nat} {v : Value} {l : List (Int × Int)} {m : Int} (hm : 0 ≤ m ∧ m ≤ 1000000000) (hlen : l.length ≤ 1048576) {w : World} (h : OwD lo hi w v l) :
    Calls Try.prog 15 #[v, .int .i64 m] w fun e w' => e = .returned (.int .i64 (m + 2 * l.length)) ∧ Below lo w w' ∧ OutS lo hi w w' ∧ OwD lo hi w' v (mkC l m l.length) := by
  have h2 := h.2
  have h0 := h.1
  obtain ⟨⟨A, c, rfl, _⟩, _, _⟩ := h
  go_enter Try.func15, Try.ntmps15
  go_wp2_with fail
  go_loopw [1, 5] (fun q i wr => ∃ k : Nat, k ≤ l.length ∧ i = .int .i64 k ∧ q = .int .i64 (m + 2 * k) ∧ Hid (Below lo w wr) ∧ Hid (OutS lo hi w wr) ∧ Hid (OwC lo hi wr (.slice A l.length c) (mkC l m k))) (fun _ i _ => l.length - (intOf i).toNat)
  case atStart => exact ⟨0, by omega, rfl, by simp, Below.refl _ _, OutS.refl _ _ _, by rw [mkC_zero]; exact h0⟩
  case round =>
    obtain ⟨k, hk, rfl, rfl, hb, hOut, hO⟩ := hrel
    by_cases hkl : k < l.length
    · have hd : decide ((k : Int) < (l.length : Int)) = true := decide_eq_true (by omega)
      have hkl' : k < (mkC l m k).length := by rw [mkC_len]; exact hkl
      have hp := List.getElem?_eq_getElem hkl'
      obtain ⟨⟨p1, p2⟩, hpp⟩ : ∃ p, p = (mkC l m k)[k] := ⟨_, rfl⟩
      rw [← hpp] at hp
      obtain ⟨b, c1, e1, r1, r9, q1, q2, q3⟩ := hO.out.cells hp
      obtain ⟨rfl, _, rfl⟩ : A = some ⟨b, 0, none⟩ ∧ l.length = (mkC l m k).length ∧ c = c1 := by simpa using e1
      have HP : Hid (OwC lo hi ((wr.setCell ⟨b, k * 2, none⟩ (.int .i8 (IntKind.i8.wrap (m + 2 * k)))).setCell ⟨b, k * 2 + 1, none⟩ (.int .i8 (IntKind.i8.wrap (m + 2 * k + 1)))) (.slice (some ⟨b, 0, none⟩) l.length c) (mkC l m (k + 1))) := by
        have := hO.out
        rw [← mkC_len l m k] at this
        have := OwC.put this hkl' (IntKind.i8.wrap (m + 2 * k)) (IntKind.i8.wrap (m + 2 * k + 1))
        rw [mkC_step l m k hkl, mkC_len] at this
        exact this
      have f2 : wr.frozen? ⟨b, k * 2, none⟩ = false := by
        obtain ⟨A', c', e', h'⟩ := hO.out
        obtain ⟨b', cs, rfl, _, _, h4, _⟩ := h' (by intro e; rw [e] at hkl'; simp at hkl')
        obtain rfl : b = b' := by simpa using (Value.slice.inj e').1
        exact frozen_of_row _ _ _ _ _ h4
      have f3 : wr.frozen? ⟨b, k * 2 + 1, none⟩ = false := by
        obtain ⟨A', c', e', h'⟩ := hO.out
        obtain ⟨b', cs, rfl, _, _, h4, _⟩ := h' (by intro e; rw [e] at hkl'; simp at hkl')
        obtain rfl : b = b' := by simpa using (Value.slice.inj e').1
        exact frozen_of_row _ _ _ _ _ h4
      clear hp hpp e1 h0 hkl'
      go_wp2_with fail
      exact ⟨⟨k + 1, by omega, by go_num, congrArg (Value.int .i64) (by omega), Below.setCell (Below.setCell hb.out (p := ⟨b, k * 2, none⟩) r1 _) (p := ⟨b, k * 2 + 1, none⟩) r1 _, OutS.setCell (OutS.setCell hOut.out (a := ⟨b, k * 2, none⟩) _ r1 r9) (a := ⟨b, k * 2 + 1, none⟩) _ r1 r9, HP.out⟩, by simp [intOf]; omega⟩
    · obtain rfl : k = l.length := by omega
      have hd : decide ((l.length : Int) < (l.length : Int)) = false := decide_eq_false (by omega)
      go_wp2_with fail
      go_ret
      exact ⟨rfl, hb.out, hOut.out, hO.out, h2.1, Nat.le_trans h2.2 hOut.out.size⟩
set_option maxRecDepth 100000 in
theorem h_PieceS {lo hi : Nat} {v : Value} {l : List (Int × Int)} {m : Int} (hm : 0 ≤ m ∧ m ≤ 1000000000) (hlen : l.length ≤ 1048576) {w : World} (h : OwD lo hi w v (mkC l m l.length)) :
    Calls Try.prog 16 #[v, .int .i64 m] w fun e w' => e = .returned (.int .i64 (m + 2 * l.length)) ∧ Below w.heap.size w w' := by
  have h0 := hid h.1
  obtain ⟨⟨A, c, rfl, _⟩, _, _⟩ := h
  rw [mkC_len] at h0 ⊢
  go_enter Try.func16, Try.ntmps16
  go_wp2_with fail
  go_loop [1, 5] (fun q i => ∃ k : Nat, k ≤ l.length ∧ i = .int .i64 k ∧ q = .int .i64 (m + 2 * k)) (fun _ i => l.length - (intOf i).toNat)
  case atStart => exact ⟨0, by omega, rfl, by simp⟩
  case round =>
    obtain ⟨k, hk, rfl, rfl⟩ := hrel
    by_cases hkl : k < l.length
    · have hd : decide ((k : Int) < (l.length : Int)) = true := decide_eq_true (by omega)
      have hp : (mkC l m l.length)[k]? = some (IntKind.i8.wrap (m + 2 * k), IntKind.i8.wrap (m + 2 * k + 1)) := by rw [mkC_get, if_pos hkl, if_pos hkl]
      obtain ⟨b, c1, e1, r1, _, q1, q2, q3⟩ := h0.out.cells hp
      obtain ⟨rfl, _⟩ : A = some ⟨b, 0, none⟩ ∧ c = c1 := by simpa [mkC_len] using e1
      dsimp only at q2 q3
      clear hp e1
      go_wp2_with fail
      exact ⟨⟨k + 1, by omega, by go_num, congrArg (Value.int .i64) (by omega)⟩, by simp [intOf]; omega⟩
    · obtain rfl : k = l.length := by omega
      have hd : decide ((l.length : Int) < (l.length : Int)) = false := decide_eq_false (by omega)
      go_wp2_with fail
      go_ret
      exact ⟨rfl, Below.refl _ _⟩
end Go.Proofs.Ytgbihaliiogboaa
