/- Texts of the claim FnExactLeastLifted, part 1 of 7. -/
import Derived.Test.YtfbgldkdlmipoaaRows
import Derived.WalkKit
import Derived.WalkLawsBesides
import Derived.WalkSpells
import Derived.Deep.QuietTactic
import Derived.BigQuiet
import Derived.Deep.MidRow
import Derived.StillTailTactics
import Derived.Outline
import Derived.OpenShut
import Derived.ProofKit
import Derived.SizedLaws
import Derived.Laws.AppendOwn
import Derived.WalkSmall
import Derived.Deep.Onto
import Derived.Deep.AppendLies
import Derived.Laws.OwnMore
import Derived.RangeFuncNested
import Derived.RangeFuncBound
import Derived.RangeFuncCalls
import Derived.RangeFuncLeaves
import Derived.RangeFuncFrom
import Derived.Shelf.Abstract
import Derived.Shelf.RegionOpen
import Derived.OwnWalkIn
import Derived.TacticsInMore
import Derived.LoopNIn
import Derived.LoopIn
import Derived.Sort.QuietIn
/- Words for the walks of this seat: worlds above a world, roofs and places as values, the calls of the simplest functions. -/
namespace Go.Proofs.Ytfbgldkdlmipoaa
open Go.RowKit
set_option linter.unusedVariables false
set_option linter.unusedSimpArgs false

theorem hid {p : Prop} (h : p) : Hid p := h

theorem all_succ {p : Nat → Prop} {q : Nat} (h : ∀ k, k < q → p k) (hq : p q) : ∀ k, k < q + 1 → p k := fun k hk => by
  rcases Nat.lt_succ_iff_lt_or_eq.1 hk with h1 | h1
  · exact h k h1
  · exact h1 ▸ hq
theorem ret_bool {a b : Bool} (h : a = b) : Ending.returned (.bool a) = .returned (.bool b) := by rw [h]
theorem ret_int {k : IntKind} {a b : Int} (h : a = b) : Ending.returned (.int k a) = .returned (.int k b) := by rw [h]

/-! ### Worlds above a world -/
/-- A world that lies above W from block number B on. -/
structure Ext (B : Nat) (W : World) where
  w : World
  h : Below B W w
instance {B : Nat} {W : World} : Inhabited (Ext B W) := ⟨⟨W, Below.refl B W⟩⟩
def Ext.out {B : Nat} {W : World} (x : Ext B W) : World := x.w
theorem Ext.below {B : Nat} {W : World} (x : Ext B W) : Below B W x.out := x.h
@[go_sem] theorem Ext.cell {B : Nat} {W : World} (x : Ext B W) (b o : Nat) (h : b < B) : x.out.cell? ⟨b, o, none⟩ = W.cell? ⟨b, o, none⟩ := x.h.cell (p := ⟨b, o, none⟩) h
@[go_sem] theorem Ext.frozen {B : Nat} {W : World} (x : Ext B W) (b o : Nat) (h : b < B) : x.out.frozen? ⟨b, o, none⟩ = W.frozen? ⟨b, o, none⟩ := x.h.frozen (p := ⟨b, o, none⟩) h
theorem Ext.block {B : Nat} {W : World} (x : Ext B W) (b : Nat) (h : b < B) : x.out.heap[b]? = W.heap[b]? := x.h.block b h
theorem ext_of {B : Nat} {W w' : World} (h : Below B W w') : ∃ x : Ext B W, w' = x.out := ⟨⟨w', h⟩, rfl⟩

/-- One call more, above a world that stays. -/
theorem hstep {B : Nat} {W0 wr w1 : World} (hB : Hid (B ≤ W0.heap.size)) (h : Hid (Below B W0 wr)) (h1 : Below wr.heap.size wr w1) : Hid (Below B W0 w1) := h.out.trans (h1.mono (Nat.le_trans hB.out h.out.size))

/-- A region that draws its order, whose operations read below B, and whose callees turn nothing below B: walked once, in the order of the text. -/
theorem wp_region_ext {P : Program} {id : Nat} {Q : Exit → Act → World → Prop} {a : Act} {w : World} {l : List Oper} (B : Nat) (hm : P.follows .mixedOrders = true) (hB : Region.lexB .any l.toArray = true)
    (h : wpQuiet P l.toArray (fun w' => ∃ x : Ext B w, w' = x.out) (fun a' => ∀ x : Ext B w, Q .normal a' x.out) l a) : (Code.region id l.toArray true).wp P Q a w :=
  wp_region_quiet (C := fun w' => ∃ x : Ext B w, w' = x.out) hm hB ⟨⟨_, (Below.refl B w).drew⟩, rfl⟩ (by simpa using h)
/-- The same, from a world that already lies above another one. -/
theorem wp_region_ext' {P : Program} {id : Nat} {Q : Exit → Act → World → Prop} {a : Act} {B : Nat} {W : World} {y : Ext B W} {l : List Oper} (hm : P.follows .mixedOrders = true) (hB : Region.lexB .any l.toArray = true)
    (h : wpQuiet P l.toArray (fun w' => ∃ x : Ext B W, w' = x.out) (fun a' => ∀ x : Ext B W, Q .normal a' x.out) l a) : (Code.region id l.toArray true).wp P Q a y.out :=
  wp_region_quiet (C := fun w' => ∃ x : Ext B W, w' = x.out) hm hB ⟨⟨_, y.h.drew⟩, rfl⟩ (by simpa using h)

theorem Calls.ext {P : Program} {f : FuncId} {args : Array Value} {B : Nat} {W : World} {x : Ext B W} {v : Value} (hB : B ≤ W.heap.size)
    (h : Calls P f args x.out fun e w' => e = .returned v ∧ Below x.out.heap.size x.out w') : Calls P f args x.out fun e w' => e = .returned v ∧ ∃ y : Ext B W, w' = y.out :=
  h.mono fun _ _ ⟨he, hb⟩ => ⟨he, ⟨_, x.h.trans (hb.mono (Nat.le_trans hB x.h.size))⟩, rfl⟩
theorem Calls.ext_same {P : Program} {f : FuncId} {args : Array Value} {B : Nat} {W : World} {x : Ext B W} {v : Value}
    (h : Calls P f args x.out fun e w' => e = .returned v ∧ x.out = w') : Calls P f args x.out fun e w' => e = .returned v ∧ ∃ y : Ext B W, w' = y.out :=
  h.mono fun _ _ ⟨he, hb⟩ => ⟨he, x, hb.symm⟩
/-- A call out of the world W itself. -/
theorem Calls.ext0 {P : Program} {f : FuncId} {args : Array Value} {B : Nat} {W : World} {v : Value} (hB : B ≤ W.heap.size)
    (h : Calls P f args W fun e w' => e = .returned v ∧ Below W.heap.size W w') : Calls P f args W fun e w' => e = .returned v ∧ ∃ y : Ext B W, w' = y.out :=
  h.mono fun _ _ ⟨he, hb⟩ => ⟨he, ⟨_, hb.mono hB⟩, rfl⟩
theorem Calls.below {P : Program} {f : FuncId} {args : Array Value} {w : World} {v : Value} (h : Calls P f args w fun e w' => e = .returned v ∧ w = w') :
    Calls P f args w fun e w' => e = .returned v ∧ Below w.heap.size w w' := h.mono fun _ _ ⟨he, hw⟩ => ⟨he, hw ▸ Below.refl _ _⟩

/-- In a region that draws its order: one operation whose run is known in every world of the class. -/
theorem wpQuiet_run {P : Program} {ops : Array Oper} {C : World → Prop} {Q : Act → Prop} {a : Act} {o : Oper} {rest : List Oper} {N : Nat} (_ : o.dst = some N) (hgd : o.guard = none) (v : Value)
    (h : ∀ w', C w' → (execOp a.eval o).run P w' = .ok (.value v) w') (k : wpQuiet P ops C Q rest (a.put o.dst v)) : wpQuiet P ops C Q (o :: rest) a :=
  wpQuiet_step fun K hK => by
    rw [if_pos (by simp [Region.wanted, hgd])]
    exact ⟨v, fun w' hw' => by unfold Oper.quietAt; rw [h w' hw']; exact ⟨rfl, rfl⟩, hK _ k⟩
theorem execOp_load {P : Program} {o : Oper} {a : Act} {w : World} {t : TypeId} {x : Operand} {u v : Value} (ho : o.op = .load t x) (hx : a.eval x = u) (h : (Instr.loadAt t u).run P w = .ok v w) : (execOp a.eval o).run P w = .ok (.value v) w := by
  unfold execOp; simp [ho, hx, Sem.run_bind, h]
/-- '==' between two structs or arrays. -/
theorem execOp_eql {P : Program} {o : Oper} {a : Act} {w : World} {t t' : TypeId} {x y : Operand} {xs ys : Array Value} {v : Value} (ho : o.op = .binOp .eql t x y t') (hx : a.eval x = .agg xs) (hy : a.eval y = .agg ys) (hm : P.eqGuardType P.depth t = false)
    (h : (binOp .eql t (.agg xs) (.agg ys)).run P w = .ok v w) : (execOp a.eval o).run P w = .ok (.value v) w := by
  unfold execOp; simp [ho, hx, hy, Sem.run_bind, run_eqGuard_agg w .eql t x y xs ys hm, h]
/-- A region that draws its order, whose first n operations leave the world alone, and whose others come behind them in their order. -/
theorem wp_region_tail {P : Program} {id : Nat} {Q : Exit → Act → World → Prop} {a : Act} {w : World} {l : List Oper} (n : Nat) (hm : P.follows .mixedOrders = true) (hB : Region.lexTailB .any l.toArray n = true)
    (h : wpStill P l.toArray w.drew (fun a' => wpList P l.toArray Q (l.drop n) a' w.drew) (l.take n) a) : (Code.region id l.toArray true).wp P Q a w := wp_region_still_tail n hm hB h
/-- Only at the operation that writes slot N; only at one that writes none. -/
theorem gate {P : Program} {ops : Array Oper} {rest : List Oper} {o : Oper} {a : Act} {w : World} {Q : Exit → Act → World → Prop} {N : Nat} (_ : o.dst = some N) (k : wpList P ops Q (o :: rest) a w) : wpList P ops Q (o :: rest) a w := k
theorem gateN {P : Program} {ops : Array Oper} {rest : List Oper} {o : Oper} {a : Act} {w : World} {Q : Exit → Act → World → Prop} (_ : o.dst = none) (k : wpList P ops Q (o :: rest) a w) : wpList P ops Q (o :: rest) a w := k
/-- One operation whose run is known. -/
theorem wpList_run {P : Program} {ops : Array Oper} {rest : List Oper} {o : Oper} {a : Act} {w : World} {Q : Exit → Act → World → Prop} (hgd : o.guard = none) (v : Value)
    (h : (execOp a.eval o).run P w = .ok (.value v) w) (k : wpList P ops Q rest (a.put o.dst v) w) : wpList P ops Q (o :: rest) a w :=
  wpList_plain hgd fun _ hK => by unfold Oper.wp; rw [h]; exact hK _ _ k

/-- An index into an array value. -/
theorem wpList_index {P : Program} {ops : Array Oper} {rest : List Oper} {o : Oper} {a : Act} {w : World} {Q : Exit → Act → World → Prop} (hgd : o.guard = none) (t : TypeId) (x y : Operand) (ho : o.op = .index t x y)
    (u v res : Value) (hx : a.eval x = u) (hy : a.eval y = v) (h : (Instr.index t u v).run P w = .ok res w) (k : wpList P ops Q rest (a.put o.dst res) w) : wpList P ops Q (o :: rest) a w :=
  wpList_run hgd res (by unfold execOp; simp [ho, hx, hy, h]) k
/-- A whole array or struct stored into the block that was just laid: the block holds it. -/
theorem setCells_new (W : World) (E : TypeId) : ∀ (vs : List Value) (o : Nat) (pre : List Value) (post : List Value), o = pre.length → post.length = vs.length →
    (W.alloc (.cells (pre ++ post).toArray E)).setCells W.heap.size o vs = W.alloc (.cells (pre ++ vs).toArray E)
  | [], o, pre, post, _, hl => by
    have : post = [] := by cases post <;> simp_all
    subst this; rfl
  | v :: vs, o, pre, post, ho, hl => by
    cases post with
    | nil => simp at hl
    | cons p post =>
      rw [World.setCells]
      have e : (W.alloc (.cells (pre ++ p :: post).toArray E)).setCell ⟨W.heap.size, o, none⟩ v = W.alloc (.cells ((pre ++ [v]) ++ post).toArray E) := by
        rw [World.setCell_alloc_at _ _ _ _ _ rfl]
        congr 2
        subst ho
        simp
      rw [e, setCells_new W E vs (o + 1) (pre ++ [v]) post (by simp [ho]) (by simpa using hl)]
      simp
theorem setCells_new' (W : World) (E : TypeId) (cs cells : Array Value) (h : cs.size = cells.size) : (W.alloc (.cells cs E)).setCells W.heap.size 0 cells.toList = W.alloc (.cells cells E) := by
  have := setCells_new W E cells.toList 0 [] cs.toList rfl (by simpa using h)
  simpa using this
theorem there_new (W : World) (E : TypeId) (cs : Array Value) : (W.alloc (.cells cs E)).there W.heap.size 0 cs.size := fun j hj => by
  have hg := heap_alloc_new W (.cells cs E)
  refine ⟨?_, ?_⟩
  · rw [cell_of_row _ W.heap.size (0 + j) _ _ _ hg]; simp [hj]
  · exact frozen_of_row _ W.heap.size (0 + j) _ _ hg
theorem wpList_store_new {P : Program} {ops : Array Oper} {rest : List Oper} {op : Oper} {a : Act} {W : World} {Q : Exit → Act → World → Prop} (hgd : op.guard = none) (ty : TypeId) (x y : Operand) (ho : op.op = .store ty x y)
    (cs cells : Array Value) (E : TypeId) (hx : a.eval x = .pointer (some ⟨W.heap.size, 0, none⟩)) (hy : a.eval y = .agg cells) (hs : cs.size = cells.size) (hi : (P.info? ty).map (·.size) = some cells.size) (h1 : cells.all (·.oneCell') = true)
    (h : wpList P ops Q rest (a.put op.dst undef) (W.alloc (.cells cells E))) : wpList P ops Q (op :: rest) a (W.alloc (.cells cs E)) :=
  wpList_store_mid hgd ty x y ho W.heap.size 0 cells hx hy (by rw [← hs]; exact there_new W E cs) hi h1 (by rw [setCells_new' W E cs cells hs]; exact h)

/-- The cells of a block behind a store of several of them. -/
def setAll : Array Value → Nat → List Value → Array Value
  | cs, _, [] => cs
  | cs, o, v :: r => setAll (cs.setIfInBounds o v) (o + 1) r
theorem size_setAll : ∀ (vs : List Value) (cs : Array Value) (o : Nat), (setAll cs o vs).size = cs.size
  | [], _, _ => rfl
  | v :: r, cs, o => by rw [setAll, size_setAll r]; simp
theorem setAll_get : ∀ (vs : List Value) (cs : Array Value) (o j : Nat), o + vs.length ≤ cs.size → (setAll cs o vs)[j]? = if o ≤ j ∧ j < o + vs.length then vs[j - o]? else cs[j]?
  | [], cs, o, j, _ => by rw [setAll, if_neg (by simp)]
  | v :: r, cs, o, j, h => by
    simp only [List.length_cons] at h
    rw [setAll, setAll_get r _ _ j (by simp; omega), Array.getElem?_setIfInBounds]
    by_cases h1 : o = j
    · subst h1
      rw [if_neg (by omega), if_pos rfl, if_pos (by omega), if_pos ⟨Nat.le_refl _, by simp⟩]; simp
    · by_cases h2 : o + 1 ≤ j ∧ j < o + 1 + r.length
      · rw [if_pos h2, if_pos ⟨by omega, by simp; omega⟩]
        have e : j - o = (j - (o + 1)) + 1 := by omega
        rw [e]; simp
      · rw [if_neg h2, if_neg h1, if_neg (by simp; omega)]
/-- Two arrays that hold the same at each place. -/
theorem setAll_eq {cs cs' : Array Value} {o : Nat} {vs : List Value} (hl : o + vs.length ≤ cs.size) (hs : cs'.size = cs.size) (h : ∀ j, j < cs.size → cs'[j]? = if o ≤ j ∧ j < o + vs.length then vs[j - o]? else cs[j]?) : setAll cs o vs = cs' := by
  apply Array.ext_getElem?
  intro j
  rw [setAll_get vs cs o j hl]
  by_cases hj : j < cs.size
  · exact (h j hj).symm
  · rw [if_neg (by omega), Array.getElem?_eq_none (by omega), Array.getElem?_eq_none (by omega)]
theorem setCells_heap (b : Nat) (T : TypeId) : ∀ (vs : List Value) (o : Nat) (W : World) (cs : Array Value), W.heap[b]? = some (.cells cs T (0, 0)) →
    (W.setCells b o vs).heap[b]? = some (.cells (setAll cs o vs) T (0, 0)) ∧ W.grownBy (W.setCells b o vs) (some b) ∧ (W.setCells b o vs).heap.size = W.heap.size
  | [], _, W, cs, h => ⟨h, ⟨rfl, rfl, rfl, Nat.le_refl _, fun _ _ _ => rfl⟩, rfl⟩
  | v :: r, o, W, cs, h => by
    have h1 := heap_setCell_same W b o cs T v h
    obtain ⟨i1, i2, i3⟩ := setCells_heap b T r (o + 1) (W.setCell ⟨b, o, none⟩ v) (cs.setIfInBounds o v) h1
    refine ⟨i1, ⟨i2.os, i2.tape, i2.output, ?_, fun k hk hne => ?_⟩, ?_⟩
    · rw [World.setCells, i3]; simp [World.setCell]
    · rw [World.setCells, i2.block k (by simpa [World.setCell] using hk) hne]
      exact heap_setCell_other W ⟨b, o, none⟩ k v (fun e => hne (by simp [e]))
    · rw [World.setCells, i3]; simp [World.setCell]
theorem there_block {W : World} {b : Nat} {cs : Array Value} {T : TypeId} (hb : W.heap[b]? = some (.cells cs T (0, 0))) (o n : Nat) (h : o + n ≤ cs.size) : W.there b o n := fun j hj => by
  refine ⟨?_, frozen_of_row _ b (o + j) _ _ hb⟩
  rw [cell_of_row _ b (o + j) _ _ _ hb]
  have : o + j < cs.size := by omega
  simp [this]
/-- A whole array or struct stored into a block that is known, from an offset on. -/
theorem wpList_store_block {P : Program} {ops : Array Oper} {rest : List Oper} {op : Oper} {a : Act} {W : World} {Q : Exit → Act → World → Prop} (hgd : op.guard = none) (ty : TypeId) (x y : Operand) (ho : op.op = .store ty x y)
    (b o : Nat) (cs cells cs' : Array Value) (T : TypeId) (hb : W.heap[b]? = some (.cells cs T (0, 0))) (hx : a.eval x = .pointer (some ⟨b, o, none⟩)) (hy : a.eval y = .agg cells) (hl : o + cells.size ≤ cs.size)
    (hi : (P.info? ty).map (·.size) = some cells.size) (h1 : cells.all (·.oneCell') = true) (he : setAll cs o cells.toList = cs')
    (h : ∀ w2, w2.heap[b]? = some (.cells cs' T (0, 0)) → W.grownBy w2 (some b) → w2.heap.size = W.heap.size → wpList P ops Q rest (a.put op.dst undef) w2) : wpList P ops Q (op :: rest) a W := by
  obtain ⟨i1, i2, i3⟩ := setCells_heap b T cells.toList o W cs hb
  rw [he] at i1
  exact wpList_store_mid hgd ty x y ho b o cells hx hy (there_block hb o cells.size hl) hi h1 (h _ i1 i2 i3)
theorem setAll_whole {cs cells : Array Value} (h : cs.size = cells.size) : setAll cs 0 cells.toList = cells :=
  setAll_eq (by simp [h]) h.symm fun j hj => by rw [if_pos ⟨Nat.zero_le _, by simp; omega⟩]; simp

theorem block_lt {W : World} {b : Nat} {o : Obj} (h : W.heap[b]? = some o) : b < W.heap.size := (Array.getElem?_eq_some_iff.1 h).1
theorem block_alloc {W : World} {b : Nat} {o : Obj} (h : W.heap[b]? = some o) (o' : Obj) : (W.alloc o').heap[b]? = some o := by rw [heap_alloc_old _ _ (block_lt h)]; exact h
theorem block_new1 {n : Nat} (W : World) (o : Obj) (h : n = W.heap.size) : (W.alloc o).heap[n]? = some o := h ▸ heap_alloc_new W o
theorem block_set_other {W : World} {b : Nat} {o : Obj} (h : W.heap[b]? = some o) {a : Addr} (v : Value) (hne : b ≠ a.block) : (W.setCell a v).heap[b]? = some o := (heap_setCell_other W a b v hne).trans h
theorem block_below {B : Nat} {W W' : World} (hb : Below B W W') {b : Nat} {o : Obj} (h : W.heap[b]? = some o) (hlt : b < B) : W'.heap[b]? = some o := (hb.block b hlt).trans h
theorem block_grown {W W' : World} {b row : Nat} {o : Obj} (hg : W.grownBy W' (some row)) (h : W.heap[b]? = some o) (hne : b ≠ row) : W'.heap[b]? = some o := (hg.block b (block_lt h) (fun e => hne (by simpa using e))).trans h
theorem cell_block {W : World} {b j : Nat} {cs : Array Value} {T : TypeId} {fr : Nat × Nat} {v : Value} (h : W.heap[b]? = some (.cells cs T fr)) (hv : cs[j]? = some v) : W.cell? ⟨b, j, none⟩ = some v := (cell_of_row W b j cs T fr h).trans hv

/-! ### Arrays as values -/
theorem run_isAgg_array {P : Program} {t : TypeId} {n : Nat} {e : TypeId} (h : P.underlying t = some (.array n e)) (w : World) : (isAgg t).run P w = .ok true w := by
  unfold isAgg
  rw [Sem.run_bind, run_underlying h w]
  rfl
/-- An element that is itself an array, out of an array value. -/
theorem run_index_row {P : Program} (w : World) (t e : TypeId) (n m : Nat) (e' : TypeId) (cs : Array Value) (k : IntKind) (i : Nat) (hu : P.underlying t = some (.array n e)) (he : P.underlying e = some (.array m e'))
    (hs : (P.info? e).map (·.size) = some m) (hi : i < n) : (Instr.index t (.agg cs) (.int k (i : Int))).run P w = .ok (.agg (cs.extract (i * m) (i * m + m))) w := by
  have ha := run_isAgg_array he w
  cases hq : P.info? e with
  | none => simp [hq] at hs
  | some inf =>
    have hs' : inf.size = m := by simpa [hq] using hs
    have h1 : (0 : Int) ≤ (i : Int) ∧ (i : Int) < (n : Int) := ⟨by omega, by omega⟩
    simp [Instr.index, asIntOf, run_underlying hu w, part, ha, sizeOf, typeInfo, hq, hs', h1, Sem.run_bind]
    omega
end Go.Proofs.Ytfbgldkdlmipoaa

/- The calls of the functions on numbers alone. -/
namespace Go.Proofs.Ytfbgldkdlmipoaa
open Go.RowKit
set_option linter.unusedVariables false
set_option linter.unusedSimpArgs false

/-- Whether a number lies in a range. -/
def inB (n a b : Int) : Bool := decide (a ≤ n) && decide (n ≤ b)
theorem inB_true {n a b : Int} (h : a ≤ n ∧ n ≤ b) : inB n a b = true := by simpa [inB] using h
theorem inB_false {n a b : Int} (h : ¬ (a ≤ n ∧ n ≤ b)) : inB n a b = false := by
  cases hb : inB n a b with
  | false => rfl
  | true => exact absurd (by simpa [inB] using hb) h
theorem inB_iff {n a b : Int} : inB n a b = true ↔ a ≤ n ∧ n ≤ b := by simp [inB]
theorem inB_elim {n a b : Int} (h : inB n a b = false) : n < a ∨ b < n := by
  have : ¬ (a ≤ n ∧ n ≤ b) := fun h' => by rw [inB_true h'] at h; cases h
  omega
theorem c_within8 (n a b : Int) (w : World) (g : Bool) (h : inB n a b = g) : Calls Try.prog 85 #[.int .i8 n, .int .i8 a, .int .i8 b] w fun e w' => e = .returned (.bool g) ∧ w = w' := by
  subst h
  go_enter Try.func85, Try.ntmps85
  go_wp2
  · go_ret
    exact ⟨ret_bool (by simp [inB, *]), rfl⟩
  · go_ret
    exact ⟨ret_bool (inB_false (by omega)).symm, rfl⟩
theorem c_within64 (n a b : Int) (w : World) (g : Bool) (h : inB n a b = g) : Calls Try.prog 51 #[.int .i64 n, .int .i64 a, .int .i64 b] w fun e w' => e = .returned (.bool g) ∧ w = w' := by
  subst h
  go_enter Try.func51, Try.ntmps51
  go_wp2
  · go_ret
    exact ⟨ret_bool (by simp [inB, *]), rfl⟩
  · go_ret
    exact ⟨ret_bool (inB_false (by omega)).symm, rfl⟩
theorem c_withinI (n a b : Int) (w : World) (g : Bool) (h : inB n a b = g) : Calls Try.prog 104 #[.int .i64 n, .int .i64 a, .int .i64 b] w fun e w' => e = .returned (.bool g) ∧ w = w' := by
  subst h
  go_enter Try.func104, Try.ntmps104
  go_wp2
  · go_ret
    exact ⟨ret_bool (by simp [inB, *]), rfl⟩
  · go_ret
    exact ⟨ret_bool (inB_false (by omega)).symm, rfl⟩
theorem c_l00In (n a b : Int) (w : World) (g : Bool) (h : inB n a b = g) : Calls Try.prog 54 #[.int .i64 n, .int .i64 a, .int .i64 b] w fun e w' => e = .returned (.bool g) ∧ w = w' := by
  subst h
  go_enter Try.func54, Try.ntmps54
  go_wp2
  · go_ret
    exact ⟨ret_bool (by simp [inB, *]), rfl⟩
  · go_ret
    exact ⟨ret_bool (inB_false (by omega)).symm, rfl⟩
theorem c_l01Kind (n : Int) (w : World) (g : Bool) (h : inB n 0 3 = g) : Calls Try.prog 118 #[.int .i64 n] w fun e w' => e = .returned (.bool g) ∧ w = w' := by
  go_enter Try.func118, Try.ntmps118
  go_wp2_with (go_at_call 54; (with_reducible refine (c_l00In _ _ _ _ g h).mono ?_); rintro e w' ⟨rfl, rfl⟩)
  go_ret
  exact ⟨rfl, rfl⟩
end Go.Proofs.Ytfbgldkdlmipoaa

/- Climbs in chunks: the plain part. -/
namespace Go.Proofs.Ytfbgldkdlmipoaa
open Go.RowKit
set_option linter.unusedSimpArgs false
set_option linter.unusedVariables false

/-- The greatest of 0 and some numbers, from a start on. -/
def maxA (a : Int) (l : List Int) : Int := l.foldl (fun a t => if a > t then a else t) a
theorem maxA_nil (a : Int) : maxA a [] = a := rfl
theorem maxA_cons (a t : Int) (l : List Int) : maxA a (t :: l) = maxA (if a > t then a else t) l := rfl
theorem maxA_snoc (a t : Int) (l : List Int) : maxA a (l ++ [t]) = if maxA a l > t then maxA a l else t := by simp [maxA]
theorem maxA_b {l : List Int} {m : Int} (hl : ∀ x ∈ l, 0 ≤ x ∧ x ≤ m) : ∀ a : Int, 0 ≤ a → a ≤ m → 0 ≤ maxA a l ∧ maxA a l ≤ m := by
  induction l with
  | nil => intro a h1 h2; exact ⟨h1, h2⟩
  | cons t l ih =>
    intro a h1 h2
    have ht := hl t (by simp)
    rw [maxA_cons]
    refine ih (fun x hx => hl x (by simp [hx])) _ ?_ ?_ <;> split <;> omega
/-- Chunk j of k numbers. -/
def chunkJ (l : List Int) (k j : Nat) : List Int := (l.drop (j * k)).take k
/-- How many chunks there are. -/
def chunkN (n k : Nat) : Nat := (n + k - 1) / k
theorem chunkN_lt {n k : Nat} (hk : 0 < k) (j : Nat) : j < chunkN n k ↔ j * k < n := by
  unfold chunkN
  rw [Nat.lt_div_iff_mul_lt hk]
  omega
/-- All rungs, of the chunks that are told. -/
def rungs (l : List Int) (k : Nat) (js : List Nat) : Int := (js.map fun j => 2 * maxA 0 (chunkJ l k j)).sum
theorem rungs_snoc (l : List Int) (k : Nat) (js : List Nat) (j : Nat) : rungs l k (js ++ [j]) = rungs l k js + 2 * maxA 0 (chunkJ l k j) := by simp [rungs]
theorem chunkJ_b {l : List Int} {m : Int} (hl : ∀ x ∈ l, 0 ≤ x ∧ x ≤ m) (k j : Nat) : ∀ x ∈ chunkJ l k j, 0 ≤ x ∧ x ≤ m := fun x hx => hl x (List.mem_of_mem_drop (List.mem_of_mem_take hx))
theorem rungs_b {l : List Int} {m : Int} (hm : 0 ≤ m) (hl : ∀ x ∈ l, 0 ≤ x ∧ x ≤ m) (k : Nat) (js : List Nat) : 0 ≤ rungs l k js ∧ rungs l k js ≤ 2 * m * js.length := by
  induction js with
  | nil => simp [rungs]
  | cons j js ih =>
    have h := maxA_b (chunkJ_b hl k j) 0 (by omega) hm
    have e : rungs l k (j :: js) = 2 * maxA 0 (chunkJ l k j) + rungs l k js := by simp [rungs]
    rw [e, List.length_cons]
    have : 2 * m * ((js.length + 1 : Nat) : Int) = 2 * m * js.length + 2 * m := by rw [Int.natCast_succ, Int.mul_add, Int.mul_one]
    omega
def climbsL (l : List Int) (k : Nat) : Int := rungs l k (List.range (chunkN l.length k))
/-- The reference's way: one number after another. -/
def stepC (k : Nat) (st : Nat × Int × Int) (x : Int) : Nat × Int × Int :=
  if st.1 % k = 0 then (st.1 + 1, st.2.1 + 2 * st.2.2, if (0 : Int) > x then 0 else x) else (st.1 + 1, st.2.1, if st.2.2 > x then st.2.2 else x)
def walkC (k : Nat) (l : List Int) : Nat × Int × Int := l.foldl (stepC k) (0, 0, 0)
theorem walkC_snoc (k : Nat) (l : List Int) (x : Int) : walkC k (l ++ [x]) = stepC k (walkC k l) x := by simp [walkC]
theorem walkC_len (k : Nat) (l : List Int) : (walkC k l).1 = l.length := by
  have : ∀ (l : List Int) (st : Nat × Int × Int), (l.foldl (stepC k) st).1 = st.1 + l.length := by
    intro l
    induction l with
    | nil => intro st; rfl
    | cons x l ih =>
      intro st
      rw [List.foldl_cons, ih, List.length_cons]
      unfold stepC
      split <;> dsimp only <;> omega
  have := this l (0, 0, 0)
  simpa [walkC] using this
/-- Within a chunk: numbers behind its first one. -/
theorem steps_in {k : Nat} : ∀ (xs : List Int) (i : Nat) (s m : Int), (∀ t, t < xs.length → (i + t) % k ≠ 0) → xs.foldl (stepC k) (i, s, m) = (i + xs.length, s, maxA m xs) := by
  intro xs
  induction xs with
  | nil => intro i s m _; rfl
  | cons x xs ih =>
    intro i s m h
    have h0 := h 0 (by simp)
    rw [List.foldl_cons]
    have e : stepC k (i, s, m) x = (i + 1, s, if m > x then m else x) := by
      unfold stepC; rw [if_neg (by simpa using h0)]
    rw [e, ih (i + 1) s _ (fun t ht => by have := h (t + 1) (by simp; omega); rwa [show i + 1 + t = i + (t + 1) by omega]), maxA_cons]
    simp only [List.length_cons]
    congr 1
    omega
theorem steps_chunk {k : Nat} (hk : 0 < k) (xs : List Int) (j : Nat) (s m : Int) (h0 : xs ≠ []) (hl : xs.length ≤ k) : xs.foldl (stepC k) (j * k, s, m) = (j * k + xs.length, s + 2 * m, maxA 0 xs) := by
  cases xs with
  | nil => exact absurd rfl h0
  | cons x xs =>
    rw [List.foldl_cons]
    have e : stepC k (j * k, s, m) x = (j * k + 1, s + 2 * m, if (0 : Int) > x then 0 else x) := by
      unfold stepC; rw [if_pos (by simp)]
    rw [e, steps_in xs (j * k + 1) _ _ (fun t ht => by
      simp only [List.length_cons] at hl
      rw [Nat.add_assoc, Nat.mul_comm, Nat.mul_add_mod]
      rw [Nat.mod_eq_of_lt (by omega)]; omega), maxA_cons]
    simp only [List.length_cons]
    congr 1
    omega
theorem walkC_chunks {k : Nat} (hk : 0 < k) (l : List Int) : ∀ J, J ≤ chunkN l.length k → ∃ s m : Int, walkC k (l.take (J * k)) = ((l.take (J * k)).length, s, m) ∧ s + 2 * m = rungs l k (List.range J) := by
  intro J
  induction J with
  | zero => intro _; exact ⟨0, 0, by simp [walkC], by simp [rungs]⟩
  | succ J ih =>
    intro hJ
    obtain ⟨s, m, h1, h2⟩ := ih (by omega)
    have hlt := (chunkN_lt (n := l.length) hk J).1 (by omega)
    have e1 : l.take ((J + 1) * k) = l.take (J * k) ++ chunkJ l k J := by
      unfold chunkJ
      rw [Nat.succ_mul, List.take_add]
    have e2 : (l.take (J * k)).length = J * k := by rw [List.length_take]; omega
    have hne : chunkJ l k J ≠ [] := by
      intro h
      have := congrArg List.length h
      simp [chunkJ] at this
      omega
    have hle : (chunkJ l k J).length ≤ k := by simp [chunkJ]; omega
    refine ⟨s + 2 * m, maxA 0 (chunkJ l k J), ?_, ?_⟩
    · rw [e1]
      have : walkC k (l.take (J * k) ++ chunkJ l k J) = (chunkJ l k J).foldl (stepC k) (walkC k (l.take (J * k))) := by simp [walkC]
      rw [this, h1, e2, steps_chunk hk _ J s m hne hle, List.length_append, e2]
    · rw [h2, List.range_succ, rungs_snoc]
theorem walkC_all {k : Nat} (hk : 0 < k) (l : List Int) : (walkC k l).2.1 + 2 * (walkC k l).2.2 = climbsL l k := by
  obtain ⟨s, m, h1, h2⟩ := walkC_chunks hk l _ (Nat.le_refl _)
  have e : l.take (chunkN l.length k * k) = l := by
    apply List.take_of_length_le
    exact Nat.le_of_not_lt fun h => Nat.lt_irrefl _ ((chunkN_lt (n := l.length) hk (chunkN l.length k)).2 h)
  rw [e] at h1
  rw [h1]
  exact h2
theorem walkC_b {l : List Int} {m : Int} (hm : 0 ≤ m) (hl : ∀ x ∈ l, 0 ≤ x ∧ x ≤ m) (k : Nat) : (0 ≤ (walkC k l).2.1 ∧ (walkC k l).2.1 ≤ 2 * m * l.length) ∧ 0 ≤ (walkC k l).2.2 ∧ (walkC k l).2.2 ≤ m := by
  have : ∀ (l : List Int), (∀ x ∈ l, 0 ≤ x ∧ x ≤ m) → ∀ st : Nat × Int × Int, 0 ≤ st.2.1 → (0 ≤ st.2.2 ∧ st.2.2 ≤ m) → (0 ≤ (l.foldl (stepC k) st).2.1 ∧ (l.foldl (stepC k) st).2.1 ≤ st.2.1 + 2 * m * l.length) ∧ 0 ≤ (l.foldl (stepC k) st).2.2 ∧ (l.foldl (stepC k) st).2.2 ≤ m := by
    intro l
    induction l with
    | nil => intro _ st h1 h2; simp; omega
    | cons x l ih =>
      intro hl st h1 h2
      have hx := hl x (by simp)
      rw [List.foldl_cons, List.length_cons]
      have hm2 : 2 * m * ((l.length + 1 : Nat) : Int) = 2 * m * l.length + 2 * m := by rw [Int.natCast_succ, Int.mul_add, Int.mul_one]
      have h3 : 0 ≤ (stepC k st x).2.1 ∧ (stepC k st x).2.1 ≤ st.2.1 + 2 * m ∧ 0 ≤ (stepC k st x).2.2 ∧ (stepC k st x).2.2 ≤ m := by
        unfold stepC
        split
        · dsimp only; split <;> omega
        · dsimp only; split <;> omega
      have h4 := ih (fun y hy => hl y (by simp [hy])) (stepC k st x) h3.1 ⟨h3.2.2.1, h3.2.2.2⟩
      omega
  have := this l hl (0, 0, 0) (by simp) (by simp; exact hm)
  simpa [walkC] using this
end Go.Proofs.Ytfbgldkdlmipoaa

/- A region that draws its order, by an invariant of one's own. -/
namespace Go.Proofs.Ytfbgldkdlmipoaa
open Go.RowKit
set_option linter.unusedSimpArgs false
set_option linter.unusedVariables false

/-- Each edge that binds leads back. -/
def backB (l : List Oper) : Bool := l.zipIdx.all fun x => x.1.after.all fun e => !Region.binds .any e || decide (e.on < x.2)
theorem backB_of {l : List Oper} (h : backB l = true) (i : Nat) (o : Oper) (ho : l[i]? = some o) (e : Edge) (he : e ∈ o.after) (hb : Region.binds .any e = true) : e.on < i := by
  unfold backB at h
  rw [List.all_eq_true] at h
  have h1 := h (o, i) (by rw [List.mk_mem_zipIdx_iff_getElem?]; exact ho)
  simp only [Array.all_eq_true_iff_forall_mem] at h1
  have h2 := h1 e he
  simpa [hb] using h2
/-- The operations that have been carried out, and one more. -/
def plus (L : Nat → Bool) (i : Nat) : Nat → Bool := fun j => if j = i then true else L j
theorem wpAny_inv {P : Program} {l : List Oper} {Q : Exit → Act → World → Prop} (Inv : (Nat → Bool) → Act → World → Prop) (hback : backB l = true)
    (hstep : ∀ L a w i o, l[i]? = some o → L i = false → (∀ e ∈ o.after, Region.binds .any e = true → L e.on = true) → Inv L a w →
      if Region.wanted o (yielded l.toArray a.tmps) then o.wp P a w (Inv (plus L i)) Q else Inv (plus L i) (a.put o.dst undef) w)
    (hend : ∀ L a w, (∀ i, i < l.length → L i = true) → Inv L a w → Q .normal a w) :
    ∀ (fuel : Nat) (listed : Array Bool) (a : Act) (w : World), listed.size = l.length → ((List.range l.length).filter fun i => !listed.getD i true).length ≤ fuel →
      Inv (fun i => listed.getD i true) a w → wpAny P .any l.toArray Q fuel listed a w := by
  have hall : ∀ listed : Array Bool, listed.size = l.length → Region.ready .any l.toArray listed = [] → ∀ i, i < l.length → listed.getD i true = true := by
    intro listed hs hr
    have key : ∀ i, (∀ j, j < i → j < l.length → listed.getD j true = true) → i < l.length → listed.getD i true = true := by
      intro i hj hi
      cases hl : listed.getD i true with
      | true => rfl
      | false =>
        exfalso
        have hm : i ∈ Region.ready .any l.toArray listed := by
          unfold Region.ready
          rw [List.mem_filter]
          refine ⟨by simpa using hi, ?_⟩
          have ho : l[i]? = some l[i] := List.getElem?_eq_getElem hi
          simp only [hl, Bool.not_false, Bool.true_and, List.getElem?_toArray, ho, Option.map_some, Option.getD_some]
          rw [Array.all_eq_true_iff_forall_mem]
          intro e he
          cases hb : Region.binds .any e with
          | false => simp
          | true =>
            have h1 := backB_of hback i _ ho e he hb
            have h2 := hj e.on h1 (by omega)
            have h3 : e.on < listed.size := by omega
            simp only [Array.getD_eq_getD_getElem?, Array.getElem?_eq_getElem h3, Option.getD_some] at h2 ⊢
            simp [h2]
        rw [hr] at hm
        cases hm
    intro i
    induction i using Nat.strongRecOn with
    | _ i ih => exact fun hi => key i (fun j hj hjl => ih j hj hjl) hi
  intro fuel
  induction fuel with
  | zero =>
    intro listed a w hs hc hI
    have hr : Region.ready .any l.toArray listed = [] := by
      rw [List.eq_nil_iff_forall_not_mem]
      intro i hi
      unfold Region.ready at hi
      rw [List.mem_filter] at hi
      have : i ∈ (List.range l.length).filter fun i => !listed.getD i true := by
        rw [List.mem_filter]
        refine ⟨by simpa using hi.1, ?_⟩
        have := hi.2
        rw [Bool.and_eq_true] at this
        exact this.1
      rw [List.length_eq_zero_iff.1 (Nat.le_zero.1 hc)] at this
      cases this
    exact ⟨hr, hend _ _ _ (hall listed hs hr) hI⟩
  | succ fuel ih =>
    intro listed a w hs hc hI
    refine ⟨fun hr => hend _ _ _ (hall listed hs hr) hI, fun i hi => ?_⟩
    unfold Region.ready at hi
    rw [List.mem_filter] at hi
    obtain ⟨hi1, hi2⟩ := hi
    have hil : i < l.length := by simpa using hi1
    have ho : l[i]? = some l[i] := List.getElem?_eq_getElem hil
    rw [Bool.and_eq_true] at hi2
    obtain ⟨hn, he⟩ := hi2
    have hn' : listed.getD i true = false := by simpa using hn
    have hsi : i < listed.size := by omega
    simp only [List.getElem?_toArray, ho, Option.map_some, Option.getD_some, Array.all_eq_true_iff_forall_mem] at he
    have hL : (fun j => (listed.setIfInBounds i true).getD j true) = plus (fun j => listed.getD j true) i := by
      funext j
      unfold plus
      by_cases hj : j = i
      · subst hj; simp [Array.getD_eq_getD_getElem?, hsi]
      · rw [if_neg hj]; simp [Array.getD_eq_getD_getElem?, Array.getElem?_setIfInBounds_ne (Ne.symm hj)]
    have hcount : ((List.range l.length).filter fun j => !(listed.setIfInBounds i true).getD j true).length ≤ fuel := by
      have hsub : ((List.range l.length).filter fun j => !(listed.setIfInBounds i true).getD j true).length < ((List.range l.length).filter fun j => !listed.getD j true).length := by
        have e : ((List.range l.length).filter fun j => !(listed.setIfInBounds i true).getD j true) = (((List.range l.length).filter fun j => !listed.getD j true).filter fun j => decide (j ≠ i)) := by
          rw [List.filter_filter]
          apply List.filter_congr
          intro j _
          have := congrFun hL j
          rw [this]
          unfold plus
          by_cases hj : j = i <;> simp [hj]
        rw [e]
        apply List.length_filter_lt_length_iff_exists.2
        exact ⟨i, by rw [List.mem_filter]; exact ⟨by simpa using hil, by simp [hn']⟩, by simp⟩
      omega
    have hs' := hstep (fun j => listed.getD j true) a w i _ ho hn' (fun e hmem hb => by
      have := he e hmem
      simp only [hb, Bool.not_true, Bool.false_or] at this
      have h3 : e.on < listed.size := by have := backB_of hback i _ ho e hmem hb; omega
      simp only [Array.getD_eq_getD_getElem?, Array.getElem?_eq_getElem h3, Option.getD_some] at this ⊢
      exact this) hI
    have ih' := fun a w (h : Inv (plus (fun j => listed.getD j true) i) a w) => ih (listed.setIfInBounds i true) a w (by simpa using hs) hcount (by rw [hL]; exact h)
    unfold wpOp
    simp only [List.getElem?_toArray, ho]
    split
    · rename_i hw
      rw [if_pos hw] at hs'
      exact .inl (Oper.wp_mono ih' hs')
    · rename_i hw
      rw [if_neg hw] at hs'
      exact ih' _ _ hs'
theorem wp_region_inv {P : Program} {id : Nat} {Q : Exit → Act → World → Prop} {a : Act} {w : World} {l : List Oper} (hm : P.follows .mixedOrders = true) (hback : backB l = true) (Inv : (Nat → Bool) → Act → World → Prop)
    (h0 : ∀ L, (∀ i, i < l.length → L i = false) → Inv L a w.drew)
    (hstep : ∀ L a w i o, l[i]? = some o → L i = false → (∀ e ∈ o.after, Region.binds .any e = true → L e.on = true) → Inv L a w →
      if Region.wanted o (yielded l.toArray a.tmps) then o.wp P a w (Inv (plus L i)) Q else Inv (plus L i) (a.put o.dst undef) w)
    (hend : ∀ L a w, (∀ i, i < l.length → L i = true) → Inv L a w → Q .normal a w) : (Code.region id l.toArray true).wp P Q a w := by
  refine wp_region_any hm (wpAny_inv Inv hback hstep hend _ _ a _ (by simp) ?_ ?_)
  · exact Nat.le_trans (List.length_filter_le _ _) (by simp)
  · refine h0 _ fun i hi => ?_
    simp [Array.getD_eq_getD_getElem?, hi]
end Go.Proofs.Ytfbgldkdlmipoaa

/- Roofs and places as values: their cells, and how the walk reads them. -/
namespace Go.Proofs.Ytfbgldkdlmipoaa
open Go.RowKit
set_option linter.unusedVariables false
set_option linter.unusedSimpArgs false

/-- A roof: Wide, High, Shift, and the 64 kinds. -/
structure Rf where
  w : Int
  h : Int
  s : Int
  t : List Int
/-- The numbers are of their kinds. -/
structure Rf.Ok (r : Rf) : Prop where
  w1 : -128 ≤ r.w
  w2 : r.w ≤ 127
  h1 : -128 ≤ r.h
  h2 : r.h ≤ 127
  s1 : 0 ≤ r.s
  s2 : r.s ≤ 255
  len : r.t.length = 64
  t1 : ∀ n ∈ r.t, 0 ≤ n ∧ n ≤ 255
/-- The kind at a course and an index. -/
def Rf.at (r : Rf) (i k : Nat) : Int := r.t.getD (8 * i + k) 0
theorem Rf.Ok.at {r : Rf} (h : r.Ok) (i k : Nat) : 0 ≤ r.at i k ∧ r.at i k ≤ 255 := by
  unfold Rf.at
  by_cases hj : 8 * i + k < r.t.length
  · have := h.t1 r.t[8 * i + k] (List.getElem_mem hj)
    simp [List.getD, List.getElem?_eq_getElem hj]; omega
  · simp [List.getD, List.getElem?_eq_none (by omega : r.t.length ≤ 8 * i + k)]
theorem Rf.ext_at {r r' : Rf} (h : r.Ok) (h' : r'.Ok) (hw : r.w = r'.w) (hh : r.h = r'.h) (hs : r.s = r'.s) (ht : ∀ i k, i < 8 → k < 8 → r.at i k = r'.at i k) : r = r' := by
  cases r with | mk w h0 s t =>
  cases r' with | mk w' h0' s' t' =>
  obtain rfl := hw; obtain rfl := hh; obtain rfl := hs
  congr 1
  apply List.ext_getElem?
  intro j
  by_cases hj : j < 64
  · have := ht (j / 8) (j % 8) (by omega) (by omega)
    unfold Rf.at at this
    have e : 8 * (j / 8) + j % 8 = j := by omega
    rw [e] at this
    have l1 : j < t.length := by rw [h.len]; exact hj
    have l2 : j < t'.length := by rw [h'.len]; exact hj
    simpa [List.getD, List.getElem?_eq_getElem l1, List.getElem?_eq_getElem l2] using this
  · rw [List.getElem?_eq_none (by rw [h.len]; omega), List.getElem?_eq_none (by rw [h'.len]; omega)]
/-- The cells of the 64 kinds; of one course; of the whole roof. -/
def tcells (t : List Int) : Array Value := (t.map (Value.int .u8)).toArray
def trow (t : List Int) (i : Nat) : List Int := (t.drop (8 * i)).take 8
def rcells (r : Rf) : Array Value := (Value.int .i8 r.w :: Value.int .i8 r.h :: Value.int .u8 r.s :: r.t.map (Value.int .u8)).toArray
@[go_sem] theorem rc0 (r : Rf) : (rcells r)[0]? = some (.int .i8 r.w) := by simp [rcells]
@[go_sem] theorem rc1 (r : Rf) : (rcells r)[1]? = some (.int .i8 r.h) := by simp [rcells]
@[go_sem] theorem rc2 (r : Rf) : (rcells r)[2]? = some (.int .u8 r.s) := by simp [rcells]
theorem size_tcells (t : List Int) : (tcells t).size = t.length := by simp [tcells]
@[go_sem] theorem size_rcells (r : Rf) : (rcells r).size = 3 + r.t.length := by simp [rcells]; omega
theorem rct (r : Rf) (h : r.Ok) (j : Nat) (hj : j < 64) : (rcells r)[3 + j]? = some (.int .u8 (r.t.getD j 0)) := by
  have hl : j < r.t.length := by rw [h.len]; exact hj
  have e : 3 + j = j + 1 + 1 + 1 := by omega
  rw [e]
  simp only [rcells, List.getElem?_toArray, List.getElem?_cons_succ, List.getElem?_map, List.getElem?_eq_getElem hl, Option.map_some, List.getD, Option.getD_some]
theorem tc_at (t : List Int) (j : Nat) (hj : j < t.length) : (tcells t)[j]? = some (.int .u8 (t.getD j 0)) := by
  simp only [tcells, List.getElem?_toArray, List.getElem?_map, List.getElem?_eq_getElem hj, Option.map_some, List.getD, Option.getD_some]
theorem extract_tcells (t : List Int) (i : Nat) : (tcells t).extract (i * 8) (i * 8 + 8) = tcells (trow t i) := by
  apply Array.toList_inj.1
  simp [tcells, trow, Array.toList_extract, List.map_drop, List.map_take, Nat.mul_comm]
theorem len_trow (t : List Int) (ht : t.length = 64) (i : Nat) (hi : i < 8) : (trow t i).length = 8 := by simp [trow, ht]; omega
theorem trow_at (t : List Int) (i k : Nat) (hk : k < 8) : (trow t i).getD k 0 = t.getD (8 * i + k) 0 := by
  simp [trow, List.getD, List.getElem?_take, hk, List.getElem?_drop]
theorem range_tiles {W : World} {b : Nat} {r : Rf} {T : TypeId} {fr : Nat × Nat} (hb : W.heap[b]? = some (.cells (rcells r) T fr)) : W.rangeAt b 3 (r.t.map (Value.int .u8)) := fun j v hv => by
  rw [cell_of_row W b (3 + j) _ _ _ hb]
  have e : 3 + j = j + 1 + 1 + 1 := by omega
  rw [e]
  simpa [rcells] using hv
theorem range_roof {W : World} {b : Nat} {r : Rf} {T : TypeId} {fr : Nat × Nat} (hb : W.heap[b]? = some (.cells (rcells r) T fr)) : W.rangeAt b 0 (rcells r).toList := fun j v hv => by
  rw [cell_of_row W b (0 + j) _ _ _ hb]
  simpa using hv
theorem range_row {W : World} {b : Nat} {t : List Int} {T : TypeId} {fr : Nat × Nat} (hb : W.heap[b]? = some (.cells (tcells t) T fr)) : W.rangeAt b 0 (t.map (Value.int .u8)) := fun j v hv => by
  rw [cell_of_row W b (0 + j) _ _ _ hb]
  simpa [tcells] using hv
/-- A course in the midst of a block that holds kinds from offset o on. -/
theorem range_mid {W : World} {b o : Nat} {cs : Array Value} {t : List Int} {T : TypeId} {fr : Nat × Nat} (hb : W.heap[b]? = some (.cells cs T fr)) (hcs : ∀ j, j < t.length → cs[o + j]? = some (.int .u8 (t.getD j 0))) (i : Nat) (ht : t.length = 64) (hi : i < 8) :
    W.rangeAt b (o + i * 8) ((trow t i).map (Value.int .u8)) := fun j v hv => by
  have hj : j < 8 := by have := (List.getElem?_eq_some_iff.1 hv).1; simpa [len_trow t ht i hi] using this
  rw [cell_of_row W b (o + i * 8 + j) _ _ _ hb]
  have e : o + i * 8 + j = o + (8 * i + j) := by omega
  rw [e, hcs _ (by omega), ← trow_at t i j hj]
  have hl : j < (trow t i).length := by rw [len_trow t ht i hi]; exact hj
  rw [List.getElem?_map, List.getElem?_eq_getElem hl] at hv
  simp only [Option.map_some, Option.some.injEq] at hv
  rw [← hv, List.getD, List.getElem?_eq_getElem hl, Option.getD_some]
theorem rcells_one (r : Rf) : (rcells r).all (·.oneCell') = true := by simp [rcells, Value.oneCell']
theorem tcells_one (t : List Int) : (tcells t).all (·.oneCell') = true := by simp [tcells, Value.oneCell']
/-- The empty roof. -/
def Rf.zero : Rf := ⟨0, 0, 0, List.replicate 64 0⟩
theorem Rf.zero_ok : Rf.zero.Ok := ⟨by decide, by decide, by decide, by decide, by decide, by decide, by decide, by decide⟩

theorem Try.infoRow : (Try.prog.info? 23).map (·.size) = some 8 := by kernel_rfl
theorem Try.infoTiles : (Try.prog.info? 24).map (·.size) = some 64 := by kernel_rfl
theorem Try.infoRoof : (Try.prog.info? 31).map (·.size) = some 67 := by kernel_rfl
@[go_sem] theorem Try.zeroRoofCells : Try.zeroCells31 = rcells Rf.zero := by kernel_rfl
@[go_sem high] theorem Try.zeroRoof (w : World) : (zeroValue 31).run Try.prog w = .ok (.agg (rcells Rf.zero)) w := by kernel_rfl
section
variable {ops : Array Oper} {rest : List Oper} {o : Oper} {a : Act} {w : World} {Q : Exit → Act → World → Prop}
/-- All kinds, loaded out of a roof in memory. -/
theorem wp_tiles (hgd : o.guard = none) (x : Operand) (ho : o.op = .load 24 x) (b : Nat) (hx : a.eval x = .pointer (some ⟨b, 3, none⟩)) (r : Rf) (hr : r.Ok) {T : TypeId} {fr : Nat × Nat}
    (hb : w.heap[b]? = some (.cells (rcells r) T fr)) (h : wpList Try.prog ops Q rest (a.put o.dst (.agg (tcells r.t))) w) : wpList Try.prog ops Q (o :: rest) a w :=
  wpList_load_mid hgd 24 x ho b 3 hx (r.t.map (Value.int .u8)) _ (range_tiles hb) Try.underlying24 rfl (by rw [Try.infoTiles]; simp [hr.len]) h
theorem run_load_mid8 {w : World} {b o : Nat} {t : List Int} (ht : t.length = 8) (hr : w.rangeAt b o (t.map (Value.int .u8))) : (Instr.loadAt 23 (.pointer (some ⟨b, o, none⟩))).run Try.prog w = .ok (.agg (tcells t)) w :=
  run_loadAt_mid w b o 23 (t.map (Value.int .u8)) _ hr Try.underlying23 rfl (by rw [Try.infoRow]; simp [ht])
theorem run_load_roof (T' : TypeId) {d : TypeDesc} (hu : Try.prog.underlying T' = some d) (hd : d.isRow = true) (hi : (Try.prog.info? T').map (·.size) = some 67) {w : World} {b : Nat} {r : Rf} (hr : r.Ok) {T : TypeId} {fr : Nat × Nat} (hb : w.heap[b]? = some (.cells (rcells r) T fr)) :
    (Instr.loadAt T' (.pointer (some ⟨b, 0, none⟩))).run Try.prog w = .ok (.agg (rcells r)) w := by
  have := run_loadAt_mid w b 0 T' (rcells r).toList _ (range_roof hb) hu hd (by rw [hi]; simp [size_rcells, hr.len])
  simpa using this
/-- A whole roof, loaded. -/
theorem wp_roof (T' : TypeId) {d : TypeDesc} (hu : Try.prog.underlying T' = some d) (hd : d.isRow = true) (hi : (Try.prog.info? T').map (·.size) = some 67) (hgd : o.guard = none) (x : Operand) (ho : o.op = .load T' x) (b : Nat) (hx : a.eval x = .pointer (some ⟨b, 0, none⟩)) (r : Rf) (hr : r.Ok) {T : TypeId} {fr : Nat × Nat}
    (hb : w.heap[b]? = some (.cells (rcells r) T fr)) (h : wpList Try.prog ops Q rest (a.put o.dst (.agg (rcells r))) w) : wpList Try.prog ops Q (o :: rest) a w :=
  wpList_load_mid hgd T' x ho b 0 hx (rcells r).toList _ (range_roof hb) hu hd (by rw [hi]; simp [size_rcells, hr.len]) (by simpa using h)
/-- A course, loaded out of a block of its own. -/
theorem wp_row (hgd : o.guard = none) (x : Operand) (ho : o.op = .load 23 x) (b : Nat) (hx : a.eval x = .pointer (some ⟨b, 0, none⟩)) (t : List Int) (ht : t.length = 8) {T : TypeId} {fr : Nat × Nat}
    (hb : w.heap[b]? = some (.cells (tcells t) T fr)) (h : wpList Try.prog ops Q rest (a.put o.dst (.agg (tcells t))) w) : wpList Try.prog ops Q (o :: rest) a w :=
  wpList_load_mid hgd 23 x ho b 0 hx (t.map (Value.int .u8)) _ (range_row hb) Try.underlying23 rfl (by rw [Try.infoRow]; simp [ht]) h
/-- A course, stored into the block that was just laid for it. -/
theorem wp_store_row (hgd : o.guard = none) (x y : Operand) (ho : o.op = .store 23 x y) (cs : Array Value) (hs : cs.size = 8) (t : List Int) (ht : t.length = 8) {T : TypeId}
    (hx : a.eval x = .pointer (some ⟨w.heap.size, 0, none⟩)) (hy : a.eval y = .agg (tcells t))
    (h : wpList Try.prog ops Q rest (a.put o.dst undef) (w.alloc (.cells (tcells t) T))) : wpList Try.prog ops Q (o :: rest) a (w.alloc (.cells cs T)) :=
  wpList_store_new hgd 23 x y ho cs (tcells t) T hx hy (by rw [size_tcells, ht, hs]) (by rw [Try.infoRow, size_tcells, ht]) (tcells_one t) h
end
theorem res_roof {fn : Func} {p u : Tmp} (h : fn.results = #[.cell p 31, .tmp u]) (tmps : Array Value) (w : World) (g : Nat) (R : Rf) (hr : R.Ok) {T : TypeId} {fr : Nat × Nat} (v : Value) (hp : tmps.getD p undef = .pointer (some ⟨g, 0, none⟩))
    (hg : w.heap[g]? = some (.cells (rcells R) T fr)) (hv : tmps.getD u undef = v) : (results fn tmps).run Try.prog w = .ok (.tuple #[.agg (rcells R), v]) w := by
  have hl := run_loadVar_mid (P := Try.prog) w g 0 31 (rcells R).toList _ (range_roof hg) Try.underlying31 rfl (by rw [Try.infoRoof]; simp [size_rcells, hr.len])
  rw [results_cell_tmp h, hp, hv]
  have e : (rcells R).toList.toArray = rcells R := by simp
  rw [e] at hl
  simp [asAddr, hl]
/-- A whole roof stored into a block that holds one. -/
theorem wp_store_roof {ops : Array Oper} {rest : List Oper} {op : Oper} {a : Act} {W : World} {Q : Exit → Act → World → Prop} (hgd : op.guard = none) (x y : Operand) (ho : op.op = .store 31 x y) (b : Nat) (S R : Rf) (hs : S.Ok) (hr : R.Ok) {T : TypeId}
    (hb : W.heap[b]? = some (.cells (rcells S) T (0, 0))) (hx : a.eval x = .pointer (some ⟨b, 0, none⟩)) (hy : a.eval y = .agg (rcells R))
    (h : ∀ w2, w2.heap[b]? = some (.cells (rcells R) T (0, 0)) → W.grownBy w2 (some b) → w2.heap.size = W.heap.size → wpList Try.prog ops Q rest (a.put op.dst undef) w2) : wpList Try.prog ops Q (op :: rest) a W :=
  wpList_store_block hgd 31 x y ho b 0 (rcells S) (rcells R) (rcells R) T hb hx hy (by rw [size_rcells, size_rcells, hs.len, hr.len]; omega) (by rw [Try.infoRoof, size_rcells, hr.len]) (rcells_one R) (setAll_whole (by rw [size_rcells, size_rcells, hs.len, hr.len])) h
theorem run_build_zero (w : World) : (Instr.build 31 #[]).run Try.prog w = .ok (.agg (rcells Rf.zero)) w := by kernel_rfl
theorem run_build_roof (w : World) (a b c : Int) : (Instr.build 31 #[(0, .int .i8 a), (1, .int .i8 b), (2, .int .u8 c)]).run Try.prog w = .ok (.agg (rcells ⟨a, b, c, List.replicate 64 0⟩)) w := by kernel_rfl
theorem setAll_roof {cs : Array Value} {r : Rf} (hr : r.Ok) (hs : cs.size = 67) (h0 : cs[0]? = some (.int .i8 r.w)) (h1 : cs[1]? = some (.int .i8 r.h)) (h2 : cs[2]? = some (.int .u8 r.s)) : setAll cs 3 (tcells r.t).toList = rcells r := by
  apply setAll_eq
  · simp [size_tcells, hr.len, hs]
  · simp [size_rcells, hr.len, hs]
  · intro j hj
    by_cases h : 3 ≤ j ∧ j < 3 + (tcells r.t).toList.length
    · rw [if_pos h, Array.getElem?_toList]
      have hj2 : j - 3 < 64 := by simp [size_tcells, hr.len] at h; omega
      have e : j = 3 + (j - 3) := by omega
      rw [tc_at _ _ (by rw [hr.len]; exact hj2), e, rct r hr _ hj2, ← e]
    · rw [if_neg h]
      have : j < 3 := by simp [size_tcells, hr.len] at h; omega
      match j, this with
      | 0, _ => rw [h0]; exact rc0 r
      | 1, _ => rw [h1]; exact rc1 r
      | 2, _ => rw [h2]; exact rc2 r
/-- A course out of the kinds. -/
theorem run_tiles (w : World) (t : List Int) (k : IntKind) (i : Nat) (hi : i < 8) : (Instr.index 24 (.agg (tcells t)) (.int k (i : Int))).run Try.prog w = .ok (.agg (tcells (trow t i))) w := by
  rw [run_index_row w _ 23 8 8 5 _ k i Try.underlying24 Try.underlying23 Try.infoRow hi, extract_tcells]
/-- A kind out of a course. -/
theorem run_kind (w : World) (t : List Int) (ht : t.length = 8) (k : IntKind) (i : Nat) (hi : i < 8) : (Instr.index 23 (.agg (tcells t)) (.int k (i : Int))).run Try.prog w = .ok (.int .u8 (t.getD i 0)) w := by
  have h1 : (0 : Int) ≤ (i : Int) ∧ (i : Int) < ((8 : Nat) : Int) := ⟨by omega, by omega⟩
  have hq : (Try.prog.info? 5).map (·.size) = some 1 := by kernel_rfl
  have ha : (isAgg 5).run Try.prog w = .ok false w := by kernel_rfl
  cases hi' : Try.prog.info? 5 with
  | none => simp [hi'] at hq
  | some inf =>
    have hs : inf.size = 1 := by simpa [hi'] using hq
    have := tc_at t i (by omega)
    simp only [Instr.index, asIntOf, Sem.run_bind, Sem.run_pure, Result.andThen_ok, run_underlying Try.underlying23 w]
    rw [if_pos h1]
    simp [part, ha, sizeOf, typeInfo, hi', hs, Sem.run_bind, this]
end Go.Proofs.Ytfbgldkdlmipoaa

/- A region that draws its order, of quiet operations, one 'alloc' and one store to what it made: walked once. -/
namespace Go.Proofs.Ytfbgldkdlmipoaa
open Go.RowKit
set_option linter.unusedSimpArgs false
set_option linter.unusedVariables false

/-- An operation under a guard that says yes, its run known. -/
theorem wpList_runG {P : Program} {ops : Array Oper} {rest : List Oper} {o : Oper} {a : Act} {w : World} {Q : Exit → Act → World → Prop} (hw : Region.wanted o (yielded ops a.tmps) = true) (v : Value)
    (h : (execOp a.eval o).run P w = .ok (.value v) w) (k : wpList P ops Q rest (a.put o.dst v) w) : wpList P ops Q (o :: rest) a w :=
  BigFrame.wpList_want hw fun _ hK => by unfold Oper.wp; rw [h]; exact hK _ _ k
theorem wpQuiet_runG {P : Program} {ops : Array Oper} {C : World → Prop} {Q : Act → Prop} {a : Act} {o : Oper} {rest : List Oper} {N : Nat} (_ : o.dst = some N) (hw : Region.wanted o (yielded ops a.tmps) = true) (v : Value)
    (h : ∀ w', C w' → (execOp a.eval o).run P w' = .ok (.value v) w') (k : wpQuiet P ops C Q rest (a.put o.dst v)) : wpQuiet P ops C Q (o :: rest) a :=
  wpQuiet_step fun K hK => by
    rw [if_pos hw]
    exact ⟨v, fun w' hw' => by unfold Oper.quietAt; rw [h w' hw']; exact ⟨rfl, rfl⟩, hK _ k⟩
theorem hstore {B : Nat} {W0 wr w2 : World} {cs : Array Value} {T : TypeId} (hB : Hid (B ≤ W0.heap.size)) (h : Hid (Below B W0 wr)) (hg : (wr.alloc (.cells cs T)).grownBy w2 (some wr.heap.size)) : Hid (Below B W0 w2) :=
  (h.out.alloc (Nat.le_trans hB.out h.out.size) _).grown hg (by have := Nat.le_trans hB.out h.out.size; simp; omega) (fun k hk => by cases hk; exact Nat.le_trans hB.out h.out.size)
theorem wpStill_run {P : Program} {ops : Array Oper} {w : World} {Q : Act → Prop} {a : Act} {o : Oper} {rest : List Oper} {N : Nat} (_ : o.dst = some N) (hgd : o.guard = none) (v : Value)
    (h : (execOp a.eval o).run P w = .ok (.value v) w) (k : wpStill P ops w Q rest (a.put o.dst v)) : wpStill P ops w Q (o :: rest) a :=
  wpStill_step fun K hK => by
    rw [if_pos (by simp [Region.wanted, hgd])]
    unfold Oper.still; rw [h]; exact ⟨rfl, hK _ k⟩
/-- A world above W from B on, whose blocks bear what S says. -/
structure ExtS (B : Nat) (W : World) (S : Nat → Option Obj) where
  w : World
  h : Below B W w
  s : ∀ p o, S p = some o → w.heap[p]? = some o
def ExtS.out {B : Nat} {W : World} {S : Nat → Option Obj} (x : ExtS B W S) : World := x.w
@[go_sem] theorem ExtS.cell {B : Nat} {W : World} {S : Nat → Option Obj} (x : ExtS B W S) (b o : Nat) (h : b < B) : x.out.cell? ⟨b, o, none⟩ = W.cell? ⟨b, o, none⟩ := x.h.cell (p := ⟨b, o, none⟩) h
@[go_sem] theorem ExtS.frozen {B : Nat} {W : World} {S : Nat → Option Obj} (x : ExtS B W S) (b o : Nat) (h : b < B) : x.out.frozen? ⟨b, o, none⟩ = W.frozen? ⟨b, o, none⟩ := x.h.frozen (p := ⟨b, o, none⟩) h
theorem Calls.extS {P : Program} {f : FuncId} {args : Array Value} {B : Nat} {W : World} {S : Nat → Option Obj} {x : ExtS B W S} {v : Value} (hB : B ≤ W.heap.size)
    (h : Calls P f args x.out fun e w' => e = .returned v ∧ Below x.out.heap.size x.out w') : Calls P f args x.out fun e w' => e = .returned v ∧ ∃ y : ExtS B W S, w' = y.out :=
  h.mono fun _ _ ⟨he, hb⟩ => ⟨he, ⟨_, x.h.trans (hb.mono (Nat.le_trans hB x.h.size)), fun p o hp => block_below hb (x.s p o hp) (block_lt (x.s p o hp))⟩, rfl⟩
theorem Calls.extS_same {P : Program} {f : FuncId} {args : Array Value} {B : Nat} {W : World} {S : Nat → Option Obj} {x : ExtS B W S} {v : Value}
    (h : Calls P f args x.out fun e w' => e = .returned v ∧ x.out = w') : Calls P f args x.out fun e w' => e = .returned v ∧ ∃ y : ExtS B W S, w' = y.out :=
  h.mono fun _ _ ⟨he, hb⟩ => ⟨he, x, hb.symm⟩
abbrev ClsS (B : Nat) (W : World) (S : Nat → Option Obj) : World → Prop := fun w' => ∃ x : ExtS B W S, w' = x.out

/-- What a walk of the operations one after another has shown of each. -/
def StepsS (P : Program) (ops : Array Oper) (C : World → Prop) : List Oper → List Value → Act → Prop
  | [], [], _ => True
  | o :: rest, v :: vs, a => YieldsIn P ops C o v a ∧ StepsS P ops C rest vs (a.put o.dst v)
  | _, _, _ => False
def putsS : List Oper → List Value → Act → Act
  | o :: rest, v :: vs, a => putsS rest vs (a.put o.dst v)
  | _, _, a => a
theorem stepsS_of {P : Program} {ops : Array Oper} {C : World → Prop} {Q : Act → Prop} : ∀ (l : List Oper) (a : Act), wpQuiet P ops C Q l a → ∃ vs, StepsS P ops C l vs a ∧ Q (putsS l vs a)
  | [], a, h => ⟨[], trivial, h⟩
  | o :: rest, a, h => by
    unfold wpQuiet at h
    split at h
    · rename_i hw
      obtain ⟨v, h1, h2⟩ := h
      obtain ⟨vs, h3, h4⟩ := stepsS_of rest _ h2
      exact ⟨v :: vs, ⟨.inl ⟨hw, h1⟩, h3⟩, h4⟩
    · rename_i hw
      obtain ⟨vs, h3, h4⟩ := stepsS_of rest _ h
      exact ⟨undef :: vs, ⟨.inr ⟨by simpa using hw, rfl⟩, h3⟩, h4⟩
theorem put_size (a : Act) (d : Option Tmp) (v : Value) : (a.put d v).tmps.size = a.tmps.size := by cases d <;> simp [Act.put]
theorem put_defers' (a : Act) (d : Option Tmp) (v : Value) : (a.put d v).defers = a.defers := by cases d <;> rfl
theorem put_other (a : Act) (d : Option Tmp) (v : Value) (t : Nat) (h : d ≠ some t) : (a.put d v).tmps.getD t undef = a.tmps.getD t undef := by
  cases d with
  | none => rfl
  | some d => simp [Act.put, Array.getD_eq_getD_getElem?, Array.getElem?_setIfInBounds_ne (fun e : d = t => h (by rw [e]))]
theorem put_here (a : Act) (d : Nat) (v : Value) (h : d < a.tmps.size) : (a.put (some d) v).tmps.getD d undef = v := by
  simp [Act.put, Array.getD_eq_getD_getElem?, h]
theorem putsS_size : ∀ (l : List Oper) (vs : List Value) (a : Act), (putsS l vs a).tmps.size = a.tmps.size
  | [], vs, a => by cases vs <;> rfl
  | o :: rest, [], a => rfl
  | o :: rest, v :: vs, a => by unfold putsS; rw [putsS_size rest vs, put_size]
theorem putsS_defers : ∀ (l : List Oper) (vs : List Value) (a : Act), (putsS l vs a).defers = a.defers
  | [], vs, a => by cases vs <;> rfl
  | o :: rest, [], a => rfl
  | o :: rest, v :: vs, a => by unfold putsS; rw [putsS_defers rest vs, put_defers']
theorem putsS_other (t : Nat) : ∀ (l : List Oper) (vs : List Value) (a : Act), (∀ o ∈ l, o.dst ≠ some t) → (putsS l vs a).tmps.getD t undef = a.tmps.getD t undef
  | [], vs, a, _ => by cases vs <;> rfl
  | o :: rest, [], a, _ => rfl
  | o :: rest, v :: vs, a, h => by
    unfold putsS
    rw [putsS_other t rest vs _ fun o' ho' => h o' (List.mem_cons_of_mem _ ho'), put_other _ _ _ _ (h o (List.mem_cons_self ..))]

def isQ (o : Oper) : Bool := match o.op with | .alloc _ | .store _ _ _ => false | _ => true
/-- The places that an operation looks at. -/
def eyes (o : Oper) : List Nat := o.op.operands.toList.filterMap fun | .tmp t => some t | _ => none
def notSelect (o : Oper) : Bool := match o.op with | .select _ _ => false | _ => true
/-- No guard; no 'select'; what an operation looks at no operation of the region writes, or one that comes before it on each way; each slot is written once, within n slots. -/
def lawB (l : List Oper) (n : Nat) : Bool :=
  l.zipIdx.all fun x => x.1.guard.isNone && notSelect x.1 && (match x.1.dst with | some d => decide (d < n) | none => true) &&
    (l.zipIdx.all fun y => (y.2 == x.2) || (match y.1.dst with | none => true | some d => x.1.dst != some d)) &&
    (eyes x.1).all fun t => l.zipIdx.all fun y => y.1.dst != some t || (decide (y.2 < x.2) && x.1.after.toList.any fun e => Region.binds .any e && e.on == y.2)
/-- What 'lawB' says of one operation. -/
theorem lawB_of {l : List Oper} {n : Nat} (h : lawB l n = true) (i : Nat) (o : Oper) (ho : l[i]? = some o) :
    o.guard = none ∧ notSelect o = true ∧ (∀ d, o.dst = some d → d < n) ∧ (∀ j o', l[j]? = some o' → j ≠ i → ∀ d, o'.dst = some d → o.dst ≠ some d) ∧
    (∀ t ∈ eyes o, ∀ j o', l[j]? = some o' → o'.dst = some t → j < i ∧ ∃ e ∈ o.after, Region.binds .any e = true ∧ e.on = j) := by
  unfold lawB at h
  rw [List.all_eq_true] at h
  have h1 := h (o, i) (by rw [List.mk_mem_zipIdx_iff_getElem?]; exact ho)
  simp only [Bool.and_eq_true, List.all_eq_true] at h1
  obtain ⟨⟨⟨⟨h2, h3⟩, h4⟩, h5⟩, h6⟩ := h1
  refine ⟨by simpa using h2, h3, ?_, ?_, ?_⟩
  · intro d hd; rw [hd] at h4; simpa using h4
  · intro j o' hj hne d hd
    have := h5 (o', j) (by rw [List.mk_mem_zipIdx_iff_getElem?]; exact hj)
    simp only [hd, Bool.or_eq_true, beq_iff_eq, hne, false_or] at this
    simpa using this
  · intro t ht j o' hj hd
    have := h6 t ht (o', j) (by rw [List.mk_mem_zipIdx_iff_getElem?]; exact hj)
    simp only [hd, bne_self_eq_false, Bool.false_or, Bool.and_eq_true, decide_eq_true_eq, List.any_eq_true, beq_iff_eq, Array.mem_toList_iff] at this
    exact this
theorem stepsS_at {P : Program} {ops : Array Oper} {C : World → Prop} : ∀ (l : List Oper) (vs : List Value) (a : Act) (i : Nat) (o : Oper), StepsS P ops C l vs a → l[i]? = some o →
    ∃ v ai, YieldsIn P ops C o v ai ∧ putsS l vs a = putsS (l.drop (i + 1)) (vs.drop (i + 1)) (ai.put o.dst v) ∧ ai.tmps.size = a.tmps.size ∧
      (∀ t, (∀ j o', j < i → l[j]? = some o' → o'.dst ≠ some t) → ai.tmps.getD t undef = a.tmps.getD t undef)
  | [], vs, a, i, o, _, hi => by simp at hi
  | o1 :: rest, [], a, i, o, h, _ => h.elim
  | o1 :: rest, v1 :: vs, a, 0, o, h, hi => by
    simp at hi; subst hi
    exact ⟨v1, a, h.1, rfl, rfl, fun _ _ => rfl⟩
  | o1 :: rest, v1 :: vs, a, i + 1, o, h, hi => by
    obtain ⟨v, ai, h1, h2, h3, h4⟩ := stepsS_at rest vs _ i o h.2 (by simpa using hi)
    refine ⟨v, ai, h1, ?_, h3.trans (put_size _ _ _), fun t ht => (h4 t fun j o' hj hl => ht (j + 1) o' (by omega) (by simpa using hl)).trans (put_other _ _ _ _ (ht 0 o1 (by omega) rfl))⟩
    exact h2
/-- The region with its 'alloc' and its store struck out. -/
def mute (o : Oper) : Oper := if isQ o then o else { o with op := .move (.const undef), dst := none }
theorem mute_get {l : List Oper} {j : Nat} {o : Oper} {d : Nat} (h : (l.map mute)[j]? = some o) (hd : o.dst = some d) : l[j]? = some o := by
  rw [List.getElem?_map] at h
  cases hl : l[j]? with
  | none => rw [hl] at h; cases h
  | some o' =>
    rw [hl] at h
    simp only [Option.map_some, Option.some.injEq] at h
    subst h
    unfold mute at hd ⊢
    split at hd
    · rename_i hq; rw [if_pos hq]
    · cases hd
theorem eval_eyes {a a' : Act} {o : Oper} (h : ∀ t ∈ eyes o, a.tmps.getD t undef = a'.tmps.getD t undef) (x : Operand) (hx : x ∈ o.op.operands) : a.eval x = a'.eval x := by
  cases x with
  | tmp t => exact h t (List.mem_filterMap.2 ⟨.tmp t, by simpa using hx, rfl⟩)
  | _ => rfl
set_option maxHeartbeats 1600000 in
theorem wp_region_law {P : Program} {id : Nat} {Q : Exit → Act → World → Prop} {a0 : Act} {B : Nat} {W : World} {y : Ext B W} {l : List Oper} {ops : Array Oper} (aσ : Act) (ia is sa : Nat) (oa os : Oper) (T : TypeId) (yv : Operand) (cs0 cs : Array Value)
    (hm : P.follows .mixedOrders = true) (hback : backB l = true) (hn : lawB l a0.tmps.size = true)
    (hoa : l[ia]? = some oa) (hos : l[is]? = some os) (ha1 : oa.op = .alloc T) (ha2 : oa.dst = some sa) (hs1 : os.op = .store T (.tmp sa) yv) (hs2 : os.dst = none)
    (honly : (l.zipIdx.all fun x => isQ x.1 || (x.2 == ia) || (x.2 == is)) = true) (hsee : (l.zipIdx.all fun x => (x.2 == is) || !(eyes x.1).contains sa) = true)
    (hyv : ∀ t, yv = .tmp t → t ≠ sa)
    (hal : ∀ w, (Instr.alloc T true (.tuple #[])).run P w = .ok (.pointer (some ⟨w.heap.size, 0, none⟩)) (w.alloc (.cells cs0 T)))
    (hval : aσ.eval yv = .agg cs) (hi : (P.info? T).map (·.size) = some cs.size) (hone : cs.all (·.oneCell') = true) (hsz : cs0.size = cs.size) (hBW : B ≤ W.heap.size)
    (hw : ∀ S, Nonempty (ExtS B W S) → wpQuiet P ops (fun w' => ∃ x : ExtS B W S, w' = x.out) (fun a' => a' = aσ) (l.map mute) a0)
    (h : ∀ (x : Ext B W) (p : Nat), B ≤ p → x.out.heap[p]? = some (.cells cs T (0, 0)) → Q .normal (aσ.put (some sa) (.pointer (some ⟨p, 0, none⟩))) x.out) :
    (Code.region id l.toArray true).wp P Q a0 y.out := by
  have hL := fun i o ho => lawB_of hn i o ho
  have hQ : ∀ i o, l[i]? = some o → i ≠ ia → i ≠ is → isQ o = true := by
    intro i o ho h1 h2
    rw [List.all_eq_true] at honly
    have := honly (o, i) (by rw [List.mk_mem_zipIdx_iff_getElem?]; exact ho)
    simpa [h1, h2] using this
  have hE : ∀ i o, l[i]? = some o → i ≠ is → sa ∉ eyes o := by
    intro i o ho h1 hmem
    rw [List.all_eq_true] at hsee
    have := hsee (o, i) (by rw [List.mk_mem_zipIdx_iff_getElem?]; exact ho)
    simp [h1, hmem] at this
  have key : ∀ S, Nonempty (ExtS B W S) → ∀ i o, l[i]? = some o → i ≠ ia → i ≠ is → ∃ v ai, YieldsIn P ops (fun w' => ∃ x : ExtS B W S, w' = x.out) o v ai ∧ (∀ d, o.dst = some d → v = aσ.tmps.getD d undef) ∧
      (∀ t : Nat, (∀ (j : Nat) (o' : Oper), l[j]? = some o' → o'.dst ≠ some t) → ai.tmps.getD t undef = a0.tmps.getD t undef) ∧ (∀ (t j : Nat) (o' : Oper), j < i → l[j]? = some o' → o'.dst = some t → ai.tmps.getD t undef = aσ.tmps.getD t undef) := by
    intro S hSn i o ho h1 h2
    obtain ⟨vs, hst, hfin⟩ := stepsS_of _ _ (hw S hSn)
    have ho' : (l.map mute)[i]? = some o := by rw [List.getElem?_map, ho]; simp [mute, hQ i o ho h1 h2]
    obtain ⟨v, ai, k1, k2, k3, k4⟩ := stepsS_at _ _ _ _ _ hst ho'
    rw [hfin] at k2
    have hdrop : ∀ t : Nat, (∀ (j : Nat) (o' : Oper), i < j → l[j]? = some o' → o'.dst ≠ some t) → ∀ o' ∈ (l.map mute).drop (i + 1), o'.dst ≠ some t := by
      intro t ht o' hm' hd
      obtain ⟨k, hk, rfl⟩ := List.getElem_of_mem hm'
      have hk2 := List.getElem?_eq_getElem hk
      rw [List.getElem?_drop] at hk2
      exact ht _ _ (by omega) (mute_get hk2 hd) hd
    obtain ⟨hg, _, hd1, hd2, _⟩ := hL i o ho
    refine ⟨v, ai, k1, ?_, ?_, ?_⟩
    · intro d hd
      rw [k2, putsS_other d _ _ _ (hdrop d fun j o' hj hl hdd => hd2 j o' hl (by omega) d hdd hd), hd, put_here _ _ _ (by rw [k3]; exact hd1 d hd)]
    · intro t ht
      exact k4 t fun j o' _ hl hd => ht j o' (mute_get hl hd) hd
    · intro t j o' hj hl hd
      have hne : ∀ (j' : Nat) (o'' : Oper), l[j']? = some o'' → j' ≠ j → o''.dst ≠ some t := fun j' o'' hl' hne hd' => (hL j o' hl).2.2.2.1 j' o'' hl' hne t hd' hd
      rw [k2, putsS_other t _ _ _ (hdrop t fun j' o'' hj' hl' => hne j' o'' hl' (by omega)), put_other _ _ _ _ (hne i o ho (by omega))]
  have hsize : aσ.tmps.size = a0.tmps.size := by
    obtain ⟨vs, hst, hfin⟩ := stepsS_of _ _ (hw (fun _ => none) ⟨⟨y.w, y.h, fun _ _ h => by cases h⟩⟩)
    rw [← hfin, putsS_size]
  have hdef : aσ.defers = a0.defers := by
    obtain ⟨vs, hst, hfin⟩ := stepsS_of _ _ (hw (fun _ => none) ⟨⟨y.w, y.h, fun _ _ h => by cases h⟩⟩)
    rw [← hfin, putsS_defers]
  have hout : ∀ t : Nat, (∀ (i : Nat) (o : Oper), l[i]? = some o → i ≠ ia → o.dst ≠ some t) → aσ.tmps.getD t undef = a0.tmps.getD t undef := by
    obtain ⟨vs, hst, hfin⟩ := stepsS_of _ _ (hw (fun _ => none) ⟨⟨y.w, y.h, fun _ _ h => by cases h⟩⟩)
    intro t ht
    rw [← hfin, putsS_other]
    intro o' hm' hd
    obtain ⟨k, hk, rfl⟩ := List.getElem_of_mem hm'
    have hk2 := List.getElem?_eq_getElem hk
    by_cases hka : k = ia
    · subst hka
      rw [List.getElem?_map, hoa] at hk2
      simp only [Option.map_some, Option.some.injEq] at hk2
      rw [← hk2] at hd
      simp [mute, isQ, ha1] at hd
    · exact ht _ _ (mute_get hk2 hd) hka hd
  refine wp_region_inv hm hback (fun L a w => (∃ x : Ext B W, w = x.out) ∧ a.defers = a0.defers ∧ a.tmps.size = a0.tmps.size ∧
    (∀ t : Nat, (∀ (i : Nat) (o : Oper), l[i]? = some o → o.dst ≠ some t) → a.tmps.getD t undef = a0.tmps.getD t undef) ∧
    (∀ (i : Nat) (o : Oper) (d : Nat), l[i]? = some o → i ≠ ia → L i = true → o.dst = some d → a.tmps.getD d undef = aσ.tmps.getD d undef) ∧
    (L ia = true → ∃ p, B ≤ p ∧ a.tmps.getD sa undef = .pointer (some ⟨p, 0, none⟩) ∧ w.heap[p]? = some (.cells (if L is then cs else cs0) T (0, 0))) ∧ (L is = true → L ia = true)) ?_ ?_ ?_
  · intro L hL0
    have hia : ia < l.length := (List.getElem?_eq_some_iff.1 hoa).1
    have his : is < l.length := (List.getElem?_eq_some_iff.1 hos).1
    exact ⟨⟨⟨_, y.h.drew⟩, rfl⟩, rfl, rfl, fun _ _ => rfl, fun i o d ho _ hLi _ => (by rw [hL0 i (List.getElem?_eq_some_iff.1 ho).1] at hLi; cases hLi), fun hLi => (by rw [hL0 ia hia] at hLi; cases hLi), fun hLi => (by rw [hL0 is his] at hLi; cases hLi)⟩
  · intro L a w i o ho hLi hafter ⟨⟨x, hx⟩, i1, i2, i3, i4, i5, i6⟩
    have hB : B ≤ w.heap.size := by rw [hx]; exact Nat.le_trans hBW x.h.size
    have hxb : Below B W w := by rw [hx]; exact x.h
    clear hx
    obtain ⟨hg, hns, hd1, hd2, heyes⟩ := hL i o ho
    rw [if_pos (by simp [Region.wanted, hg])]
    have hsee' : ∀ t ∈ eyes o, t ≠ sa → a.tmps.getD t undef = aσ.tmps.getD t undef := by
      intro t ht hne
      by_cases hex : ∃ (j : Nat) (o' : Oper), l[j]? = some o' ∧ o'.dst = some t
      · obtain ⟨j, o', hj, hd⟩ := hex
        obtain ⟨hji, e, he, hb, rfl⟩ := heyes t ht j o' hj hd
        refine i4 _ o' t hj (fun e' => ?_) (hafter e he hb) hd
        rw [e', hoa] at hj
        simp only [Option.some.injEq] at hj
        rw [← hj, ha2] at hd
        exact hne (Option.some.inj hd).symm
      · have hno : ∀ (j : Nat) (o' : Oper), l[j]? = some o' → o'.dst ≠ some t := fun j o' hj hd => hex ⟨j, o', hj, hd⟩
        rw [i3 t hno, hout t fun j o' hj _ => hno j o' hj]
    have hne' : is ≠ ia := fun e => by rw [e, hoa] at hos; obtain rfl := Option.some.inj hos; rw [ha1] at hs1; cases hs1
    by_cases hia : i = ia
    · subst hia
      rw [hoa] at ho
      obtain rfl := Option.some.inj ho
      unfold Oper.wp execOp
      simp only [ha1, Sem.run_bind, hal, Result.andThen_ok, Sem.run_pure, Oper.upon_value]
      rw [ha2]
      have hLs : L is = false := by
        cases hc : L is with
        | false => rfl
        | true => rw [i6 hc] at hLi; cases hLi
      refine ⟨⟨⟨_, hxb.alloc hB _⟩, rfl⟩, (put_defers' _ _ _).trans i1, (put_size _ _ _).trans i2, fun t ht => ?_, fun j o' d hj hne hLj hd => ?_, fun _ => ⟨w.heap.size, hB, put_here _ _ _ (by rw [i2]; exact hd1 sa ha2), ?_⟩, fun _ => by simp [plus]⟩
      · rw [put_other _ _ _ _ (by rw [← ha2]; exact ht i oa hoa)]; exact i3 t ht
      · have hLj' : L j = true := by unfold plus at hLj; rwa [if_neg hne] at hLj
        rw [put_other _ _ _ _ (by rw [← ha2]; exact hd2 j o' hj hne d hd)]; exact i4 j o' d hj hne hLj' hd
      · have : plus L i is = false := by unfold plus; rw [if_neg hne', hLs]
        rw [this]; exact heap_alloc_new w _
    · by_cases his : i = is
      · subst his
        rw [hos] at ho
        obtain rfl := Option.some.inj ho
        have hsa : sa ∈ eyes os := by unfold eyes; rw [hs1]; simp [Op.operands]
        have hLa : L ia = true := by
          obtain ⟨_, e, he, hb, rfl⟩ := heyes sa hsa ia oa hoa ha2
          exact hafter e he hb
        obtain ⟨p, hp, hpt, hpb⟩ := i5 hLa
        rw [hLi] at hpb
        simp only [Bool.false_eq_true, if_false] at hpb
        have hye : a.eval yv = .agg cs := by
          rw [← hval]
          cases hyy : yv with
          | tmp t => exact hsee' t (by unfold eyes; rw [hs1]; simp [Op.operands, hyy]) (hyv t hyy)
          | _ => rfl
        refine wp_store_mid T (.tmp sa) yv hs1 p 0 cs hpt hye (there_block hpb 0 cs.size (by omega)) hi hone ?_
        obtain ⟨e1, e2, e3⟩ := setCells_heap p T cs.toList 0 w cs0 hpb
        rw [setAll_whole hsz] at e1
        rw [hs2]
        refine ⟨⟨⟨_, hxb.grown e2 hB (fun k hk => by cases hk; exact hp)⟩, rfl⟩, i1, i2, i3, fun j o' d hj hne hLj hd => ?_, fun _ => ⟨p, hp, hpt, ?_⟩, fun _ => ?_⟩
        · have hji : j ≠ i := fun e => by rw [e, hos] at hj; obtain rfl := Option.some.inj hj; rw [hs2] at hd; cases hd
          have hLj' : L j = true := by unfold plus at hLj; rwa [if_neg hji] at hLj
          exact i4 j o' d hj hne hLj' hd
        · have : plus L i i = true := by simp [plus]
          rw [this]; exact e1
        · unfold plus; rw [if_neg (Ne.symm hne')]; exact hLa
      · obtain ⟨S, hS, hSp⟩ : ∃ S : Nat → Option Obj, (∀ p o, S p = some o → w.heap[p]? = some o) ∧ (L ia = true → ∃ p, B ≤ p ∧ a.tmps.getD sa undef = .pointer (some ⟨p, 0, none⟩) ∧ S p = some (.cells (if L is then cs else cs0) T (0, 0))) := by
          cases hc : L ia with
          | false => exact ⟨fun _ => none, ⟨fun _ _ h => (by cases h), fun h => (by cases h)⟩⟩
          | true =>
            obtain ⟨p, hp, hpt, hpb⟩ := i5 hc
            refine ⟨fun k => if k = p then some (.cells (if L is then cs else cs0) T (0, 0)) else none, fun k o h => ?_, fun _ => ⟨p, hp, hpt, by simp⟩⟩
            by_cases hk : k = p
            · subst hk; simp only [if_true] at h; rw [hpb]; exact h
            · simp [hk] at h
        obtain ⟨v, ai, hY, hv, hno, hyes⟩ := key S ⟨⟨w, hxb, hS⟩⟩ i o ho hia his
        have he : execOp a.eval o = execOp ai.eval o := by
          refine execOp_congr o (fun c b hc => by rw [notSelect, hc] at hns; cases hns) (eval_eyes fun t ht => ?_)
          by_cases hex : ∃ (j : Nat) (o' : Oper), l[j]? = some o' ∧ o'.dst = some t
          · obtain ⟨j, o', hj, hd⟩ := hex
            obtain ⟨hji, _⟩ := heyes t ht j o' hj hd
            rw [hyes t j o' hji hj hd]
            exact hsee' t ht fun e => hE i o ho his (e ▸ ht)
          · have hn' : ∀ (j : Nat) (o' : Oper), l[j]? = some o' → o'.dst ≠ some t := fun j o' hj hd => hex ⟨j, o', hj, hd⟩
            rw [i3 t hn', hno t hn']
        have hY' := hY.of_same he (by simp [Region.wanted, hg])
        rcases hY' with ⟨_, hq⟩ | ⟨hw0, _⟩
        · refine Oper.wp_of_quiet (C := ClsS B W S) (K := fun a' => a' = a.put o.dst v) ⟨⟨w, hxb, hS⟩, rfl⟩ ?_ ⟨v, hq, rfl⟩
          rintro a' w' ⟨z, rfl⟩ rfl
          refine ⟨⟨⟨z.w, z.h⟩, rfl⟩, (put_defers' _ _ _).trans i1, (put_size _ _ _).trans i2, fun t ht => ?_, fun j o' d hj hne hLj hd => ?_, fun hLp => ?_, fun hLp => ?_⟩
          · rw [put_other _ _ _ _ (ht i o ho)]; exact i3 t ht
          · by_cases hji : j = i
            · subst hji
              rw [ho] at hj
              obtain rfl := Option.some.inj hj
              rw [hd, put_here _ _ _ (by rw [i2]; exact hd1 d hd)]
              exact hv d hd
            · have hLj' : L j = true := by unfold plus at hLj; rwa [if_neg hji] at hLj
              rw [put_other _ _ _ _ (hd2 j o' hj hji d hd)]; exact i4 j o' d hj hne hLj' hd
          · have hLp' : L ia = true := by unfold plus at hLp; rwa [if_neg (Ne.symm hia)] at hLp
            obtain ⟨p, hp, hpt, hpb⟩ := hSp hLp'
            refine ⟨p, hp, ?_, ?_⟩
            · rw [put_other _ _ _ _ (hd2 ia oa hoa (Ne.symm hia) sa ha2)]; exact hpt
            · have : plus L i is = L is := by unfold plus; rw [if_neg (Ne.symm his)]
              rw [this]; exact z.s p _ hpb
          · have hLp' : L is = true := by unfold plus at hLp; rwa [if_neg (Ne.symm his)] at hLp
            unfold plus; rw [if_neg (Ne.symm hia)]; exact i6 hLp'
        · simp [Region.wanted, hg] at hw0
  · intro L a w hall ⟨⟨x, hx⟩, i1, i2, i3, i4, i5, i6⟩
    have hia : ia < l.length := (List.getElem?_eq_some_iff.1 hoa).1
    have his : is < l.length := (List.getElem?_eq_some_iff.1 hos).1
    obtain ⟨p, hp, hpt, hpb⟩ := i5 (hall ia hia)
    rw [hall is his] at hpb
    simp only [if_true] at hpb
    have ha : a = aσ.put (some sa) (.pointer (some ⟨p, 0, none⟩)) := by
      have ht : a.tmps = (aσ.put (some sa) (.pointer (some ⟨p, 0, none⟩))).tmps := by
        have hgd : ∀ k, a.tmps.getD k undef = (aσ.put (some sa) (.pointer (some ⟨p, 0, none⟩))).tmps.getD k undef := by
          intro k
          by_cases hk : k = sa
          · subst hk
            rw [put_here _ _ _ (by rw [hsize]; exact (hL ia oa hoa).2.2.1 k ha2)]; exact hpt
          · rw [put_other _ _ _ _ (fun e => hk (Option.some.inj e).symm)]
            by_cases hex : ∃ (j : Nat) (o' : Oper), l[j]? = some o' ∧ o'.dst = some k
            · obtain ⟨j, o', hj, hd⟩ := hex
              refine i4 j o' k hj (fun e => ?_) (hall j (List.getElem?_eq_some_iff.1 hj).1) hd
              rw [e, hoa] at hj
              obtain rfl := Option.some.inj hj
              rw [ha2] at hd
              exact hk (Option.some.inj hd).symm
            · have hn' : ∀ (j : Nat) (o' : Oper), l[j]? = some o' → o'.dst ≠ some k := fun j o' hj hd => hex ⟨j, o', hj, hd⟩
              rw [i3 k hn', hout k fun j o' hj _ => hn' j o' hj]
        apply Array.ext
        · rw [put_size, i2, hsize]
        · intro k hk1 hk2
          have := hgd k
          rwa [Array.getD_eq_getD_getElem?, Array.getD_eq_getD_getElem?, Array.getElem?_eq_getElem hk1, Array.getElem?_eq_getElem hk2] at this
      have hd : a.defers = (aσ.put (some sa) (.pointer (some ⟨p, 0, none⟩))).defers := by rw [put_defers', hdef, i1]
      cases a
      cases hp2 : aσ.put (some sa) (.pointer (some ⟨p, 0, none⟩))
      rw [hp2] at ht hd
      dsimp only at ht hd
      subst ht hd
      rfl
    rw [ha, hx]
    exact h x p hp (hx ▸ hpb)
def tmpOf : Operand → Option Nat
  | .tmp t => some t
  | _ => none
theorem wp_region_law0 {P : Program} {id : Nat} {Q : Exit → Act → World → Prop} {a0 : Act} {W : World} {l : List Oper} (B : Nat) (aσ : Act) (ia is sa : Nat) (oa os : Oper) (T : TypeId) (yv : Operand) (cs0 cs : Array Value)
    (hm : P.follows .mixedOrders = true) (hback : backB l = true) (hn : lawB l a0.tmps.size = true)
    (hoa : l[ia]? = some oa) (hos : l[is]? = some os) (ha1 : oa.op = .alloc T) (ha2 : oa.dst = some sa) (hs1 : os.op = .store T (.tmp sa) yv) (hs2 : os.dst = none)
    (honly : (l.zipIdx.all fun x => isQ x.1 || (x.2 == ia) || (x.2 == is)) = true) (hsee : (l.zipIdx.all fun x => (x.2 == is) || !(eyes x.1).contains sa) = true)
    (hyv : (tmpOf yv == some sa) = false)
    (hal : ∀ w, (Instr.alloc T true (.tuple #[])).run P w = .ok (.pointer (some ⟨w.heap.size, 0, none⟩)) (w.alloc (.cells cs0 T)))
    (hi : (P.info? T).map (·.size) = some cs.size) (hone : cs.all (·.oneCell') = true) (hsz : cs0.size = cs.size) (hBW : B ≤ W.heap.size)
    (hw : ∀ S, Nonempty (ExtS B W S) → wpQuiet P l.toArray (fun w' => ∃ x : ExtS B W S, w' = x.out) (fun a' => a' = aσ) (l.map mute) a0)
    (hval : aσ.eval yv = .agg cs)
    (h : ∀ (x : Ext B W) (p : Nat), B ≤ p → x.out.heap[p]? = some (.cells cs T (0, 0)) → Q .normal (aσ.put (some sa) (.pointer (some ⟨p, 0, none⟩))) x.out) :
    (Code.region id l.toArray true).wp P Q a0 W :=
  wp_region_law (y := ⟨W, Below.refl _ _⟩) aσ ia is sa oa os T yv cs0 cs hm hback hn hoa hos ha1 ha2 hs1 hs2 honly hsee (fun t ht e => by subst ht; subst e; simp [tmpOf] at hyv) hal hval hi hone hsz hBW hw h
theorem execOp_buildRoof {o : Oper} {a : Act} {w : World} {x y z : Operand} {p q s : Int} (ho : o.op = .build 31 #[(0, x), (1, y), (2, z)]) (hx : a.eval x = .int .i8 p) (hy : a.eval y = .int .i8 q) (hz : a.eval z = .int .u8 s) :
    (execOp a.eval o).run Try.prog w = .ok (.value (.agg (rcells ⟨p, q, s, List.replicate 64 0⟩))) w := by
  unfold execOp
  simp only [ho, Sem.run_bind, List.map_toArray, List.map_cons, List.map_nil, hx, hy, hz, run_build_roof]
  rfl
theorem Try.allocRoof (w : World) : (Instr.alloc 31 true (.tuple #[])).run Try.prog w = .ok (.pointer (some ⟨w.heap.size, 0, none⟩)) (w.alloc (.cells (rcells Rf.zero) 31)) := by kernel_rfl
end Go.Proofs.Ytfbgldkdlmipoaa

/- Slices of numbers that a call has made: compared, marked, held against their marks. -/
namespace Go.Proofs.Ytfbgldkdlmipoaa
open Go.RowKit
set_option linter.unusedSimpArgs false
set_option linter.unusedVariables false

/-- The cells of numbers. -/
def icells (l : List Int) : List Value := l.map (Value.int .i64)
/-- A slice's elements, numbers, lie at A. -/
def SlI (w : World) (A : Option Addr) (l : List Int) : Prop := ∀ j n, l[j]? = some n → ∃ b off, A = some ⟨b, off, none⟩ ∧ b < w.heap.size ∧ w.cell? ⟨b, off + j, none⟩ = some (.int .i64 n)
theorem SlI.below {B : Nat} {w w' : World} {A : Option Addr} {l : List Int} (h : SlI w A l) (hb : Below B w w') (hB : w.heap.size ≤ B) : SlI w' A l := fun j n hj => by
  obtain ⟨b, off, e, h1, h2⟩ := h j n hj
  exact ⟨b, off, e, Nat.lt_of_lt_of_le h1 hb.size, (hb.cell (p := ⟨b, _, none⟩) (by show b < B; omega)).trans h2⟩
/-- The slice v holds the numbers l; its array, if l is not empty, lies in a block from lo on, below hi, that starts with them. -/
def OwI (lo hi : Nat) (w : World) (v : Value) (l : List Int) : Prop :=
  ∃ A c, v = .slice A l.length c ∧ (l ≠ [] → ∃ (b : Nat) (cs : Array Value), A = some ⟨b, 0, none⟩ ∧ lo ≤ b ∧ b < hi ∧ w.heap[b]? = some (.cells cs 2 (0, 0)) ∧ l.length ≤ cs.size ∧ ∀ (j : Nat) (n : Int), l[j]? = some n → cs[j]? = some (.int .i64 n))
theorem OwI.below {lo hi B : Nat} {w w' : World} {v : Value} {l : List Int} (h : OwI lo hi w v l) (hb : Below B w w') (hB : hi ≤ B) : OwI lo hi w' v l := by
  obtain ⟨A, c, rfl, h⟩ := h
  refine ⟨A, c, rfl, fun hl => ?_⟩
  obtain ⟨b, cs, h1, h2, h3, h4, h5⟩ := h hl
  exact ⟨b, cs, h1, h2, h3, block_below hb h4 (by omega), h5⟩
theorem OwI.cells {lo hi : Nat} {w : World} {v : Value} {l : List Int} (h : OwI lo hi w v l) {j : Nat} {n : Int} (hj : l[j]? = some n) :
    ∃ b c, v = .slice (some ⟨b, 0, none⟩) l.length c ∧ lo ≤ b ∧ b < hi ∧ b < w.heap.size ∧ w.cell? ⟨b, j, none⟩ = some (.int .i64 n) ∧ w.frozen? ⟨b, j, none⟩ = false := by
  obtain ⟨A, c, rfl, h⟩ := h
  obtain ⟨b, cs, rfl, h2, h3, h4, h5, h6⟩ := h (by rintro rfl; simp at hj)
  exact ⟨b, c, rfl, h2, h3, block_lt h4, cell_block h4 (h6 j n hj), frozen_of_row _ _ _ _ _ h4⟩
/-- One number of such a slice, replaced. -/
theorem OwI.put {lo hi : Nat} {w : World} {b c : Nat} {l : List Int} (h : OwI lo hi w (.slice (some ⟨b, 0, none⟩) l.length c) l) {k : Nat} (hk : k < l.length) (x : Int) :
    OwI lo hi (w.setCell ⟨b, k, none⟩ (.int .i64 x)) (.slice (some ⟨b, 0, none⟩) l.length c) (l.set k x) := by
  obtain ⟨A, c', e, h⟩ := h
  have hne : l ≠ [] := by rintro rfl; simp at hk
  obtain ⟨b', cs, rfl, h2, h3, h4, h5, h6⟩ := h hne
  have e1 := (Value.slice.inj e).1
  obtain rfl : b = b' := by simpa using e1
  have g1 := heap_setCell_same w b k cs _ (.int .i64 x) h4
  refine ⟨_, c, by simp, fun _ => ⟨b, _, rfl, h2, h3, g1, by simp; omega, fun j n hj => ?_⟩⟩
  rw [List.getElem?_set] at hj
  by_cases hjk : k = j
  · subst hjk
    rw [if_pos rfl, if_pos hk] at hj
    obtain rfl := Option.some.inj hj
    rw [Array.getElem?_setIfInBounds, if_pos rfl, if_pos (by omega)]
  · rw [if_neg hjk] at hj
    rw [Array.getElem?_setIfInBounds_ne hjk]
    exact h6 j n hj
/-- The numbers l, those below k marked from m on. -/
def mkI (l : List Int) (m : Int) (k : Nat) : List Int := (List.range l.length).map fun j => if j < k then m + j else l.getD j 0
theorem mkI_len (l : List Int) (m : Int) (k : Nat) : (mkI l m k).length = l.length := by simp [mkI]
theorem mkI_get (l : List Int) (m : Int) (k j : Nat) : (mkI l m k)[j]? = if j < l.length then some (if j < k then m + j else l.getD j 0) else none := by
  unfold mkI
  rw [List.getElem?_map]
  by_cases hj : j < l.length
  · rw [List.getElem?_range hj, if_pos hj]; rfl
  · rw [List.getElem?_eq_none (by simp; omega), if_neg hj]; rfl
theorem mkI_zero (l : List Int) (m : Int) : mkI l m 0 = l := by
  apply List.ext_getElem?
  intro j
  rw [mkI_get]
  by_cases hj : j < l.length
  · rw [if_pos hj, if_neg (by omega), List.getD_eq_getElem?_getD, List.getElem?_eq_getElem hj]; rfl
  · rw [if_neg hj, List.getElem?_eq_none (by omega)]
theorem mkI_step (l : List Int) (m : Int) (k : Nat) (hk : k < l.length) : (mkI l m k).set k (m + k) = mkI l m (k + 1) := by
  apply List.ext_getElem?
  intro j
  rw [List.getElem?_set, mkI_get, mkI_get, mkI_len]
  by_cases hj : j < l.length
  · rw [if_pos hj, if_pos hj]
    by_cases hjk : k = j
    · subst hjk; rw [if_pos rfl, if_pos hk, if_pos (by omega)]
    · rw [if_neg hjk]
      by_cases h2 : j < k
      · rw [if_pos h2, if_pos (by omega)]
      · rw [if_neg h2, if_neg (by omega)]
  · rw [if_neg hj, if_neg hj]
    by_cases hjk : k = j
    · omega
    · rw [if_neg hjk]
theorem OwI.of_owns {w : World} {base : Nat} {v : Value} {l : List Int} (h : w.ownsRow base 2 1 v l.length (icells l)) : OwI base w.heap.size w v l := by
  rcases h.2 with ⟨rfl, hn⟩ | ⟨g, cap, cur, rfl, hb, hg, hc, hm, hs, ht⟩
  · exact ⟨none, 0, by rw [hn], fun hl => absurd (List.eq_nil_of_length_eq_zero hn) hl⟩
  · refine ⟨_, cap, rfl, fun _ => ⟨g, cur, rfl, hb, block_lt hg, hg, by rw [hs]; omega, fun j n hj => ?_⟩⟩
    have hjl := (List.getElem?_eq_some_iff.1 hj).1
    have hp : (icells l)[j]? = some (.int .i64 n) := by unfold icells; rw [List.getElem?_map, hj]; rfl
    rw [← ht, List.getElem?_take, if_pos (by omega)] at hp
    simpa using hp
theorem owns_slice' {w : World} {base : Nat} {T : TypeId} {s n : Nat} {v : Value} {xs : List Value} (h : w.ownsRow base T s v n xs) : ∃ A c, v = .slice A n c := by
  rcases h.2 with ⟨rfl, rfl⟩ | ⟨g, cap, cur, rfl, _⟩
  · exact ⟨none, 0, rfl⟩
  · exact ⟨_, _, rfl⟩
/-- A result of two: a slice of numbers and a code. -/
def RetI (w : World) (l : List Int) (k : Int) (e : Ending) (w' : World) : Prop := ∃ v, e = .returned (.tuple #[v, .int .i64 k]) ∧ Below w.heap.size w w' ∧ w'.ownsRow w.heap.size 2 1 v l.length (icells l)
/-- A slice of numbers whose array lies in the blocks lo .. hi, all of them laid. -/
def OwJ (lo hi : Nat) (w : World) (v : Value) (l : List Int) : Prop := OwI lo hi w v l ∧ lo ≤ hi ∧ hi ≤ w.heap.size
theorem OwJ.below {lo hi : Nat} {w w' : World} {v : Value} {l : List Int} (h : OwJ lo hi w v l) (hb : Below w.heap.size w w') : OwJ lo hi w' v l := ⟨h.1.below hb h.2.2, h.2.1, Nat.le_trans h.2.2 hb.size⟩
theorem OwJ.below' {lo hi B : Nat} {w w' : World} {v : Value} {l : List Int} (h : OwJ lo hi w v l) (hb : Below B w w') (hB : hi ≤ B) (hs : w.heap.size ≤ w'.heap.size) : OwJ lo hi w' v l := ⟨h.1.below hb hB, h.2.1, Nat.le_trans h.2.2 hs⟩
theorem OwJ.of {w w' : World} {v : Value} {l : List Int} (h : w'.ownsRow w.heap.size 2 1 v l.length (icells l)) (hb : Below w.heap.size w w') : OwJ w.heap.size w'.heap.size w' v l := ⟨OwI.of_owns h, hb.size, Nat.le_refl _⟩
/-- What a call out of a world above W has left: a slice of numbers and a code. -/
def WildI (B : Nat) (W : World) (l : List Int) (k : Int) (u : Value) (w' : World) : Prop := ∃ (x : Ext B W) (A : Option Addr) (c : Nat), u = .tuple #[.slice A l.length c, .int .i64 k] ∧ Below x.out.heap.size x.out w' ∧ OwJ x.out.heap.size w'.heap.size w' (.slice A l.length c) l
theorem WildI.of {B : Nat} {W : World} {x : Ext B W} {P : Program} {f : FuncId} {args : Array Value} {l : List Int} {k : Int} (h : Calls P f args x.out (RetI x.out l k)) : Calls P f args x.out fun e w' => ∃ u, e = .returned u ∧ WildI B W l k u w' :=
  h.mono fun e w' ⟨v, he, hb, ho⟩ => by
    obtain ⟨A, c, rfl⟩ := owns_slice' ho
    exact ⟨_, he, x, A, c, rfl, hb, OwJ.of ho hb⟩
theorem Try.infoI64 : (Try.prog.info? 2).map (fun i => (i.zero, i.size, i.bytes)) = some (some (.int .i64 0), 1, 8) := by kernel_rfl
end Go.Proofs.Ytfbgldkdlmipoaa

/- Rows that a call owns, several side by side: appended to, stored into. -/
namespace Go.Proofs.Ytfbgldkdlmipoaa
open Go.RowKit
set_option linter.unusedSimpArgs false
set_option linter.unusedVariables false

/-- Two slices do not share their array. -/
def Apart (v v' : Value) : Prop := ∀ g, v.ownBlock = some g → v'.ownBlock = some g → False
theorem Apart.symm {v v' : Value} (h : Apart v v') : Apart v' v := fun g h1 h2 => h g h2 h1
theorem Apart.nil (v : Value) (n c : Nat) : Apart (.slice none n c) v := fun g h => by simp [Value.ownBlock] at h
theorem Apart.nil' (v : Value) (n c : Nat) : Apart v (.slice none n c) := (Apart.nil v n c).symm
/-- From W to w': nothing is turned but the array of v; v' has it, or an array of its own. -/
structure Grew (v v' : Value) (W w' : World) : Prop where
  below : ∀ B0, (∀ g, v.ownBlock = some g → B0 ≤ g) → B0 ≤ W.heap.size → Below B0 W w'
  block : ∀ b o, W.heap[b]? = some o → v.ownBlock ≠ some b → w'.heap[b]? = some o
  own : ∀ g, v'.ownBlock = some g → v.ownBlock = some g ∨ W.heap.size ≤ g
  size : W.heap.size ≤ w'.heap.size
theorem Grew.row {v v' u : Value} {W w' : World} (h : Grew v v' W w') {B : Nat} {e : TypeId} {sz n : Nat} {xs : List Value} (hu : W.ownsRow B e sz u n xs) (ha : Apart u v) : w'.ownsRow B e sz u n xs := by
  refine ⟨hu.1, ?_⟩
  rcases hu.2 with hn | ⟨g, cap, cur, rfl, hb, hg, rest⟩
  · exact .inl hn
  · exact .inr ⟨g, cap, cur, rfl, hb, h.block g _ hg (fun e => ha g rfl e), rest⟩
theorem Grew.apart {v v' u : Value} {W w' : World} (h : Grew v v' W w') {B : Nat} {e : TypeId} {sz n : Nat} {xs : List Value} (hu : W.ownsRow B e sz u n xs) (ha : Apart u v) : Apart u v' := fun g h1 h2 => by
  rcases h.own g h2 with h3 | h3
  · exact ha g h1 h3
  · have := (hu.lt g h1).2; omega
theorem owns_slc {w : World} {base : Nat} {T : TypeId} {s n : Nat} {v : Value} {xs : List Value} (h : w.ownsRow base T s v n xs) : ∃ A c, v = .slice A n c := by
  rcases h.2 with ⟨rfl, rfl⟩ | ⟨g, cap, cur, rfl, _⟩
  · exact ⟨none, 0, rfl⟩
  · exact ⟨_, _, rfl⟩
/-- One element more, which lies in a block of its own that was just laid. -/
theorem wpList_append_row {P : Program} {ops : Array Oper} {rest : List Oper} {o : Oper} {a : Act} {W : World} {Q : Exit → Act → World → Prop} (hgd : o.guard = none) (s x : Operand) (t : TypeId)
    (ho : o.op = .call { callee := .builtin .append, args := #[s, x], argTypes := #[t, t] })
    (B : Nat) (e : TypeId) (i : TypeInfo) (z : Value) (size bytes : Nat) (ht : P.underlying t = some (.slice e)) (hi : P.info? e = some i) (hz : i.zero = some z)
    (hsize : i.size = size) (hby : i.bytes = bytes) (hzs : z.cells.size = size) (hsz : 0 < size) (hby2 : bytes ≤ 100)
    (v : Value) (n : Nat) (xs : List Value) (hs : a.eval s = v) (hown : W.ownsRow B e size v n xs) (news : Array Value) (hns : news.size = size) (h1 : ∀ u ∈ news, u.oneCell' = true)
    (H : Nat) (hx : a.eval x = .slice (some ⟨H, 0, none⟩) 1 1) (hn : n ≤ 1100000) (hB : B ≤ W.heap.size) (hH : W.heap.size = H) (E : TypeId)
    (h : ∀ v' w', w'.ownsRow B e size v' (n + 1) (xs ++ news.toList) → Grew v v' W w' → wpList P ops Q rest (a.put o.dst v') w') : wpList P ops Q (o :: rest) a (W.alloc (.cells news E)) := by
  subst hH
  refine wpList_append_lies _ hgd s x t ho B e i z size bytes ht hi hz hsize hby hzs hsz v n xs hs (hown.alloc _) ⟨W.heap.size, 0, none⟩ 1 1 news.toList hx (by simp [hns]) ?_ (fun u hu => h1 u (by simpa using hu)) (by decide) (Nat.le_trans (Nat.add_le_add_right hn 1) (by decide))
    (Nat.le_trans (Nat.mul_le_mul (Nat.add_le_add_right hn 1) hby2) (by decide)) (Nat.le_trans hB (by simp)) (W.heap.size + 1) (by simp) ?_
  · exact World.news_of_block (block_new1 W _ rfl)
  · intro g cap w' h2 h3 h4 h5
    refine h _ _ h2 ⟨?_, ?_, ?_, ?_⟩
    · intro B0 hB0 hB1
      exact ((Below.refl B0 W).alloc hB1 _).grown h3 (by simp; omega) hB0
    · intro b o hb hne
      have hlt : b < (W.alloc (.cells news E)).heap.size := by have := block_lt hb; simp; omega
      exact (h3.block b hlt (fun e => hne e.symm)).trans (block_alloc hb _)
    · intro g' hg'
      simp [Value.ownBlock] at hg'
      subst hg'
      rcases h4 with h4 | h4
      · exact .inl h4
      · right; omega
    · have := h3.size; simp at this; omega
theorem Grew.of_drew {v v' : Value} {W w' : World} (h : Grew v v' W.drew w') : Grew v v' W w' :=
  ⟨fun B0 h1 h2 => ((Below.refl B0 W).drew).trans (h.below B0 h1 h2), fun b o hb hne => h.block b o hb hne, h.own, h.size⟩
/-- The same behind a draw. -/
theorem wpList_append_rowD {P : Program} {ops : Array Oper} {rest : List Oper} {o : Oper} {a : Act} {W : World} {Q : Exit → Act → World → Prop} (hgd : o.guard = none) (s x : Operand) (t : TypeId)
    (ho : o.op = .call { callee := .builtin .append, args := #[s, x], argTypes := #[t, t] })
    (B : Nat) (e : TypeId) (i : TypeInfo) (z : Value) (size bytes : Nat) (ht : P.underlying t = some (.slice e)) (hi : P.info? e = some i) (hz : i.zero = some z)
    (hsize : i.size = size) (hby : i.bytes = bytes) (hzs : z.cells.size = size) (hsz : 0 < size) (hby2 : bytes ≤ 100)
    (v : Value) (n : Nat) (xs : List Value) (hs : a.eval s = v) (hown : W.ownsRow B e size v n xs) (news : Array Value) (hns : news.size = size) (h1 : ∀ u ∈ news, u.oneCell' = true)
    (H : Nat) (hx : a.eval x = .slice (some ⟨H, 0, none⟩) 1 1) (hn : n ≤ 1100000) (hB : B ≤ W.heap.size) (hH : W.heap.size = H) (E : TypeId)
    (h : ∀ v' w', w'.ownsRow B e size v' (n + 1) (xs ++ news.toList) → Grew v v' W w' → wpList P ops Q rest (a.put o.dst v') w') : wpList P ops Q (o :: rest) a (W.alloc (.cells news E)).drew :=
  wpList_append_row (W := W.drew) hgd s x t ho B e i z size bytes ht hi hz hsize hby hzs hsz hby2 v n xs hs hown news hns h1 H hx hn hB hH E fun v' w' g1 g2 => h v' w' g1 g2.of_drew
/-- One cell of such a row, replaced. -/
theorem owns_set {W : World} {B : Nat} {e : TypeId} {sz n : Nat} {v : Value} {xs : List Value} (h : W.ownsRow B e sz v n xs) {g : Nat} (hg : v.ownBlock = some g) (j : Nat) (hj : j < n * sz) (x : Value) :
    (W.setCell ⟨g, j, none⟩ x).ownsRow B e sz v n (xs.set j x) := by
  refine ⟨by simp [h.1], ?_⟩
  rcases h.2 with ⟨rfl, hn⟩ | ⟨g', cap, cur, rfl, hb, hgg, hc, hm, hs, ht⟩
  · simp [Value.ownBlock] at hg
  · simp [Value.ownBlock] at hg
    subst hg
    refine .inr ⟨g', cap, _, rfl, hb, heap_setCell_same W g' j cur e x hgg, hc, hm, by simp [hs], ?_⟩
    rw [← ht]
    simp [List.take_set]
theorem owns_set_other {W : World} {B : Nat} {e : TypeId} {sz n : Nat} {v : Value} {xs : List Value} (h : W.ownsRow B e sz v n xs) {g : Nat} (hg : v.ownBlock ≠ some g) (j : Nat) (x : Value) :
    (W.setCell ⟨g, j, none⟩ x).ownsRow B e sz v n xs := by
  refine ⟨h.1, ?_⟩
  rcases h.2 with hn | ⟨g', cap, cur, rfl, hb, hgg, rest⟩
  · exact .inl hn
  · exact .inr ⟨g', cap, cur, rfl, hb, block_set_other hgg (a := ⟨g, j, none⟩) x (by rintro rfl; exact hg rfl), rest⟩
theorem owns_below2 {w w' : World} {base B : Nat} {e : TypeId} {size : Nat} {v : Value} {n : Nat} {xs : List Value} (h : w.ownsRow base e size v n xs) (hb : Below B w w') (hB : w.heap.size ≤ B) : w'.ownsRow base e size v n xs := by
  refine ⟨h.1, ?_⟩
  rcases h.2 with hn | ⟨g, cap, cur, rfl, hb0, hg, rest⟩
  · exact .inl hn
  · exact .inr ⟨g, cap, cur, rfl, hb0, block_below hb hg (Nat.lt_of_lt_of_le (block_lt hg) hB), rest⟩
/-- A cell of such a row. -/
theorem owns_cell {W : World} {B : Nat} {e : TypeId} {sz n : Nat} {v : Value} {xs : List Value} (h : W.ownsRow B e sz v n xs) {j : Nat} {x : Value} (hx : xs[j]? = some x) :
    ∃ g c, v = .slice (some ⟨g, 0, none⟩) n c ∧ B ≤ g ∧ g < W.heap.size ∧ W.cell? ⟨g, j, none⟩ = some x ∧ W.frozen? ⟨g, j, none⟩ = false := by
  have hl := (List.getElem?_eq_some_iff.1 hx).1
  rw [h.1] at hl
  rcases h.2 with ⟨rfl, hn⟩ | ⟨g, cap, cur, rfl, hb, hgg, hc, hm, hs, ht⟩
  · subst hn; simp at hl
  · refine ⟨g, cap, rfl, hb, block_lt hgg, cell_block hgg ?_, frozen_of_row _ _ _ _ _ hgg⟩
    rw [← ht, List.getElem?_take, if_pos hl] at hx
    simpa using hx
end Go.Proofs.Ytfbgldkdlmipoaa

/- Rows of numbers that a call owns. -/
namespace Go.Proofs.Ytfbgldkdlmipoaa
open Go.RowKit
set_option linter.unusedSimpArgs false
set_option linter.unusedVariables false

/-- The slice v owns the numbers l, in a block from B on. -/
def RowI (B : Nat) (w : World) (v : Value) (l : List Int) : Prop := w.ownsRow B 2 1 v l.length (icells l)
theorem icells_get {l : List Int} {j : Nat} {n : Int} (h : l[j]? = some n) : (icells l)[j]? = some (.int .i64 n) := by unfold icells; rw [List.getElem?_map, h]; rfl
theorem icells_set (l : List Int) (j : Nat) (n : Int) : (icells l).set j (.int .i64 n) = icells (l.set j n) := by unfold icells; rw [List.map_set]
theorem icells_snoc (l : List Int) (n : Int) : icells (l ++ [n]) = icells l ++ [.int .i64 n] := by simp [icells]
theorem RowI.nil (B : Nat) (w : World) : RowI B w (.slice none 0 0) [] := World.ownsRow_nil w B 2 1
theorem RowI.made {B : Nat} {w : World} (hB : B ≤ w.heap.size) : RowI B (w.alloc (.cells #[] 2)) (.slice (some ⟨w.heap.size, 0, none⟩) 0 0) [] := World.ownsRow_made w #[] 0 hB (by decide) rfl
theorem RowI.slc {B : Nat} {w : World} {v : Value} {l : List Int} (h : RowI B w v l) : ∃ A c, v = .slice A l.length c := owns_slc h
theorem RowI.sli {B : Nat} {w : World} {A : Option Addr} {n c : Nat} {l : List Int} (h : RowI B w (.slice A n c) l) : SlI w A l := fun j p hj => by
  obtain ⟨g, c', e, _, h1, h2, _⟩ := owns_cell h (icells_get hj)
  obtain ⟨rfl, _, _⟩ : A = some ⟨g, 0, none⟩ ∧ n = l.length ∧ c = c' := by simpa using e
  exact ⟨g, 0, rfl, h1, by rw [Nat.zero_add]; exact h2⟩
theorem RowI.cell {B : Nat} {w : World} {v : Value} {l : List Int} (h : RowI B w v l) {j : Nat} {n : Int} (hj : l[j]? = some n) :
    ∃ g c, v = .slice (some ⟨g, 0, none⟩) l.length c ∧ B ≤ g ∧ g < w.heap.size ∧ w.cell? ⟨g, j, none⟩ = some (.int .i64 n) ∧ w.frozen? ⟨g, j, none⟩ = false := owns_cell h (icells_get hj)
theorem RowI.set {B : Nat} {w : World} {g n c : Nat} {l : List Int} (h : RowI B w (.slice (some ⟨g, 0, none⟩) n c) l) {j : Nat} (hj : j < l.length) (x : Int) : RowI B (w.setCell ⟨g, j, none⟩ (.int .i64 x)) (.slice (some ⟨g, 0, none⟩) n c) (l.set j x) := by
  have := owns_set h (g := g) rfl j (by omega) (.int .i64 x)
  rw [icells_set] at this
  unfold RowI
  rw [List.length_set]
  exact this
theorem RowI.setO {B : Nat} {w : World} {v : Value} {l : List Int} (h : RowI B w v l) {g : Nat} (hg : v.ownBlock ≠ some g) (j : Nat) (x : Value) : RowI B (w.setCell ⟨g, j, none⟩ x) v l := owns_set_other h hg j x
theorem RowI.below {B B' : Nat} {w w' : World} {v : Value} {l : List Int} (h : RowI B w v l) (hb : Below B' w w') (hB : w.heap.size ≤ B') : RowI B w' v l := owns_below2 h hb hB
theorem RowI.alloc {B : Nat} {w : World} {v : Value} {l : List Int} (h : RowI B w v l) (o : Obj) : RowI B (w.alloc o) v l := World.ownsRow.alloc h o
theorem RowI.mono {B B' : Nat} {w : World} {v : Value} {l : List Int} (h : RowI B w v l) (hB : B' ≤ B) : RowI B' w v l := World.ownsRow.mono h hB
theorem RowI.lt {B : Nat} {w : World} {v : Value} {l : List Int} (h : RowI B w v l) : ∀ g, v.ownBlock = some g → B ≤ g ∧ g < w.heap.size := World.ownsRow.lt h
theorem RowI.grew {B : Nat} {w w' : World} {u v v' : Value} {l : List Int} (h : RowI B w u l) (hg : Grew v v' w w') (ha : Apart u v) : RowI B w' u l := hg.row h ha
theorem RowI.grewA {B : Nat} {w w' : World} {u v v' : Value} {l : List Int} (h : RowI B w u l) (hg : Grew v v' w w') (ha : Apart u v) : Apart u v' := hg.apart h ha
theorem RowI.belowG {B : Nat} {w w' : World} {v v' : Value} {l : List Int} (h : RowI B w v l) (hg : Grew v v' w w') (hB : B ≤ w.heap.size) : Below B w w' := hg.below B (fun g hg => (h.lt g hg).1) hB
/-- One number more. -/
theorem wp_appI {ops : Array Oper} {rest : List Oper} {o : Oper} {a : Act} {W : World} {Q : Exit → Act → World → Prop} (hgd : o.guard = none) (s x : Operand)
    (ho : o.op = .call { callee := .builtin .append, args := #[s, x], argTypes := #[73, 73] })
    (B : Nat) (v : Value) (l : List Int) (n : Int) (hO : RowI B W v l) (hs : a.eval s = v) (H : Nat) (hx : a.eval x = .slice (some ⟨H, 0, none⟩) 1 1) (hn : l.length ≤ 1100000) (hB : B ≤ W.heap.size) (hH : W.heap.size = H)
    (h : ∀ v' w', RowI B w' v' (l ++ [n]) → Grew v v' W w' → wpList Try.prog ops Q rest (a.put o.dst v') w') : wpList Try.prog ops Q (o :: rest) a (W.alloc (.cells #[.int .i64 n] 2)) := by
  obtain ⟨i0, hi, hz0, hz1, hz2⟩ := info_parts Try.infoI64
  refine wpList_append_row hgd s x 73 ho B 2 i0 (.int .i64 0) 1 8 Try.underlying73 hi hz0 hz1 hz2 rfl (by decide) (by decide) v l.length (icells l) hs hO #[.int .i64 n] rfl (by simp [Value.oneCell']) H hx hn hB hH _ ?_
  intro v' w' h1 h2
  refine h v' w' ?_ h2
  unfold RowI
  rw [icells_snoc, List.length_append]
  exact h1
/-- One number more, behind a draw. -/
theorem wp_appID {ops : Array Oper} {rest : List Oper} {o : Oper} {a : Act} {W : World} {Q : Exit → Act → World → Prop} (hgd : o.guard = none) (s x : Operand)
    (ho : o.op = .call { callee := .builtin .append, args := #[s, x], argTypes := #[73, 73] })
    (B : Nat) (v : Value) (l : List Int) (n : Int) (hO : RowI B W v l) (hs : a.eval s = v) (H : Nat) (hx : a.eval x = .slice (some ⟨H, 0, none⟩) 1 1) (hn : l.length ≤ 1100000) (hB : B ≤ W.heap.size) (hH : W.heap.size = H)
    (h : ∀ v' w', RowI B w' v' (l ++ [n]) → Grew v v' W w' → wpList Try.prog ops Q rest (a.put o.dst v') w') : wpList Try.prog ops Q (o :: rest) a (W.alloc (.cells #[.int .i64 n] 2)).drew := by
  obtain ⟨i0, hi, hz0, hz1, hz2⟩ := info_parts Try.infoI64
  refine wpList_append_rowD hgd s x 73 ho B 2 i0 (.int .i64 0) 1 8 Try.underlying73 hi hz0 hz1 hz2 rfl (by decide) (by decide) v l.length (icells l) hs hO #[.int .i64 n] rfl (by simp [Value.oneCell']) H hx hn hB hH _ ?_
  intro v' w' h1 h2
  refine h v' w' ?_ h2
  unfold RowI
  rw [icells_snoc, List.length_append]
  exact h1
end Go.Proofs.Ytfbgldkdlmipoaa

/- Climbs in chunks: slices.Max, slices.Chunk, climbs. -/
namespace Go.Proofs.Ytfbgldkdlmipoaa
open Go.RowKit Go.Shelf
set_option linter.unusedSimpArgs false
set_option linter.unusedVariables false

attribute [local go_sem] Oper.semAt_some
set_option maxRecDepth 100000 in
theorem c_max (A : Option Addr) (c : Nat) (l : List Int) (h0 : 0 < l.length) (hlen : l.length ≤ 1048576) (hB : ∀ x ∈ l, 0 ≤ x ∧ x ≤ 1000000) (w : World) (hA : SlI w A l) :
    Calls Try.prog 97 #[.slice A l.length c] w fun e w' => e = .returned (.int .i64 (maxA 0 l)) ∧ w = w' := by
  have hd0 : decide ((l.length : Int) < 1) = false := decide_eq_false (by omega)
  have hl0 : (0 : Int) < (l.length : Int) := by omega
  have HA := hid hA
  have HB := hid hB
  obtain ⟨b, off, rfl, r1, c0⟩ := hA 0 _ (List.getElem?_eq_getElem h0)
  rw [Nat.add_zero] at c0
  obtain ⟨x0, hx0⟩ : ∃ x, x = l[0] := ⟨_, rfl⟩
  rw [← hx0] at c0
  have HX0 := hid hx0
  clear hA hB hx0
  go_enter Try.func97, Try.ntmps97
  go_wp2_with fail
  go_loop [3, 4] (fun m i => ∃ k : Nat, 1 ≤ k ∧ k ≤ l.length ∧ i = .int .i64 k ∧ m = .int .i64 (maxA 0 (l.take k))) (fun _ i => l.length - (intOf i).toNat)
  case atStart =>
    have e : l.take 1 = [l[0]] := by cases l with | nil => simp at h0 | cons a l => simp
    refine ⟨1, by omega, by omega, rfl, ?_⟩
    rw [e, ← HX0.out, maxA_cons, maxA_nil]
    have := HB.out x0 (by rw [HX0.out]; exact List.getElem_mem h0)
    congr 1
    split <;> omega
  case round =>
    obtain ⟨k, hk1, hk, rfl, rfl⟩ := hrel
    by_cases hkl : k < l.length
    · have hd : decide ((k : Int) < (l.length : Int)) = true := decide_eq_true (by omega)
      have hkI : (k : Int) < (l.length : Int) := by omega
      have hk0 : (0 : Int) ≤ (k : Int) := by omega
      have hp := List.getElem?_eq_getElem hkl
      have hm : maxA 0 (l.take (k + 1)) = if maxA 0 (l.take k) > l[k] then maxA 0 (l.take k) else l[k] := by rw [List.take_succ_eq_append_getElem hkl, maxA_snoc]
      obtain ⟨t, ht⟩ : ∃ t, t = l[k] := ⟨_, rfl⟩
      rw [← ht] at hp hm
      obtain ⟨b', off', e, r1', c1⟩ := HA.out k _ hp
      obtain ⟨rfl, rfl⟩ : b = b' ∧ off = off' := by simpa using e
      obtain ⟨m0, hm0⟩ : ∃ m, m = maxA 0 (l.take k) := ⟨_, rfl⟩
      rw [← hm0] at hm ⊢
      have HM := hid hm
      clear hp hm ht hm0 e c0 HX0
      go_wp2_with fail
      exact ⟨⟨k + 1, by omega, by omega, by go_num, congrArg (Value.int .i64) (by rw [HM.out]; split <;> split <;> omega)⟩, by simp [intOf]; omega⟩
    · obtain rfl : k = l.length := by omega
      have hd : decide ((l.length : Int) < (l.length : Int)) = false := decide_eq_false (by omega)
      rw [List.take_length]
      go_wp2_with fail
      go_ret
      exact ⟨rfl, rfl⟩
theorem below_drewN (B : Nat) (W : World) (q : Nat) : Below B W (W.drewN q) := by
  induction q generalizing W with
  | zero => exact Below.refl _ _
  | succ q ih => first | exact ((Below.refl _ W).drew).trans (ih W.drew) | exact (ih W).drew
/-- Nothing below n but block a is turned. -/
def KeepB (a n : Nat) (W W' : World) : Prop := ∀ b, b < n → b ≠ a → W'.heap[b]? = W.heap[b]?
theorem KeepB.refl (a n : Nat) (W : World) : KeepB a n W W := fun _ _ _ => rfl
theorem KeepB.trans {a n : Nat} {A B C : World} (h : KeepB a n A B) (h2 : KeepB a n B C) : KeepB a n A C := fun b hb hne => (h2 b hb hne).trans (h b hb hne)
theorem KeepB.cell {a n : Nat} {W W' : World} (h : KeepB a n W W') {p : Addr} (hb : p.block < n) (hne : p.block ≠ a) : W'.cell? p = W.cell? p := World.cell?_of_block (h _ hb hne)
theorem KeepB.setCell {a n : Nat} (W : World) (j : Nat) (v : Value) : KeepB a n W (W.setCell ⟨a, j, none⟩ v) := fun b _ hne => heap_setCell_other W ⟨a, j, none⟩ b v hne
theorem KeepB.drew {a n : Nat} {W W' : World} (h : KeepB a n W W') : KeepB a n W W'.drew := h
theorem KeepB.drewN {a n : Nat} (W : World) (q : Nat) : KeepB a n W (W.drewN q) := fun b hb _ => (below_drewN (b + 1) W q).block b (by omega)
theorem KeepB.putObj {a n : Nat} (W : World) (l : Nat) (o' : Obj) (h : n ≤ l) : KeepB a n W (W.putObj l o') := fun b hb _ => by
  unfold World.putObj
  simp only
  first | exact Array.getElem?_setIfInBounds_ne (by omega) | (rw [Array.getElem?_modify]; rw [if_neg (by omega)]) | (simp [Array.getElem?_set]; omega)
/-- What has come when k rounds are over. -/
theorem range_snoc (k : Nat) : List.range (k + 1) = List.range k ++ [k] := List.range_succ
/-- Chunk j, as a value. -/
def chunkV (b off n k j : Nat) : Value := .slice (some ⟨b, off + min j (chunkN n k - 1) * k, none⟩) (min k (n - min j (chunkN n k - 1) * k)) (min k (n - min j (chunkN n k - 1) * k))
theorem chunkV_lt {b off n k j : Nat} (h : j < chunkN n k) : chunkV b off n k j = .slice (some ⟨b, off + j * k, none⟩) (min k (n - j * k)) (min k (n - j * k)) := by
  unfold chunkV; rw [Nat.min_eq_left (by omega : j ≤ chunkN n k - 1)]
set_option maxRecDepth 100000 in
set_option maxHeartbeats 2000000 in
theorem chunk1_in (F : Fence) (n : Nat) (hf : F.fn 117) (hro : F.round = none) (hn : 1 ≤ n) (l Bs Bk a0 n₀ b off len cap k : Nat) (hk : 1 ≤ k ∧ k ≤ 1000) (hlen : len ≤ 1048576) (hBs : Bs < n₀ ∧ Bs ≠ a0) (hBk : Bk < n₀ ∧ Bk ≠ a0) (J Jx : List Nat → World → Prop)
    (hY : ∀ pre x W, J pre W → pre.length < chunkN len k → YieldAt F (n - 1) Try.prog l #[chunkV b off len k x] W fun e W' =>
      (e = .returned (.bool true) ∧ J (pre ++ [x]) W' ∧ KeepB a0 n₀ W W') ∨ (e = .returned (.bool false) ∧ Jx (pre ++ [x]) W'))
    (W : World) (hcs : W.cell? ⟨Bs, 0, none⟩ = some (.slice (some ⟨b, off, none⟩) len cap)) (hck : W.cell? ⟨Bk, 0, none⟩ = some (.int .i64 k)) (hcap : len ≤ cap) (hcm : cap ≤ 9223372036854775807) (hJd : ∀ pre W q, J pre W → J pre (W.drewN q)) (h0 : J [] W) :
    CallsIn F n Try.prog 117 #[.func (.yield l) #[] #[], .pointer (some ⟨Bs, 0, none⟩), .pointer (some ⟨Bk, 0, none⟩)] W fun e W' => (∃ v, e = .returned v) ∧
      ((∃ ys, ys = List.range (chunkN len k) ∧ J ys W') ∨ (∃ pre, True ∧ Jx pre W')) := by
  refine callsIn_of_wp Try.func117 rfl hf ?_ hro
  simp only [Try.ntmps117, List.size_toArray, List.length_cons, List.length_nil, Nat.reduceAdd, Nat.reduceSub, Array.replicate_succ, Array.replicate_zero, List.push_toArray, List.append_toArray, List.nil_append, List.cons_append]
  gi_wp2
  gi_loopw [4] (fun i wr => ∃ j : Nat, j ≤ chunkN len k ∧ i = .int .i64 ((j * k : Nat) : Int) ∧ J (List.range j) wr ∧ KeepB a0 n₀ W wr) (fun i _ => len + 2000 - (intOf i).toNat)
  case atStart => exact ⟨0, Nat.zero_le _, by simp, h0, KeepB.refl _ _ _⟩
  case round =>
    obtain ⟨j, hj, rfl, hJs, hnx⟩ := hrel
    have HJ := hid hJs
    have HN := hid hnx
    have cs' := (hnx.cell (p := ⟨Bs, 0, none⟩) hBs.1 hBs.2).trans hcs
    have ck' := (hnx.cell (p := ⟨Bk, 0, none⟩) hBk.1 hBk.2).trans hck
    clear hJs hnx
    by_cases hjl : j < chunkN len k
    · have hlt := (chunkN_lt (n := len) (by omega : 0 < k) j).1 hjl
      have HV := hid (chunkV_lt (b := b) (off := off) hjl)
      obtain ⟨i, hi⟩ : ∃ i, i = j * k := ⟨_, rfl⟩
      rw [← hi] at hlt ⊢
      have HI := hid hi
      have i0 : (0 : Int) ≤ (i : Int) := by omega
      have i1 : (i : Int) ≤ (len : Int) := by omega
      have i2 : (i : Int) < (len : Int) := by omega
      have i3 : i < cap := by omega
      have hd : decide ((i : Int) < (len : Int)) = true := decide_eq_true (by omega)
      have hdn : decide (i < len) = true := decide_eq_true (by omega)
      have HYY := hid hY
      have HJD := hid hJd
      have hjN : Hid (j + 1 ≤ chunkN len k) := hjl
      have HL : Hid ((List.range j).length < chunkN len k) := by rw [List.length_range]; exact hjl
      clear hi hj hY hcs hck hJd hjl
      by_cases hm : len - i < k
      · have em : min k (len - i) = len - i := by omega
        have e1 : ((i : Int) + ((len - i : Nat) : Int)).toNat - i = len - i := by omega
        have e2 : (i : Int) + ((len - i : Nat) : Int) ≤ (cap : Int) := by omega
        have e3 : (0 : Int) ≤ ((len - i : Nat) : Int) := by omega
        have HE := hid em
        clear em
        gi_wp2
        refine wpIn_region_quiet_lit hro (by kernel_rfl) (by kernel_rfl) ?_
        repeat (gi_big_quiet_step (fail))
        refine wpQuietIn_nil ?_
        rintro _ ⟨nq, rfl⟩
        obtain ⟨fn, tmps, assign, body, hy, hR⟩ := HYY.out _ j (wr.drewN nq) (HJD.out _ _ nq HJ.out) HL.out
        rw [HV.out, ← HI.out, HE.out] at hy
        have HR := hid hR
        clear hR
        gi_wp2
        refine HR.out.mono ?_
        rintro e W3 (⟨rfl, hJ3, hk3⟩ | ⟨rfl, hJx3⟩)
        · have HN3 := hid (HN.out.trans ((KeepB.drewN wr nq).trans hk3))
          have ck3 := (hk3.cell (p := ⟨Bk, 0, none⟩) hBk.1 hBk.2).trans (show (wr.drewN nq).cell? ⟨Bk, 0, none⟩ = _ from ck')
          have HJ3 := hid hJ3
          clear hk3 hJ3 HYY HR hy
          gi_wp2
          exact ⟨⟨j + 1, hjN.out, congrArg (Value.int .i64) (by rw [HI.out, Nat.succ_mul]; omega), by rw [range_snoc]; exact HJ3.out, HN3.out⟩, by simp [intOf]; omega⟩
        · gi_wp2
          refine bodyPost_ret (results_none rfl _ _ _) rfl ?_
          exact ⟨⟨_, rfl⟩, .inr ⟨_, trivial, hJx3⟩⟩
      · have em : min k (len - i) = k := by omega
        have e1 : ((i : Int) + (k : Int)).toNat - i = k := by omega
        have e2 : (i : Int) + (k : Int) ≤ (cap : Int) := by omega
        have e3 : (0 : Int) ≤ (k : Int) := by omega
        have HE := hid em
        clear em
        gi_wp2
        refine wpIn_region_quiet_lit hro (by kernel_rfl) (by kernel_rfl) ?_
        repeat (gi_big_quiet_step (fail))
        refine wpQuietIn_nil ?_
        rintro _ ⟨nq, rfl⟩
        obtain ⟨fn, tmps, assign, body, hy, hR⟩ := HYY.out _ j (wr.drewN nq) (HJD.out _ _ nq HJ.out) HL.out
        rw [HV.out, ← HI.out, HE.out] at hy
        have HR := hid hR
        clear hR
        gi_wp2
        refine HR.out.mono ?_
        rintro e W3 (⟨rfl, hJ3, hk3⟩ | ⟨rfl, hJx3⟩)
        · have HN3 := hid (HN.out.trans ((KeepB.drewN wr nq).trans hk3))
          have ck3 := (hk3.cell (p := ⟨Bk, 0, none⟩) hBk.1 hBk.2).trans (show (wr.drewN nq).cell? ⟨Bk, 0, none⟩ = _ from ck')
          have HJ3 := hid hJ3
          clear hk3 hJ3 HYY HR hy
          gi_wp2
          exact ⟨⟨j + 1, hjN.out, congrArg (Value.int .i64) (by rw [HI.out, Nat.succ_mul]; omega), by rw [range_snoc]; exact HJ3.out, HN3.out⟩, by simp [intOf]; omega⟩
        · gi_wp2
          refine bodyPost_ret (results_none rfl _ _ _) rfl ?_
          exact ⟨⟨_, rfl⟩, .inr ⟨_, trivial, hJx3⟩⟩
    · have hjN : j = chunkN len k := by omega
      have hge : ¬ j * k < len := fun h => hjl ((chunkN_lt (n := len) (by omega : 0 < k) j).2 h)
      have HE := hid hjN
      obtain ⟨i, hi⟩ : ∃ i, i = j * k := ⟨_, rfl⟩
      rw [← hi] at hge ⊢
      have hd : decide ((i : Int) < (len : Int)) = false := decide_eq_false (by omega)
      have hdn : decide (i < len) = false := decide_eq_false (by omega)
      clear hi hj hY hcs hck hJd hjl hjN
      gi_wp2
      go_end0
      exact ⟨⟨_, rfl⟩, .inl ⟨_, rfl, by rw [← HE.out]; exact HJ.out⟩⟩
set_option maxRecDepth 100000 in
set_option maxHeartbeats 1000000 in
theorem chunk1_nil_in (F : Fence) (n : Nat) (hf : F.fn 117) (hro : F.round = none) (l Bs : Nat) (A : Option Addr) (cap : Nat) (J : List Nat → World → Prop) (W : World) (v2 : Value) (hcs : W.cell? ⟨Bs, 0, none⟩ = some (.slice A 0 cap)) (h0 : J [] W) :
    CallsIn F n Try.prog 117 #[.func (.yield l) #[] #[], .pointer (some ⟨Bs, 0, none⟩), v2] W fun e W' => (∃ v, e = .returned v) ∧ J [] W' := by
  refine callsIn_of_wp Try.func117 rfl hf ?_ hro
  simp only [Try.ntmps117, List.size_toArray, List.length_cons, List.length_nil, Nat.reduceAdd, Nat.reduceSub, Array.replicate_succ, Array.replicate_zero, List.push_toArray, List.append_toArray, List.nil_append, List.cons_append]
  gi_wp2
  gi_loopw [4] (fun i wr => i = .int .i64 0 ∧ J [] wr ∧ wr.cell? ⟨Bs, 0, none⟩ = some (.slice A 0 cap)) (fun _ _ => 0)
  case atStart => exact ⟨rfl, h0, hcs⟩
  case round =>
    obtain ⟨rfl, hJs, hc⟩ := hrel
    gi_wp2
    go_end0
    exact ⟨⟨_, rfl⟩, hJs⟩
theorem drewN_grown (W : World) (q : Nat) : W.grownBy (W.drewN q) none := by
  have h := below_drewN W.heap.size W q
  exact ⟨h.os, h.tape, h.output, h.size, fun k hk _ => h.block k hk⟩
theorem chunk_stops (F : Fence) (n : Nat) (hf : F.fn 117) (hro : F.round = none) (hn : 1 ≤ n) (Bs Bk a0 : Nat) (A : Option Addr) (cap k : Nat) (b off : Nat) (zs : List Int) (hk : 1 ≤ k ∧ k ≤ 1000) (hlen : zs.length ≤ 1048576) (hcap : zs.length ≤ cap) (hcm : cap ≤ 9223372036854775807) (w : World)
    (hBs : Bs < w.heap.size ∧ Bs ≠ a0) (hBk : Bk < w.heap.size ∧ Bk ≠ a0) (hcs : w.cell? ⟨Bs, 0, none⟩ = some (.slice A zs.length cap)) (hck : w.cell? ⟨Bk, 0, none⟩ = some (.int .i64 k)) (hA : zs ≠ [] → A = some ⟨b, off, none⟩) :
    SeqStopsK F n Try.prog 117 #[.pointer (some ⟨Bs, 0, none⟩), .pointer (some ⟨Bk, 0, none⟩)] (fun j => #[chunkV b off zs.length k j]) (KeepB a0 w.heap.size) (fun ys => ys = List.range (chunkN zs.length k)) (fun _ => True) (chunkN zs.length k) w := fun l J Jx W hW hJ _ hY h0 => by
  have hcs' := (hW.cell (p := ⟨Bs, 0, none⟩) hBs.1).trans hcs
  have hck' := (hW.cell (p := ⟨Bk, 0, none⟩) hBk.1).trans hck
  by_cases hz : zs = []
  · subst hz
    refine (chunk1_nil_in F n hf hro l Bs A cap J W _ hcs' h0).mono fun e W' ⟨he, hj⟩ => ⟨he, .inl ⟨[], ?_, hj⟩⟩
    have : chunkN 0 k = 0 := by unfold chunkN; exact Nat.div_eq_of_lt (by omega)
    simp [this]
  · obtain rfl := hA hz
    have h := chunk1_in F n hf hro hn l Bs Bk a0 w.heap.size b off zs.length cap k hk hlen hBs hBk J Jx hY W hcs' hck' hcap hcm (fun pre W' q hj => hJ pre W' _ none hj (drewN_grown W' q) (fun r e => by cases e)) h0
    exact h
set_option maxHeartbeats 1000000 in
theorem chunk_in (F : Fence) (n : Nat) (hf : F.fn 96) (hro : F.round = none) (A : Option Addr) (len cap k : Nat) (hk : 1 ≤ k ∧ k ≤ 1000) (w : World) :
    CallsIn F n Try.prog 96 #[.slice A len cap, .int .i64 k] w fun e w' => e = .returned (.func (.func 117) #[] #[.pointer (some ⟨w.heap.size, 0, none⟩), .pointer (some ⟨w.heap.size + 1, 0, none⟩)]) ∧ w' = (w.alloc (.cells #[.slice A len cap] 73)).alloc (.cells #[.int .i64 k] 3) := by
  have hd : decide ((k : Int) < 1) = false := decide_eq_false (by omega)
  refine callsIn_of_wp Try.func96 rfl hf ?_ hro
  simp only [Try.ntmps96, List.size_toArray, List.length_cons, List.length_nil, Nat.reduceAdd, Nat.reduceSub, Array.replicate_succ, Array.replicate_zero, List.push_toArray, List.append_toArray, List.nil_append, List.cons_append]
  gi_wp2
  go_ret
  exact ⟨rfl, rfl⟩
end Go.Proofs.Ytfbgldkdlmipoaa
