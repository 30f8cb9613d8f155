/- Words for the walks of this seat: worlds above a world, roofs and places as values, the calls of the simplest functions. -/
import Derived.Test.YtjcmdihadblodaaRows
import Derived.WalkKit
import Derived.WalkLawsBesides
import Derived.WalkSpells
import Derived.Deep.QuietTactic
import Derived.BigQuiet
import Derived.Deep.MidRow
import Derived.StillTailTactics
import Derived.Outline
import Derived.OpenShut
import Derived.ProofKit
import Derived.SizedLaws
namespace Go.Proofs.Ytjcmdihadblodaa
open Go.RowKit
set_option linter.unusedVariables false
set_option linter.unusedSimpArgs false

theorem hid {p : Prop} (h : p) : Hid p := h

theorem all_succ {p : Nat → Prop} {q : Nat} (h : ∀ k, k < q → p k) (hq : p q) : ∀ k, k < q + 1 → p k := fun k hk => by
  rcases Nat.lt_succ_iff_lt_or_eq.1 hk with h1 | h1
  · exact h k h1
  · exact h1 ▸ hq
theorem ret_bool {a b : Bool} (h : a = b) : Ending.returned (.bool a) = .returned (.bool b) := by rw [h]
theorem ret_int {k : IntKind} {a b : Int} (h : a = b) : Ending.returned (.int k a) = .returned (.int k b) := by rw [h]

/-! ### Worlds above a world -/
/-- A world that lies above W from block number B on. -/
structure Ext (B : Nat) (W : World) where
  w : World
  h : Below B W w
instance {B : Nat} {W : World} : Inhabited (Ext B W) := ⟨⟨W, Below.refl B W⟩⟩
def Ext.out {B : Nat} {W : World} (x : Ext B W) : World := x.w
theorem Ext.below {B : Nat} {W : World} (x : Ext B W) : Below B W x.out := x.h
@[go_sem] theorem Ext.cell {B : Nat} {W : World} (x : Ext B W) (b o : Nat) (h : b < B) : x.out.cell? ⟨b, o, none⟩ = W.cell? ⟨b, o, none⟩ := x.h.cell (p := ⟨b, o, none⟩) h
@[go_sem] theorem Ext.frozen {B : Nat} {W : World} (x : Ext B W) (b o : Nat) (h : b < B) : x.out.frozen? ⟨b, o, none⟩ = W.frozen? ⟨b, o, none⟩ := x.h.frozen (p := ⟨b, o, none⟩) h
theorem Ext.block {B : Nat} {W : World} (x : Ext B W) (b : Nat) (h : b < B) : x.out.heap[b]? = W.heap[b]? := x.h.block b h
theorem ext_of {B : Nat} {W w' : World} (h : Below B W w') : ∃ x : Ext B W, w' = x.out := ⟨⟨w', h⟩, rfl⟩

/-- One call more, above a world that stays. -/
theorem hstep {B : Nat} {W0 wr w1 : World} (hB : Hid (B ≤ W0.heap.size)) (h : Hid (Below B W0 wr)) (h1 : Below wr.heap.size wr w1) : Hid (Below B W0 w1) := h.out.trans (h1.mono (Nat.le_trans hB.out h.out.size))

/-- A region that draws its order, whose operations read below B, and whose callees turn nothing below B: walked once, in the order of the text. -/
theorem wp_region_ext {P : Program} {id : Nat} {Q : Exit → Act → World → Prop} {a : Act} {w : World} {l : List Oper} (B : Nat) (hm : P.follows .mixedOrders = true) (hB : Region.lexB .any l.toArray = true)
    (h : wpQuiet P l.toArray (fun w' => ∃ x : Ext B w, w' = x.out) (fun a' => ∀ x : Ext B w, Q .normal a' x.out) l a) : (Code.region id l.toArray true).wp P Q a w :=
  wp_region_quiet (C := fun w' => ∃ x : Ext B w, w' = x.out) hm hB ⟨⟨_, (Below.refl B w).drew⟩, rfl⟩ (by simpa using h)
/-- The same, from a world that already lies above another one. -/
theorem wp_region_ext' {P : Program} {id : Nat} {Q : Exit → Act → World → Prop} {a : Act} {B : Nat} {W : World} {y : Ext B W} {l : List Oper} (hm : P.follows .mixedOrders = true) (hB : Region.lexB .any l.toArray = true)
    (h : wpQuiet P l.toArray (fun w' => ∃ x : Ext B W, w' = x.out) (fun a' => ∀ x : Ext B W, Q .normal a' x.out) l a) : (Code.region id l.toArray true).wp P Q a y.out :=
  wp_region_quiet (C := fun w' => ∃ x : Ext B W, w' = x.out) hm hB ⟨⟨_, y.h.drew⟩, rfl⟩ (by simpa using h)

theorem Calls.ext {P : Program} {f : FuncId} {args : Array Value} {B : Nat} {W : World} {x : Ext B W} {v : Value} (hB : B ≤ W.heap.size)
    (h : Calls P f args x.out fun e w' => e = .returned v ∧ Below x.out.heap.size x.out w') : Calls P f args x.out fun e w' => e = .returned v ∧ ∃ y : Ext B W, w' = y.out :=
  h.mono fun _ _ ⟨he, hb⟩ => ⟨he, ⟨_, x.h.trans (hb.mono (Nat.le_trans hB x.h.size))⟩, rfl⟩
theorem Calls.ext_same {P : Program} {f : FuncId} {args : Array Value} {B : Nat} {W : World} {x : Ext B W} {v : Value}
    (h : Calls P f args x.out fun e w' => e = .returned v ∧ x.out = w') : Calls P f args x.out fun e w' => e = .returned v ∧ ∃ y : Ext B W, w' = y.out :=
  h.mono fun _ _ ⟨he, hb⟩ => ⟨he, x, hb.symm⟩
/-- A call out of the world W itself. -/
theorem Calls.ext0 {P : Program} {f : FuncId} {args : Array Value} {B : Nat} {W : World} {v : Value} (hB : B ≤ W.heap.size)
    (h : Calls P f args W fun e w' => e = .returned v ∧ Below W.heap.size W w') : Calls P f args W fun e w' => e = .returned v ∧ ∃ y : Ext B W, w' = y.out :=
  h.mono fun _ _ ⟨he, hb⟩ => ⟨he, ⟨_, hb.mono hB⟩, rfl⟩
theorem Calls.below {P : Program} {f : FuncId} {args : Array Value} {w : World} {v : Value} (h : Calls P f args w fun e w' => e = .returned v ∧ w = w') :
    Calls P f args w fun e w' => e = .returned v ∧ Below w.heap.size w w' := h.mono fun _ _ ⟨he, hw⟩ => ⟨he, hw ▸ Below.refl _ _⟩

/-- In a region that draws its order: one operation whose run is known in every world of the class. -/
theorem wpQuiet_run {P : Program} {ops : Array Oper} {C : World → Prop} {Q : Act → Prop} {a : Act} {o : Oper} {rest : List Oper} {N : Nat} (_ : o.dst = some N) (hgd : o.guard = none) (v : Value)
    (h : ∀ w', C w' → (execOp a.eval o).run P w' = .ok (.value v) w') (k : wpQuiet P ops C Q rest (a.put o.dst v)) : wpQuiet P ops C Q (o :: rest) a :=
  wpQuiet_step fun K hK => by
    rw [if_pos (by simp [Region.wanted, hgd])]
    exact ⟨v, fun w' hw' => by unfold Oper.quietAt; rw [h w' hw']; exact ⟨rfl, rfl⟩, hK _ k⟩
theorem execOp_load {P : Program} {o : Oper} {a : Act} {w : World} {t : TypeId} {x : Operand} {u v : Value} (ho : o.op = .load t x) (hx : a.eval x = u) (h : (Instr.loadAt t u).run P w = .ok v w) : (execOp a.eval o).run P w = .ok (.value v) w := by
  unfold execOp; simp [ho, hx, Sem.run_bind, h]
/-- '==' between two structs or arrays. -/
theorem execOp_eql {P : Program} {o : Oper} {a : Act} {w : World} {t t' : TypeId} {x y : Operand} {xs ys : Array Value} {v : Value} (ho : o.op = .binOp .eql t x y t') (hx : a.eval x = .agg xs) (hy : a.eval y = .agg ys) (hm : P.eqGuardType P.depth t = false)
    (h : (binOp .eql t (.agg xs) (.agg ys)).run P w = .ok v w) : (execOp a.eval o).run P w = .ok (.value v) w := by
  unfold execOp; simp [ho, hx, hy, Sem.run_bind, run_eqGuard_agg w .eql t x y xs ys hm, h]
/-- A region that draws its order, whose first n operations leave the world alone, and whose others come behind them in their order. -/
theorem wp_region_tail {P : Program} {id : Nat} {Q : Exit → Act → World → Prop} {a : Act} {w : World} {l : List Oper} (n : Nat) (hm : P.follows .mixedOrders = true) (hB : Region.lexTailB .any l.toArray n = true)
    (h : wpStill P l.toArray w.drew (fun a' => wpList P l.toArray Q (l.drop n) a' w.drew) (l.take n) a) : (Code.region id l.toArray true).wp P Q a w := wp_region_still_tail n hm hB h
/-- Only at the operation that writes slot N; only at one that writes none. -/
theorem gate {P : Program} {ops : Array Oper} {rest : List Oper} {o : Oper} {a : Act} {w : World} {Q : Exit → Act → World → Prop} {N : Nat} (_ : o.dst = some N) (k : wpList P ops Q (o :: rest) a w) : wpList P ops Q (o :: rest) a w := k
theorem gateN {P : Program} {ops : Array Oper} {rest : List Oper} {o : Oper} {a : Act} {w : World} {Q : Exit → Act → World → Prop} (_ : o.dst = none) (k : wpList P ops Q (o :: rest) a w) : wpList P ops Q (o :: rest) a w := k
/-- One operation whose run is known. -/
theorem wpList_run {P : Program} {ops : Array Oper} {rest : List Oper} {o : Oper} {a : Act} {w : World} {Q : Exit → Act → World → Prop} (hgd : o.guard = none) (v : Value)
    (h : (execOp a.eval o).run P w = .ok (.value v) w) (k : wpList P ops Q rest (a.put o.dst v) w) : wpList P ops Q (o :: rest) a w :=
  wpList_plain hgd fun _ hK => by unfold Oper.wp; rw [h]; exact hK _ _ k

/-- An index into an array value. -/
theorem wpList_index {P : Program} {ops : Array Oper} {rest : List Oper} {o : Oper} {a : Act} {w : World} {Q : Exit → Act → World → Prop} (hgd : o.guard = none) (t : TypeId) (x y : Operand) (ho : o.op = .index t x y)
    (u v res : Value) (hx : a.eval x = u) (hy : a.eval y = v) (h : (Instr.index t u v).run P w = .ok res w) (k : wpList P ops Q rest (a.put o.dst res) w) : wpList P ops Q (o :: rest) a w :=
  wpList_run hgd res (by unfold execOp; simp [ho, hx, hy, h]) k
/-- A whole array or struct stored into the block that was just laid: the block holds it. -/
theorem setCells_new (W : World) (E : TypeId) : ∀ (vs : List Value) (o : Nat) (pre : List Value) (post : List Value), o = pre.length → post.length = vs.length →
    (W.alloc (.cells (pre ++ post).toArray E)).setCells W.heap.size o vs = W.alloc (.cells (pre ++ vs).toArray E)
  | [], o, pre, post, _, hl => by
    have : post = [] := by cases post <;> simp_all
    subst this; rfl
  | v :: vs, o, pre, post, ho, hl => by
    cases post with
    | nil => simp at hl
    | cons p post =>
      rw [World.setCells]
      have e : (W.alloc (.cells (pre ++ p :: post).toArray E)).setCell ⟨W.heap.size, o, none⟩ v = W.alloc (.cells ((pre ++ [v]) ++ post).toArray E) := by
        rw [World.setCell_alloc_at _ _ _ _ _ rfl]
        congr 2
        subst ho
        simp
      rw [e, setCells_new W E vs (o + 1) (pre ++ [v]) post (by simp [ho]) (by simpa using hl)]
      simp
theorem setCells_new' (W : World) (E : TypeId) (cs cells : Array Value) (h : cs.size = cells.size) : (W.alloc (.cells cs E)).setCells W.heap.size 0 cells.toList = W.alloc (.cells cells E) := by
  have := setCells_new W E cells.toList 0 [] cs.toList rfl (by simpa using h)
  simpa using this
theorem there_new (W : World) (E : TypeId) (cs : Array Value) : (W.alloc (.cells cs E)).there W.heap.size 0 cs.size := fun j hj => by
  have hg := heap_alloc_new W (.cells cs E)
  refine ⟨?_, ?_⟩
  · rw [cell_of_row _ W.heap.size (0 + j) _ _ _ hg]; simp [hj]
  · exact frozen_of_row _ W.heap.size (0 + j) _ _ hg
theorem wpList_store_new {P : Program} {ops : Array Oper} {rest : List Oper} {op : Oper} {a : Act} {W : World} {Q : Exit → Act → World → Prop} (hgd : op.guard = none) (ty : TypeId) (x y : Operand) (ho : op.op = .store ty x y)
    (cs cells : Array Value) (E : TypeId) (hx : a.eval x = .pointer (some ⟨W.heap.size, 0, none⟩)) (hy : a.eval y = .agg cells) (hs : cs.size = cells.size) (hi : (P.info? ty).map (·.size) = some cells.size) (h1 : cells.all (·.oneCell') = true)
    (h : wpList P ops Q rest (a.put op.dst undef) (W.alloc (.cells cells E))) : wpList P ops Q (op :: rest) a (W.alloc (.cells cs E)) :=
  wpList_store_mid hgd ty x y ho W.heap.size 0 cells hx hy (by rw [← hs]; exact there_new W E cs) hi h1 (by rw [setCells_new' W E cs cells hs]; exact h)

/-- The cells of a block behind a store of several of them. -/
def setAll : Array Value → Nat → List Value → Array Value
  | cs, _, [] => cs
  | cs, o, v :: r => setAll (cs.setIfInBounds o v) (o + 1) r
theorem size_setAll : ∀ (vs : List Value) (cs : Array Value) (o : Nat), (setAll cs o vs).size = cs.size
  | [], _, _ => rfl
  | v :: r, cs, o => by rw [setAll, size_setAll r]; simp
theorem setAll_get : ∀ (vs : List Value) (cs : Array Value) (o j : Nat), o + vs.length ≤ cs.size → (setAll cs o vs)[j]? = if o ≤ j ∧ j < o + vs.length then vs[j - o]? else cs[j]?
  | [], cs, o, j, _ => by rw [setAll, if_neg (by simp)]
  | v :: r, cs, o, j, h => by
    simp only [List.length_cons] at h
    rw [setAll, setAll_get r _ _ j (by simp; omega), Array.getElem?_setIfInBounds]
    by_cases h1 : o = j
    · subst h1
      rw [if_neg (by omega), if_pos rfl, if_pos (by omega), if_pos ⟨Nat.le_refl _, by simp⟩]; simp
    · by_cases h2 : o + 1 ≤ j ∧ j < o + 1 + r.length
      · rw [if_pos h2, if_pos ⟨by omega, by simp; omega⟩]
        have e : j - o = (j - (o + 1)) + 1 := by omega
        rw [e]; simp
      · rw [if_neg h2, if_neg h1, if_neg (by simp; omega)]
/-- Two arrays that hold the same at each place. -/
theorem setAll_eq {cs cs' : Array Value} {o : Nat} {vs : List Value} (hl : o + vs.length ≤ cs.size) (hs : cs'.size = cs.size) (h : ∀ j, j < cs.size → cs'[j]? = if o ≤ j ∧ j < o + vs.length then vs[j - o]? else cs[j]?) : setAll cs o vs = cs' := by
  apply Array.ext_getElem?
  intro j
  rw [setAll_get vs cs o j hl]
  by_cases hj : j < cs.size
  · exact (h j hj).symm
  · rw [if_neg (by omega), Array.getElem?_eq_none (by omega), Array.getElem?_eq_none (by omega)]
theorem setCells_heap (b : Nat) (T : TypeId) : ∀ (vs : List Value) (o : Nat) (W : World) (cs : Array Value), W.heap[b]? = some (.cells cs T (0, 0)) →
    (W.setCells b o vs).heap[b]? = some (.cells (setAll cs o vs) T (0, 0)) ∧ W.grownBy (W.setCells b o vs) (some b) ∧ (W.setCells b o vs).heap.size = W.heap.size
  | [], _, W, cs, h => ⟨h, ⟨rfl, rfl, rfl, Nat.le_refl _, fun _ _ _ => rfl⟩, rfl⟩
  | v :: r, o, W, cs, h => by
    have h1 := heap_setCell_same W b o cs T v h
    obtain ⟨i1, i2, i3⟩ := setCells_heap b T r (o + 1) (W.setCell ⟨b, o, none⟩ v) (cs.setIfInBounds o v) h1
    refine ⟨i1, ⟨i2.os, i2.tape, i2.output, ?_, fun k hk hne => ?_⟩, ?_⟩
    · rw [World.setCells, i3]; simp [World.setCell]
    · rw [World.setCells, i2.block k (by simpa [World.setCell] using hk) hne]
      exact heap_setCell_other W ⟨b, o, none⟩ k v (fun e => hne (by simp [e]))
    · rw [World.setCells, i3]; simp [World.setCell]
theorem there_block {W : World} {b : Nat} {cs : Array Value} {T : TypeId} (hb : W.heap[b]? = some (.cells cs T (0, 0))) (o n : Nat) (h : o + n ≤ cs.size) : W.there b o n := fun j hj => by
  refine ⟨?_, frozen_of_row _ b (o + j) _ _ hb⟩
  rw [cell_of_row _ b (o + j) _ _ _ hb]
  have : o + j < cs.size := by omega
  simp [this]
/-- A whole array or struct stored into a block that is known, from an offset on. -/
theorem wpList_store_block {P : Program} {ops : Array Oper} {rest : List Oper} {op : Oper} {a : Act} {W : World} {Q : Exit → Act → World → Prop} (hgd : op.guard = none) (ty : TypeId) (x y : Operand) (ho : op.op = .store ty x y)
    (b o : Nat) (cs cells cs' : Array Value) (T : TypeId) (hb : W.heap[b]? = some (.cells cs T (0, 0))) (hx : a.eval x = .pointer (some ⟨b, o, none⟩)) (hy : a.eval y = .agg cells) (hl : o + cells.size ≤ cs.size)
    (hi : (P.info? ty).map (·.size) = some cells.size) (h1 : cells.all (·.oneCell') = true) (he : setAll cs o cells.toList = cs')
    (h : ∀ w2, w2.heap[b]? = some (.cells cs' T (0, 0)) → W.grownBy w2 (some b) → w2.heap.size = W.heap.size → wpList P ops Q rest (a.put op.dst undef) w2) : wpList P ops Q (op :: rest) a W := by
  obtain ⟨i1, i2, i3⟩ := setCells_heap b T cells.toList o W cs hb
  rw [he] at i1
  exact wpList_store_mid hgd ty x y ho b o cells hx hy (there_block hb o cells.size hl) hi h1 (h _ i1 i2 i3)
theorem setAll_whole {cs cells : Array Value} (h : cs.size = cells.size) : setAll cs 0 cells.toList = cells :=
  setAll_eq (by simp [h]) h.symm fun j hj => by rw [if_pos ⟨Nat.zero_le _, by simp; omega⟩]; simp

theorem block_lt {W : World} {b : Nat} {o : Obj} (h : W.heap[b]? = some o) : b < W.heap.size := (Array.getElem?_eq_some_iff.1 h).1
theorem block_alloc {W : World} {b : Nat} {o : Obj} (h : W.heap[b]? = some o) (o' : Obj) : (W.alloc o').heap[b]? = some o := by rw [heap_alloc_old _ _ (block_lt h)]; exact h
theorem block_new1 {n : Nat} (W : World) (o : Obj) (h : n = W.heap.size) : (W.alloc o).heap[n]? = some o := h ▸ heap_alloc_new W o
theorem block_set_other {W : World} {b : Nat} {o : Obj} (h : W.heap[b]? = some o) {a : Addr} (v : Value) (hne : b ≠ a.block) : (W.setCell a v).heap[b]? = some o := (heap_setCell_other W a b v hne).trans h
theorem block_below {B : Nat} {W W' : World} (hb : Below B W W') {b : Nat} {o : Obj} (h : W.heap[b]? = some o) (hlt : b < B) : W'.heap[b]? = some o := (hb.block b hlt).trans h
theorem block_grown {W W' : World} {b row : Nat} {o : Obj} (hg : W.grownBy W' (some row)) (h : W.heap[b]? = some o) (hne : b ≠ row) : W'.heap[b]? = some o := (hg.block b (block_lt h) (fun e => hne (by simpa using e))).trans h
theorem cell_block {W : World} {b j : Nat} {cs : Array Value} {T : TypeId} {fr : Nat × Nat} {v : Value} (h : W.heap[b]? = some (.cells cs T fr)) (hv : cs[j]? = some v) : W.cell? ⟨b, j, none⟩ = some v := (cell_of_row W b j cs T fr h).trans hv

/-! ### Arrays as values -/
theorem run_isAgg_array {P : Program} {t : TypeId} {n : Nat} {e : TypeId} (h : P.underlying t = some (.array n e)) (w : World) : (isAgg t).run P w = .ok true w := by
  unfold isAgg
  rw [Sem.run_bind, run_underlying h w]
  rfl
/-- An element that is itself an array, out of an array value. -/
theorem run_index_row {P : Program} (w : World) (t e : TypeId) (n m : Nat) (e' : TypeId) (cs : Array Value) (k : IntKind) (i : Nat) (hu : P.underlying t = some (.array n e)) (he : P.underlying e = some (.array m e'))
    (hs : (P.info? e).map (·.size) = some m) (hi : i < n) : (Instr.index t (.agg cs) (.int k (i : Int))).run P w = .ok (.agg (cs.extract (i * m) (i * m + m))) w := by
  have ha := run_isAgg_array he w
  cases hq : P.info? e with
  | none => simp [hq] at hs
  | some inf =>
    have hs' : inf.size = m := by simpa [hq] using hs
    have h1 : (0 : Int) ≤ (i : Int) ∧ (i : Int) < (n : Int) := ⟨by omega, by omega⟩
    simp [Instr.index, asIntOf, run_underlying hu w, part, ha, sizeOf, typeInfo, hq, hs', h1, Sem.run_bind]
    omega
end Go.Proofs.Ytjcmdihadblodaa
