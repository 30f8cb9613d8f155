/- Texts of the claim FnExactPatchesOf, part 1 of 5. -/
import Derived.Test.YtfijinbdpfeceaaRows
import Derived.WalkKit
import Derived.WalkLawsBesides
import Derived.WalkSpells
import Derived.Deep.QuietTactic
import Derived.BigQuiet
import Derived.Deep.MidRow
import Derived.StillTailTactics
import Derived.Outline
import Derived.OpenShut
import Derived.ProofKit
import Derived.SizedLaws
/- Words for the walks of this seat: worlds above a world, roofs and places as values, the calls of the simplest functions. -/
namespace Go.Proofs.Ytfijinbdpfeceaa
open Go.RowKit
set_option linter.unusedVariables false
set_option linter.unusedSimpArgs false

theorem hid {p : Prop} (h : p) : Hid p := h

theorem all_succ {p : Nat → Prop} {q : Nat} (h : ∀ k, k < q → p k) (hq : p q) : ∀ k, k < q + 1 → p k := fun k hk => by
  rcases Nat.lt_succ_iff_lt_or_eq.1 hk with h1 | h1
  · exact h k h1
  · exact h1 ▸ hq
theorem ret_bool {a b : Bool} (h : a = b) : Ending.returned (.bool a) = .returned (.bool b) := by rw [h]
theorem ret_int {k : IntKind} {a b : Int} (h : a = b) : Ending.returned (.int k a) = .returned (.int k b) := by rw [h]

/-! ### Worlds above a world -/
/-- A world that lies above W from block number B on. -/
structure Ext (B : Nat) (W : World) where
  w : World
  h : Below B W w
instance {B : Nat} {W : World} : Inhabited (Ext B W) := ⟨⟨W, Below.refl B W⟩⟩
def Ext.out {B : Nat} {W : World} (x : Ext B W) : World := x.w
theorem Ext.below {B : Nat} {W : World} (x : Ext B W) : Below B W x.out := x.h
@[go_sem] theorem Ext.cell {B : Nat} {W : World} (x : Ext B W) (b o : Nat) (h : b < B) : x.out.cell? ⟨b, o, none⟩ = W.cell? ⟨b, o, none⟩ := x.h.cell (p := ⟨b, o, none⟩) h
@[go_sem] theorem Ext.frozen {B : Nat} {W : World} (x : Ext B W) (b o : Nat) (h : b < B) : x.out.frozen? ⟨b, o, none⟩ = W.frozen? ⟨b, o, none⟩ := x.h.frozen (p := ⟨b, o, none⟩) h
theorem Ext.block {B : Nat} {W : World} (x : Ext B W) (b : Nat) (h : b < B) : x.out.heap[b]? = W.heap[b]? := x.h.block b h
theorem ext_of {B : Nat} {W w' : World} (h : Below B W w') : ∃ x : Ext B W, w' = x.out := ⟨⟨w', h⟩, rfl⟩

/-- One call more, above a world that stays. -/
theorem hstep {B : Nat} {W0 wr w1 : World} (hB : Hid (B ≤ W0.heap.size)) (h : Hid (Below B W0 wr)) (h1 : Below wr.heap.size wr w1) : Hid (Below B W0 w1) := h.out.trans (h1.mono (Nat.le_trans hB.out h.out.size))

/-- A region that draws its order, whose operations read below B, and whose callees turn nothing below B: walked once, in the order of the text. -/
theorem wp_region_ext {P : Program} {id : Nat} {Q : Exit → Act → World → Prop} {a : Act} {w : World} {l : List Oper} (B : Nat) (hm : P.follows .mixedOrders = true) (hB : Region.lexB .any l.toArray = true)
    (h : wpQuiet P l.toArray (fun w' => ∃ x : Ext B w, w' = x.out) (fun a' => ∀ x : Ext B w, Q .normal a' x.out) l a) : (Code.region id l.toArray true).wp P Q a w :=
  wp_region_quiet (C := fun w' => ∃ x : Ext B w, w' = x.out) hm hB ⟨⟨_, (Below.refl B w).drew⟩, rfl⟩ (by simpa using h)
/-- The same, from a world that already lies above another one. -/
theorem wp_region_ext' {P : Program} {id : Nat} {Q : Exit → Act → World → Prop} {a : Act} {B : Nat} {W : World} {y : Ext B W} {l : List Oper} (hm : P.follows .mixedOrders = true) (hB : Region.lexB .any l.toArray = true)
    (h : wpQuiet P l.toArray (fun w' => ∃ x : Ext B W, w' = x.out) (fun a' => ∀ x : Ext B W, Q .normal a' x.out) l a) : (Code.region id l.toArray true).wp P Q a y.out :=
  wp_region_quiet (C := fun w' => ∃ x : Ext B W, w' = x.out) hm hB ⟨⟨_, y.h.drew⟩, rfl⟩ (by simpa using h)

theorem Calls.ext {P : Program} {f : FuncId} {args : Array Value} {B : Nat} {W : World} {x : Ext B W} {v : Value} (hB : B ≤ W.heap.size)
    (h : Calls P f args x.out fun e w' => e = .returned v ∧ Below x.out.heap.size x.out w') : Calls P f args x.out fun e w' => e = .returned v ∧ ∃ y : Ext B W, w' = y.out :=
  h.mono fun _ _ ⟨he, hb⟩ => ⟨he, ⟨_, x.h.trans (hb.mono (Nat.le_trans hB x.h.size))⟩, rfl⟩
theorem Calls.ext_same {P : Program} {f : FuncId} {args : Array Value} {B : Nat} {W : World} {x : Ext B W} {v : Value}
    (h : Calls P f args x.out fun e w' => e = .returned v ∧ x.out = w') : Calls P f args x.out fun e w' => e = .returned v ∧ ∃ y : Ext B W, w' = y.out :=
  h.mono fun _ _ ⟨he, hb⟩ => ⟨he, x, hb.symm⟩
/-- A call out of the world W itself. -/
theorem Calls.ext0 {P : Program} {f : FuncId} {args : Array Value} {B : Nat} {W : World} {v : Value} (hB : B ≤ W.heap.size)
    (h : Calls P f args W fun e w' => e = .returned v ∧ Below W.heap.size W w') : Calls P f args W fun e w' => e = .returned v ∧ ∃ y : Ext B W, w' = y.out :=
  h.mono fun _ _ ⟨he, hb⟩ => ⟨he, ⟨_, hb.mono hB⟩, rfl⟩
theorem Calls.below {P : Program} {f : FuncId} {args : Array Value} {w : World} {v : Value} (h : Calls P f args w fun e w' => e = .returned v ∧ w = w') :
    Calls P f args w fun e w' => e = .returned v ∧ Below w.heap.size w w' := h.mono fun _ _ ⟨he, hw⟩ => ⟨he, hw ▸ Below.refl _ _⟩

/-- In a region that draws its order: one operation whose run is known in every world of the class. -/
theorem wpQuiet_run {P : Program} {ops : Array Oper} {C : World → Prop} {Q : Act → Prop} {a : Act} {o : Oper} {rest : List Oper} {N : Nat} (_ : o.dst = some N) (hgd : o.guard = none) (v : Value)
    (h : ∀ w', C w' → (execOp a.eval o).run P w' = .ok (.value v) w') (k : wpQuiet P ops C Q rest (a.put o.dst v)) : wpQuiet P ops C Q (o :: rest) a :=
  wpQuiet_step fun K hK => by
    rw [if_pos (by simp [Region.wanted, hgd])]
    exact ⟨v, fun w' hw' => by unfold Oper.quietAt; rw [h w' hw']; exact ⟨rfl, rfl⟩, hK _ k⟩
theorem execOp_load {P : Program} {o : Oper} {a : Act} {w : World} {t : TypeId} {x : Operand} {u v : Value} (ho : o.op = .load t x) (hx : a.eval x = u) (h : (Instr.loadAt t u).run P w = .ok v w) : (execOp a.eval o).run P w = .ok (.value v) w := by
  unfold execOp; simp [ho, hx, Sem.run_bind, h]
/-- '==' between two structs or arrays. -/
theorem execOp_eql {P : Program} {o : Oper} {a : Act} {w : World} {t t' : TypeId} {x y : Operand} {xs ys : Array Value} {v : Value} (ho : o.op = .binOp .eql t x y t') (hx : a.eval x = .agg xs) (hy : a.eval y = .agg ys) (hm : P.eqGuardType P.depth t = false)
    (h : (binOp .eql t (.agg xs) (.agg ys)).run P w = .ok v w) : (execOp a.eval o).run P w = .ok (.value v) w := by
  unfold execOp; simp [ho, hx, hy, Sem.run_bind, run_eqGuard_agg w .eql t x y xs ys hm, h]
/-- A region that draws its order, whose first n operations leave the world alone, and whose others come behind them in their order. -/
theorem wp_region_tail {P : Program} {id : Nat} {Q : Exit → Act → World → Prop} {a : Act} {w : World} {l : List Oper} (n : Nat) (hm : P.follows .mixedOrders = true) (hB : Region.lexTailB .any l.toArray n = true)
    (h : wpStill P l.toArray w.drew (fun a' => wpList P l.toArray Q (l.drop n) a' w.drew) (l.take n) a) : (Code.region id l.toArray true).wp P Q a w := wp_region_still_tail n hm hB h
/-- Only at the operation that writes slot N; only at one that writes none. -/
theorem gate {P : Program} {ops : Array Oper} {rest : List Oper} {o : Oper} {a : Act} {w : World} {Q : Exit → Act → World → Prop} {N : Nat} (_ : o.dst = some N) (k : wpList P ops Q (o :: rest) a w) : wpList P ops Q (o :: rest) a w := k
theorem gateN {P : Program} {ops : Array Oper} {rest : List Oper} {o : Oper} {a : Act} {w : World} {Q : Exit → Act → World → Prop} (_ : o.dst = none) (k : wpList P ops Q (o :: rest) a w) : wpList P ops Q (o :: rest) a w := k
/-- One operation whose run is known. -/
theorem wpList_run {P : Program} {ops : Array Oper} {rest : List Oper} {o : Oper} {a : Act} {w : World} {Q : Exit → Act → World → Prop} (hgd : o.guard = none) (v : Value)
    (h : (execOp a.eval o).run P w = .ok (.value v) w) (k : wpList P ops Q rest (a.put o.dst v) w) : wpList P ops Q (o :: rest) a w :=
  wpList_plain hgd fun _ hK => by unfold Oper.wp; rw [h]; exact hK _ _ k

/-- An index into an array value. -/
theorem wpList_index {P : Program} {ops : Array Oper} {rest : List Oper} {o : Oper} {a : Act} {w : World} {Q : Exit → Act → World → Prop} (hgd : o.guard = none) (t : TypeId) (x y : Operand) (ho : o.op = .index t x y)
    (u v res : Value) (hx : a.eval x = u) (hy : a.eval y = v) (h : (Instr.index t u v).run P w = .ok res w) (k : wpList P ops Q rest (a.put o.dst res) w) : wpList P ops Q (o :: rest) a w :=
  wpList_run hgd res (by unfold execOp; simp [ho, hx, hy, h]) k
/-- A whole array or struct stored into the block that was just laid: the block holds it. -/
theorem setCells_new (W : World) (E : TypeId) : ∀ (vs : List Value) (o : Nat) (pre : List Value) (post : List Value), o = pre.length → post.length = vs.length →
    (W.alloc (.cells (pre ++ post).toArray E)).setCells W.heap.size o vs = W.alloc (.cells (pre ++ vs).toArray E)
  | [], o, pre, post, _, hl => by
    have : post = [] := by cases post <;> simp_all
    subst this; rfl
  | v :: vs, o, pre, post, ho, hl => by
    cases post with
    | nil => simp at hl
    | cons p post =>
      rw [World.setCells]
      have e : (W.alloc (.cells (pre ++ p :: post).toArray E)).setCell ⟨W.heap.size, o, none⟩ v = W.alloc (.cells ((pre ++ [v]) ++ post).toArray E) := by
        rw [World.setCell_alloc_at _ _ _ _ _ rfl]
        congr 2
        subst ho
        simp
      rw [e, setCells_new W E vs (o + 1) (pre ++ [v]) post (by simp [ho]) (by simpa using hl)]
      simp
theorem setCells_new' (W : World) (E : TypeId) (cs cells : Array Value) (h : cs.size = cells.size) : (W.alloc (.cells cs E)).setCells W.heap.size 0 cells.toList = W.alloc (.cells cells E) := by
  have := setCells_new W E cells.toList 0 [] cs.toList rfl (by simpa using h)
  simpa using this
theorem there_new (W : World) (E : TypeId) (cs : Array Value) : (W.alloc (.cells cs E)).there W.heap.size 0 cs.size := fun j hj => by
  have hg := heap_alloc_new W (.cells cs E)
  refine ⟨?_, ?_⟩
  · rw [cell_of_row _ W.heap.size (0 + j) _ _ _ hg]; simp [hj]
  · exact frozen_of_row _ W.heap.size (0 + j) _ _ hg
theorem wpList_store_new {P : Program} {ops : Array Oper} {rest : List Oper} {op : Oper} {a : Act} {W : World} {Q : Exit → Act → World → Prop} (hgd : op.guard = none) (ty : TypeId) (x y : Operand) (ho : op.op = .store ty x y)
    (cs cells : Array Value) (E : TypeId) (hx : a.eval x = .pointer (some ⟨W.heap.size, 0, none⟩)) (hy : a.eval y = .agg cells) (hs : cs.size = cells.size) (hi : (P.info? ty).map (·.size) = some cells.size) (h1 : cells.all (·.oneCell') = true)
    (h : wpList P ops Q rest (a.put op.dst undef) (W.alloc (.cells cells E))) : wpList P ops Q (op :: rest) a (W.alloc (.cells cs E)) :=
  wpList_store_mid hgd ty x y ho W.heap.size 0 cells hx hy (by rw [← hs]; exact there_new W E cs) hi h1 (by rw [setCells_new' W E cs cells hs]; exact h)

/-- The cells of a block behind a store of several of them. -/
def setAll : Array Value → Nat → List Value → Array Value
  | cs, _, [] => cs
  | cs, o, v :: r => setAll (cs.setIfInBounds o v) (o + 1) r
theorem size_setAll : ∀ (vs : List Value) (cs : Array Value) (o : Nat), (setAll cs o vs).size = cs.size
  | [], _, _ => rfl
  | v :: r, cs, o => by rw [setAll, size_setAll r]; simp
theorem setAll_get : ∀ (vs : List Value) (cs : Array Value) (o j : Nat), o + vs.length ≤ cs.size → (setAll cs o vs)[j]? = if o ≤ j ∧ j < o + vs.length then vs[j - o]? else cs[j]?
  | [], cs, o, j, _ => by rw [setAll, if_neg (by simp)]
  | v :: r, cs, o, j, h => by
    simp only [List.length_cons] at h
    rw [setAll, setAll_get r _ _ j (by simp; omega), Array.getElem?_setIfInBounds]
    by_cases h1 : o = j
    · subst h1
      rw [if_neg (by omega), if_pos rfl, if_pos (by omega), if_pos ⟨Nat.le_refl _, by simp⟩]; simp
    · by_cases h2 : o + 1 ≤ j ∧ j < o + 1 + r.length
      · rw [if_pos h2, if_pos ⟨by omega, by simp; omega⟩]
        have e : j - o = (j - (o + 1)) + 1 := by omega
        rw [e]; simp
      · rw [if_neg h2, if_neg h1, if_neg (by simp; omega)]
/-- Two arrays that hold the same at each place. -/
theorem setAll_eq {cs cs' : Array Value} {o : Nat} {vs : List Value} (hl : o + vs.length ≤ cs.size) (hs : cs'.size = cs.size) (h : ∀ j, j < cs.size → cs'[j]? = if o ≤ j ∧ j < o + vs.length then vs[j - o]? else cs[j]?) : setAll cs o vs = cs' := by
  apply Array.ext_getElem?
  intro j
  rw [setAll_get vs cs o j hl]
  by_cases hj : j < cs.size
  · exact (h j hj).symm
  · rw [if_neg (by omega), Array.getElem?_eq_none (by omega), Array.getElem?_eq_none (by omega)]
theorem setCells_heap (b : Nat) (T : TypeId) : ∀ (vs : List Value) (o : Nat) (W : World) (cs : Array Value), W.heap[b]? = some (.cells cs T (0, 0)) →
    (W.setCells b o vs).heap[b]? = some (.cells (setAll cs o vs) T (0, 0)) ∧ W.grownBy (W.setCells b o vs) (some b) ∧ (W.setCells b o vs).heap.size = W.heap.size
  | [], _, W, cs, h => ⟨h, ⟨rfl, rfl, rfl, Nat.le_refl _, fun _ _ _ => rfl⟩, rfl⟩
  | v :: r, o, W, cs, h => by
    have h1 := heap_setCell_same W b o cs T v h
    obtain ⟨i1, i2, i3⟩ := setCells_heap b T r (o + 1) (W.setCell ⟨b, o, none⟩ v) (cs.setIfInBounds o v) h1
    refine ⟨i1, ⟨i2.os, i2.tape, i2.output, ?_, fun k hk hne => ?_⟩, ?_⟩
    · rw [World.setCells, i3]; simp [World.setCell]
    · rw [World.setCells, i2.block k (by simpa [World.setCell] using hk) hne]
      exact heap_setCell_other W ⟨b, o, none⟩ k v (fun e => hne (by simp [e]))
    · rw [World.setCells, i3]; simp [World.setCell]
theorem there_block {W : World} {b : Nat} {cs : Array Value} {T : TypeId} (hb : W.heap[b]? = some (.cells cs T (0, 0))) (o n : Nat) (h : o + n ≤ cs.size) : W.there b o n := fun j hj => by
  refine ⟨?_, frozen_of_row _ b (o + j) _ _ hb⟩
  rw [cell_of_row _ b (o + j) _ _ _ hb]
  have : o + j < cs.size := by omega
  simp [this]
/-- A whole array or struct stored into a block that is known, from an offset on. -/
theorem wpList_store_block {P : Program} {ops : Array Oper} {rest : List Oper} {op : Oper} {a : Act} {W : World} {Q : Exit → Act → World → Prop} (hgd : op.guard = none) (ty : TypeId) (x y : Operand) (ho : op.op = .store ty x y)
    (b o : Nat) (cs cells cs' : Array Value) (T : TypeId) (hb : W.heap[b]? = some (.cells cs T (0, 0))) (hx : a.eval x = .pointer (some ⟨b, o, none⟩)) (hy : a.eval y = .agg cells) (hl : o + cells.size ≤ cs.size)
    (hi : (P.info? ty).map (·.size) = some cells.size) (h1 : cells.all (·.oneCell') = true) (he : setAll cs o cells.toList = cs')
    (h : ∀ w2, w2.heap[b]? = some (.cells cs' T (0, 0)) → W.grownBy w2 (some b) → w2.heap.size = W.heap.size → wpList P ops Q rest (a.put op.dst undef) w2) : wpList P ops Q (op :: rest) a W := by
  obtain ⟨i1, i2, i3⟩ := setCells_heap b T cells.toList o W cs hb
  rw [he] at i1
  exact wpList_store_mid hgd ty x y ho b o cells hx hy (there_block hb o cells.size hl) hi h1 (h _ i1 i2 i3)
theorem setAll_whole {cs cells : Array Value} (h : cs.size = cells.size) : setAll cs 0 cells.toList = cells :=
  setAll_eq (by simp [h]) h.symm fun j hj => by rw [if_pos ⟨Nat.zero_le _, by simp; omega⟩]; simp

theorem block_lt {W : World} {b : Nat} {o : Obj} (h : W.heap[b]? = some o) : b < W.heap.size := (Array.getElem?_eq_some_iff.1 h).1
theorem block_alloc {W : World} {b : Nat} {o : Obj} (h : W.heap[b]? = some o) (o' : Obj) : (W.alloc o').heap[b]? = some o := by rw [heap_alloc_old _ _ (block_lt h)]; exact h
theorem block_new1 {n : Nat} (W : World) (o : Obj) (h : n = W.heap.size) : (W.alloc o).heap[n]? = some o := h ▸ heap_alloc_new W o
theorem block_set_other {W : World} {b : Nat} {o : Obj} (h : W.heap[b]? = some o) {a : Addr} (v : Value) (hne : b ≠ a.block) : (W.setCell a v).heap[b]? = some o := (heap_setCell_other W a b v hne).trans h
theorem block_below {B : Nat} {W W' : World} (hb : Below B W W') {b : Nat} {o : Obj} (h : W.heap[b]? = some o) (hlt : b < B) : W'.heap[b]? = some o := (hb.block b hlt).trans h
theorem block_grown {W W' : World} {b row : Nat} {o : Obj} (hg : W.grownBy W' (some row)) (h : W.heap[b]? = some o) (hne : b ≠ row) : W'.heap[b]? = some o := (hg.block b (block_lt h) (fun e => hne (by simpa using e))).trans h
theorem cell_block {W : World} {b j : Nat} {cs : Array Value} {T : TypeId} {fr : Nat × Nat} {v : Value} (h : W.heap[b]? = some (.cells cs T fr)) (hv : cs[j]? = some v) : W.cell? ⟨b, j, none⟩ = some v := (cell_of_row W b j cs T fr h).trans hv

/-! ### Arrays as values -/
theorem run_isAgg_array {P : Program} {t : TypeId} {n : Nat} {e : TypeId} (h : P.underlying t = some (.array n e)) (w : World) : (isAgg t).run P w = .ok true w := by
  unfold isAgg
  rw [Sem.run_bind, run_underlying h w]
  rfl
/-- An element that is itself an array, out of an array value. -/
theorem run_index_row {P : Program} (w : World) (t e : TypeId) (n m : Nat) (e' : TypeId) (cs : Array Value) (k : IntKind) (i : Nat) (hu : P.underlying t = some (.array n e)) (he : P.underlying e = some (.array m e'))
    (hs : (P.info? e).map (·.size) = some m) (hi : i < n) : (Instr.index t (.agg cs) (.int k (i : Int))).run P w = .ok (.agg (cs.extract (i * m) (i * m + m))) w := by
  have ha := run_isAgg_array he w
  cases hq : P.info? e with
  | none => simp [hq] at hs
  | some inf =>
    have hs' : inf.size = m := by simpa [hq] using hs
    have h1 : (0 : Int) ≤ (i : Int) ∧ (i : Int) < (n : Int) := ⟨by omega, by omega⟩
    simp [Instr.index, asIntOf, run_underlying hu w, part, ha, sizeOf, typeInfo, hq, hs', h1, Sem.run_bind]
    omega
end Go.Proofs.Ytfijinbdpfeceaa

/- A region that draws its order, by an invariant of one's own. -/
namespace Go.Proofs.Ytfijinbdpfeceaa
open Go.RowKit
set_option linter.unusedSimpArgs false
set_option linter.unusedVariables false

/-- Each edge that binds leads back. -/
def backB (l : List Oper) : Bool := l.zipIdx.all fun x => x.1.after.all fun e => !Region.binds .any e || decide (e.on < x.2)
theorem backB_of {l : List Oper} (h : backB l = true) (i : Nat) (o : Oper) (ho : l[i]? = some o) (e : Edge) (he : e ∈ o.after) (hb : Region.binds .any e = true) : e.on < i := by
  unfold backB at h
  rw [List.all_eq_true] at h
  have h1 := h (o, i) (by rw [List.mk_mem_zipIdx_iff_getElem?]; exact ho)
  simp only [Array.all_eq_true_iff_forall_mem] at h1
  have h2 := h1 e he
  simpa [hb] using h2
/-- The operations that have been carried out, and one more. -/
def plus (L : Nat → Bool) (i : Nat) : Nat → Bool := fun j => if j = i then true else L j
theorem wpAny_inv {P : Program} {l : List Oper} {Q : Exit → Act → World → Prop} (Inv : (Nat → Bool) → Act → World → Prop) (hback : backB l = true)
    (hstep : ∀ L a w i o, l[i]? = some o → L i = false → (∀ e ∈ o.after, Region.binds .any e = true → L e.on = true) → Inv L a w →
      if Region.wanted o (yielded l.toArray a.tmps) then o.wp P a w (Inv (plus L i)) Q else Inv (plus L i) (a.put o.dst undef) w)
    (hend : ∀ L a w, (∀ i, i < l.length → L i = true) → Inv L a w → Q .normal a w) :
    ∀ (fuel : Nat) (listed : Array Bool) (a : Act) (w : World), listed.size = l.length → ((List.range l.length).filter fun i => !listed.getD i true).length ≤ fuel →
      Inv (fun i => listed.getD i true) a w → wpAny P .any l.toArray Q fuel listed a w := by
  have hall : ∀ listed : Array Bool, listed.size = l.length → Region.ready .any l.toArray listed = [] → ∀ i, i < l.length → listed.getD i true = true := by
    intro listed hs hr
    have key : ∀ i, (∀ j, j < i → j < l.length → listed.getD j true = true) → i < l.length → listed.getD i true = true := by
      intro i hj hi
      cases hl : listed.getD i true with
      | true => rfl
      | false =>
        exfalso
        have hm : i ∈ Region.ready .any l.toArray listed := by
          unfold Region.ready
          rw [List.mem_filter]
          refine ⟨by simpa using hi, ?_⟩
          have ho : l[i]? = some l[i] := List.getElem?_eq_getElem hi
          simp only [hl, Bool.not_false, Bool.true_and, List.getElem?_toArray, ho, Option.map_some, Option.getD_some]
          rw [Array.all_eq_true_iff_forall_mem]
          intro e he
          cases hb : Region.binds .any e with
          | false => simp
          | true =>
            have h1 := backB_of hback i _ ho e he hb
            have h2 := hj e.on h1 (by omega)
            have h3 : e.on < listed.size := by omega
            simp only [Array.getD_eq_getD_getElem?, Array.getElem?_eq_getElem h3, Option.getD_some] at h2 ⊢
            simp [h2]
        rw [hr] at hm
        cases hm
    intro i
    induction i using Nat.strongRecOn with
    | _ i ih => exact fun hi => key i (fun j hj hjl => ih j hj hjl) hi
  intro fuel
  induction fuel with
  | zero =>
    intro listed a w hs hc hI
    have hr : Region.ready .any l.toArray listed = [] := by
      rw [List.eq_nil_iff_forall_not_mem]
      intro i hi
      unfold Region.ready at hi
      rw [List.mem_filter] at hi
      have : i ∈ (List.range l.length).filter fun i => !listed.getD i true := by
        rw [List.mem_filter]
        refine ⟨by simpa using hi.1, ?_⟩
        have := hi.2
        rw [Bool.and_eq_true] at this
        exact this.1
      rw [List.length_eq_zero_iff.1 (Nat.le_zero.1 hc)] at this
      cases this
    exact ⟨hr, hend _ _ _ (hall listed hs hr) hI⟩
  | succ fuel ih =>
    intro listed a w hs hc hI
    refine ⟨fun hr => hend _ _ _ (hall listed hs hr) hI, fun i hi => ?_⟩
    unfold Region.ready at hi
    rw [List.mem_filter] at hi
    obtain ⟨hi1, hi2⟩ := hi
    have hil : i < l.length := by simpa using hi1
    have ho : l[i]? = some l[i] := List.getElem?_eq_getElem hil
    rw [Bool.and_eq_true] at hi2
    obtain ⟨hn, he⟩ := hi2
    have hn' : listed.getD i true = false := by simpa using hn
    have hsi : i < listed.size := by omega
    simp only [List.getElem?_toArray, ho, Option.map_some, Option.getD_some, Array.all_eq_true_iff_forall_mem] at he
    have hL : (fun j => (listed.setIfInBounds i true).getD j true) = plus (fun j => listed.getD j true) i := by
      funext j
      unfold plus
      by_cases hj : j = i
      · subst hj; simp [Array.getD_eq_getD_getElem?, hsi]
      · rw [if_neg hj]; simp [Array.getD_eq_getD_getElem?, Array.getElem?_setIfInBounds_ne (Ne.symm hj)]
    have hcount : ((List.range l.length).filter fun j => !(listed.setIfInBounds i true).getD j true).length ≤ fuel := by
      have hsub : ((List.range l.length).filter fun j => !(listed.setIfInBounds i true).getD j true).length < ((List.range l.length).filter fun j => !listed.getD j true).length := by
        have e : ((List.range l.length).filter fun j => !(listed.setIfInBounds i true).getD j true) = (((List.range l.length).filter fun j => !listed.getD j true).filter fun j => decide (j ≠ i)) := by
          rw [List.filter_filter]
          apply List.filter_congr
          intro j _
          have := congrFun hL j
          rw [this]
          unfold plus
          by_cases hj : j = i <;> simp [hj]
        rw [e]
        apply List.length_filter_lt_length_iff_exists.2
        exact ⟨i, by rw [List.mem_filter]; exact ⟨by simpa using hil, by simp [hn']⟩, by simp⟩
      omega
    have hs' := hstep (fun j => listed.getD j true) a w i _ ho hn' (fun e hmem hb => by
      have := he e hmem
      simp only [hb, Bool.not_true, Bool.false_or] at this
      have h3 : e.on < listed.size := by have := backB_of hback i _ ho e hmem hb; omega
      simp only [Array.getD_eq_getD_getElem?, Array.getElem?_eq_getElem h3, Option.getD_some] at this ⊢
      exact this) hI
    have ih' := fun a w (h : Inv (plus (fun j => listed.getD j true) i) a w) => ih (listed.setIfInBounds i true) a w (by simpa using hs) hcount (by rw [hL]; exact h)
    unfold wpOp
    simp only [List.getElem?_toArray, ho]
    split
    · rename_i hw
      rw [if_pos hw] at hs'
      exact .inl (Oper.wp_mono ih' hs')
    · rename_i hw
      rw [if_neg hw] at hs'
      exact ih' _ _ hs'
theorem wp_region_inv {P : Program} {id : Nat} {Q : Exit → Act → World → Prop} {a : Act} {w : World} {l : List Oper} (hm : P.follows .mixedOrders = true) (hback : backB l = true) (Inv : (Nat → Bool) → Act → World → Prop)
    (h0 : ∀ L, (∀ i, i < l.length → L i = false) → Inv L a w.drew)
    (hstep : ∀ L a w i o, l[i]? = some o → L i = false → (∀ e ∈ o.after, Region.binds .any e = true → L e.on = true) → Inv L a w →
      if Region.wanted o (yielded l.toArray a.tmps) then o.wp P a w (Inv (plus L i)) Q else Inv (plus L i) (a.put o.dst undef) w)
    (hend : ∀ L a w, (∀ i, i < l.length → L i = true) → Inv L a w → Q .normal a w) : (Code.region id l.toArray true).wp P Q a w := by
  refine wp_region_any hm (wpAny_inv Inv hback hstep hend _ _ a _ (by simp) ?_ ?_)
  · exact Nat.le_trans (List.length_filter_le _ _) (by simp)
  · refine h0 _ fun i hi => ?_
    simp [Array.getD_eq_getD_getElem?, hi]
end Go.Proofs.Ytfijinbdpfeceaa

/- Roofs and places as values: their cells, and how the walk reads them. -/
namespace Go.Proofs.Ytfijinbdpfeceaa
open Go.RowKit
set_option linter.unusedVariables false
set_option linter.unusedSimpArgs false

/-- A roof: Wide, High, Shift, and the 64 kinds. -/
structure Rf where
  w : Int
  h : Int
  s : Int
  t : List Int
/-- The numbers are of their kinds. -/
structure Rf.Ok (r : Rf) : Prop where
  w1 : -128 ≤ r.w
  w2 : r.w ≤ 127
  h1 : -128 ≤ r.h
  h2 : r.h ≤ 127
  s1 : 0 ≤ r.s
  s2 : r.s ≤ 255
  len : r.t.length = 64
  t1 : ∀ n ∈ r.t, 0 ≤ n ∧ n ≤ 255
/-- The kind at a course and an index. -/
def Rf.at (r : Rf) (i k : Nat) : Int := r.t.getD (8 * i + k) 0
theorem Rf.Ok.at {r : Rf} (h : r.Ok) (i k : Nat) : 0 ≤ r.at i k ∧ r.at i k ≤ 255 := by
  unfold Rf.at
  by_cases hj : 8 * i + k < r.t.length
  · have := h.t1 r.t[8 * i + k] (List.getElem_mem hj)
    simp [List.getD, List.getElem?_eq_getElem hj]; omega
  · simp [List.getD, List.getElem?_eq_none (by omega : r.t.length ≤ 8 * i + k)]
theorem Rf.ext_at {r r' : Rf} (h : r.Ok) (h' : r'.Ok) (hw : r.w = r'.w) (hh : r.h = r'.h) (hs : r.s = r'.s) (ht : ∀ i k, i < 8 → k < 8 → r.at i k = r'.at i k) : r = r' := by
  cases r with | mk w h0 s t =>
  cases r' with | mk w' h0' s' t' =>
  obtain rfl := hw; obtain rfl := hh; obtain rfl := hs
  congr 1
  apply List.ext_getElem?
  intro j
  by_cases hj : j < 64
  · have := ht (j / 8) (j % 8) (by omega) (by omega)
    unfold Rf.at at this
    have e : 8 * (j / 8) + j % 8 = j := by omega
    rw [e] at this
    have l1 : j < t.length := by rw [h.len]; exact hj
    have l2 : j < t'.length := by rw [h'.len]; exact hj
    simpa [List.getD, List.getElem?_eq_getElem l1, List.getElem?_eq_getElem l2] using this
  · rw [List.getElem?_eq_none (by rw [h.len]; omega), List.getElem?_eq_none (by rw [h'.len]; omega)]
/-- The cells of the 64 kinds; of one course; of the whole roof. -/
def tcells (t : List Int) : Array Value := (t.map (Value.int .u8)).toArray
def trow (t : List Int) (i : Nat) : List Int := (t.drop (8 * i)).take 8
def rcells (r : Rf) : Array Value := (Value.int .i8 r.w :: Value.int .i8 r.h :: Value.int .u8 r.s :: r.t.map (Value.int .u8)).toArray
@[go_sem] theorem rc0 (r : Rf) : (rcells r)[0]? = some (.int .i8 r.w) := by simp [rcells]
@[go_sem] theorem rc1 (r : Rf) : (rcells r)[1]? = some (.int .i8 r.h) := by simp [rcells]
@[go_sem] theorem rc2 (r : Rf) : (rcells r)[2]? = some (.int .u8 r.s) := by simp [rcells]
theorem size_tcells (t : List Int) : (tcells t).size = t.length := by simp [tcells]
@[go_sem] theorem size_rcells (r : Rf) : (rcells r).size = 3 + r.t.length := by simp [rcells]; omega
theorem rct (r : Rf) (h : r.Ok) (j : Nat) (hj : j < 64) : (rcells r)[3 + j]? = some (.int .u8 (r.t.getD j 0)) := by
  have hl : j < r.t.length := by rw [h.len]; exact hj
  have e : 3 + j = j + 1 + 1 + 1 := by omega
  rw [e]
  simp only [rcells, List.getElem?_toArray, List.getElem?_cons_succ, List.getElem?_map, List.getElem?_eq_getElem hl, Option.map_some, List.getD, Option.getD_some]
theorem tc_at (t : List Int) (j : Nat) (hj : j < t.length) : (tcells t)[j]? = some (.int .u8 (t.getD j 0)) := by
  simp only [tcells, List.getElem?_toArray, List.getElem?_map, List.getElem?_eq_getElem hj, Option.map_some, List.getD, Option.getD_some]
theorem extract_tcells (t : List Int) (i : Nat) : (tcells t).extract (i * 8) (i * 8 + 8) = tcells (trow t i) := by
  apply Array.toList_inj.1
  simp [tcells, trow, Array.toList_extract, List.map_drop, List.map_take, Nat.mul_comm]
theorem len_trow (t : List Int) (ht : t.length = 64) (i : Nat) (hi : i < 8) : (trow t i).length = 8 := by simp [trow, ht]; omega
theorem trow_at (t : List Int) (i k : Nat) (hk : k < 8) : (trow t i).getD k 0 = t.getD (8 * i + k) 0 := by
  simp [trow, List.getD, List.getElem?_take, hk, List.getElem?_drop]
theorem range_tiles {W : World} {b : Nat} {r : Rf} {T : TypeId} {fr : Nat × Nat} (hb : W.heap[b]? = some (.cells (rcells r) T fr)) : W.rangeAt b 3 (r.t.map (Value.int .u8)) := fun j v hv => by
  rw [cell_of_row W b (3 + j) _ _ _ hb]
  have e : 3 + j = j + 1 + 1 + 1 := by omega
  rw [e]
  simpa [rcells] using hv
theorem range_roof {W : World} {b : Nat} {r : Rf} {T : TypeId} {fr : Nat × Nat} (hb : W.heap[b]? = some (.cells (rcells r) T fr)) : W.rangeAt b 0 (rcells r).toList := fun j v hv => by
  rw [cell_of_row W b (0 + j) _ _ _ hb]
  simpa using hv
theorem range_row {W : World} {b : Nat} {t : List Int} {T : TypeId} {fr : Nat × Nat} (hb : W.heap[b]? = some (.cells (tcells t) T fr)) : W.rangeAt b 0 (t.map (Value.int .u8)) := fun j v hv => by
  rw [cell_of_row W b (0 + j) _ _ _ hb]
  simpa [tcells] using hv
/-- A course in the midst of a block that holds kinds from offset o on. -/
theorem range_mid {W : World} {b o : Nat} {cs : Array Value} {t : List Int} {T : TypeId} {fr : Nat × Nat} (hb : W.heap[b]? = some (.cells cs T fr)) (hcs : ∀ j, j < t.length → cs[o + j]? = some (.int .u8 (t.getD j 0))) (i : Nat) (ht : t.length = 64) (hi : i < 8) :
    W.rangeAt b (o + i * 8) ((trow t i).map (Value.int .u8)) := fun j v hv => by
  have hj : j < 8 := by have := (List.getElem?_eq_some_iff.1 hv).1; simpa [len_trow t ht i hi] using this
  rw [cell_of_row W b (o + i * 8 + j) _ _ _ hb]
  have e : o + i * 8 + j = o + (8 * i + j) := by omega
  rw [e, hcs _ (by omega), ← trow_at t i j hj]
  have hl : j < (trow t i).length := by rw [len_trow t ht i hi]; exact hj
  rw [List.getElem?_map, List.getElem?_eq_getElem hl] at hv
  simp only [Option.map_some, Option.some.injEq] at hv
  rw [← hv, List.getD, List.getElem?_eq_getElem hl, Option.getD_some]
theorem rcells_one (r : Rf) : (rcells r).all (·.oneCell') = true := by simp [rcells, Value.oneCell']
theorem tcells_one (t : List Int) : (tcells t).all (·.oneCell') = true := by simp [tcells, Value.oneCell']
/-- The empty roof. -/
def Rf.zero : Rf := ⟨0, 0, 0, List.replicate 64 0⟩
theorem Rf.zero_ok : Rf.zero.Ok := ⟨by decide, by decide, by decide, by decide, by decide, by decide, by decide, by decide⟩

theorem Try.infoRow : (Try.prog.info? 23).map (·.size) = some 8 := by kernel_rfl
theorem Try.infoTiles : (Try.prog.info? 24).map (·.size) = some 64 := by kernel_rfl
theorem Try.infoRoof : (Try.prog.info? 27).map (·.size) = some 67 := by kernel_rfl
@[go_sem] theorem Try.zeroRoofCells : Try.zeroCells27 = rcells Rf.zero := by kernel_rfl
@[go_sem high] theorem Try.zeroRoof (w : World) : (zeroValue 27).run Try.prog w = .ok (.agg (rcells Rf.zero)) w := by kernel_rfl
section
variable {ops : Array Oper} {rest : List Oper} {o : Oper} {a : Act} {w : World} {Q : Exit → Act → World → Prop}
/-- All kinds, loaded out of a roof in memory. -/
theorem wp_tiles (hgd : o.guard = none) (x : Operand) (ho : o.op = .load 24 x) (b : Nat) (hx : a.eval x = .pointer (some ⟨b, 3, none⟩)) (r : Rf) (hr : r.Ok) {T : TypeId} {fr : Nat × Nat}
    (hb : w.heap[b]? = some (.cells (rcells r) T fr)) (h : wpList Try.prog ops Q rest (a.put o.dst (.agg (tcells r.t))) w) : wpList Try.prog ops Q (o :: rest) a w :=
  wpList_load_mid hgd 24 x ho b 3 hx (r.t.map (Value.int .u8)) _ (range_tiles hb) Try.underlying24 rfl (by rw [Try.infoTiles]; simp [hr.len]) h
theorem run_load_mid8 {w : World} {b o : Nat} {t : List Int} (ht : t.length = 8) (hr : w.rangeAt b o (t.map (Value.int .u8))) : (Instr.loadAt 23 (.pointer (some ⟨b, o, none⟩))).run Try.prog w = .ok (.agg (tcells t)) w :=
  run_loadAt_mid w b o 23 (t.map (Value.int .u8)) _ hr Try.underlying23 rfl (by rw [Try.infoRow]; simp [ht])
theorem run_load_roof (T' : TypeId) {d : TypeDesc} (hu : Try.prog.underlying T' = some d) (hd : d.isRow = true) (hi : (Try.prog.info? T').map (·.size) = some 67) {w : World} {b : Nat} {r : Rf} (hr : r.Ok) {T : TypeId} {fr : Nat × Nat} (hb : w.heap[b]? = some (.cells (rcells r) T fr)) :
    (Instr.loadAt T' (.pointer (some ⟨b, 0, none⟩))).run Try.prog w = .ok (.agg (rcells r)) w := by
  have := run_loadAt_mid w b 0 T' (rcells r).toList _ (range_roof hb) hu hd (by rw [hi]; simp [size_rcells, hr.len])
  simpa using this
/-- A whole roof, loaded. -/
theorem wp_roof (T' : TypeId) {d : TypeDesc} (hu : Try.prog.underlying T' = some d) (hd : d.isRow = true) (hi : (Try.prog.info? T').map (·.size) = some 67) (hgd : o.guard = none) (x : Operand) (ho : o.op = .load T' x) (b : Nat) (hx : a.eval x = .pointer (some ⟨b, 0, none⟩)) (r : Rf) (hr : r.Ok) {T : TypeId} {fr : Nat × Nat}
    (hb : w.heap[b]? = some (.cells (rcells r) T fr)) (h : wpList Try.prog ops Q rest (a.put o.dst (.agg (rcells r))) w) : wpList Try.prog ops Q (o :: rest) a w :=
  wpList_load_mid hgd T' x ho b 0 hx (rcells r).toList _ (range_roof hb) hu hd (by rw [hi]; simp [size_rcells, hr.len]) (by simpa using h)
/-- A course, loaded out of a block of its own. -/
theorem wp_row (hgd : o.guard = none) (x : Operand) (ho : o.op = .load 23 x) (b : Nat) (hx : a.eval x = .pointer (some ⟨b, 0, none⟩)) (t : List Int) (ht : t.length = 8) {T : TypeId} {fr : Nat × Nat}
    (hb : w.heap[b]? = some (.cells (tcells t) T fr)) (h : wpList Try.prog ops Q rest (a.put o.dst (.agg (tcells t))) w) : wpList Try.prog ops Q (o :: rest) a w :=
  wpList_load_mid hgd 23 x ho b 0 hx (t.map (Value.int .u8)) _ (range_row hb) Try.underlying23 rfl (by rw [Try.infoRow]; simp [ht]) h
/-- A course, stored into the block that was just laid for it. -/
theorem wp_store_row (hgd : o.guard = none) (x y : Operand) (ho : o.op = .store 23 x y) (cs : Array Value) (hs : cs.size = 8) (t : List Int) (ht : t.length = 8) {T : TypeId}
    (hx : a.eval x = .pointer (some ⟨w.heap.size, 0, none⟩)) (hy : a.eval y = .agg (tcells t))
    (h : wpList Try.prog ops Q rest (a.put o.dst undef) (w.alloc (.cells (tcells t) T))) : wpList Try.prog ops Q (o :: rest) a (w.alloc (.cells cs T)) :=
  wpList_store_new hgd 23 x y ho cs (tcells t) T hx hy (by rw [size_tcells, ht, hs]) (by rw [Try.infoRow, size_tcells, ht]) (tcells_one t) h
end
theorem res_roof {fn : Func} {p u : Tmp} (h : fn.results = #[.cell p 27, .tmp u]) (tmps : Array Value) (w : World) (g : Nat) (R : Rf) (hr : R.Ok) {T : TypeId} {fr : Nat × Nat} (v : Value) (hp : tmps.getD p undef = .pointer (some ⟨g, 0, none⟩))
    (hg : w.heap[g]? = some (.cells (rcells R) T fr)) (hv : tmps.getD u undef = v) : (results fn tmps).run Try.prog w = .ok (.tuple #[.agg (rcells R), v]) w := by
  have hl := run_loadVar_mid (P := Try.prog) w g 0 27 (rcells R).toList _ (range_roof hg) Try.underlying27 rfl (by rw [Try.infoRoof]; simp [size_rcells, hr.len])
  rw [results_cell_tmp h, hp, hv]
  have e : (rcells R).toList.toArray = rcells R := by simp
  rw [e] at hl
  simp [asAddr, hl]
/-- A whole roof stored into a block that holds one. -/
theorem wp_store_roof {ops : Array Oper} {rest : List Oper} {op : Oper} {a : Act} {W : World} {Q : Exit → Act → World → Prop} (hgd : op.guard = none) (x y : Operand) (ho : op.op = .store 27 x y) (b : Nat) (S R : Rf) (hs : S.Ok) (hr : R.Ok) {T : TypeId}
    (hb : W.heap[b]? = some (.cells (rcells S) T (0, 0))) (hx : a.eval x = .pointer (some ⟨b, 0, none⟩)) (hy : a.eval y = .agg (rcells R))
    (h : ∀ w2, w2.heap[b]? = some (.cells (rcells R) T (0, 0)) → W.grownBy w2 (some b) → w2.heap.size = W.heap.size → wpList Try.prog ops Q rest (a.put op.dst undef) w2) : wpList Try.prog ops Q (op :: rest) a W :=
  wpList_store_block hgd 27 x y ho b 0 (rcells S) (rcells R) (rcells R) T hb hx hy (by rw [size_rcells, size_rcells, hs.len, hr.len]; omega) (by rw [Try.infoRoof, size_rcells, hr.len]) (rcells_one R) (setAll_whole (by rw [size_rcells, size_rcells, hs.len, hr.len])) h
theorem run_build_zero (w : World) : (Instr.build 27 #[]).run Try.prog w = .ok (.agg (rcells Rf.zero)) w := by kernel_rfl
theorem run_build_roof (w : World) (a b c : Int) : (Instr.build 27 #[(0, .int .i8 a), (1, .int .i8 b), (2, .int .u8 c)]).run Try.prog w = .ok (.agg (rcells ⟨a, b, c, List.replicate 64 0⟩)) w := by kernel_rfl
theorem setAll_roof {cs : Array Value} {r : Rf} (hr : r.Ok) (hs : cs.size = 67) (h0 : cs[0]? = some (.int .i8 r.w)) (h1 : cs[1]? = some (.int .i8 r.h)) (h2 : cs[2]? = some (.int .u8 r.s)) : setAll cs 3 (tcells r.t).toList = rcells r := by
  apply setAll_eq
  · simp [size_tcells, hr.len, hs]
  · simp [size_rcells, hr.len, hs]
  · intro j hj
    by_cases h : 3 ≤ j ∧ j < 3 + (tcells r.t).toList.length
    · rw [if_pos h, Array.getElem?_toList]
      have hj2 : j - 3 < 64 := by simp [size_tcells, hr.len] at h; omega
      have e : j = 3 + (j - 3) := by omega
      rw [tc_at _ _ (by rw [hr.len]; exact hj2), e, rct r hr _ hj2, ← e]
    · rw [if_neg h]
      have : j < 3 := by simp [size_tcells, hr.len] at h; omega
      match j, this with
      | 0, _ => rw [h0]; exact rc0 r
      | 1, _ => rw [h1]; exact rc1 r
      | 2, _ => rw [h2]; exact rc2 r
/-- A course out of the kinds. -/
theorem run_tiles (w : World) (t : List Int) (k : IntKind) (i : Nat) (hi : i < 8) : (Instr.index 24 (.agg (tcells t)) (.int k (i : Int))).run Try.prog w = .ok (.agg (tcells (trow t i))) w := by
  rw [run_index_row w _ 23 8 8 5 _ k i Try.underlying24 Try.underlying23 Try.infoRow hi, extract_tcells]
/-- A kind out of a course. -/
theorem run_kind (w : World) (t : List Int) (ht : t.length = 8) (k : IntKind) (i : Nat) (hi : i < 8) : (Instr.index 23 (.agg (tcells t)) (.int k (i : Int))).run Try.prog w = .ok (.int .u8 (t.getD i 0)) w := by
  have h1 : (0 : Int) ≤ (i : Int) ∧ (i : Int) < ((8 : Nat) : Int) := ⟨by omega, by omega⟩
  have hq : (Try.prog.info? 5).map (·.size) = some 1 := by kernel_rfl
  have ha : (isAgg 5).run Try.prog w = .ok false w := by kernel_rfl
  cases hi' : Try.prog.info? 5 with
  | none => simp [hi'] at hq
  | some inf =>
    have hs : inf.size = 1 := by simpa [hi'] using hq
    have := tc_at t i (by omega)
    simp only [Instr.index, asIntOf, Sem.run_bind, Sem.run_pure, Result.andThen_ok, run_underlying Try.underlying23 w]
    rw [if_pos h1]
    simp [part, ha, sizeOf, typeInfo, hi', hs, Sem.run_bind, this]
end Go.Proofs.Ytfijinbdpfeceaa

/- A region that draws its order, of quiet operations, one 'alloc' and one store to what it made: walked once. -/
namespace Go.Proofs.Ytfijinbdpfeceaa
open Go.RowKit
set_option linter.unusedSimpArgs false
set_option linter.unusedVariables false

/-- An operation under a guard that says yes, its run known. -/
theorem wpList_runG {P : Program} {ops : Array Oper} {rest : List Oper} {o : Oper} {a : Act} {w : World} {Q : Exit → Act → World → Prop} (hw : Region.wanted o (yielded ops a.tmps) = true) (v : Value)
    (h : (execOp a.eval o).run P w = .ok (.value v) w) (k : wpList P ops Q rest (a.put o.dst v) w) : wpList P ops Q (o :: rest) a w :=
  BigFrame.wpList_want hw fun _ hK => by unfold Oper.wp; rw [h]; exact hK _ _ k
theorem wpQuiet_runG {P : Program} {ops : Array Oper} {C : World → Prop} {Q : Act → Prop} {a : Act} {o : Oper} {rest : List Oper} {N : Nat} (_ : o.dst = some N) (hw : Region.wanted o (yielded ops a.tmps) = true) (v : Value)
    (h : ∀ w', C w' → (execOp a.eval o).run P w' = .ok (.value v) w') (k : wpQuiet P ops C Q rest (a.put o.dst v)) : wpQuiet P ops C Q (o :: rest) a :=
  wpQuiet_step fun K hK => by
    rw [if_pos hw]
    exact ⟨v, fun w' hw' => by unfold Oper.quietAt; rw [h w' hw']; exact ⟨rfl, rfl⟩, hK _ k⟩
theorem hstore {B : Nat} {W0 wr w2 : World} {cs : Array Value} {T : TypeId} (hB : Hid (B ≤ W0.heap.size)) (h : Hid (Below B W0 wr)) (hg : (wr.alloc (.cells cs T)).grownBy w2 (some wr.heap.size)) : Hid (Below B W0 w2) :=
  (h.out.alloc (Nat.le_trans hB.out h.out.size) _).grown hg (by have := Nat.le_trans hB.out h.out.size; simp; omega) (fun k hk => by cases hk; exact Nat.le_trans hB.out h.out.size)
theorem wpStill_run {P : Program} {ops : Array Oper} {w : World} {Q : Act → Prop} {a : Act} {o : Oper} {rest : List Oper} {N : Nat} (_ : o.dst = some N) (hgd : o.guard = none) (v : Value)
    (h : (execOp a.eval o).run P w = .ok (.value v) w) (k : wpStill P ops w Q rest (a.put o.dst v)) : wpStill P ops w Q (o :: rest) a :=
  wpStill_step fun K hK => by
    rw [if_pos (by simp [Region.wanted, hgd])]
    unfold Oper.still; rw [h]; exact ⟨rfl, hK _ k⟩
/-- A world above W from B on, whose blocks bear what S says. -/
structure ExtS (B : Nat) (W : World) (S : Nat → Option Obj) where
  w : World
  h : Below B W w
  s : ∀ p o, S p = some o → w.heap[p]? = some o
def ExtS.out {B : Nat} {W : World} {S : Nat → Option Obj} (x : ExtS B W S) : World := x.w
@[go_sem] theorem ExtS.cell {B : Nat} {W : World} {S : Nat → Option Obj} (x : ExtS B W S) (b o : Nat) (h : b < B) : x.out.cell? ⟨b, o, none⟩ = W.cell? ⟨b, o, none⟩ := x.h.cell (p := ⟨b, o, none⟩) h
@[go_sem] theorem ExtS.frozen {B : Nat} {W : World} {S : Nat → Option Obj} (x : ExtS B W S) (b o : Nat) (h : b < B) : x.out.frozen? ⟨b, o, none⟩ = W.frozen? ⟨b, o, none⟩ := x.h.frozen (p := ⟨b, o, none⟩) h
theorem Calls.extS {P : Program} {f : FuncId} {args : Array Value} {B : Nat} {W : World} {S : Nat → Option Obj} {x : ExtS B W S} {v : Value} (hB : B ≤ W.heap.size)
    (h : Calls P f args x.out fun e w' => e = .returned v ∧ Below x.out.heap.size x.out w') : Calls P f args x.out fun e w' => e = .returned v ∧ ∃ y : ExtS B W S, w' = y.out :=
  h.mono fun _ _ ⟨he, hb⟩ => ⟨he, ⟨_, x.h.trans (hb.mono (Nat.le_trans hB x.h.size)), fun p o hp => block_below hb (x.s p o hp) (block_lt (x.s p o hp))⟩, rfl⟩
theorem Calls.extS_same {P : Program} {f : FuncId} {args : Array Value} {B : Nat} {W : World} {S : Nat → Option Obj} {x : ExtS B W S} {v : Value}
    (h : Calls P f args x.out fun e w' => e = .returned v ∧ x.out = w') : Calls P f args x.out fun e w' => e = .returned v ∧ ∃ y : ExtS B W S, w' = y.out :=
  h.mono fun _ _ ⟨he, hb⟩ => ⟨he, x, hb.symm⟩
abbrev ClsS (B : Nat) (W : World) (S : Nat → Option Obj) : World → Prop := fun w' => ∃ x : ExtS B W S, w' = x.out

/-- What a walk of the operations one after another has shown of each. -/
def StepsS (P : Program) (ops : Array Oper) (C : World → Prop) : List Oper → List Value → Act → Prop
  | [], [], _ => True
  | o :: rest, v :: vs, a => YieldsIn P ops C o v a ∧ StepsS P ops C rest vs (a.put o.dst v)
  | _, _, _ => False
def putsS : List Oper → List Value → Act → Act
  | o :: rest, v :: vs, a => putsS rest vs (a.put o.dst v)
  | _, _, a => a
theorem stepsS_of {P : Program} {ops : Array Oper} {C : World → Prop} {Q : Act → Prop} : ∀ (l : List Oper) (a : Act), wpQuiet P ops C Q l a → ∃ vs, StepsS P ops C l vs a ∧ Q (putsS l vs a)
  | [], a, h => ⟨[], trivial, h⟩
  | o :: rest, a, h => by
    unfold wpQuiet at h
    split at h
    · rename_i hw
      obtain ⟨v, h1, h2⟩ := h
      obtain ⟨vs, h3, h4⟩ := stepsS_of rest _ h2
      exact ⟨v :: vs, ⟨.inl ⟨hw, h1⟩, h3⟩, h4⟩
    · rename_i hw
      obtain ⟨vs, h3, h4⟩ := stepsS_of rest _ h
      exact ⟨undef :: vs, ⟨.inr ⟨by simpa using hw, rfl⟩, h3⟩, h4⟩
theorem put_size (a : Act) (d : Option Tmp) (v : Value) : (a.put d v).tmps.size = a.tmps.size := by cases d <;> simp [Act.put]
theorem put_defers' (a : Act) (d : Option Tmp) (v : Value) : (a.put d v).defers = a.defers := by cases d <;> rfl
theorem put_other (a : Act) (d : Option Tmp) (v : Value) (t : Nat) (h : d ≠ some t) : (a.put d v).tmps.getD t undef = a.tmps.getD t undef := by
  cases d with
  | none => rfl
  | some d => simp [Act.put, Array.getD_eq_getD_getElem?, Array.getElem?_setIfInBounds_ne (fun e : d = t => h (by rw [e]))]
theorem put_here (a : Act) (d : Nat) (v : Value) (h : d < a.tmps.size) : (a.put (some d) v).tmps.getD d undef = v := by
  simp [Act.put, Array.getD_eq_getD_getElem?, h]
theorem putsS_size : ∀ (l : List Oper) (vs : List Value) (a : Act), (putsS l vs a).tmps.size = a.tmps.size
  | [], vs, a => by cases vs <;> rfl
  | o :: rest, [], a => rfl
  | o :: rest, v :: vs, a => by unfold putsS; rw [putsS_size rest vs, put_size]
theorem putsS_defers : ∀ (l : List Oper) (vs : List Value) (a : Act), (putsS l vs a).defers = a.defers
  | [], vs, a => by cases vs <;> rfl
  | o :: rest, [], a => rfl
  | o :: rest, v :: vs, a => by unfold putsS; rw [putsS_defers rest vs, put_defers']
theorem putsS_other (t : Nat) : ∀ (l : List Oper) (vs : List Value) (a : Act), (∀ o ∈ l, o.dst ≠ some t) → (putsS l vs a).tmps.getD t undef = a.tmps.getD t undef
  | [], vs, a, _ => by cases vs <;> rfl
  | o :: rest, [], a, _ => rfl
  | o :: rest, v :: vs, a, h => by
    unfold putsS
    rw [putsS_other t rest vs _ fun o' ho' => h o' (List.mem_cons_of_mem _ ho'), put_other _ _ _ _ (h o (List.mem_cons_self ..))]

def isQ (o : Oper) : Bool := match o.op with | .alloc _ | .store _ _ _ => false | _ => true
/-- The places that an operation looks at. -/
def eyes (o : Oper) : List Nat := o.op.operands.toList.filterMap fun | .tmp t => some t | _ => none
def notSelect (o : Oper) : Bool := match o.op with | .select _ _ => false | _ => true
/-- No guard; no 'select'; what an operation looks at no operation of the region writes, or one that comes before it on each way; each slot is written once, within n slots. -/
def lawB (l : List Oper) (n : Nat) : Bool :=
  l.zipIdx.all fun x => x.1.guard.isNone && notSelect x.1 && (match x.1.dst with | some d => decide (d < n) | none => true) &&
    (l.zipIdx.all fun y => (y.2 == x.2) || (match y.1.dst with | none => true | some d => x.1.dst != some d)) &&
    (eyes x.1).all fun t => l.zipIdx.all fun y => y.1.dst != some t || (decide (y.2 < x.2) && x.1.after.toList.any fun e => Region.binds .any e && e.on == y.2)
/-- What 'lawB' says of one operation. -/
theorem lawB_of {l : List Oper} {n : Nat} (h : lawB l n = true) (i : Nat) (o : Oper) (ho : l[i]? = some o) :
    o.guard = none ∧ notSelect o = true ∧ (∀ d, o.dst = some d → d < n) ∧ (∀ j o', l[j]? = some o' → j ≠ i → ∀ d, o'.dst = some d → o.dst ≠ some d) ∧
    (∀ t ∈ eyes o, ∀ j o', l[j]? = some o' → o'.dst = some t → j < i ∧ ∃ e ∈ o.after, Region.binds .any e = true ∧ e.on = j) := by
  unfold lawB at h
  rw [List.all_eq_true] at h
  have h1 := h (o, i) (by rw [List.mk_mem_zipIdx_iff_getElem?]; exact ho)
  simp only [Bool.and_eq_true, List.all_eq_true] at h1
  obtain ⟨⟨⟨⟨h2, h3⟩, h4⟩, h5⟩, h6⟩ := h1
  refine ⟨by simpa using h2, h3, ?_, ?_, ?_⟩
  · intro d hd; rw [hd] at h4; simpa using h4
  · intro j o' hj hne d hd
    have := h5 (o', j) (by rw [List.mk_mem_zipIdx_iff_getElem?]; exact hj)
    simp only [hd, Bool.or_eq_true, beq_iff_eq, hne, false_or] at this
    simpa using this
  · intro t ht j o' hj hd
    have := h6 t ht (o', j) (by rw [List.mk_mem_zipIdx_iff_getElem?]; exact hj)
    simp only [hd, bne_self_eq_false, Bool.false_or, Bool.and_eq_true, decide_eq_true_eq, List.any_eq_true, beq_iff_eq, Array.mem_toList_iff] at this
    exact this
theorem stepsS_at {P : Program} {ops : Array Oper} {C : World → Prop} : ∀ (l : List Oper) (vs : List Value) (a : Act) (i : Nat) (o : Oper), StepsS P ops C l vs a → l[i]? = some o →
    ∃ v ai, YieldsIn P ops C o v ai ∧ putsS l vs a = putsS (l.drop (i + 1)) (vs.drop (i + 1)) (ai.put o.dst v) ∧ ai.tmps.size = a.tmps.size ∧
      (∀ t, (∀ j o', j < i → l[j]? = some o' → o'.dst ≠ some t) → ai.tmps.getD t undef = a.tmps.getD t undef)
  | [], vs, a, i, o, _, hi => by simp at hi
  | o1 :: rest, [], a, i, o, h, _ => h.elim
  | o1 :: rest, v1 :: vs, a, 0, o, h, hi => by
    simp at hi; subst hi
    exact ⟨v1, a, h.1, rfl, rfl, fun _ _ => rfl⟩
  | o1 :: rest, v1 :: vs, a, i + 1, o, h, hi => by
    obtain ⟨v, ai, h1, h2, h3, h4⟩ := stepsS_at rest vs _ i o h.2 (by simpa using hi)
    refine ⟨v, ai, h1, ?_, h3.trans (put_size _ _ _), fun t ht => (h4 t fun j o' hj hl => ht (j + 1) o' (by omega) (by simpa using hl)).trans (put_other _ _ _ _ (ht 0 o1 (by omega) rfl))⟩
    exact h2
/-- The region with its 'alloc' and its store struck out. -/
def mute (o : Oper) : Oper := if isQ o then o else { o with op := .move (.const undef), dst := none }
theorem mute_get {l : List Oper} {j : Nat} {o : Oper} {d : Nat} (h : (l.map mute)[j]? = some o) (hd : o.dst = some d) : l[j]? = some o := by
  rw [List.getElem?_map] at h
  cases hl : l[j]? with
  | none => rw [hl] at h; cases h
  | some o' =>
    rw [hl] at h
    simp only [Option.map_some, Option.some.injEq] at h
    subst h
    unfold mute at hd ⊢
    split at hd
    · rename_i hq; rw [if_pos hq]
    · cases hd
theorem eval_eyes {a a' : Act} {o : Oper} (h : ∀ t ∈ eyes o, a.tmps.getD t undef = a'.tmps.getD t undef) (x : Operand) (hx : x ∈ o.op.operands) : a.eval x = a'.eval x := by
  cases x with
  | tmp t => exact h t (List.mem_filterMap.2 ⟨.tmp t, by simpa using hx, rfl⟩)
  | _ => rfl
set_option maxHeartbeats 1600000 in
theorem wp_region_law {P : Program} {id : Nat} {Q : Exit → Act → World → Prop} {a0 : Act} {B : Nat} {W : World} {y : Ext B W} {l : List Oper} {ops : Array Oper} (aσ : Act) (ia is sa : Nat) (oa os : Oper) (T : TypeId) (yv : Operand) (cs0 cs : Array Value)
    (hm : P.follows .mixedOrders = true) (hback : backB l = true) (hn : lawB l a0.tmps.size = true)
    (hoa : l[ia]? = some oa) (hos : l[is]? = some os) (ha1 : oa.op = .alloc T) (ha2 : oa.dst = some sa) (hs1 : os.op = .store T (.tmp sa) yv) (hs2 : os.dst = none)
    (honly : (l.zipIdx.all fun x => isQ x.1 || (x.2 == ia) || (x.2 == is)) = true) (hsee : (l.zipIdx.all fun x => (x.2 == is) || !(eyes x.1).contains sa) = true)
    (hyv : ∀ t, yv = .tmp t → t ≠ sa)
    (hal : ∀ w, (Instr.alloc T true (.tuple #[])).run P w = .ok (.pointer (some ⟨w.heap.size, 0, none⟩)) (w.alloc (.cells cs0 T)))
    (hval : aσ.eval yv = .agg cs) (hi : (P.info? T).map (·.size) = some cs.size) (hone : cs.all (·.oneCell') = true) (hsz : cs0.size = cs.size) (hBW : B ≤ W.heap.size)
    (hw : ∀ S, Nonempty (ExtS B W S) → wpQuiet P ops (fun w' => ∃ x : ExtS B W S, w' = x.out) (fun a' => a' = aσ) (l.map mute) a0)
    (h : ∀ (x : Ext B W) (p : Nat), B ≤ p → x.out.heap[p]? = some (.cells cs T (0, 0)) → Q .normal (aσ.put (some sa) (.pointer (some ⟨p, 0, none⟩))) x.out) :
    (Code.region id l.toArray true).wp P Q a0 y.out := by
  have hL := fun i o ho => lawB_of hn i o ho
  have hQ : ∀ i o, l[i]? = some o → i ≠ ia → i ≠ is → isQ o = true := by
    intro i o ho h1 h2
    rw [List.all_eq_true] at honly
    have := honly (o, i) (by rw [List.mk_mem_zipIdx_iff_getElem?]; exact ho)
    simpa [h1, h2] using this
  have hE : ∀ i o, l[i]? = some o → i ≠ is → sa ∉ eyes o := by
    intro i o ho h1 hmem
    rw [List.all_eq_true] at hsee
    have := hsee (o, i) (by rw [List.mk_mem_zipIdx_iff_getElem?]; exact ho)
    simp [h1, hmem] at this
  have key : ∀ S, Nonempty (ExtS B W S) → ∀ i o, l[i]? = some o → i ≠ ia → i ≠ is → ∃ v ai, YieldsIn P ops (fun w' => ∃ x : ExtS B W S, w' = x.out) o v ai ∧ (∀ d, o.dst = some d → v = aσ.tmps.getD d undef) ∧
      (∀ t : Nat, (∀ (j : Nat) (o' : Oper), l[j]? = some o' → o'.dst ≠ some t) → ai.tmps.getD t undef = a0.tmps.getD t undef) ∧ (∀ (t j : Nat) (o' : Oper), j < i → l[j]? = some o' → o'.dst = some t → ai.tmps.getD t undef = aσ.tmps.getD t undef) := by
    intro S hSn i o ho h1 h2
    obtain ⟨vs, hst, hfin⟩ := stepsS_of _ _ (hw S hSn)
    have ho' : (l.map mute)[i]? = some o := by rw [List.getElem?_map, ho]; simp [mute, hQ i o ho h1 h2]
    obtain ⟨v, ai, k1, k2, k3, k4⟩ := stepsS_at _ _ _ _ _ hst ho'
    rw [hfin] at k2
    have hdrop : ∀ t : Nat, (∀ (j : Nat) (o' : Oper), i < j → l[j]? = some o' → o'.dst ≠ some t) → ∀ o' ∈ (l.map mute).drop (i + 1), o'.dst ≠ some t := by
      intro t ht o' hm' hd
      obtain ⟨k, hk, rfl⟩ := List.getElem_of_mem hm'
      have hk2 := List.getElem?_eq_getElem hk
      rw [List.getElem?_drop] at hk2
      exact ht _ _ (by omega) (mute_get hk2 hd) hd
    obtain ⟨hg, _, hd1, hd2, _⟩ := hL i o ho
    refine ⟨v, ai, k1, ?_, ?_, ?_⟩
    · intro d hd
      rw [k2, putsS_other d _ _ _ (hdrop d fun j o' hj hl hdd => hd2 j o' hl (by omega) d hdd hd), hd, put_here _ _ _ (by rw [k3]; exact hd1 d hd)]
    · intro t ht
      exact k4 t fun j o' _ hl hd => ht j o' (mute_get hl hd) hd
    · intro t j o' hj hl hd
      have hne : ∀ (j' : Nat) (o'' : Oper), l[j']? = some o'' → j' ≠ j → o''.dst ≠ some t := fun j' o'' hl' hne hd' => (hL j o' hl).2.2.2.1 j' o'' hl' hne t hd' hd
      rw [k2, putsS_other t _ _ _ (hdrop t fun j' o'' hj' hl' => hne j' o'' hl' (by omega)), put_other _ _ _ _ (hne i o ho (by omega))]
  have hsize : aσ.tmps.size = a0.tmps.size := by
    obtain ⟨vs, hst, hfin⟩ := stepsS_of _ _ (hw (fun _ => none) ⟨⟨y.w, y.h, fun _ _ h => by cases h⟩⟩)
    rw [← hfin, putsS_size]
  have hdef : aσ.defers = a0.defers := by
    obtain ⟨vs, hst, hfin⟩ := stepsS_of _ _ (hw (fun _ => none) ⟨⟨y.w, y.h, fun _ _ h => by cases h⟩⟩)
    rw [← hfin, putsS_defers]
  have hout : ∀ t : Nat, (∀ (i : Nat) (o : Oper), l[i]? = some o → i ≠ ia → o.dst ≠ some t) → aσ.tmps.getD t undef = a0.tmps.getD t undef := by
    obtain ⟨vs, hst, hfin⟩ := stepsS_of _ _ (hw (fun _ => none) ⟨⟨y.w, y.h, fun _ _ h => by cases h⟩⟩)
    intro t ht
    rw [← hfin, putsS_other]
    intro o' hm' hd
    obtain ⟨k, hk, rfl⟩ := List.getElem_of_mem hm'
    have hk2 := List.getElem?_eq_getElem hk
    by_cases hka : k = ia
    · subst hka
      rw [List.getElem?_map, hoa] at hk2
      simp only [Option.map_some, Option.some.injEq] at hk2
      rw [← hk2] at hd
      simp [mute, isQ, ha1] at hd
    · exact ht _ _ (mute_get hk2 hd) hka hd
  refine wp_region_inv hm hback (fun L a w => (∃ x : Ext B W, w = x.out) ∧ a.defers = a0.defers ∧ a.tmps.size = a0.tmps.size ∧
    (∀ t : Nat, (∀ (i : Nat) (o : Oper), l[i]? = some o → o.dst ≠ some t) → a.tmps.getD t undef = a0.tmps.getD t undef) ∧
    (∀ (i : Nat) (o : Oper) (d : Nat), l[i]? = some o → i ≠ ia → L i = true → o.dst = some d → a.tmps.getD d undef = aσ.tmps.getD d undef) ∧
    (L ia = true → ∃ p, B ≤ p ∧ a.tmps.getD sa undef = .pointer (some ⟨p, 0, none⟩) ∧ w.heap[p]? = some (.cells (if L is then cs else cs0) T (0, 0))) ∧ (L is = true → L ia = true)) ?_ ?_ ?_
  · intro L hL0
    have hia : ia < l.length := (List.getElem?_eq_some_iff.1 hoa).1
    have his : is < l.length := (List.getElem?_eq_some_iff.1 hos).1
    exact ⟨⟨⟨_, y.h.drew⟩, rfl⟩, rfl, rfl, fun _ _ => rfl, fun i o d ho _ hLi _ => (by rw [hL0 i (List.getElem?_eq_some_iff.1 ho).1] at hLi; cases hLi), fun hLi => (by rw [hL0 ia hia] at hLi; cases hLi), fun hLi => (by rw [hL0 is his] at hLi; cases hLi)⟩
  · intro L a w i o ho hLi hafter ⟨⟨x, hx⟩, i1, i2, i3, i4, i5, i6⟩
    have hB : B ≤ w.heap.size := by rw [hx]; exact Nat.le_trans hBW x.h.size
    have hxb : Below B W w := by rw [hx]; exact x.h
    clear hx
    obtain ⟨hg, hns, hd1, hd2, heyes⟩ := hL i o ho
    rw [if_pos (by simp [Region.wanted, hg])]
    have hsee' : ∀ t ∈ eyes o, t ≠ sa → a.tmps.getD t undef = aσ.tmps.getD t undef := by
      intro t ht hne
      by_cases hex : ∃ (j : Nat) (o' : Oper), l[j]? = some o' ∧ o'.dst = some t
      · obtain ⟨j, o', hj, hd⟩ := hex
        obtain ⟨hji, e, he, hb, rfl⟩ := heyes t ht j o' hj hd
        refine i4 _ o' t hj (fun e' => ?_) (hafter e he hb) hd
        rw [e', hoa] at hj
        simp only [Option.some.injEq] at hj
        rw [← hj, ha2] at hd
        exact hne (Option.some.inj hd).symm
      · have hno : ∀ (j : Nat) (o' : Oper), l[j]? = some o' → o'.dst ≠ some t := fun j o' hj hd => hex ⟨j, o', hj, hd⟩
        rw [i3 t hno, hout t fun j o' hj _ => hno j o' hj]
    have hne' : is ≠ ia := fun e => by rw [e, hoa] at hos; obtain rfl := Option.some.inj hos; rw [ha1] at hs1; cases hs1
    by_cases hia : i = ia
    · subst hia
      rw [hoa] at ho
      obtain rfl := Option.some.inj ho
      unfold Oper.wp execOp
      simp only [ha1, Sem.run_bind, hal, Result.andThen_ok, Sem.run_pure, Oper.upon_value]
      rw [ha2]
      have hLs : L is = false := by
        cases hc : L is with
        | false => rfl
        | true => rw [i6 hc] at hLi; cases hLi
      refine ⟨⟨⟨_, hxb.alloc hB _⟩, rfl⟩, (put_defers' _ _ _).trans i1, (put_size _ _ _).trans i2, fun t ht => ?_, fun j o' d hj hne hLj hd => ?_, fun _ => ⟨w.heap.size, hB, put_here _ _ _ (by rw [i2]; exact hd1 sa ha2), ?_⟩, fun _ => by simp [plus]⟩
      · rw [put_other _ _ _ _ (by rw [← ha2]; exact ht i oa hoa)]; exact i3 t ht
      · have hLj' : L j = true := by unfold plus at hLj; rwa [if_neg hne] at hLj
        rw [put_other _ _ _ _ (by rw [← ha2]; exact hd2 j o' hj hne d hd)]; exact i4 j o' d hj hne hLj' hd
      · have : plus L i is = false := by unfold plus; rw [if_neg hne', hLs]
        rw [this]; exact heap_alloc_new w _
    · by_cases his : i = is
      · subst his
        rw [hos] at ho
        obtain rfl := Option.some.inj ho
        have hsa : sa ∈ eyes os := by unfold eyes; rw [hs1]; simp [Op.operands]
        have hLa : L ia = true := by
          obtain ⟨_, e, he, hb, rfl⟩ := heyes sa hsa ia oa hoa ha2
          exact hafter e he hb
        obtain ⟨p, hp, hpt, hpb⟩ := i5 hLa
        rw [hLi] at hpb
        simp only [Bool.false_eq_true, if_false] at hpb
        have hye : a.eval yv = .agg cs := by
          rw [← hval]
          cases hyy : yv with
          | tmp t => exact hsee' t (by unfold eyes; rw [hs1]; simp [Op.operands, hyy]) (hyv t hyy)
          | _ => rfl
        refine wp_store_mid T (.tmp sa) yv hs1 p 0 cs hpt hye (there_block hpb 0 cs.size (by omega)) hi hone ?_
        obtain ⟨e1, e2, e3⟩ := setCells_heap p T cs.toList 0 w cs0 hpb
        rw [setAll_whole hsz] at e1
        rw [hs2]
        refine ⟨⟨⟨_, hxb.grown e2 hB (fun k hk => by cases hk; exact hp)⟩, rfl⟩, i1, i2, i3, fun j o' d hj hne hLj hd => ?_, fun _ => ⟨p, hp, hpt, ?_⟩, fun _ => ?_⟩
        · have hji : j ≠ i := fun e => by rw [e, hos] at hj; obtain rfl := Option.some.inj hj; rw [hs2] at hd; cases hd
          have hLj' : L j = true := by unfold plus at hLj; rwa [if_neg hji] at hLj
          exact i4 j o' d hj hne hLj' hd
        · have : plus L i i = true := by simp [plus]
          rw [this]; exact e1
        · unfold plus; rw [if_neg (Ne.symm hne')]; exact hLa
      · obtain ⟨S, hS, hSp⟩ : ∃ S : Nat → Option Obj, (∀ p o, S p = some o → w.heap[p]? = some o) ∧ (L ia = true → ∃ p, B ≤ p ∧ a.tmps.getD sa undef = .pointer (some ⟨p, 0, none⟩) ∧ S p = some (.cells (if L is then cs else cs0) T (0, 0))) := by
          cases hc : L ia with
          | false => exact ⟨fun _ => none, ⟨fun _ _ h => (by cases h), fun h => (by cases h)⟩⟩
          | true =>
            obtain ⟨p, hp, hpt, hpb⟩ := i5 hc
            refine ⟨fun k => if k = p then some (.cells (if L is then cs else cs0) T (0, 0)) else none, fun k o h => ?_, fun _ => ⟨p, hp, hpt, by simp⟩⟩
            by_cases hk : k = p
            · subst hk; simp only [if_true] at h; rw [hpb]; exact h
            · simp [hk] at h
        obtain ⟨v, ai, hY, hv, hno, hyes⟩ := key S ⟨⟨w, hxb, hS⟩⟩ i o ho hia his
        have he : execOp a.eval o = execOp ai.eval o := by
          refine execOp_congr o (fun c b hc => by rw [notSelect, hc] at hns; cases hns) (eval_eyes fun t ht => ?_)
          by_cases hex : ∃ (j : Nat) (o' : Oper), l[j]? = some o' ∧ o'.dst = some t
          · obtain ⟨j, o', hj, hd⟩ := hex
            obtain ⟨hji, _⟩ := heyes t ht j o' hj hd
            rw [hyes t j o' hji hj hd]
            exact hsee' t ht fun e => hE i o ho his (e ▸ ht)
          · have hn' : ∀ (j : Nat) (o' : Oper), l[j]? = some o' → o'.dst ≠ some t := fun j o' hj hd => hex ⟨j, o', hj, hd⟩
            rw [i3 t hn', hno t hn']
        have hY' := hY.of_same he (by simp [Region.wanted, hg])
        rcases hY' with ⟨_, hq⟩ | ⟨hw0, _⟩
        · refine Oper.wp_of_quiet (C := ClsS B W S) (K := fun a' => a' = a.put o.dst v) ⟨⟨w, hxb, hS⟩, rfl⟩ ?_ ⟨v, hq, rfl⟩
          rintro a' w' ⟨z, rfl⟩ rfl
          refine ⟨⟨⟨z.w, z.h⟩, rfl⟩, (put_defers' _ _ _).trans i1, (put_size _ _ _).trans i2, fun t ht => ?_, fun j o' d hj hne hLj hd => ?_, fun hLp => ?_, fun hLp => ?_⟩
          · rw [put_other _ _ _ _ (ht i o ho)]; exact i3 t ht
          · by_cases hji : j = i
            · subst hji
              rw [ho] at hj
              obtain rfl := Option.some.inj hj
              rw [hd, put_here _ _ _ (by rw [i2]; exact hd1 d hd)]
              exact hv d hd
            · have hLj' : L j = true := by unfold plus at hLj; rwa [if_neg hji] at hLj
              rw [put_other _ _ _ _ (hd2 j o' hj hji d hd)]; exact i4 j o' d hj hne hLj' hd
          · have hLp' : L ia = true := by unfold plus at hLp; rwa [if_neg (Ne.symm hia)] at hLp
            obtain ⟨p, hp, hpt, hpb⟩ := hSp hLp'
            refine ⟨p, hp, ?_, ?_⟩
            · rw [put_other _ _ _ _ (hd2 ia oa hoa (Ne.symm hia) sa ha2)]; exact hpt
            · have : plus L i is = L is := by unfold plus; rw [if_neg (Ne.symm his)]
              rw [this]; exact z.s p _ hpb
          · have hLp' : L is = true := by unfold plus at hLp; rwa [if_neg (Ne.symm his)] at hLp
            unfold plus; rw [if_neg (Ne.symm hia)]; exact i6 hLp'
        · simp [Region.wanted, hg] at hw0
  · intro L a w hall ⟨⟨x, hx⟩, i1, i2, i3, i4, i5, i6⟩
    have hia : ia < l.length := (List.getElem?_eq_some_iff.1 hoa).1
    have his : is < l.length := (List.getElem?_eq_some_iff.1 hos).1
    obtain ⟨p, hp, hpt, hpb⟩ := i5 (hall ia hia)
    rw [hall is his] at hpb
    simp only [if_true] at hpb
    have ha : a = aσ.put (some sa) (.pointer (some ⟨p, 0, none⟩)) := by
      have ht : a.tmps = (aσ.put (some sa) (.pointer (some ⟨p, 0, none⟩))).tmps := by
        have hgd : ∀ k, a.tmps.getD k undef = (aσ.put (some sa) (.pointer (some ⟨p, 0, none⟩))).tmps.getD k undef := by
          intro k
          by_cases hk : k = sa
          · subst hk
            rw [put_here _ _ _ (by rw [hsize]; exact (hL ia oa hoa).2.2.1 k ha2)]; exact hpt
          · rw [put_other _ _ _ _ (fun e => hk (Option.some.inj e).symm)]
            by_cases hex : ∃ (j : Nat) (o' : Oper), l[j]? = some o' ∧ o'.dst = some k
            · obtain ⟨j, o', hj, hd⟩ := hex
              refine i4 j o' k hj (fun e => ?_) (hall j (List.getElem?_eq_some_iff.1 hj).1) hd
              rw [e, hoa] at hj
              obtain rfl := Option.some.inj hj
              rw [ha2] at hd
              exact hk (Option.some.inj hd).symm
            · have hn' : ∀ (j : Nat) (o' : Oper), l[j]? = some o' → o'.dst ≠ some k := fun j o' hj hd => hex ⟨j, o', hj, hd⟩
              rw [i3 k hn', hout k fun j o' hj _ => hn' j o' hj]
        apply Array.ext
        · rw [put_size, i2, hsize]
        · intro k hk1 hk2
          have := hgd k
          rwa [Array.getD_eq_getD_getElem?, Array.getD_eq_getD_getElem?, Array.getElem?_eq_getElem hk1, Array.getElem?_eq_getElem hk2] at this
      have hd : a.defers = (aσ.put (some sa) (.pointer (some ⟨p, 0, none⟩))).defers := by rw [put_defers', hdef, i1]
      cases a
      cases hp2 : aσ.put (some sa) (.pointer (some ⟨p, 0, none⟩))
      rw [hp2] at ht hd
      dsimp only at ht hd
      subst ht hd
      rfl
    rw [ha, hx]
    exact h x p hp (hx ▸ hpb)
def tmpOf : Operand → Option Nat
  | .tmp t => some t
  | _ => none
theorem wp_region_law0 {P : Program} {id : Nat} {Q : Exit → Act → World → Prop} {a0 : Act} {W : World} {l : List Oper} (B : Nat) (aσ : Act) (ia is sa : Nat) (oa os : Oper) (T : TypeId) (yv : Operand) (cs0 cs : Array Value)
    (hm : P.follows .mixedOrders = true) (hback : backB l = true) (hn : lawB l a0.tmps.size = true)
    (hoa : l[ia]? = some oa) (hos : l[is]? = some os) (ha1 : oa.op = .alloc T) (ha2 : oa.dst = some sa) (hs1 : os.op = .store T (.tmp sa) yv) (hs2 : os.dst = none)
    (honly : (l.zipIdx.all fun x => isQ x.1 || (x.2 == ia) || (x.2 == is)) = true) (hsee : (l.zipIdx.all fun x => (x.2 == is) || !(eyes x.1).contains sa) = true)
    (hyv : (tmpOf yv == some sa) = false)
    (hal : ∀ w, (Instr.alloc T true (.tuple #[])).run P w = .ok (.pointer (some ⟨w.heap.size, 0, none⟩)) (w.alloc (.cells cs0 T)))
    (hi : (P.info? T).map (·.size) = some cs.size) (hone : cs.all (·.oneCell') = true) (hsz : cs0.size = cs.size) (hBW : B ≤ W.heap.size)
    (hw : ∀ S, Nonempty (ExtS B W S) → wpQuiet P l.toArray (fun w' => ∃ x : ExtS B W S, w' = x.out) (fun a' => a' = aσ) (l.map mute) a0)
    (hval : aσ.eval yv = .agg cs)
    (h : ∀ (x : Ext B W) (p : Nat), B ≤ p → x.out.heap[p]? = some (.cells cs T (0, 0)) → Q .normal (aσ.put (some sa) (.pointer (some ⟨p, 0, none⟩))) x.out) :
    (Code.region id l.toArray true).wp P Q a0 W :=
  wp_region_law (y := ⟨W, Below.refl _ _⟩) aσ ia is sa oa os T yv cs0 cs hm hback hn hoa hos ha1 ha2 hs1 hs2 honly hsee (fun t ht e => by subst ht; subst e; simp [tmpOf] at hyv) hal hval hi hone hsz hBW hw h
theorem execOp_buildRoof {o : Oper} {a : Act} {w : World} {x y z : Operand} {p q s : Int} (ho : o.op = .build 27 #[(0, x), (1, y), (2, z)]) (hx : a.eval x = .int .i8 p) (hy : a.eval y = .int .i8 q) (hz : a.eval z = .int .u8 s) :
    (execOp a.eval o).run Try.prog w = .ok (.value (.agg (rcells ⟨p, q, s, List.replicate 64 0⟩))) w := by
  unfold execOp
  simp only [ho, Sem.run_bind, List.map_toArray, List.map_cons, List.map_nil, hx, hy, hz, run_build_roof]
  rfl
theorem Try.allocRoof (w : World) : (Instr.alloc 27 true (.tuple #[])).run Try.prog w = .ok (.pointer (some ⟨w.heap.size, 0, none⟩)) (w.alloc (.cells (rcells Rf.zero) 27)) := by kernel_rfl
end Go.Proofs.Ytfijinbdpfeceaa

/- A region that draws its order: quiet operations, then one call whose result is not foreknown, then quiet operations behind it. -/
namespace Go.Proofs.Ytfijinbdpfeceaa
open Go.RowKit
set_option linter.unusedSimpArgs false
set_option linter.unusedVariables false

/-- Each operation ahead of number n is awaited, and each one behind it waits. -/
def wildB (l : List Oper) (n : Nat) : Bool :=
  ((List.range n).all fun i => (List.range (n + 1)).any fun j => decide (i < j) && (match l[j]? with | some o => o.after.toList.any fun e => Region.binds .any e && e.on == i | none => false)) &&
  (List.range l.length).all fun t => decide (t ≤ n) || (match l[t]? with | some o => o.after.toList.any fun e => Region.binds .any e && decide (n ≤ e.on) && decide (e.on < t) | none => true)
theorem wildB_pre {l : List Oper} {n : Nat} (h : wildB l n = true) (i : Nat) (hi : i < n) : ∃ j o, i < j ∧ j ≤ n ∧ l[j]? = some o ∧ ∃ e ∈ o.after, Region.binds .any e = true ∧ e.on = i := by
  unfold wildB at h
  rw [Bool.and_eq_true] at h
  have h1 := List.all_eq_true.1 h.1 i (List.mem_range.2 hi)
  obtain ⟨j, hj, h2⟩ := List.any_eq_true.1 h1
  rw [Bool.and_eq_true] at h2
  obtain ⟨h3, h4⟩ := h2
  cases hl : l[j]? with
  | none => rw [hl] at h4; cases h4
  | some o =>
    rw [hl] at h4
    obtain ⟨e, he, h5⟩ := List.any_eq_true.1 h4
    rw [Bool.and_eq_true] at h5
    exact ⟨j, o, by simpa using h3, by have := List.mem_range.1 hj; omega, hl, e, by simpa using he, h5.1, by simpa using h5.2⟩
theorem wildB_post {l : List Oper} {n : Nat} (h : wildB l n = true) (t : Nat) (o : Oper) (ho : l[t]? = some o) (ht : n < t) : ∃ e ∈ o.after, Region.binds .any e = true ∧ n ≤ e.on ∧ e.on < t := by
  unfold wildB at h
  rw [Bool.and_eq_true] at h
  have h1 := List.all_eq_true.1 h.2 t (List.mem_range.2 (List.getElem?_eq_some_iff.1 ho).1)
  rw [ho] at h1
  simp only [Bool.or_eq_true, decide_eq_true_eq] at h1
  rcases h1 with h1 | h1
  · omega
  · obtain ⟨e, he, h5⟩ := List.any_eq_true.1 h1
    simp only [Bool.and_eq_true, decide_eq_true_eq] at h5
    exact ⟨e, by simpa using he, h5.1.1, h5.1.2, h5.2⟩
theorem act_ext {a b : Act} (hs : a.tmps.size = b.tmps.size) (hd : a.defers = b.defers) (h : ∀ k, a.tmps.getD k undef = b.tmps.getD k undef) : a = b := by
  have ht : a.tmps = b.tmps := by
    apply Array.ext hs
    intro k hk1 hk2
    have := h k
    rwa [Array.getD_eq_getD_getElem?, Array.getD_eq_getD_getElem?, Array.getElem?_eq_getElem hk1, Array.getElem?_eq_getElem hk2] at this
  cases a; cases b; dsimp only at ht hd; subst ht hd; rfl
/-- What one walk in the text's order has shown of an operation: its value stands in the end; what it read stood there, or stands in the end. -/
theorem stepsS_key {P : Program} {ops : Array Oper} {C : World → Prop} {l : List Oper} {vs : List Value} {a aσ : Act} (hst : StepsS P ops C l vs a) (hfin : putsS l vs a = aσ) (hd1 : ∀ (i : Nat) (o : Oper) (d : Nat), l[i]? = some o → o.dst = some d → d < a.tmps.size)
    (hone : ∀ (i : Nat) (o : Oper) (j : Nat) (o' : Oper) (d : Nat), l[i]? = some o → l[j]? = some o' → i ≠ j → o.dst = some d → o'.dst ≠ some d) (i : Nat) (o : Oper) (ho : l[i]? = some o) :
    ∃ v ai, YieldsIn P ops C o v ai ∧ (∀ d, o.dst = some d → v = aσ.tmps.getD d undef) ∧ (∀ t : Nat, (∀ (j : Nat) (o' : Oper), l[j]? = some o' → o'.dst ≠ some t) → ai.tmps.getD t undef = a.tmps.getD t undef) ∧
      (∀ (t j : Nat) (o' : Oper), j < i → l[j]? = some o' → o'.dst = some t → ai.tmps.getD t undef = aσ.tmps.getD t undef) := by
  obtain ⟨v, ai, k1, k2, k3, k4⟩ := stepsS_at _ _ _ _ _ hst ho
  rw [hfin] at k2
  have hdrop : ∀ t : Nat, (∀ (j : Nat) (o' : Oper), i < j → l[j]? = some o' → o'.dst ≠ some t) → ∀ o' ∈ l.drop (i + 1), o'.dst ≠ some t := by
    intro t ht o' hm' hd
    obtain ⟨k, hk, rfl⟩ := List.getElem_of_mem hm'
    have hk2 := List.getElem?_eq_getElem hk
    rw [List.getElem?_drop] at hk2
    exact ht _ _ (by omega) hk2 hd
  refine ⟨v, ai, k1, ?_, ?_, ?_⟩
  · intro d hd
    rw [k2, putsS_other d _ _ _ (hdrop d fun j o' hj hl => hone i o j o' d ho hl (by omega) hd), hd, put_here _ _ _ (by rw [k3]; exact hd1 i o d ho hd)]
  · intro t ht
    exact k4 t fun j o' _ hl hd => ht j o' hl hd
  · intro t j o' hj hl hd
    have hne : ∀ (j' : Nat) (o'' : Oper), l[j']? = some o'' → j' ≠ j → o''.dst ≠ some t := fun j' o'' hl' hne => hone j o' j' o'' t hl hl' (Ne.symm hne) hd
    rw [k2, putsS_other t _ _ _ (hdrop t fun j' o'' hj' hl' => hne j' o'' hl' (by omega)), put_other _ _ _ _ (hne i o ho (by omega))]
set_option maxHeartbeats 1600000 in
theorem wp_region_wild {P : Program} {id : Nat} {Q : Exit → Act → World → Prop} {a0 : Act} {W : World} {l : List Oper} (B n : Nat) (aσ : Act) (oc : Oper) (f : FuncId) (args : Array Value) (R : Value → World → Prop)
    (hm : P.follows .mixedOrders = true) (hback : backB l = true) (hn : lawB l a0.tmps.size = true) (hw : wildB l n = true) (hoc : l[n]? = some oc) (hBW : B ≤ W.heap.size)
    (hpre : wpQuiet P l.toArray (fun w' => ∃ x : Ext B W, w' = x.out) (fun a' => a' = aσ) (l.take n) a0)
    (hent : ∀ w, (execOp aσ.eval oc).run P w = .ok (.enter f args) w)
    (hcall : ∀ x : Ext B W, Calls P f args x.out fun e w' => ∃ v, e = .returned v ∧ R v w')
    (hpost : ∀ v w1, R v w1 → wpQuiet P l.toArray (fun w' => w' = w1) (fun a' => Q .normal a' w1) (l.drop (n + 1)) (aσ.put oc.dst v)) :
    (Code.region id l.toArray true).wp P Q a0 W := by
  have hL := fun i o ho => lawB_of hn i o ho
  have hone : ∀ (i : Nat) (o : Oper) (j : Nat) (o' : Oper) (d : Nat), l[i]? = some o → l[j]? = some o' → i ≠ j → o.dst = some d → o'.dst ≠ some d := fun i o j o' d hi hj hne hd => (hL j o' hj).2.2.2.1 i o hi hne d hd
  have hnl : n < l.length := (List.getElem?_eq_some_iff.1 hoc).1
  have htake : ∀ (i : Nat) (o : Oper), (l.take n)[i]? = some o → l[i]? = some o ∧ i < n := fun i o h => by
    rw [List.getElem?_take] at h
    split at h
    · exact ⟨h, by assumption⟩
    · cases h
  have hdropg : ∀ (i : Nat) (o : Oper), (l.drop (n + 1))[i]? = some o → l[n + 1 + i]? = some o := fun i o h => by rw [List.getElem?_drop] at h; exact h
  obtain ⟨vs0, hst0, hfin0⟩ := stepsS_of _ _ hpre
  have hsize : aσ.tmps.size = a0.tmps.size := by rw [← hfin0, putsS_size]
  have hdef : aσ.defers = a0.defers := by rw [← hfin0, putsS_defers]
  have key0 := fun i o ho => stepsS_key hst0 hfin0 (fun i o d h hd => (hL i o (htake i o h).1).2.2.1 d hd) (fun i o j o' d h h' hne hd => hone i o j o' d (htake i o h).1 (htake j o' h').1 hne hd) i o ho
  have hout0 : ∀ t : Nat, (∀ (i : Nat) (o : Oper), i < n → l[i]? = some o → o.dst ≠ some t) → aσ.tmps.getD t undef = a0.tmps.getD t undef := by
    intro t ht
    rw [← hfin0, putsS_other]
    intro o' hm' hd
    obtain ⟨k, hk, rfl⟩ := List.getElem_of_mem hm'
    have hk2 := htake k _ (List.getElem?_eq_getElem hk)
    exact ht k _ hk2.2 hk2.1 hd
  -- what stands when the call has been made
  let Post : World → Act → Prop := fun w aτ => ∃ v vs, StepsS P l.toArray (fun w' => w' = w) (l.drop (n + 1)) vs (aσ.put oc.dst v) ∧ putsS (l.drop (n + 1)) vs (aσ.put oc.dst v) = aτ ∧ Q .normal aτ w ∧ ∀ d, oc.dst = some d → aτ.tmps.getD d undef = v
  have hPost : ∀ w aτ, Post w aτ → aτ.tmps.size = a0.tmps.size ∧ aτ.defers = a0.defers ∧ (∀ t : Nat, (∀ (i : Nat) (o : Oper), l[i]? = some o → o.dst ≠ some t) → aτ.tmps.getD t undef = a0.tmps.getD t undef) ∧
      (∀ (i : Nat) (o : Oper) (d : Nat), l[i]? = some o → i < n → o.dst = some d → aτ.tmps.getD d undef = aσ.tmps.getD d undef) := by
    rintro w aτ ⟨v, vs, h1, h2, _, _⟩
    have hoth : ∀ t : Nat, (∀ (i : Nat) (o : Oper), n < i → l[i]? = some o → o.dst ≠ some t) → aτ.tmps.getD t undef = (aσ.put oc.dst v).tmps.getD t undef := by
      intro t ht
      rw [← h2, putsS_other]
      intro o' hm' hd
      obtain ⟨k, hk, rfl⟩ := List.getElem_of_mem hm'
      exact ht _ _ (by omega) (hdropg k _ (List.getElem?_eq_getElem hk)) hd
    refine ⟨by rw [← h2, putsS_size, put_size, hsize], by rw [← h2, putsS_defers, put_defers', hdef], fun t ht => ?_, fun i o d hi hin hd => ?_⟩
    · rw [hoth t fun i o _ hi => ht i o hi, put_other _ _ _ _ (ht n oc hoc), hout0 t fun i o _ hi => ht i o hi]
    · rw [hoth d fun j o' hj hj' => hone i o j o' d hi hj' (by omega) hd, put_other _ _ _ _ (hone i o n oc d hi hoc (by omega) hd)]
  have hpre_all : ∀ L : Nat → Bool, (∀ (j : Nat) (oj : Oper), l[j]? = some oj → L j = true → ∀ e ∈ oj.after, Region.binds .any e = true → L e.on = true) → (∀ e ∈ oc.after, Region.binds .any e = true → L e.on = true) → ∀ i, i < n → L i = true := by
    intro L hcl hcn
    have : ∀ d i, n - i = d → i < n → L i = true := by
      intro d
      induction d using Nat.strongRecOn with
      | _ d ih =>
        intro i hd hi
        obtain ⟨j, o, h1, h2, h3, e, he, hb, rfl⟩ := wildB_pre hw i hi
        by_cases hj : j = n
        · subst hj
          rw [hoc] at h3
          obtain rfl := Option.some.inj h3
          exact hcn e he hb
        · exact hcl j o h3 (ih (n - j) (by omega) j rfl (by omega)) e he hb
    exact fun i hi => this _ i rfl hi
  refine wp_region_inv hm hback (fun L a w => a.defers = a0.defers ∧ a.tmps.size = a0.tmps.size ∧ (∀ t : Nat, (∀ (i : Nat) (o : Oper), l[i]? = some o → o.dst ≠ some t) → a.tmps.getD t undef = a0.tmps.getD t undef) ∧
    (∀ (j : Nat) (oj : Oper), l[j]? = some oj → L j = true → ∀ e ∈ oj.after, Region.binds .any e = true → L e.on = true) ∧
    (L n = false → (∃ x : Ext B W, w = x.out) ∧ ∀ (i : Nat) (o : Oper) (d : Nat), l[i]? = some o → L i = true → o.dst = some d → a.tmps.getD d undef = aσ.tmps.getD d undef) ∧
    (L n = true → ∃ aτ, Post w aτ ∧ ∀ (i : Nat) (o : Oper) (d : Nat), l[i]? = some o → L i = true → o.dst = some d → a.tmps.getD d undef = aτ.tmps.getD d undef)) ?_ ?_ ?_
  · intro L hL0
    exact ⟨rfl, rfl, fun _ _ => rfl, fun j oj hj hLj => (by rw [hL0 j (List.getElem?_eq_some_iff.1 hj).1] at hLj; cases hLj), fun _ => ⟨⟨⟨_, (Below.refl B W).drew⟩, rfl⟩, fun i o d hi hLi => (by rw [hL0 i (List.getElem?_eq_some_iff.1 hi).1] at hLi; cases hLi)⟩, fun hLn => (by rw [hL0 n hnl] at hLn; cases hLn)⟩
  · intro L a w i o ho hLi hafter ⟨i1, i2, i3, i4, i5, i6⟩
    obtain ⟨hg, hns, hd1, hd2, heyes⟩ := hL i o ho
    rw [if_pos (by simp [Region.wanted, hg])]
    have hcl : ∀ (j : Nat) (oj : Oper), l[j]? = some oj → plus L i j = true → ∀ e ∈ oj.after, Region.binds .any e = true → plus L i e.on = true := by
      intro j oj hj hLj e he hb
      unfold plus at hLj ⊢
      by_cases hji : j = i
      · subst hji
        rw [ho] at hj
        obtain rfl := Option.some.inj hj
        split
        · rfl
        · exact hafter e he hb
      · rw [if_neg hji] at hLj
        split
        · rfl
        · exact i4 j oj hj hLj e he hb
    rcases Nat.lt_trichotomy i n with hin | hin | hin
    · -- ahead of the call
      have hLn : L n = false := by
        cases hc : L n with
        | false => rfl
        | true => have := hpre_all L i4 (fun e he hb => i4 n oc hoc hc e he hb) i hin; rw [this] at hLi; cases hLi
      obtain ⟨⟨x, hx⟩, i7⟩ := i5 hLn
      have ho' : (l.take n)[i]? = some o := by rw [List.getElem?_take, if_pos hin]; exact ho
      obtain ⟨v, ai, hY, hv, hno, hyes⟩ := key0 i o ho'
      have he : execOp a.eval o = execOp ai.eval o := by
        refine execOp_congr o (fun c b hc => by rw [notSelect, hc] at hns; cases hns) (eval_eyes fun t ht => ?_)
        by_cases hex : ∃ (j : Nat) (o' : Oper), l[j]? = some o' ∧ o'.dst = some t
        · obtain ⟨j, o', hj, hd⟩ := hex
          obtain ⟨hji, e, he, hb, hon⟩ := heyes t ht j o' hj hd
          have hLj : L j = true := hon ▸ hafter e he hb
          rw [hyes t j o' hji (by rw [List.getElem?_take, if_pos (by omega)]; exact hj) hd]
          exact i7 j o' t hj hLj hd
        · have hn' : ∀ (j : Nat) (o' : Oper), l[j]? = some o' → o'.dst ≠ some t := fun j o' hj hd => hex ⟨j, o', hj, hd⟩
          rw [i3 t hn', hno t fun j o' hj => hn' j o' (htake j o' hj).1]
      have hY' := hY.of_same he (by simp [Region.wanted, hg])
      rcases hY' with ⟨_, hq⟩ | ⟨hw0, _⟩
      · refine Oper.wp_of_quiet (C := fun w' => ∃ x : Ext B W, w' = x.out) (K := fun a' => a' = a.put o.dst v) ⟨x, hx⟩ ?_ ⟨v, hq, rfl⟩
        rintro a' w' ⟨z, rfl⟩ rfl
        refine ⟨(put_defers' _ _ _).trans i1, (put_size _ _ _).trans i2, fun t ht => ?_, hcl, fun _ => ⟨⟨z, rfl⟩, fun j o' d hj hLj hd => ?_⟩, fun hLp => ?_⟩
        · rw [put_other _ _ _ _ (ht i o ho)]; exact i3 t ht
        · by_cases hji : j = i
          · subst hji
            rw [ho] at hj
            obtain rfl := Option.some.inj hj
            rw [hd, put_here _ _ _ (by rw [i2]; exact hd1 d hd)]
            exact hv d hd
          · have hLj' : L j = true := by unfold plus at hLj; rwa [if_neg hji] at hLj
            rw [put_other _ _ _ _ (hd2 j o' hj hji d hd)]; exact i7 j o' d hj hLj' hd
        · unfold plus at hLp; rw [if_neg (by omega), hLn] at hLp; cases hLp
      · simp [Region.wanted, hg] at hw0
    · -- the call
      subst hin
      rw [hoc] at ho
      obtain rfl := Option.some.inj ho
      obtain ⟨⟨x, hx⟩, i7⟩ := i5 hLi
      have hall := hpre_all L i4 hafter
      have he : execOp a.eval oc = execOp aσ.eval oc := by
        refine execOp_congr oc (fun c b hc => by rw [notSelect, hc] at hns; cases hns) (eval_eyes fun t ht => ?_)
        by_cases hex : ∃ (j : Nat) (o' : Oper), l[j]? = some o' ∧ o'.dst = some t
        · obtain ⟨j, o', hj, hd⟩ := hex
          obtain ⟨hji, e, he, hb, hon⟩ := heyes t ht j o' hj hd
          exact i7 j o' t hj (hon ▸ hafter e he hb) hd
        · have hn' : ∀ (j : Nat) (o' : Oper), l[j]? = some o' → o'.dst ≠ some t := fun j o' hj hd => hex ⟨j, o', hj, hd⟩
          rw [i3 t hn', hout0 t fun j o' _ hj => hn' j o' hj]
      subst hx
      unfold Oper.wp
      rw [he, hent]
      simp only [Oper.upon]
      refine (hcall x).mono ?_
      rintro e w' ⟨v, rfl, hR⟩
      obtain ⟨vs, hst, hQ⟩ := stepsS_of _ _ (hpost v w' hR)
      have hdv : ∀ d, oc.dst = some d → (putsS (l.drop (i + 1)) vs (aσ.put oc.dst v)).tmps.getD d undef = v := by
        intro d hd
        rw [putsS_other, hd, put_here _ _ _ (by rw [hsize]; exact hd1 d hd)]
        intro o' hm' hd'
        obtain ⟨k, hk, rfl⟩ := List.getElem_of_mem hm'
        exact hone i oc _ _ d hoc (hdropg k _ (List.getElem?_eq_getElem hk)) (by omega) hd hd'
      have hP : Post w' (putsS (l.drop (i + 1)) vs (aσ.put oc.dst v)) := ⟨v, vs, hst, rfl, hQ, hdv⟩
      obtain ⟨_, _, _, p4⟩ := hPost _ _ hP
      refine ⟨(put_defers' _ _ _).trans i1, (put_size _ _ _).trans i2, fun t ht => ?_, hcl, fun hLn => ?_, fun _ => ⟨_, hP, fun j o' d hj hLj hd => ?_⟩⟩
      · rw [put_other _ _ _ _ (ht i oc hoc)]; exact i3 t ht
      · simp [plus] at hLn
      · by_cases hji : j = i
        · subst hji
          rw [hoc] at hj
          obtain rfl := Option.some.inj hj
          rw [hd, put_here _ _ _ (by rw [i2]; exact hd1 d hd), ← hd, hdv d hd]
        · have hLj' : L j = true := by unfold plus at hLj; rwa [if_neg hji] at hLj
          have hjn : j < i := by
            rcases Nat.lt_trichotomy j i with h | h | h
            · exact h
            · exact absurd h hji
            · exfalso
              have : ∀ d t, t = d → i < t → t < l.length → L t = true → False := by
                intro d
                induction d using Nat.strongRecOn with
                | _ d ih =>
                  intro t htd hit htl hLt
                  obtain ⟨e, he', hb, h1, h2⟩ := wildB_post hw t _ (List.getElem?_eq_getElem htl) hit
                  have h3 := i4 t _ (List.getElem?_eq_getElem htl) hLt e he' hb
                  rcases Nat.eq_or_lt_of_le h1 with h4 | h4
                  · rw [← h4, hLi] at h3; cases h3
                  · exact ih e.on (by omega) e.on rfl h4 (by omega) h3
              exact this _ j rfl h (List.getElem?_eq_some_iff.1 hj).1 hLj'
          rw [put_other _ _ _ _ (hd2 j o' hj hji d hd), i7 j o' d hj hLj' hd, p4 j o' d hj hjn hd]
    · -- behind the call
      have hLn : L n = true := by
        obtain ⟨e, he, hb, h1, h2⟩ := wildB_post hw i o ho hin
        have h3 := hafter e he hb
        have : ∀ d t, t = d → n ≤ t → t < l.length → L t = true → L n = true := by
          intro d
          induction d using Nat.strongRecOn with
          | _ d ih =>
            intro t htd hit htl hLt
            rcases Nat.eq_or_lt_of_le hit with h4 | h4
            · rw [h4]; exact hLt
            · obtain ⟨e, he', hb, h1, h2⟩ := wildB_post hw t _ (List.getElem?_eq_getElem htl) h4
              exact ih e.on (by omega) e.on rfl h1 (by omega) (i4 t _ (List.getElem?_eq_getElem htl) hLt e he' hb)
        exact this _ e.on rfl h1 (by have := (List.getElem?_eq_some_iff.1 ho).1; omega) h3
      obtain ⟨aτ, hP, i7⟩ := i6 hLn
      obtain ⟨p1, p2, p3, p4⟩ := hPost _ _ hP
      obtain ⟨v, vs, hst, hfin, hQ, hdv⟩ := hP
      have ho' : (l.drop (n + 1))[i - (n + 1)]? = some o := by rw [List.getElem?_drop]; rw [show n + 1 + (i - (n + 1)) = i by omega]; exact ho
      obtain ⟨u, ai, hY, hv, hno, hyes⟩ := stepsS_key hst hfin (fun j o' d h hd => by rw [put_size, hsize]; exact (hL _ o' (hdropg j o' h)).2.2.1 d hd) (fun j o' k o'' d h h' hne hd => hone _ o' _ o'' d (hdropg j o' h) (hdropg k o'' h') (by omega) hd) _ o ho'
      have he : execOp a.eval o = execOp ai.eval o := by
        refine execOp_congr o (fun c b hc => by rw [notSelect, hc] at hns; cases hns) (eval_eyes fun t ht => ?_)
        by_cases hex : ∃ (j : Nat) (o' : Oper), l[j]? = some o' ∧ o'.dst = some t
        · obtain ⟨j, o', hj, hd⟩ := hex
          obtain ⟨hji, e, he, hb, hon⟩ := heyes t ht j o' hj hd
          have hLj : L j = true := hon ▸ hafter e he hb
          rw [i7 j o' t hj hLj hd]
          by_cases hjn : n < j
          · rw [hyes t (j - (n + 1)) o' (by omega) (by rw [List.getElem?_drop, show n + 1 + (j - (n + 1)) = j by omega]; exact hj) hd]
          · have h9 : ai.tmps.getD t undef = (aσ.put oc.dst v).tmps.getD t undef := hno t fun k o'' hk => hone j o' _ o'' t hj (hdropg k o'' hk) (by omega) hd
            rw [h9]
            rcases Nat.lt_or_ge j n with h10 | h10
            · rw [p4 j o' t hj h10 hd, put_other _ _ _ _ (hone j o' n oc t hj hoc (by omega) hd)]
            · obtain rfl : j = n := by omega
              rw [hoc] at hj
              obtain rfl := Option.some.inj hj
              rw [hdv t hd, hd, put_here _ _ _ (by rw [hsize]; exact (hL j oc hoc).2.2.1 t hd)]
        · have hn' : ∀ (j : Nat) (o' : Oper), l[j]? = some o' → o'.dst ≠ some t := fun j o' hj hd => hex ⟨j, o', hj, hd⟩
          rw [i3 t hn', hno t fun j o' hj => hn' _ o' (hdropg j o' hj), put_other _ _ _ _ (hn' n oc hoc), hout0 t fun j o' _ hj => hn' j o' hj]
      have hY' := hY.of_same he (by simp [Region.wanted, hg])
      rcases hY' with ⟨_, hq⟩ | ⟨hw0, _⟩
      · refine Oper.wp_of_quiet (C := fun w' => w' = w) (K := fun a' => a' = a.put o.dst u) rfl ?_ ⟨u, hq, rfl⟩
        rintro a' w' rfl rfl
        refine ⟨(put_defers' _ _ _).trans i1, (put_size _ _ _).trans i2, fun t ht => ?_, hcl, fun hLp => ?_, fun _ => ⟨aτ, ⟨v, vs, hst, hfin, hQ, hdv⟩, fun j o' d hj hLj hd => ?_⟩⟩
        · rw [put_other _ _ _ _ (ht i o ho)]; exact i3 t ht
        · unfold plus at hLp; rw [if_neg (by omega), hLn] at hLp; cases hLp
        · by_cases hji : j = i
          · subst hji
            rw [ho] at hj
            obtain rfl := Option.some.inj hj
            rw [hd, put_here _ _ _ (by rw [i2]; exact hd1 d hd)]
            exact hv d hd
          · have hLj' : L j = true := by unfold plus at hLj; rwa [if_neg hji] at hLj
            rw [put_other _ _ _ _ (hd2 j o' hj hji d hd)]; exact i7 j o' d hj hLj' hd
      · simp [Region.wanted, hg] at hw0
  · intro L a w hall ⟨i1, i2, i3, i4, i5, i6⟩
    obtain ⟨aτ, hP, i7⟩ := i6 (hall n hnl)
    obtain ⟨p1, p2, p3, p4⟩ := hPost _ _ hP
    obtain ⟨v, vs, hst, hfin, hQ, hdv⟩ := hP
    have : a = aτ := by
      refine act_ext (i2.trans p1.symm) (i1.trans p2.symm) fun k => ?_
      by_cases hex : ∃ (j : Nat) (o' : Oper), l[j]? = some o' ∧ o'.dst = some k
      · obtain ⟨j, o', hj, hd⟩ := hex
        exact i7 j o' k hj (hall j (List.getElem?_eq_some_iff.1 hj).1) hd
      · have hn' : ∀ (j : Nat) (o' : Oper), l[j]? = some o' → o'.dst ≠ some k := fun j o' hj hd => hex ⟨j, o', hj, hd⟩
        rw [i3 k hn', p3 k hn']
    rw [this]; exact hQ
end Go.Proofs.Ytfijinbdpfeceaa

/- A region (calls behind too) that draws its order: quiet operations, then one call whose result is not foreknown, then quiet operations behind it. -/
namespace Go.Proofs.Ytfijinbdpfeceaa
open Go.RowKit
set_option linter.unusedSimpArgs false
set_option linter.unusedVariables false
set_option maxHeartbeats 1600000 in
theorem wp_region_wildD {P : Program} {id : Nat} {Q : Exit → Act → World → Prop} {a0 : Act} {W : World} {l : List Oper} (B n : Nat) (aσ : Act) (oc : Oper) (f : FuncId) (args : Array Value) (R : Value → World → Prop) (D : World → World → Prop) (hD : ∀ w, D w w)
    (hm : P.follows .mixedOrders = true) (hback : backB l = true) (hn : lawB l a0.tmps.size = true) (hw : wildB l n = true) (hoc : l[n]? = some oc) (hBW : B ≤ W.heap.size)
    (hpre : wpQuiet P l.toArray (fun w' => ∃ x : Ext B W, w' = x.out) (fun a' => a' = aσ) (l.take n) a0)
    (hent : ∀ w, (execOp aσ.eval oc).run P w = .ok (.enter f args) w)
    (hcall : ∀ x : Ext B W, Calls P f args x.out fun e w' => ∃ v, e = .returned v ∧ R v w')
    (hpost : ∀ v w1, R v w1 → wpQuiet P l.toArray (D w1) (fun a' => ∀ w', D w1 w' → Q .normal a' w') (l.drop (n + 1)) (aσ.put oc.dst v)) :
    (Code.region id l.toArray true).wp P Q a0 W := by
  have hL := fun i o ho => lawB_of hn i o ho
  have hone : ∀ (i : Nat) (o : Oper) (j : Nat) (o' : Oper) (d : Nat), l[i]? = some o → l[j]? = some o' → i ≠ j → o.dst = some d → o'.dst ≠ some d := fun i o j o' d hi hj hne hd => (hL j o' hj).2.2.2.1 i o hi hne d hd
  have hnl : n < l.length := (List.getElem?_eq_some_iff.1 hoc).1
  have htake : ∀ (i : Nat) (o : Oper), (l.take n)[i]? = some o → l[i]? = some o ∧ i < n := fun i o h => by
    rw [List.getElem?_take] at h
    split at h
    · exact ⟨h, by assumption⟩
    · cases h
  have hdropg : ∀ (i : Nat) (o : Oper), (l.drop (n + 1))[i]? = some o → l[n + 1 + i]? = some o := fun i o h => by rw [List.getElem?_drop] at h; exact h
  obtain ⟨vs0, hst0, hfin0⟩ := stepsS_of _ _ hpre
  have hsize : aσ.tmps.size = a0.tmps.size := by rw [← hfin0, putsS_size]
  have hdef : aσ.defers = a0.defers := by rw [← hfin0, putsS_defers]
  have key0 := fun i o ho => stepsS_key hst0 hfin0 (fun i o d h hd => (hL i o (htake i o h).1).2.2.1 d hd) (fun i o j o' d h h' hne hd => hone i o j o' d (htake i o h).1 (htake j o' h').1 hne hd) i o ho
  have hout0 : ∀ t : Nat, (∀ (i : Nat) (o : Oper), i < n → l[i]? = some o → o.dst ≠ some t) → aσ.tmps.getD t undef = a0.tmps.getD t undef := by
    intro t ht
    rw [← hfin0, putsS_other]
    intro o' hm' hd
    obtain ⟨k, hk, rfl⟩ := List.getElem_of_mem hm'
    have hk2 := htake k _ (List.getElem?_eq_getElem hk)
    exact ht k _ hk2.2 hk2.1 hd
  -- what stands when the call has been made
  let Post : World → Act → Prop := fun w aτ => ∃ v w0 vs, D w0 w ∧ StepsS P l.toArray (D w0) (l.drop (n + 1)) vs (aσ.put oc.dst v) ∧ putsS (l.drop (n + 1)) vs (aσ.put oc.dst v) = aτ ∧ (∀ w', D w0 w' → Q .normal aτ w') ∧ ∀ d, oc.dst = some d → aτ.tmps.getD d undef = v
  have hPost : ∀ w aτ, Post w aτ → aτ.tmps.size = a0.tmps.size ∧ aτ.defers = a0.defers ∧ (∀ t : Nat, (∀ (i : Nat) (o : Oper), l[i]? = some o → o.dst ≠ some t) → aτ.tmps.getD t undef = a0.tmps.getD t undef) ∧
      (∀ (i : Nat) (o : Oper) (d : Nat), l[i]? = some o → i < n → o.dst = some d → aτ.tmps.getD d undef = aσ.tmps.getD d undef) := by
    rintro w aτ ⟨v, w0, vs, _, h1, h2, _, _⟩
    have hoth : ∀ t : Nat, (∀ (i : Nat) (o : Oper), n < i → l[i]? = some o → o.dst ≠ some t) → aτ.tmps.getD t undef = (aσ.put oc.dst v).tmps.getD t undef := by
      intro t ht
      rw [← h2, putsS_other]
      intro o' hm' hd
      obtain ⟨k, hk, rfl⟩ := List.getElem_of_mem hm'
      exact ht _ _ (by omega) (hdropg k _ (List.getElem?_eq_getElem hk)) hd
    refine ⟨by rw [← h2, putsS_size, put_size, hsize], by rw [← h2, putsS_defers, put_defers', hdef], fun t ht => ?_, fun i o d hi hin hd => ?_⟩
    · rw [hoth t fun i o _ hi => ht i o hi, put_other _ _ _ _ (ht n oc hoc), hout0 t fun i o _ hi => ht i o hi]
    · rw [hoth d fun j o' hj hj' => hone i o j o' d hi hj' (by omega) hd, put_other _ _ _ _ (hone i o n oc d hi hoc (by omega) hd)]
  have hpre_all : ∀ L : Nat → Bool, (∀ (j : Nat) (oj : Oper), l[j]? = some oj → L j = true → ∀ e ∈ oj.after, Region.binds .any e = true → L e.on = true) → (∀ e ∈ oc.after, Region.binds .any e = true → L e.on = true) → ∀ i, i < n → L i = true := by
    intro L hcl hcn
    have : ∀ d i, n - i = d → i < n → L i = true := by
      intro d
      induction d using Nat.strongRecOn with
      | _ d ih =>
        intro i hd hi
        obtain ⟨j, o, h1, h2, h3, e, he, hb, rfl⟩ := wildB_pre hw i hi
        by_cases hj : j = n
        · subst hj
          rw [hoc] at h3
          obtain rfl := Option.some.inj h3
          exact hcn e he hb
        · exact hcl j o h3 (ih (n - j) (by omega) j rfl (by omega)) e he hb
    exact fun i hi => this _ i rfl hi
  refine wp_region_inv hm hback (fun L a w => a.defers = a0.defers ∧ a.tmps.size = a0.tmps.size ∧ (∀ t : Nat, (∀ (i : Nat) (o : Oper), l[i]? = some o → o.dst ≠ some t) → a.tmps.getD t undef = a0.tmps.getD t undef) ∧
    (∀ (j : Nat) (oj : Oper), l[j]? = some oj → L j = true → ∀ e ∈ oj.after, Region.binds .any e = true → L e.on = true) ∧
    (L n = false → (∃ x : Ext B W, w = x.out) ∧ ∀ (i : Nat) (o : Oper) (d : Nat), l[i]? = some o → L i = true → o.dst = some d → a.tmps.getD d undef = aσ.tmps.getD d undef) ∧
    (L n = true → ∃ aτ, Post w aτ ∧ ∀ (i : Nat) (o : Oper) (d : Nat), l[i]? = some o → L i = true → o.dst = some d → a.tmps.getD d undef = aτ.tmps.getD d undef)) ?_ ?_ ?_
  · intro L hL0
    exact ⟨rfl, rfl, fun _ _ => rfl, fun j oj hj hLj => (by rw [hL0 j (List.getElem?_eq_some_iff.1 hj).1] at hLj; cases hLj), fun _ => ⟨⟨⟨_, (Below.refl B W).drew⟩, rfl⟩, fun i o d hi hLi => (by rw [hL0 i (List.getElem?_eq_some_iff.1 hi).1] at hLi; cases hLi)⟩, fun hLn => (by rw [hL0 n hnl] at hLn; cases hLn)⟩
  · intro L a w i o ho hLi hafter ⟨i1, i2, i3, i4, i5, i6⟩
    obtain ⟨hg, hns, hd1, hd2, heyes⟩ := hL i o ho
    rw [if_pos (by simp [Region.wanted, hg])]
    have hcl : ∀ (j : Nat) (oj : Oper), l[j]? = some oj → plus L i j = true → ∀ e ∈ oj.after, Region.binds .any e = true → plus L i e.on = true := by
      intro j oj hj hLj e he hb
      unfold plus at hLj ⊢
      by_cases hji : j = i
      · subst hji
        rw [ho] at hj
        obtain rfl := Option.some.inj hj
        split
        · rfl
        · exact hafter e he hb
      · rw [if_neg hji] at hLj
        split
        · rfl
        · exact i4 j oj hj hLj e he hb
    rcases Nat.lt_trichotomy i n with hin | hin | hin
    · -- ahead of the call
      have hLn : L n = false := by
        cases hc : L n with
        | false => rfl
        | true => have := hpre_all L i4 (fun e he hb => i4 n oc hoc hc e he hb) i hin; rw [this] at hLi; cases hLi
      obtain ⟨⟨x, hx⟩, i7⟩ := i5 hLn
      have ho' : (l.take n)[i]? = some o := by rw [List.getElem?_take, if_pos hin]; exact ho
      obtain ⟨v, ai, hY, hv, hno, hyes⟩ := key0 i o ho'
      have he : execOp a.eval o = execOp ai.eval o := by
        refine execOp_congr o (fun c b hc => by rw [notSelect, hc] at hns; cases hns) (eval_eyes fun t ht => ?_)
        by_cases hex : ∃ (j : Nat) (o' : Oper), l[j]? = some o' ∧ o'.dst = some t
        · obtain ⟨j, o', hj, hd⟩ := hex
          obtain ⟨hji, e, he, hb, hon⟩ := heyes t ht j o' hj hd
          have hLj : L j = true := hon ▸ hafter e he hb
          rw [hyes t j o' hji (by rw [List.getElem?_take, if_pos (by omega)]; exact hj) hd]
          exact i7 j o' t hj hLj hd
        · have hn' : ∀ (j : Nat) (o' : Oper), l[j]? = some o' → o'.dst ≠ some t := fun j o' hj hd => hex ⟨j, o', hj, hd⟩
          rw [i3 t hn', hno t fun j o' hj => hn' j o' (htake j o' hj).1]
      have hY' := hY.of_same he (by simp [Region.wanted, hg])
      rcases hY' with ⟨_, hq⟩ | ⟨hw0, _⟩
      · refine Oper.wp_of_quiet (C := fun w' => ∃ x : Ext B W, w' = x.out) (K := fun a' => a' = a.put o.dst v) ⟨x, hx⟩ ?_ ⟨v, hq, rfl⟩
        rintro a' w' ⟨z, rfl⟩ rfl
        refine ⟨(put_defers' _ _ _).trans i1, (put_size _ _ _).trans i2, fun t ht => ?_, hcl, fun _ => ⟨⟨z, rfl⟩, fun j o' d hj hLj hd => ?_⟩, fun hLp => ?_⟩
        · rw [put_other _ _ _ _ (ht i o ho)]; exact i3 t ht
        · by_cases hji : j = i
          · subst hji
            rw [ho] at hj
            obtain rfl := Option.some.inj hj
            rw [hd, put_here _ _ _ (by rw [i2]; exact hd1 d hd)]
            exact hv d hd
          · have hLj' : L j = true := by unfold plus at hLj; rwa [if_neg hji] at hLj
            rw [put_other _ _ _ _ (hd2 j o' hj hji d hd)]; exact i7 j o' d hj hLj' hd
        · unfold plus at hLp; rw [if_neg (by omega), hLn] at hLp; cases hLp
      · simp [Region.wanted, hg] at hw0
    · -- the call
      subst hin
      rw [hoc] at ho
      obtain rfl := Option.some.inj ho
      obtain ⟨⟨x, hx⟩, i7⟩ := i5 hLi
      have hall := hpre_all L i4 hafter
      have he : execOp a.eval oc = execOp aσ.eval oc := by
        refine execOp_congr oc (fun c b hc => by rw [notSelect, hc] at hns; cases hns) (eval_eyes fun t ht => ?_)
        by_cases hex : ∃ (j : Nat) (o' : Oper), l[j]? = some o' ∧ o'.dst = some t
        · obtain ⟨j, o', hj, hd⟩ := hex
          obtain ⟨hji, e, he, hb, hon⟩ := heyes t ht j o' hj hd
          exact i7 j o' t hj (hon ▸ hafter e he hb) hd
        · have hn' : ∀ (j : Nat) (o' : Oper), l[j]? = some o' → o'.dst ≠ some t := fun j o' hj hd => hex ⟨j, o', hj, hd⟩
          rw [i3 t hn', hout0 t fun j o' _ hj => hn' j o' hj]
      subst hx
      unfold Oper.wp
      rw [he, hent]
      simp only [Oper.upon]
      refine (hcall x).mono ?_
      rintro e w' ⟨v, rfl, hR⟩
      obtain ⟨vs, hst, hQ⟩ := stepsS_of _ _ (hpost v w' hR)
      have hdv : ∀ d, oc.dst = some d → (putsS (l.drop (i + 1)) vs (aσ.put oc.dst v)).tmps.getD d undef = v := by
        intro d hd
        rw [putsS_other, hd, put_here _ _ _ (by rw [hsize]; exact hd1 d hd)]
        intro o' hm' hd'
        obtain ⟨k, hk, rfl⟩ := List.getElem_of_mem hm'
        exact hone i oc _ _ d hoc (hdropg k _ (List.getElem?_eq_getElem hk)) (by omega) hd hd'
      have hP : Post w' (putsS (l.drop (i + 1)) vs (aσ.put oc.dst v)) := ⟨v, w', vs, hD _, hst, rfl, hQ, hdv⟩
      obtain ⟨_, _, _, p4⟩ := hPost _ _ hP
      refine ⟨(put_defers' _ _ _).trans i1, (put_size _ _ _).trans i2, fun t ht => ?_, hcl, fun hLn => ?_, fun _ => ⟨_, hP, fun j o' d hj hLj hd => ?_⟩⟩
      · rw [put_other _ _ _ _ (ht i oc hoc)]; exact i3 t ht
      · simp [plus] at hLn
      · by_cases hji : j = i
        · subst hji
          rw [hoc] at hj
          obtain rfl := Option.some.inj hj
          rw [hd, put_here _ _ _ (by rw [i2]; exact hd1 d hd), ← hd, hdv d hd]
        · have hLj' : L j = true := by unfold plus at hLj; rwa [if_neg hji] at hLj
          have hjn : j < i := by
            rcases Nat.lt_trichotomy j i with h | h | h
            · exact h
            · exact absurd h hji
            · exfalso
              have : ∀ d t, t = d → i < t → t < l.length → L t = true → False := by
                intro d
                induction d using Nat.strongRecOn with
                | _ d ih =>
                  intro t htd hit htl hLt
                  obtain ⟨e, he', hb, h1, h2⟩ := wildB_post hw t _ (List.getElem?_eq_getElem htl) hit
                  have h3 := i4 t _ (List.getElem?_eq_getElem htl) hLt e he' hb
                  rcases Nat.eq_or_lt_of_le h1 with h4 | h4
                  · rw [← h4, hLi] at h3; cases h3
                  · exact ih e.on (by omega) e.on rfl h4 (by omega) h3
              exact this _ j rfl h (List.getElem?_eq_some_iff.1 hj).1 hLj'
          rw [put_other _ _ _ _ (hd2 j o' hj hji d hd), i7 j o' d hj hLj' hd, p4 j o' d hj hjn hd]
    · -- behind the call
      have hLn : L n = true := by
        obtain ⟨e, he, hb, h1, h2⟩ := wildB_post hw i o ho hin
        have h3 := hafter e he hb
        have : ∀ d t, t = d → n ≤ t → t < l.length → L t = true → L n = true := by
          intro d
          induction d using Nat.strongRecOn with
          | _ d ih =>
            intro t htd hit htl hLt
            rcases Nat.eq_or_lt_of_le hit with h4 | h4
            · rw [h4]; exact hLt
            · obtain ⟨e, he', hb, h1, h2⟩ := wildB_post hw t _ (List.getElem?_eq_getElem htl) h4
              exact ih e.on (by omega) e.on rfl h1 (by omega) (i4 t _ (List.getElem?_eq_getElem htl) hLt e he' hb)
        exact this _ e.on rfl h1 (by have := (List.getElem?_eq_some_iff.1 ho).1; omega) h3
      obtain ⟨aτ, hP, i7⟩ := i6 hLn
      obtain ⟨p1, p2, p3, p4⟩ := hPost _ _ hP
      obtain ⟨v, w0, vs, hDw, hst, hfin, hQ, hdv⟩ := hP
      have ho' : (l.drop (n + 1))[i - (n + 1)]? = some o := by rw [List.getElem?_drop]; rw [show n + 1 + (i - (n + 1)) = i by omega]; exact ho
      obtain ⟨u, ai, hY, hv, hno, hyes⟩ := stepsS_key hst hfin (fun j o' d h hd => by rw [put_size, hsize]; exact (hL _ o' (hdropg j o' h)).2.2.1 d hd) (fun j o' k o'' d h h' hne hd => hone _ o' _ o'' d (hdropg j o' h) (hdropg k o'' h') (by omega) hd) _ o ho'
      have he : execOp a.eval o = execOp ai.eval o := by
        refine execOp_congr o (fun c b hc => by rw [notSelect, hc] at hns; cases hns) (eval_eyes fun t ht => ?_)
        by_cases hex : ∃ (j : Nat) (o' : Oper), l[j]? = some o' ∧ o'.dst = some t
        · obtain ⟨j, o', hj, hd⟩ := hex
          obtain ⟨hji, e, he, hb, hon⟩ := heyes t ht j o' hj hd
          have hLj : L j = true := hon ▸ hafter e he hb
          rw [i7 j o' t hj hLj hd]
          by_cases hjn : n < j
          · rw [hyes t (j - (n + 1)) o' (by omega) (by rw [List.getElem?_drop, show n + 1 + (j - (n + 1)) = j by omega]; exact hj) hd]
          · have h9 : ai.tmps.getD t undef = (aσ.put oc.dst v).tmps.getD t undef := hno t fun k o'' hk => hone j o' _ o'' t hj (hdropg k o'' hk) (by omega) hd
            rw [h9]
            rcases Nat.lt_or_ge j n with h10 | h10
            · rw [p4 j o' t hj h10 hd, put_other _ _ _ _ (hone j o' n oc t hj hoc (by omega) hd)]
            · obtain rfl : j = n := by omega
              rw [hoc] at hj
              obtain rfl := Option.some.inj hj
              rw [hdv t hd, hd, put_here _ _ _ (by rw [hsize]; exact (hL j oc hoc).2.2.1 t hd)]
        · have hn' : ∀ (j : Nat) (o' : Oper), l[j]? = some o' → o'.dst ≠ some t := fun j o' hj hd => hex ⟨j, o', hj, hd⟩
          rw [i3 t hn', hno t fun j o' hj => hn' _ o' (hdropg j o' hj), put_other _ _ _ _ (hn' n oc hoc), hout0 t fun j o' _ hj => hn' j o' hj]
      have hY' := hY.of_same he (by simp [Region.wanted, hg])
      rcases hY' with ⟨_, hq⟩ | ⟨hw0, _⟩
      · refine Oper.wp_of_quiet (C := D w0) (K := fun a' => a' = a.put o.dst u) hDw ?_ ⟨u, hq, rfl⟩
        rintro a' w' hDw' rfl
        refine ⟨(put_defers' _ _ _).trans i1, (put_size _ _ _).trans i2, fun t ht => ?_, hcl, fun hLp => ?_, fun _ => ⟨aτ, ⟨v, w0, vs, hDw', hst, hfin, hQ, hdv⟩, fun j o' d hj hLj hd => ?_⟩⟩
        · rw [put_other _ _ _ _ (ht i o ho)]; exact i3 t ht
        · unfold plus at hLp; rw [if_neg (by omega), hLn] at hLp; cases hLp
        · by_cases hji : j = i
          · subst hji
            rw [ho] at hj
            obtain rfl := Option.some.inj hj
            rw [hd, put_here _ _ _ (by rw [i2]; exact hd1 d hd)]
            exact hv d hd
          · have hLj' : L j = true := by unfold plus at hLj; rwa [if_neg hji] at hLj
            rw [put_other _ _ _ _ (hd2 j o' hj hji d hd)]; exact i7 j o' d hj hLj' hd
      · simp [Region.wanted, hg] at hw0
  · intro L a w hall ⟨i1, i2, i3, i4, i5, i6⟩
    obtain ⟨aτ, hP, i7⟩ := i6 (hall n hnl)
    obtain ⟨p1, p2, p3, p4⟩ := hPost _ _ hP
    obtain ⟨v, w0, vs, hDw, hst, hfin, hQ, hdv⟩ := hP
    have : a = aτ := by
      refine act_ext (i2.trans p1.symm) (i1.trans p2.symm) fun k => ?_
      by_cases hex : ∃ (j : Nat) (o' : Oper), l[j]? = some o' ∧ o'.dst = some k
      · obtain ⟨j, o', hj, hd⟩ := hex
        exact i7 j o' k hj (hall j (List.getElem?_eq_some_iff.1 hj).1) hd
      · have hn' : ∀ (j : Nat) (o' : Oper), l[j]? = some o' → o'.dst ≠ some k := fun j o' hj hd => hex ⟨j, o', hj, hd⟩
        rw [i3 k hn', p3 k hn']
    rw [this]; exact hQ _ hDw
/-- The same; what stands behind the call turns nothing below the heap that the call has left. -/
theorem wp_region_wildE {P : Program} {id : Nat} {Q : Exit → Act → World → Prop} {a0 : Act} {W : World} {l : List Oper} (B n : Nat) (aσ : Act) (oc : Oper) (f : FuncId) (args : Array Value) (R : Value → World → Prop)
    (hm : P.follows .mixedOrders = true) (hback : backB l = true) (hn : lawB l a0.tmps.size = true) (hw : wildB l n = true) (hoc : l[n]? = some oc) (hBW : B ≤ W.heap.size)
    (hpre : wpQuiet P l.toArray (fun w' => ∃ x : Ext B W, w' = x.out) (fun a' => a' = aσ) (l.take n) a0)
    (hent : ∀ w, (execOp aσ.eval oc).run P w = .ok (.enter f args) w)
    (hcall : ∀ x : Ext B W, Calls P f args x.out fun e w' => ∃ v, e = .returned v ∧ R v w')
    (hpost : ∀ v w1, R v w1 → wpQuiet P l.toArray (fun w' => ∃ y : Ext w1.heap.size w1, w' = y.out) (fun a' => ∀ w', (∃ y : Ext w1.heap.size w1, w' = y.out) → Q .normal a' w') (l.drop (n + 1)) (aσ.put oc.dst v)) :
    (Code.region id l.toArray true).wp P Q a0 W :=
  wp_region_wildD B n aσ oc f args R (fun w1 w' => ∃ y : Ext w1.heap.size w1, w' = y.out) (fun w => ⟨⟨w, Below.refl _ _⟩, rfl⟩) hm hback hn hw hoc hBW hpre hent hcall hpost
end Go.Proofs.Ytfijinbdpfeceaa

/- A region that draws its order with one call of unforeknown result; what stands ahead of it may run behind it. -/
namespace Go.Proofs.Ytfijinbdpfeceaa
open Go.RowKit
set_option linter.unusedSimpArgs false
set_option linter.unusedVariables false
/-- Each operation behind number n waits for it, or for one behind it. -/
def wildB2 (l : List Oper) (n : Nat) : Bool := (List.range l.length).all fun t => decide (t ≤ n) || (match l[t]? with | some o => o.after.toList.any fun e => Region.binds .any e && decide (n ≤ e.on) && decide (e.on < t) | none => true)
theorem wildB2_post {l : List Oper} {n : Nat} (h : wildB2 l n = true) (t : Nat) (o : Oper) (ho : l[t]? = some o) (ht : n < t) : ∃ e ∈ o.after, Region.binds .any e = true ∧ n ≤ e.on ∧ e.on < t := by
  have h1 := List.all_eq_true.1 h t (List.mem_range.2 (List.getElem?_eq_some_iff.1 ho).1)
  rw [ho] at h1
  simp only [Bool.or_eq_true, decide_eq_true_eq] at h1
  rcases h1 with h1 | h1
  · omega
  · obtain ⟨e, he, h5⟩ := List.any_eq_true.1 h1
    simp only [Bool.and_eq_true, decide_eq_true_eq] at h5
    exact ⟨e, by simpa using he, h5.1.1, h5.1.2, h5.2⟩
set_option maxHeartbeats 1600000 in
theorem wp_region_wildF {P : Program} {id : Nat} {Q : Exit → Act → World → Prop} {a0 : Act} {W : World} {l : List Oper} (B n : Nat) (aσ : Act) (oc : Oper) (f : FuncId) (args : Array Value) (R : Value → World → Prop) (D : World → World → Prop) (hD : ∀ w, D w w)
    (hm : P.follows .mixedOrders = true) (hback : backB l = true) (hn : lawB l a0.tmps.size = true) (hw : wildB2 l n = true) (hoc : l[n]? = some oc) (hBW : B ≤ W.heap.size)
    (hpre : wpQuiet P l.toArray (fun w' => ∃ x : Ext B W, w' = x.out) (fun a' => a' = aσ) (l.take n) a0)
    (hpre2 : ∀ v w1, R v w1 → wpQuiet P l.toArray (D w1) (fun a' => a' = aσ) (l.take n) a0)
    (hent : ∀ w, (execOp aσ.eval oc).run P w = .ok (.enter f args) w)
    (hcall : ∀ x : Ext B W, Calls P f args x.out fun e w' => ∃ v, e = .returned v ∧ R v w')
    (hpost : ∀ v w1, R v w1 → wpQuiet P l.toArray (D w1) (fun a' => ∀ w', D w1 w' → Q .normal a' w') (l.drop (n + 1)) (aσ.put oc.dst v)) :
    (Code.region id l.toArray true).wp P Q a0 W := by
  have hL := fun i o ho => lawB_of hn i o ho
  have hone : ∀ (i : Nat) (o : Oper) (j : Nat) (o' : Oper) (d : Nat), l[i]? = some o → l[j]? = some o' → i ≠ j → o.dst = some d → o'.dst ≠ some d := fun i o j o' d hi hj hne hd => (hL j o' hj).2.2.2.1 i o hi hne d hd
  have hnl : n < l.length := (List.getElem?_eq_some_iff.1 hoc).1
  have htake : ∀ (i : Nat) (o : Oper), (l.take n)[i]? = some o → l[i]? = some o ∧ i < n := fun i o h => by
    rw [List.getElem?_take] at h
    split at h
    · exact ⟨h, by assumption⟩
    · cases h
  have hdropg : ∀ (i : Nat) (o : Oper), (l.drop (n + 1))[i]? = some o → l[n + 1 + i]? = some o := fun i o h => by rw [List.getElem?_drop] at h; exact h
  obtain ⟨vs0, hst0, hfin0⟩ := stepsS_of _ _ hpre
  have hsize : aσ.tmps.size = a0.tmps.size := by rw [← hfin0, putsS_size]
  have hdef : aσ.defers = a0.defers := by rw [← hfin0, putsS_defers]
  have key0 := fun i o ho => stepsS_key hst0 hfin0 (fun i o d h hd => (hL i o (htake i o h).1).2.2.1 d hd) (fun i o j o' d h h' hne hd => hone i o j o' d (htake i o h).1 (htake j o' h').1 hne hd) i o ho
  have hout0 : ∀ t : Nat, (∀ (i : Nat) (o : Oper), i < n → l[i]? = some o → o.dst ≠ some t) → aσ.tmps.getD t undef = a0.tmps.getD t undef := by
    intro t ht
    rw [← hfin0, putsS_other]
    intro o' hm' hd
    obtain ⟨k, hk, rfl⟩ := List.getElem_of_mem hm'
    have hk2 := htake k _ (List.getElem?_eq_getElem hk)
    exact ht k _ hk2.2 hk2.1 hd
  -- what stands when the call has been made
  let Post : World → Act → Prop := fun w aτ => ∃ v w0 vs, R v w0 ∧ D w0 w ∧ StepsS P l.toArray (D w0) (l.drop (n + 1)) vs (aσ.put oc.dst v) ∧ putsS (l.drop (n + 1)) vs (aσ.put oc.dst v) = aτ ∧ (∀ w', D w0 w' → Q .normal aτ w') ∧ ∀ d, oc.dst = some d → aτ.tmps.getD d undef = v
  have hPost : ∀ w aτ, Post w aτ → aτ.tmps.size = a0.tmps.size ∧ aτ.defers = a0.defers ∧ (∀ t : Nat, (∀ (i : Nat) (o : Oper), l[i]? = some o → o.dst ≠ some t) → aτ.tmps.getD t undef = a0.tmps.getD t undef) ∧
      (∀ (i : Nat) (o : Oper) (d : Nat), l[i]? = some o → i < n → o.dst = some d → aτ.tmps.getD d undef = aσ.tmps.getD d undef) := by
    rintro w aτ ⟨v, w0, vs, _, _, h1, h2, _, _⟩
    have hoth : ∀ t : Nat, (∀ (i : Nat) (o : Oper), n < i → l[i]? = some o → o.dst ≠ some t) → aτ.tmps.getD t undef = (aσ.put oc.dst v).tmps.getD t undef := by
      intro t ht
      rw [← h2, putsS_other]
      intro o' hm' hd
      obtain ⟨k, hk, rfl⟩ := List.getElem_of_mem hm'
      exact ht _ _ (by omega) (hdropg k _ (List.getElem?_eq_getElem hk)) hd
    refine ⟨by rw [← h2, putsS_size, put_size, hsize], by rw [← h2, putsS_defers, put_defers', hdef], fun t ht => ?_, fun i o d hi hin hd => ?_⟩
    · rw [hoth t fun i o _ hi => ht i o hi, put_other _ _ _ _ (ht n oc hoc), hout0 t fun i o _ hi => ht i o hi]
    · rw [hoth d fun j o' hj hj' => hone i o j o' d hi hj' (by omega) hd, put_other _ _ _ _ (hone i o n oc d hi hoc (by omega) hd)]
  refine wp_region_inv hm hback (fun L a w => a.defers = a0.defers ∧ a.tmps.size = a0.tmps.size ∧ (∀ t : Nat, (∀ (i : Nat) (o : Oper), l[i]? = some o → o.dst ≠ some t) → a.tmps.getD t undef = a0.tmps.getD t undef) ∧
    (∀ (j : Nat) (oj : Oper), l[j]? = some oj → L j = true → ∀ e ∈ oj.after, Region.binds .any e = true → L e.on = true) ∧
    (L n = false → (∃ x : Ext B W, w = x.out) ∧ ∀ (i : Nat) (o : Oper) (d : Nat), l[i]? = some o → L i = true → o.dst = some d → a.tmps.getD d undef = aσ.tmps.getD d undef) ∧
    (L n = true → ∃ aτ, Post w aτ ∧ ∀ (i : Nat) (o : Oper) (d : Nat), l[i]? = some o → L i = true → o.dst = some d → a.tmps.getD d undef = aτ.tmps.getD d undef)) ?_ ?_ ?_
  · intro L hL0
    exact ⟨rfl, rfl, fun _ _ => rfl, fun j oj hj hLj => (by rw [hL0 j (List.getElem?_eq_some_iff.1 hj).1] at hLj; cases hLj), fun _ => ⟨⟨⟨_, (Below.refl B W).drew⟩, rfl⟩, fun i o d hi hLi => (by rw [hL0 i (List.getElem?_eq_some_iff.1 hi).1] at hLi; cases hLi)⟩, fun hLn => (by rw [hL0 n hnl] at hLn; cases hLn)⟩
  · intro L a w i o ho hLi hafter ⟨i1, i2, i3, i4, i5, i6⟩
    obtain ⟨hg, hns, hd1, hd2, heyes⟩ := hL i o ho
    rw [if_pos (by simp [Region.wanted, hg])]
    have hcl : ∀ (j : Nat) (oj : Oper), l[j]? = some oj → plus L i j = true → ∀ e ∈ oj.after, Region.binds .any e = true → plus L i e.on = true := by
      intro j oj hj hLj e he hb
      unfold plus at hLj ⊢
      by_cases hji : j = i
      · subst hji
        rw [ho] at hj
        obtain rfl := Option.some.inj hj
        split
        · rfl
        · exact hafter e he hb
      · rw [if_neg hji] at hLj
        split
        · rfl
        · exact i4 j oj hj hLj e he hb
    rcases Nat.lt_trichotomy i n with hin | hin | hin
    · -- ahead of the call
      cases hLn : L n with
      | false =>
        obtain ⟨⟨x, hx⟩, i7⟩ := i5 hLn
        have ho' : (l.take n)[i]? = some o := by rw [List.getElem?_take, if_pos hin]; exact ho
        obtain ⟨v, ai, hY, hv, hno, hyes⟩ := key0 i o ho'
        have he : execOp a.eval o = execOp ai.eval o := by
          refine execOp_congr o (fun c b hc => by rw [notSelect, hc] at hns; cases hns) (eval_eyes fun t ht => ?_)
          by_cases hex : ∃ (j : Nat) (o' : Oper), l[j]? = some o' ∧ o'.dst = some t
          · obtain ⟨j, o', hj, hd⟩ := hex
            obtain ⟨hji, e, he, hb, hon⟩ := heyes t ht j o' hj hd
            have hLj : L j = true := hon ▸ hafter e he hb
            rw [hyes t j o' hji (by rw [List.getElem?_take, if_pos (by omega)]; exact hj) hd]
            exact i7 j o' t hj hLj hd
          · have hn' : ∀ (j : Nat) (o' : Oper), l[j]? = some o' → o'.dst ≠ some t := fun j o' hj hd => hex ⟨j, o', hj, hd⟩
            rw [i3 t hn', hno t fun j o' hj => hn' j o' (htake j o' hj).1]
        have hY' := hY.of_same he (by simp [Region.wanted, hg])
        rcases hY' with ⟨_, hq⟩ | ⟨hw0, _⟩
        · refine Oper.wp_of_quiet (C := fun w' => ∃ x : Ext B W, w' = x.out) (K := fun a' => a' = a.put o.dst v) ⟨x, hx⟩ ?_ ⟨v, hq, rfl⟩
          rintro a' w' ⟨z, rfl⟩ rfl
          refine ⟨(put_defers' _ _ _).trans i1, (put_size _ _ _).trans i2, fun t ht => ?_, hcl, fun _ => ⟨⟨z, rfl⟩, fun j o' d hj hLj hd => ?_⟩, fun hLp => ?_⟩
          · rw [put_other _ _ _ _ (ht i o ho)]; exact i3 t ht
          · by_cases hji : j = i
            · subst hji
              rw [ho] at hj
              obtain rfl := Option.some.inj hj
              rw [hd, put_here _ _ _ (by rw [i2]; exact hd1 d hd)]
              exact hv d hd
            · have hLj' : L j = true := by unfold plus at hLj; rwa [if_neg hji] at hLj
              rw [put_other _ _ _ _ (hd2 j o' hj hji d hd)]; exact i7 j o' d hj hLj' hd
          · unfold plus at hLp; rw [if_neg (by omega), hLn] at hLp; cases hLp
        · simp [Region.wanted, hg] at hw0
      | true =>
        obtain ⟨aτ, hP, i7⟩ := i6 hLn
        have hP0 := hP
        obtain ⟨p1, p2, p3, p4⟩ := hPost _ _ hP
        obtain ⟨v1, w0, vs1, hR0, hDw, hst1, hfin1, hQ1, hdv1⟩ := hP
        obtain ⟨vs2, hst2, hfin2⟩ := stepsS_of _ _ (hpre2 v1 w0 hR0)
        have ho' : (l.take n)[i]? = some o := by rw [List.getElem?_take, if_pos hin]; exact ho
        obtain ⟨v, ai, hY, hv, hno, hyes⟩ := stepsS_key hst2 hfin2 (fun i o d h hd => (hL i o (htake i o h).1).2.2.1 d hd) (fun i o j o' d h h' hne hd => hone i o j o' d (htake i o h).1 (htake j o' h').1 hne hd) i o ho'
        have he : execOp a.eval o = execOp ai.eval o := by
          refine execOp_congr o (fun c b hc => by rw [notSelect, hc] at hns; cases hns) (eval_eyes fun t ht => ?_)
          by_cases hex : ∃ (j : Nat) (o' : Oper), l[j]? = some o' ∧ o'.dst = some t
          · obtain ⟨j, o', hj, hd⟩ := hex
            obtain ⟨hji, e, he, hb, hon⟩ := heyes t ht j o' hj hd
            have hLj : L j = true := hon ▸ hafter e he hb
            rw [hyes t j o' hji (by rw [List.getElem?_take, if_pos (by omega)]; exact hj) hd, i7 j o' t hj hLj hd]
            exact p4 j o' t hj (by omega) hd
          · have hn' : ∀ (j : Nat) (o' : Oper), l[j]? = some o' → o'.dst ≠ some t := fun j o' hj hd => hex ⟨j, o', hj, hd⟩
            rw [i3 t hn', hno t fun j o' hj => hn' j o' (htake j o' hj).1]
        have hY' := hY.of_same he (by simp [Region.wanted, hg])
        rcases hY' with ⟨_, hq⟩ | ⟨hw0, _⟩
        · refine Oper.wp_of_quiet (C := D w0) (K := fun a' => a' = a.put o.dst v) hDw ?_ ⟨v, hq, rfl⟩
          rintro a' w' hDw' rfl
          refine ⟨(put_defers' _ _ _).trans i1, (put_size _ _ _).trans i2, fun t ht => ?_, hcl, fun hLp => ?_, fun _ => ⟨aτ, ⟨v1, w0, vs1, hR0, hDw', hst1, hfin1, hQ1, hdv1⟩, fun j o' d hj hLj hd => ?_⟩⟩
          · rw [put_other _ _ _ _ (ht i o ho)]; exact i3 t ht
          · unfold plus at hLp; rw [if_neg (by omega), hLn] at hLp; cases hLp
          · by_cases hji : j = i
            · subst hji
              rw [ho] at hj
              obtain rfl := Option.some.inj hj
              rw [hd, put_here _ _ _ (by rw [i2]; exact hd1 d hd), hv d hd]
              exact (p4 j o d ho hin hd).symm
            · have hLj' : L j = true := by unfold plus at hLj; rwa [if_neg hji] at hLj
              rw [put_other _ _ _ _ (hd2 j o' hj hji d hd)]; exact i7 j o' d hj hLj' hd
        · simp [Region.wanted, hg] at hw0
    · -- the call
      subst hin
      rw [hoc] at ho
      obtain rfl := Option.some.inj ho
      obtain ⟨⟨x, hx⟩, i7⟩ := i5 hLi
      have he : execOp a.eval oc = execOp aσ.eval oc := by
        refine execOp_congr oc (fun c b hc => by rw [notSelect, hc] at hns; cases hns) (eval_eyes fun t ht => ?_)
        by_cases hex : ∃ (j : Nat) (o' : Oper), l[j]? = some o' ∧ o'.dst = some t
        · obtain ⟨j, o', hj, hd⟩ := hex
          obtain ⟨hji, e, he, hb, hon⟩ := heyes t ht j o' hj hd
          exact i7 j o' t hj (hon ▸ hafter e he hb) hd
        · have hn' : ∀ (j : Nat) (o' : Oper), l[j]? = some o' → o'.dst ≠ some t := fun j o' hj hd => hex ⟨j, o', hj, hd⟩
          rw [i3 t hn', hout0 t fun j o' _ hj => hn' j o' hj]
      subst hx
      unfold Oper.wp
      rw [he, hent]
      simp only [Oper.upon]
      refine (hcall x).mono ?_
      rintro e w' ⟨v, rfl, hR⟩
      obtain ⟨vs, hst, hQ⟩ := stepsS_of _ _ (hpost v w' hR)
      have hdv : ∀ d, oc.dst = some d → (putsS (l.drop (i + 1)) vs (aσ.put oc.dst v)).tmps.getD d undef = v := by
        intro d hd
        rw [putsS_other, hd, put_here _ _ _ (by rw [hsize]; exact hd1 d hd)]
        intro o' hm' hd'
        obtain ⟨k, hk, rfl⟩ := List.getElem_of_mem hm'
        exact hone i oc _ _ d hoc (hdropg k _ (List.getElem?_eq_getElem hk)) (by omega) hd hd'
      have hP : Post w' (putsS (l.drop (i + 1)) vs (aσ.put oc.dst v)) := ⟨v, w', vs, hR, hD _, hst, rfl, hQ, hdv⟩
      obtain ⟨_, _, _, p4⟩ := hPost _ _ hP
      refine ⟨(put_defers' _ _ _).trans i1, (put_size _ _ _).trans i2, fun t ht => ?_, hcl, fun hLn => ?_, fun _ => ⟨_, hP, fun j o' d hj hLj hd => ?_⟩⟩
      · rw [put_other _ _ _ _ (ht i oc hoc)]; exact i3 t ht
      · simp [plus] at hLn
      · by_cases hji : j = i
        · subst hji
          rw [hoc] at hj
          obtain rfl := Option.some.inj hj
          rw [hd, put_here _ _ _ (by rw [i2]; exact hd1 d hd), ← hd, hdv d hd]
        · have hLj' : L j = true := by unfold plus at hLj; rwa [if_neg hji] at hLj
          have hjn : j < i := by
            rcases Nat.lt_trichotomy j i with h | h | h
            · exact h
            · exact absurd h hji
            · exfalso
              have : ∀ d t, t = d → i < t → t < l.length → L t = true → False := by
                intro d
                induction d using Nat.strongRecOn with
                | _ d ih =>
                  intro t htd hit htl hLt
                  obtain ⟨e, he', hb, h1, h2⟩ := wildB2_post hw t _ (List.getElem?_eq_getElem htl) hit
                  have h3 := i4 t _ (List.getElem?_eq_getElem htl) hLt e he' hb
                  rcases Nat.eq_or_lt_of_le h1 with h4 | h4
                  · rw [← h4, hLi] at h3; cases h3
                  · exact ih e.on (by omega) e.on rfl h4 (by omega) h3
              exact this _ j rfl h (List.getElem?_eq_some_iff.1 hj).1 hLj'
          rw [put_other _ _ _ _ (hd2 j o' hj hji d hd), i7 j o' d hj hLj' hd, p4 j o' d hj hjn hd]
    · -- behind the call
      have hLn : L n = true := by
        obtain ⟨e, he, hb, h1, h2⟩ := wildB2_post hw i o ho hin
        have h3 := hafter e he hb
        have : ∀ d t, t = d → n ≤ t → t < l.length → L t = true → L n = true := by
          intro d
          induction d using Nat.strongRecOn with
          | _ d ih =>
            intro t htd hit htl hLt
            rcases Nat.eq_or_lt_of_le hit with h4 | h4
            · rw [h4]; exact hLt
            · obtain ⟨e, he', hb, h1, h2⟩ := wildB2_post hw t _ (List.getElem?_eq_getElem htl) h4
              exact ih e.on (by omega) e.on rfl h1 (by omega) (i4 t _ (List.getElem?_eq_getElem htl) hLt e he' hb)
        exact this _ e.on rfl h1 (by have := (List.getElem?_eq_some_iff.1 ho).1; omega) h3
      obtain ⟨aτ, hP, i7⟩ := i6 hLn
      obtain ⟨p1, p2, p3, p4⟩ := hPost _ _ hP
      obtain ⟨v, w0, vs, hR0, hDw, hst, hfin, hQ, hdv⟩ := hP
      have ho' : (l.drop (n + 1))[i - (n + 1)]? = some o := by rw [List.getElem?_drop]; rw [show n + 1 + (i - (n + 1)) = i by omega]; exact ho
      obtain ⟨u, ai, hY, hv, hno, hyes⟩ := stepsS_key hst hfin (fun j o' d h hd => by rw [put_size, hsize]; exact (hL _ o' (hdropg j o' h)).2.2.1 d hd) (fun j o' k o'' d h h' hne hd => hone _ o' _ o'' d (hdropg j o' h) (hdropg k o'' h') (by omega) hd) _ o ho'
      have he : execOp a.eval o = execOp ai.eval o := by
        refine execOp_congr o (fun c b hc => by rw [notSelect, hc] at hns; cases hns) (eval_eyes fun t ht => ?_)
        by_cases hex : ∃ (j : Nat) (o' : Oper), l[j]? = some o' ∧ o'.dst = some t
        · obtain ⟨j, o', hj, hd⟩ := hex
          obtain ⟨hji, e, he, hb, hon⟩ := heyes t ht j o' hj hd
          have hLj : L j = true := hon ▸ hafter e he hb
          rw [i7 j o' t hj hLj hd]
          by_cases hjn : n < j
          · rw [hyes t (j - (n + 1)) o' (by omega) (by rw [List.getElem?_drop, show n + 1 + (j - (n + 1)) = j by omega]; exact hj) hd]
          · have h9 : ai.tmps.getD t undef = (aσ.put oc.dst v).tmps.getD t undef := hno t fun k o'' hk => hone j o' _ o'' t hj (hdropg k o'' hk) (by omega) hd
            rw [h9]
            rcases Nat.lt_or_ge j n with h10 | h10
            · rw [p4 j o' t hj h10 hd, put_other _ _ _ _ (hone j o' n oc t hj hoc (by omega) hd)]
            · obtain rfl : j = n := by omega
              rw [hoc] at hj
              obtain rfl := Option.some.inj hj
              rw [hdv t hd, hd, put_here _ _ _ (by rw [hsize]; exact (hL j oc hoc).2.2.1 t hd)]
        · have hn' : ∀ (j : Nat) (o' : Oper), l[j]? = some o' → o'.dst ≠ some t := fun j o' hj hd => hex ⟨j, o', hj, hd⟩
          rw [i3 t hn', hno t fun j o' hj => hn' _ o' (hdropg j o' hj), put_other _ _ _ _ (hn' n oc hoc), hout0 t fun j o' _ hj => hn' j o' hj]
      have hY' := hY.of_same he (by simp [Region.wanted, hg])
      rcases hY' with ⟨_, hq⟩ | ⟨hw0, _⟩
      · refine Oper.wp_of_quiet (C := D w0) (K := fun a' => a' = a.put o.dst u) hDw ?_ ⟨u, hq, rfl⟩
        rintro a' w' hDw' rfl
        refine ⟨(put_defers' _ _ _).trans i1, (put_size _ _ _).trans i2, fun t ht => ?_, hcl, fun hLp => ?_, fun _ => ⟨aτ, ⟨v, w0, vs, hR0, hDw', hst, hfin, hQ, hdv⟩, fun j o' d hj hLj hd => ?_⟩⟩
        · rw [put_other _ _ _ _ (ht i o ho)]; exact i3 t ht
        · unfold plus at hLp; rw [if_neg (by omega), hLn] at hLp; cases hLp
        · by_cases hji : j = i
          · subst hji
            rw [ho] at hj
            obtain rfl := Option.some.inj hj
            rw [hd, put_here _ _ _ (by rw [i2]; exact hd1 d hd)]
            exact hv d hd
          · have hLj' : L j = true := by unfold plus at hLj; rwa [if_neg hji] at hLj
            rw [put_other _ _ _ _ (hd2 j o' hj hji d hd)]; exact i7 j o' d hj hLj' hd
      · simp [Region.wanted, hg] at hw0
  · intro L a w hall ⟨i1, i2, i3, i4, i5, i6⟩
    obtain ⟨aτ, hP, i7⟩ := i6 (hall n hnl)
    obtain ⟨p1, p2, p3, p4⟩ := hPost _ _ hP
    obtain ⟨v, w0, vs, hR0, hDw, hst, hfin, hQ, hdv⟩ := hP
    have : a = aτ := by
      refine act_ext (i2.trans p1.symm) (i1.trans p2.symm) fun k => ?_
      by_cases hex : ∃ (j : Nat) (o' : Oper), l[j]? = some o' ∧ o'.dst = some k
      · obtain ⟨j, o', hj, hd⟩ := hex
        exact i7 j o' k hj (hall j (List.getElem?_eq_some_iff.1 hj).1) hd
      · have hn' : ∀ (j : Nat) (o' : Oper), l[j]? = some o' → o'.dst ≠ some k := fun j o' hj hd => hex ⟨j, o', hj, hd⟩
        rw [i3 k hn', p3 k hn']
    rw [this]; exact hQ _ hDw
/-- The same; what stands behind the call, and what may run behind it, turns nothing below the heap that the call has left. -/
theorem wp_region_wildG {P : Program} {id : Nat} {Q : Exit → Act → World → Prop} {a0 : Act} {W : World} {l : List Oper} (B n : Nat) (aσ : Act) (oc : Oper) (f : FuncId) (args : Array Value) (R : Value → World → Prop)
    (hm : P.follows .mixedOrders = true) (hback : backB l = true) (hn : lawB l a0.tmps.size = true) (hw : wildB2 l n = true) (hoc : l[n]? = some oc) (hBW : B ≤ W.heap.size)
    (hpre : ∀ (B' : Nat) (W' : World), Below B W W' → B ≤ B' → B' ≤ W'.heap.size → wpQuiet P l.toArray (fun w' => ∃ x : Ext B' W', w' = x.out) (fun a' => a' = aσ) (l.take n) a0)
    (hent : ∀ w, (execOp aσ.eval oc).run P w = .ok (.enter f args) w)
    (hcall : ∀ x : Ext B W, Calls P f args x.out fun e w' => ∃ v, e = .returned v ∧ R v w' ∧ Below B W w')
    (hpost : ∀ v w1, R v w1 → Below B W w1 → wpQuiet P l.toArray (fun w' => ∃ y : Ext w1.heap.size w1, w' = y.out) (fun a' => ∀ w', (∃ y : Ext w1.heap.size w1, w' = y.out) → Q .normal a' w') (l.drop (n + 1)) (aσ.put oc.dst v)) :
    (Code.region id l.toArray true).wp P Q a0 W :=
  wp_region_wildF B n aσ oc f args (fun v w1 => R v w1 ∧ Below B W w1) (fun w1 w' => ∃ y : Ext w1.heap.size w1, w' = y.out) (fun w => ⟨⟨w, Below.refl _ _⟩, rfl⟩) hm hback hn hw hoc hBW (hpre B W (Below.refl _ _) (Nat.le_refl _) hBW)
    (fun v w1 hR => hpre w1.heap.size w1 hR.2 (Nat.le_trans hBW hR.2.size) (Nat.le_refl _)) hent hcall (fun v w1 hR => hpost v w1 hR.1 hR.2)
end Go.Proofs.Ytfijinbdpfeceaa

/- A region that draws its order: some operations of unforeknown result, in whatever order their edges leave open; all others of foreknown values. -/
namespace Go.Proofs.Ytfijinbdpfeceaa
open Go.RowKit
set_option linter.unusedSimpArgs false
set_option linter.unusedVariables false

def dstOf (l : List Oper) (j : Nat) : Option Nat := match l[j]? with | some o => o.dst | none => none
theorem dstOf_some {l : List Oper} {j : Nat} {o : Oper} (h : l[j]? = some o) : dstOf l j = o.dst := by unfold dstOf; rw [h]
theorem dstOf_inv {l : List Oper} {j t : Nat} (h : dstOf l j = some t) : ∃ o, l[j]? = some o ∧ o.dst = some t := by
  unfold dstOf at h
  cases hl : l[j]? with
  | none => rw [hl] at h; cases h
  | some o => rw [hl] at h; exact ⟨o, rfl, h⟩
/-- qi: the numbers of the foreknown ones, wi: of the others; what a foreknown one looks at no other one writes. -/
def chainB (l : List Oper) (qi wi : List Nat) : Bool :=
  ((List.range l.length).all fun i => qi.contains i != wi.contains i) && (qi.all fun i => decide (i < l.length)) && (wi.all fun i => decide (i < l.length)) && decide (qi.Pairwise (· < ·)) && decide (wi.Pairwise (· < ·)) &&
  (qi.all fun i => match l[i]? with | some o => (eyes o).all fun t => wi.all fun j => !(dstOf l j == some t) | none => true)
theorem chainB_of {l : List Oper} {qi wi : List Nat} (h : chainB l qi wi = true) :
    (∀ i, i < l.length → (i ∈ qi ∧ i ∉ wi) ∨ (i ∈ wi ∧ i ∉ qi)) ∧ (∀ i ∈ qi, i < l.length) ∧ (∀ i ∈ wi, i < l.length) ∧ qi.Pairwise (· < ·) ∧ wi.Pairwise (· < ·) ∧
    (∀ i ∈ qi, ∀ o, l[i]? = some o → ∀ t ∈ eyes o, ∀ j ∈ wi, dstOf l j ≠ some t) := by
  unfold chainB at h
  simp only [Bool.and_eq_true, List.all_eq_true, decide_eq_true_eq] at h
  obtain ⟨⟨⟨⟨⟨h1, h2⟩, h3⟩, h4⟩, h5⟩, h6⟩ := h
  refine ⟨fun i hi => ?_, h2, h3, h4, h5, fun i hi o ho t ht j hj hd => ?_⟩
  · have := h1 i (List.mem_range.2 hi)
    by_cases a : i ∈ qi <;> by_cases b : i ∈ wi <;> simp [a, b] at this ⊢
  · have := h6 i hi
    rw [ho] at this
    simp only [List.all_eq_true] at this
    have := this t ht j hj
    rw [hd] at this
    simp at this
theorem pick_get (l : List Oper) : ∀ (qi : List Nat) (_ : ∀ i ∈ qi, i < l.length) (k : Nat), (qi.filterMap fun i => l[i]?)[k]? = (qi[k]?).bind fun i => l[i]?
  | [], _, k => by simp
  | i :: qi, h, k => by
    have hi := h i (by simp)
    rw [List.filterMap_cons, List.getElem?_eq_getElem hi]
    cases k with
    | zero => simp [List.getElem?_eq_getElem hi]
    | succ k =>
      simp only [List.getElem?_cons_succ]
      exact pick_get l qi (fun j hj => h j (by simp [hj])) k
def updR (res : Nat → Option Value) (i : Nat) (v : Value) : Nat → Option Value := fun j => if j = i then some v else res j
def putW (l : List Oper) (val : Nat → Value) (ws : List Nat) (a : Act) : Act := ws.foldl (fun a j => a.put (dstOf l j) (val j)) a
theorem putW_size (l : List Oper) (val : Nat → Value) : ∀ (ws : List Nat) (a : Act), (putW l val ws a).tmps.size = a.tmps.size ∧ (putW l val ws a).defers = a.defers
  | [], a => ⟨rfl, rfl⟩
  | j :: ws, a => by
    have := putW_size l val ws (a.put (dstOf l j) (val j))
    rw [put_size, put_defers'] at this
    exact this
theorem putW_other (l : List Oper) (val : Nat → Value) (t : Nat) : ∀ (ws : List Nat) (a : Act), (∀ j ∈ ws, dstOf l j ≠ some t) → (putW l val ws a).tmps.getD t undef = a.tmps.getD t undef
  | [], a, _ => rfl
  | j :: ws, a, h => by
    have := putW_other l val t ws (a.put (dstOf l j) (val j)) (fun j' hj' => h j' (by simp [hj']))
    rw [put_other _ _ _ _ (h j (by simp))] at this
    exact this
theorem putW_here (l : List Oper) (val : Nat → Value) (t j0 : Nat) (hd : dstOf l j0 = some t) : ∀ (ws : List Nat) (a : Act), j0 ∈ ws → (∀ j ∈ ws, j ≠ j0 → dstOf l j ≠ some t) → t < a.tmps.size → (putW l val ws a).tmps.getD t undef = val j0
  | [], a, h, _, _ => by simp at h
  | j :: ws, a, h, h1, hs => by
    by_cases hin : j0 ∈ ws
    · exact putW_here l val t j0 hd ws (a.put (dstOf l j) (val j)) hin (fun j' hj' => h1 j' (by simp [hj'])) (by rw [put_size]; exact hs)
    · obtain rfl : j0 = j := by rcases List.mem_cons.1 h with h | h; exact h; exact absurd h hin
      have := putW_other l val t ws (a.put (dstOf l j0) (val j0)) (fun j' hj' => h1 j' (by simp [hj']) (by rintro rfl; exact hin hj'))
      show (putW l val ws (a.put (dstOf l j0) (val j0))).tmps.getD t undef = val j0
      rw [this, hd, put_here _ _ _ hs]
set_option maxHeartbeats 1600000 in
theorem wp_region_wildK {P : Program} {id : Nat} {Q : Exit → Act → World → Prop} {a0 : Act} {W : World} {l : List Oper} (B : Nat) (qi wi : List Nat) (aσ : Act) (R : (Nat → Option Value) → World → Prop)
    (hm : P.follows .mixedOrders = true) (hback : backB l = true) (hn : lawB l a0.tmps.size = true) (hc : chainB l qi wi = true) (hBW : B ≤ W.heap.size)
    (hpre : ∀ (B' : Nat) (W' : World), Below B W W' → B ≤ B' → B' ≤ W'.heap.size → wpQuiet P l.toArray (fun w' => ∃ x : Ext B' W', w' = x.out) (fun a' => a' = aσ) (qi.filterMap fun i => l[i]?) a0)
    (h0 : ∀ w, Below W.heap.size W w → R (fun _ => none) w)
    (hR : ∀ res V V', R res V → Below V.heap.size V V' → R res V')
    (hstep : ∀ (i : Nat) (o : Oper), i ∈ wi → l[i]? = some o → ∀ (res : Nat → Option Value) (a : Act) (w : World), res i = none → R res w → Below B W w → B ≤ w.heap.size →
      (∀ t ∈ eyes o, (∀ j ∈ wi, dstOf l j = some t → res j = some (a.tmps.getD t undef)) ∧ ((∀ j ∈ wi, dstOf l j ≠ some t) → a.tmps.getD t undef = aσ.tmps.getD t undef)) →
      (∀ e ∈ o.after, Region.binds .any e = true → e.on ∈ wi → (res e.on).isSome = true) →
      (∃ f args, (∀ w, (execOp a.eval o).run P w = .ok (.enter f args) w) ∧ Calls P f args w fun e w' => ∃ v, e = .returned v ∧ R (updR res i v) w' ∧ Below B W w') ∨
      (∃ v w', (execOp a.eval o).run P w = .ok (.value v) w' ∧ R (updR res i v) w' ∧ Below B W w') ∨
      (∃ w', (execOp a.eval o).run P w = .ok .skip w' ∧ R (updR res i undef) w' ∧ Below B W w'))
    (hend : ∀ (val : Nat → Value) (w : World), R (fun j => if j ∈ wi then some (val j) else none) w → Below B W w → Q .normal (putW l val wi aσ) w) :
    (Code.region id l.toArray true).wp P Q a0 W := by
  obtain ⟨hcov, hqi, hwi, hqp, hwp, hqe⟩ := chainB_of hc
  have hL := fun i o ho => lawB_of hn i o ho
  have hone : ∀ (i : Nat) (o : Oper) (j : Nat) (o' : Oper) (d : Nat), l[i]? = some o → l[j]? = some o' → i ≠ j → o.dst = some d → o'.dst ≠ some d := fun i o j o' d hi hj hne hd => (hL j o' hj).2.2.2.1 i o hi hne d hd
  obtain ⟨ql, hql⟩ : ∃ ql, ql = qi.filterMap fun i => l[i]? := ⟨_, rfl⟩
  rw [← hql] at hpre
  have hget : ∀ k, ql[k]? = (qi[k]?).bind fun i => l[i]? := fun k => by rw [hql]; exact pick_get l qi hqi k
  have htake : ∀ (k : Nat) (o : Oper), ql[k]? = some o → ∃ i, qi[k]? = some i ∧ l[i]? = some o := fun k o h => by
    rw [hget k] at h
    cases hk : qi[k]? with
    | none => rw [hk] at h; cases h
    | some i => rw [hk] at h; exact ⟨i, rfl, h⟩
  have hpos : ∀ (i : Nat) (o : Oper), i ∈ qi → l[i]? = some o → ∃ k, qi[k]? = some i ∧ ql[k]? = some o := fun i o hi ho => by
    obtain ⟨k, hk, e⟩ := List.getElem_of_mem hi
    have : qi[k]? = some i := by rw [List.getElem?_eq_getElem hk, e]
    exact ⟨k, this, by rw [hget k, this]; exact ho⟩
  have hord : ∀ k k' i i' : Nat, qi[k]? = some i → qi[k']? = some i' → i' < i → k' < k := fun k k' i i' h h' hlt => by
    obtain ⟨h1, rfl⟩ := List.getElem?_eq_some_iff.1 h
    obtain ⟨h2, rfl⟩ := List.getElem?_eq_some_iff.1 h'
    rcases Nat.lt_trichotomy k' k with h3 | h3 | h3
    · exact h3
    · subst h3; omega
    · have := List.pairwise_iff_getElem.1 hqp k k' h1 h2 h3; omega
  have hinj : ∀ k k' i : Nat, qi[k]? = some i → qi[k']? = some i → k = k' := fun k k' i h h' => by
    obtain ⟨h1, e1⟩ := List.getElem?_eq_some_iff.1 h
    obtain ⟨h2, e2⟩ := List.getElem?_eq_some_iff.1 h'
    rcases Nat.lt_trichotomy k' k with h3 | h3 | h3
    · have := List.pairwise_iff_getElem.1 hqp k' k h2 h1 h3; omega
    · exact h3.symm
    · have := List.pairwise_iff_getElem.1 hqp k k' h1 h2 h3; omega
  have hd1 : ∀ (k : Nat) (o : Oper) (d : Nat), ql[k]? = some o → o.dst = some d → d < a0.tmps.size := fun k o d h hd => by
    obtain ⟨i, _, hi⟩ := htake k o h
    exact (hL i o hi).2.2.1 d hd
  have honeq : ∀ (k : Nat) (o : Oper) (j : Nat) (o' : Oper) (d : Nat), ql[k]? = some o → ql[j]? = some o' → k ≠ j → o.dst = some d → o'.dst ≠ some d := fun k o j o' d h h' hne hd => by
    obtain ⟨i1, e1, h1⟩ := htake k o h
    obtain ⟨i2, e2, h2⟩ := htake j o' h'
    exact hone i1 o i2 o' d h1 h2 (by rintro rfl; exact hne (hinj _ _ _ e1 e2)) hd
  obtain ⟨vs0, hst0, hfin0⟩ := stepsS_of _ _ (hpre B W (Below.refl _ _) (Nat.le_refl _) hBW)
  have hsize : aσ.tmps.size = a0.tmps.size := by rw [← hfin0, putsS_size]
  have hdef : aσ.defers = a0.defers := by rw [← hfin0, putsS_defers]
  have hout0 : ∀ t : Nat, (∀ i ∈ qi, dstOf l i ≠ some t) → aσ.tmps.getD t undef = a0.tmps.getD t undef := by
    intro t ht
    rw [← hfin0, putsS_other]
    intro o' hm' hd
    obtain ⟨k, hk, rfl⟩ := List.getElem_of_mem hm'
    obtain ⟨i, e1, hi⟩ := htake k _ (List.getElem?_eq_getElem hk)
    exact ht i (List.mem_of_getElem? e1) (by rw [dstOf_some hi]; exact hd)
  refine wp_region_inv hm hback (fun L a w => a.defers = a0.defers ∧ a.tmps.size = a0.tmps.size ∧ (∀ t : Nat, (∀ (i : Nat) (o : Oper), l[i]? = some o → o.dst ≠ some t) → a.tmps.getD t undef = a0.tmps.getD t undef) ∧
    (∀ i ∈ qi, ∀ (o : Oper) (d : Nat), l[i]? = some o → L i = true → o.dst = some d → a.tmps.getD d undef = aσ.tmps.getD d undef) ∧
    ∃ res : Nat → Option Value, R res w ∧ Below B W w ∧ (∀ j, (res j).isSome = true ↔ (j ∈ wi ∧ L j = true)) ∧ (∀ (j : Nat) (o : Oper) (d : Nat) (v : Value), l[j]? = some o → o.dst = some d → res j = some v → a.tmps.getD d undef = v)) ?_ ?_ ?_
  · intro L hL0
    refine ⟨rfl, rfl, fun _ _ => rfl, fun i hi o d ho hLi => (by rw [hL0 i (hqi i hi)] at hLi; cases hLi), fun _ => none, h0 _ ((Below.refl _ W).drew), (Below.refl B W).drew, fun j => ⟨fun h => by simp at h, fun h => ?_⟩, fun j o d v _ _ h => by cases h⟩
    rw [hL0 j (hwi j h.1)] at h
    exact absurd h.2 (by simp)
  · intro L a w i o ho hLi hafter ⟨i1, i2, i3, i4, res, i5, i6, i7, i8⟩
    obtain ⟨hg, hns, hdl, hd2, heyes⟩ := hL i o ho
    have hil := (List.getElem?_eq_some_iff.1 ho).1
    have hBw : B ≤ w.heap.size := Nat.le_trans hBW i6.size
    rw [if_pos (by simp [Region.wanted, hg])]
    rcases hcov i hil with ⟨hq, hnw⟩ | ⟨hw, hnq⟩
    · -- a foreknown one
      obtain ⟨k, hk, hkl⟩ := hpos i o hq ho
      obtain ⟨vs, hst, hfin⟩ := stepsS_of _ _ (hpre w.heap.size w i6 hBw (Nat.le_refl _))
      obtain ⟨v, ai, hY, hv, hno, hyes⟩ := stepsS_key hst hfin hd1 honeq k o hkl
      have he : execOp a.eval o = execOp ai.eval o := by
        refine execOp_congr o (fun c b hc => by rw [notSelect, hc] at hns; cases hns) (eval_eyes fun t ht => ?_)
        by_cases hex : ∃ (j : Nat) (o' : Oper), l[j]? = some o' ∧ o'.dst = some t
        · obtain ⟨j, o', hj, hd⟩ := hex
          obtain ⟨hji, e, he, hb, hon⟩ := heyes t ht j o' hj hd
          have hLj : L j = true := hon ▸ hafter e he hb
          have hjq : j ∈ qi := by
            rcases hcov j (List.getElem?_eq_some_iff.1 hj).1 with h | h
            · exact h.1
            · exact absurd ((dstOf_some hj).trans hd) (hqe i hq o ho t ht j h.1)
          obtain ⟨k', hk', hkl'⟩ := hpos j o' hjq hj
          rw [hyes t k' o' (hord k k' i j hk hk' hji) hkl' hd]
          exact i4 j hjq o' t hj hLj hd
        · have hn' : ∀ (j : Nat) (o' : Oper), l[j]? = some o' → o'.dst ≠ some t := fun j o' hj hd => hex ⟨j, o', hj, hd⟩
          rw [i3 t hn', hno t fun k' o' hk' => by obtain ⟨j, _, hj⟩ := htake k' o' hk'; exact hn' j o' hj]
      have hY' := hY.of_same he (by simp [Region.wanted, hg])
      rcases hY' with ⟨_, hqv⟩ | ⟨hw0, _⟩
      · refine Oper.wp_of_quiet (C := fun w' => ∃ x : Ext w.heap.size w, w' = x.out) (K := fun a' => a' = a.put o.dst v) ⟨⟨w, Below.refl _ _⟩, rfl⟩ ?_ ⟨v, hqv, rfl⟩
        rintro a' w' ⟨z, rfl⟩ rfl
        refine ⟨(put_defers' _ _ _).trans i1, (put_size _ _ _).trans i2, fun t ht => ?_, fun j hj o' d hj' hLj hd => ?_, res, hR res w _ i5 z.below, i6.trans (z.below.mono hBw), fun j => ?_, fun j o' d u hj hd hr => ?_⟩
        · rw [put_other _ _ _ _ (ht i o ho)]; exact i3 t ht
        · by_cases hji : j = i
          · subst hji
            rw [ho] at hj'
            obtain rfl := Option.some.inj hj'
            rw [hd, put_here _ _ _ (by rw [i2]; exact hdl d hd)]
            exact hv d hd
          · have hLj' : L j = true := by unfold plus at hLj; rwa [if_neg hji] at hLj
            rw [put_other _ _ _ _ (hd2 j o' hj' hji d hd)]; exact i4 j hj o' d hj' hLj' hd
        · rw [i7 j]
          unfold plus
          constructor
          · rintro ⟨h1, h2⟩; exact ⟨h1, by rw [h2]; simp⟩
          · rintro ⟨h1, h2⟩
            refine ⟨h1, ?_⟩
            by_cases hji : j = i
            · subst hji; exact absurd h1 hnw
            · rwa [if_neg hji] at h2
        · have hji : j ≠ i := by
            rintro rfl
            have := (i7 j).1 (by rw [hr]; rfl)
            exact hnw this.1
          rw [put_other _ _ _ _ (hd2 j o' hj hji d hd)]; exact i8 j o' d u hj hd hr
      · simp [Region.wanted, hg] at hw0
    · -- one of unforeknown result
      have hri : res i = none := by
        cases h : res i with
        | none => rfl
        | some v => have := (i7 i).1 (by rw [h]; rfl); rw [hLi] at this; exact absurd this.2 (by simp)
      have hey : ∀ t ∈ eyes o, (∀ j ∈ wi, dstOf l j = some t → res j = some (a.tmps.getD t undef)) ∧ ((∀ j ∈ wi, dstOf l j ≠ some t) → a.tmps.getD t undef = aσ.tmps.getD t undef) := by
        intro t ht
        constructor
        · intro j hj hd
          obtain ⟨o', hj', hd'⟩ := dstOf_inv hd
          obtain ⟨hji, e, he, hb, hon⟩ := heyes t ht j o' hj' hd'
          have hLj : L j = true := hon ▸ hafter e he hb
          have := (i7 j).2 ⟨hj, hLj⟩
          obtain ⟨v, hv⟩ := Option.isSome_iff_exists.1 this
          rw [hv, i8 j o' t v hj' hd' hv]
        · intro hno
          by_cases hex : ∃ j ∈ qi, dstOf l j = some t
          · obtain ⟨j, hj, hd⟩ := hex
            obtain ⟨o', hj', hd'⟩ := dstOf_inv hd
            obtain ⟨hji, e, he, hb, hon⟩ := heyes t ht j o' hj' hd'
            exact i4 j hj o' t hj' (hon ▸ hafter e he hb) hd'
          · have hnq' : ∀ j ∈ qi, dstOf l j ≠ some t := fun j hj hd => hex ⟨j, hj, hd⟩
            rw [hout0 t hnq']
            refine i3 t fun j o' hj hd => ?_
            rcases hcov j (List.getElem?_eq_some_iff.1 hj).1 with h | h
            · exact hnq' j h.1 ((dstOf_some hj).trans hd)
            · exact hno j h.1 ((dstOf_some hj).trans hd)
      have hdep : ∀ e ∈ o.after, Region.binds .any e = true → e.on ∈ wi → (res e.on).isSome = true := fun e he hb hin => (i7 e.on).2 ⟨hin, hafter e he hb⟩
      have key : ∀ v w', R (updR res i v) w' → Below B W w' → (fun L a w => a.defers = a0.defers ∧ a.tmps.size = a0.tmps.size ∧ (∀ t : Nat, (∀ (i : Nat) (o : Oper), l[i]? = some o → o.dst ≠ some t) → a.tmps.getD t undef = a0.tmps.getD t undef) ∧
          (∀ i ∈ qi, ∀ (o : Oper) (d : Nat), l[i]? = some o → L i = true → o.dst = some d → a.tmps.getD d undef = aσ.tmps.getD d undef) ∧
          ∃ res : Nat → Option Value, R res w ∧ Below B W w ∧ (∀ j, (res j).isSome = true ↔ (j ∈ wi ∧ L j = true)) ∧ (∀ (j : Nat) (o : Oper) (d : Nat) (v : Value), l[j]? = some o → o.dst = some d → res j = some v → a.tmps.getD d undef = v)) (plus L i) (a.put o.dst v) w' := by
        intro v w' hR' hB'
        refine ⟨(put_defers' _ _ _).trans i1, (put_size _ _ _).trans i2, fun t ht => ?_, fun j hj o' d hj' hLj hd => ?_, updR res i v, hR', hB', fun j => ?_, fun j o' d u hj hd hr => ?_⟩
        · rw [put_other _ _ _ _ (ht i o ho)]; exact i3 t ht
        · have hji : j ≠ i := by rintro rfl; exact hnq hj
          have hLj' : L j = true := by unfold plus at hLj; rwa [if_neg hji] at hLj
          rw [put_other _ _ _ _ (hd2 j o' hj' hji d hd)]; exact i4 j hj o' d hj' hLj' hd
        · unfold updR plus
          by_cases hji : j = i
          · subst hji; simp [hw]
          · rw [if_neg hji, if_neg hji]; exact i7 j
        · unfold updR at hr
          by_cases hji : j = i
          · subst hji
            rw [if_pos rfl] at hr
            obtain rfl := Option.some.inj hr
            rw [ho] at hj
            obtain rfl := Option.some.inj hj
            rw [hd, put_here _ _ _ (by rw [i2]; exact hdl d hd)]
          · rw [if_neg hji] at hr
            rw [put_other _ _ _ _ (hd2 j o' hj hji d hd)]; exact i8 j o' d u hj hd hr
      rcases hstep i o hw ho res a w hri i5 i6 hBw hey hdep with ⟨f, args, h1, h2⟩ | ⟨v, w', h1, h2, h3⟩ | ⟨w', h1, h2, h3⟩
      · unfold Oper.wp
        rw [h1]
        simp only [Oper.upon]
        refine h2.mono ?_
        rintro e w' ⟨v, rfl, h3, h4⟩
        exact key v w' h3 h4
      · unfold Oper.wp
        rw [h1]
        exact key v w' h2 h3
      · unfold Oper.wp
        rw [h1]
        exact key undef w' h2 h3
  · intro L a w hall ⟨i1, i2, i3, i4, res, i5, i6, i7, i8⟩
    have hres : res = fun j => if j ∈ wi then some ((res j).getD undef) else none := by
      funext j
      by_cases hj : j ∈ wi
      · obtain ⟨v, hv⟩ := Option.isSome_iff_exists.1 ((i7 j).2 ⟨hj, hall j (hwi j hj)⟩)
        rw [if_pos hj, hv]; rfl
      · rw [if_neg hj]
        cases h : res j with
        | none => rfl
        | some v => exact absurd ((i7 j).1 (by rw [h]; rfl)).1 hj
    have : a = putW l (fun j => (res j).getD undef) wi aσ := by
      obtain ⟨p1, p2⟩ := putW_size l (fun j => (res j).getD undef) wi aσ
      refine act_ext (i2.trans (hsize.symm.trans p1.symm)) (i1.trans (hdef.symm.trans p2.symm)) fun t => ?_
      by_cases hw : ∃ j ∈ wi, dstOf l j = some t
      · obtain ⟨j, hj, hd⟩ := hw
        obtain ⟨o, ho, hdo⟩ := dstOf_inv hd
        rw [putW_here l _ t j hd wi aσ hj (fun j' hj' hne hd' => by
          obtain ⟨o', ho', hdo'⟩ := dstOf_inv hd'
          exact hone j o j' o' t ho ho' (Ne.symm hne) hdo hdo') (by rw [hsize]; exact (hL j o ho).2.2.1 t hdo)]
        obtain ⟨v, hv⟩ := Option.isSome_iff_exists.1 ((i7 j).2 ⟨hj, hall j (hwi j hj)⟩)
        rw [i8 j o t v ho hdo hv, hv]; rfl
      · rw [putW_other l _ t wi aσ fun j hj hd => hw ⟨j, hj, hd⟩]
        by_cases hq : ∃ j ∈ qi, dstOf l j = some t
        · obtain ⟨j, hj, hd⟩ := hq
          obtain ⟨o, ho, hdo⟩ := dstOf_inv hd
          exact i4 j hj o t ho (hall j (hqi j hj)) hdo
        · rw [hout0 t fun j hj hd => hq ⟨j, hj, hd⟩]
          refine i3 t fun j o' hj hd => ?_
          rcases hcov j (List.getElem?_eq_some_iff.1 hj).1 with h | h
          · exact hq ⟨j, h.1, (dstOf_some hj).trans hd⟩
          · exact hw ⟨j, h.1, (dstOf_some hj).trans hd⟩
    rw [this]
    exact hend _ w (by rw [← hres]; exact i5) i6
end Go.Proofs.Ytfijinbdpfeceaa

/- The calls of the functions on numbers alone. -/
namespace Go.Proofs.Ytfijinbdpfeceaa
open Go.RowKit
set_option linter.unusedVariables false
set_option linter.unusedSimpArgs false

/-- Whether a number lies in a range. -/
def inB (n a b : Int) : Bool := decide (a ≤ n) && decide (n ≤ b)
theorem inB_true {n a b : Int} (h : a ≤ n ∧ n ≤ b) : inB n a b = true := by simpa [inB] using h
theorem inB_false {n a b : Int} (h : ¬ (a ≤ n ∧ n ≤ b)) : inB n a b = false := by
  cases hb : inB n a b with
  | false => rfl
  | true => exact absurd (by simpa [inB] using hb) h
theorem inB_iff {n a b : Int} : inB n a b = true ↔ a ≤ n ∧ n ≤ b := by simp [inB]
theorem inB_elim {n a b : Int} (h : inB n a b = false) : n < a ∨ b < n := by
  have : ¬ (a ≤ n ∧ n ≤ b) := fun h' => by rw [inB_true h'] at h; cases h
  omega
theorem c_within8 (n a b : Int) (w : World) (g : Bool) (h : inB n a b = g) : Calls Try.prog 59 #[.int .i8 n, .int .i8 a, .int .i8 b] w fun e w' => e = .returned (.bool g) ∧ w = w' := by
  subst h
  go_enter Try.func59, Try.ntmps59
  go_wp2
  · go_ret
    exact ⟨ret_bool (by simp [inB, *]), rfl⟩
  · go_ret
    exact ⟨ret_bool (inB_false (by omega)).symm, rfl⟩
theorem c_within64 (n a b : Int) (w : World) (g : Bool) (h : inB n a b = g) : Calls Try.prog 74 #[.int .i64 n, .int .i64 a, .int .i64 b] w fun e w' => e = .returned (.bool g) ∧ w = w' := by
  subst h
  go_enter Try.func74, Try.ntmps74
  go_wp2
  · go_ret
    exact ⟨ret_bool (by simp [inB, *]), rfl⟩
  · go_ret
    exact ⟨ret_bool (inB_false (by omega)).symm, rfl⟩
theorem c_withinI (n a b : Int) (w : World) (g : Bool) (h : inB n a b = g) : Calls Try.prog 78 #[.int .i64 n, .int .i64 a, .int .i64 b] w fun e w' => e = .returned (.bool g) ∧ w = w' := by
  subst h
  go_enter Try.func78, Try.ntmps78
  go_wp2
  · go_ret
    exact ⟨ret_bool (by simp [inB, *]), rfl⟩
  · go_ret
    exact ⟨ret_bool (inB_false (by omega)).symm, rfl⟩
theorem c_l00In (n a b : Int) (w : World) (g : Bool) (h : inB n a b = g) : Calls Try.prog 56 #[.int .i64 n, .int .i64 a, .int .i64 b] w fun e w' => e = .returned (.bool g) ∧ w = w' := by
  subst h
  go_enter Try.func56, Try.ntmps56
  go_wp2
  · go_ret
    exact ⟨ret_bool (by simp [inB, *]), rfl⟩
  · go_ret
    exact ⟨ret_bool (inB_false (by omega)).symm, rfl⟩
theorem c_l01Kind (n : Int) (w : World) (g : Bool) (h : inB n 0 3 = g) : Calls Try.prog 52 #[.int .i64 n] w fun e w' => e = .returned (.bool g) ∧ w = w' := by
  go_enter Try.func52, Try.ntmps52
  go_wp2_with (go_at_call 56; (with_reducible refine (c_l00In _ _ _ _ g h).mono ?_); rintro e w' ⟨rfl, rfl⟩)
  go_ret
  exact ⟨rfl, rfl⟩
theorem c_isKind (n : Int) (w : World) (g : Bool) (h : inB n 0 3 = g) : Calls Try.prog 54 #[.int .i64 n] w fun e w' => e = .returned (.bool g) ∧ w = w' := by
  go_enter Try.func54, Try.ntmps54
  go_wp2_with (go_at_call 74; (with_reducible refine (c_within64 _ _ _ _ g h).mono ?_); rintro e w' ⟨rfl, rfl⟩)
  go_ret
  exact ⟨rfl, rfl⟩
end Go.Proofs.Ytfijinbdpfeceaa
