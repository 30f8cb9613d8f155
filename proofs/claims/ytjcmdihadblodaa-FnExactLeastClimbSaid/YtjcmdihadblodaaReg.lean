/- A region that draws its order, of quiet operations, one 'alloc' and one store to what it made: walked once. -/
import Derived.Test.YtjcmdihadblodaaInv
import Derived.Test.YtjcmdihadblodaaRoof
namespace Go.Proofs.Ytjcmdihadblodaa
open Go.RowKit
set_option linter.unusedSimpArgs false
set_option linter.unusedVariables false

/-- An operation under a guard that says yes, its run known. -/
theorem wpList_runG {P : Program} {ops : Array Oper} {rest : List Oper} {o : Oper} {a : Act} {w : World} {Q : Exit → Act → World → Prop} (hw : Region.wanted o (yielded ops a.tmps) = true) (v : Value)
    (h : (execOp a.eval o).run P w = .ok (.value v) w) (k : wpList P ops Q rest (a.put o.dst v) w) : wpList P ops Q (o :: rest) a w :=
  BigFrame.wpList_want hw fun _ hK => by unfold Oper.wp; rw [h]; exact hK _ _ k
theorem wpQuiet_runG {P : Program} {ops : Array Oper} {C : World → Prop} {Q : Act → Prop} {a : Act} {o : Oper} {rest : List Oper} {N : Nat} (_ : o.dst = some N) (hw : Region.wanted o (yielded ops a.tmps) = true) (v : Value)
    (h : ∀ w', C w' → (execOp a.eval o).run P w' = .ok (.value v) w') (k : wpQuiet P ops C Q rest (a.put o.dst v)) : wpQuiet P ops C Q (o :: rest) a :=
  wpQuiet_step fun K hK => by
    rw [if_pos hw]
    exact ⟨v, fun w' hw' => by unfold Oper.quietAt; rw [h w' hw']; exact ⟨rfl, rfl⟩, hK _ k⟩
theorem hstore {B : Nat} {W0 wr w2 : World} {cs : Array Value} {T : TypeId} (hB : Hid (B ≤ W0.heap.size)) (h : Hid (Below B W0 wr)) (hg : (wr.alloc (.cells cs T)).grownBy w2 (some wr.heap.size)) : Hid (Below B W0 w2) :=
  (h.out.alloc (Nat.le_trans hB.out h.out.size) _).grown hg (by have := Nat.le_trans hB.out h.out.size; simp; omega) (fun k hk => by cases hk; exact Nat.le_trans hB.out h.out.size)
theorem wpStill_run {P : Program} {ops : Array Oper} {w : World} {Q : Act → Prop} {a : Act} {o : Oper} {rest : List Oper} {N : Nat} (_ : o.dst = some N) (hgd : o.guard = none) (v : Value)
    (h : (execOp a.eval o).run P w = .ok (.value v) w) (k : wpStill P ops w Q rest (a.put o.dst v)) : wpStill P ops w Q (o :: rest) a :=
  wpStill_step fun K hK => by
    rw [if_pos (by simp [Region.wanted, hgd])]
    unfold Oper.still; rw [h]; exact ⟨rfl, hK _ k⟩
/-- A world above W from B on, whose blocks bear what S says. -/
structure ExtS (B : Nat) (W : World) (S : Nat → Option Obj) where
  w : World
  h : Below B W w
  s : ∀ p o, S p = some o → w.heap[p]? = some o
def ExtS.out {B : Nat} {W : World} {S : Nat → Option Obj} (x : ExtS B W S) : World := x.w
@[go_sem] theorem ExtS.cell {B : Nat} {W : World} {S : Nat → Option Obj} (x : ExtS B W S) (b o : Nat) (h : b < B) : x.out.cell? ⟨b, o, none⟩ = W.cell? ⟨b, o, none⟩ := x.h.cell (p := ⟨b, o, none⟩) h
@[go_sem] theorem ExtS.frozen {B : Nat} {W : World} {S : Nat → Option Obj} (x : ExtS B W S) (b o : Nat) (h : b < B) : x.out.frozen? ⟨b, o, none⟩ = W.frozen? ⟨b, o, none⟩ := x.h.frozen (p := ⟨b, o, none⟩) h
theorem Calls.extS {P : Program} {f : FuncId} {args : Array Value} {B : Nat} {W : World} {S : Nat → Option Obj} {x : ExtS B W S} {v : Value} (hB : B ≤ W.heap.size)
    (h : Calls P f args x.out fun e w' => e = .returned v ∧ Below x.out.heap.size x.out w') : Calls P f args x.out fun e w' => e = .returned v ∧ ∃ y : ExtS B W S, w' = y.out :=
  h.mono fun _ _ ⟨he, hb⟩ => ⟨he, ⟨_, x.h.trans (hb.mono (Nat.le_trans hB x.h.size)), fun p o hp => block_below hb (x.s p o hp) (block_lt (x.s p o hp))⟩, rfl⟩
theorem Calls.extS_same {P : Program} {f : FuncId} {args : Array Value} {B : Nat} {W : World} {S : Nat → Option Obj} {x : ExtS B W S} {v : Value}
    (h : Calls P f args x.out fun e w' => e = .returned v ∧ x.out = w') : Calls P f args x.out fun e w' => e = .returned v ∧ ∃ y : ExtS B W S, w' = y.out :=
  h.mono fun _ _ ⟨he, hb⟩ => ⟨he, x, hb.symm⟩
abbrev ClsS (B : Nat) (W : World) (S : Nat → Option Obj) : World → Prop := fun w' => ∃ x : ExtS B W S, w' = x.out

/-- What a walk of the operations one after another has shown of each. -/
def StepsS (P : Program) (ops : Array Oper) (C : World → Prop) : List Oper → List Value → Act → Prop
  | [], [], _ => True
  | o :: rest, v :: vs, a => YieldsIn P ops C o v a ∧ StepsS P ops C rest vs (a.put o.dst v)
  | _, _, _ => False
def putsS : List Oper → List Value → Act → Act
  | o :: rest, v :: vs, a => putsS rest vs (a.put o.dst v)
  | _, _, a => a
theorem stepsS_of {P : Program} {ops : Array Oper} {C : World → Prop} {Q : Act → Prop} : ∀ (l : List Oper) (a : Act), wpQuiet P ops C Q l a → ∃ vs, StepsS P ops C l vs a ∧ Q (putsS l vs a)
  | [], a, h => ⟨[], trivial, h⟩
  | o :: rest, a, h => by
    unfold wpQuiet at h
    split at h
    · rename_i hw
      obtain ⟨v, h1, h2⟩ := h
      obtain ⟨vs, h3, h4⟩ := stepsS_of rest _ h2
      exact ⟨v :: vs, ⟨.inl ⟨hw, h1⟩, h3⟩, h4⟩
    · rename_i hw
      obtain ⟨vs, h3, h4⟩ := stepsS_of rest _ h
      exact ⟨undef :: vs, ⟨.inr ⟨by simpa using hw, rfl⟩, h3⟩, h4⟩
theorem put_size (a : Act) (d : Option Tmp) (v : Value) : (a.put d v).tmps.size = a.tmps.size := by cases d <;> simp [Act.put]
theorem put_defers' (a : Act) (d : Option Tmp) (v : Value) : (a.put d v).defers = a.defers := by cases d <;> rfl
theorem put_other (a : Act) (d : Option Tmp) (v : Value) (t : Nat) (h : d ≠ some t) : (a.put d v).tmps.getD t undef = a.tmps.getD t undef := by
  cases d with
  | none => rfl
  | some d => simp [Act.put, Array.getD_eq_getD_getElem?, Array.getElem?_setIfInBounds_ne (fun e : d = t => h (by rw [e]))]
theorem put_here (a : Act) (d : Nat) (v : Value) (h : d < a.tmps.size) : (a.put (some d) v).tmps.getD d undef = v := by
  simp [Act.put, Array.getD_eq_getD_getElem?, h]
theorem putsS_size : ∀ (l : List Oper) (vs : List Value) (a : Act), (putsS l vs a).tmps.size = a.tmps.size
  | [], vs, a => by cases vs <;> rfl
  | o :: rest, [], a => rfl
  | o :: rest, v :: vs, a => by unfold putsS; rw [putsS_size rest vs, put_size]
theorem putsS_defers : ∀ (l : List Oper) (vs : List Value) (a : Act), (putsS l vs a).defers = a.defers
  | [], vs, a => by cases vs <;> rfl
  | o :: rest, [], a => rfl
  | o :: rest, v :: vs, a => by unfold putsS; rw [putsS_defers rest vs, put_defers']
theorem putsS_other (t : Nat) : ∀ (l : List Oper) (vs : List Value) (a : Act), (∀ o ∈ l, o.dst ≠ some t) → (putsS l vs a).tmps.getD t undef = a.tmps.getD t undef
  | [], vs, a, _ => by cases vs <;> rfl
  | o :: rest, [], a, _ => rfl
  | o :: rest, v :: vs, a, h => by
    unfold putsS
    rw [putsS_other t rest vs _ fun o' ho' => h o' (List.mem_cons_of_mem _ ho'), put_other _ _ _ _ (h o (List.mem_cons_self ..))]

def isQ (o : Oper) : Bool := match o.op with | .alloc _ | .store _ _ _ => false | _ => true
/-- The places that an operation looks at. -/
def eyes (o : Oper) : List Nat := o.op.operands.toList.filterMap fun | .tmp t => some t | _ => none
def notSelect (o : Oper) : Bool := match o.op with | .select _ _ => false | _ => true
/-- No guard; no 'select'; what an operation looks at no operation of the region writes, or one that comes before it on each way; each slot is written once, within n slots. -/
def lawB (l : List Oper) (n : Nat) : Bool :=
  l.zipIdx.all fun x => x.1.guard.isNone && notSelect x.1 && (match x.1.dst with | some d => decide (d < n) | none => true) &&
    (l.zipIdx.all fun y => (y.2 == x.2) || (match y.1.dst with | none => true | some d => x.1.dst != some d)) &&
    (eyes x.1).all fun t => l.zipIdx.all fun y => y.1.dst != some t || (decide (y.2 < x.2) && x.1.after.toList.any fun e => Region.binds .any e && e.on == y.2)
/-- What 'lawB' says of one operation. -/
theorem lawB_of {l : List Oper} {n : Nat} (h : lawB l n = true) (i : Nat) (o : Oper) (ho : l[i]? = some o) :
    o.guard = none ∧ notSelect o = true ∧ (∀ d, o.dst = some d → d < n) ∧ (∀ j o', l[j]? = some o' → j ≠ i → ∀ d, o'.dst = some d → o.dst ≠ some d) ∧
    (∀ t ∈ eyes o, ∀ j o', l[j]? = some o' → o'.dst = some t → j < i ∧ ∃ e ∈ o.after, Region.binds .any e = true ∧ e.on = j) := by
  unfold lawB at h
  rw [List.all_eq_true] at h
  have h1 := h (o, i) (by rw [List.mk_mem_zipIdx_iff_getElem?]; exact ho)
  simp only [Bool.and_eq_true, List.all_eq_true] at h1
  obtain ⟨⟨⟨⟨h2, h3⟩, h4⟩, h5⟩, h6⟩ := h1
  refine ⟨by simpa using h2, h3, ?_, ?_, ?_⟩
  · intro d hd; rw [hd] at h4; simpa using h4
  · intro j o' hj hne d hd
    have := h5 (o', j) (by rw [List.mk_mem_zipIdx_iff_getElem?]; exact hj)
    simp only [hd, Bool.or_eq_true, beq_iff_eq, hne, false_or] at this
    simpa using this
  · intro t ht j o' hj hd
    have := h6 t ht (o', j) (by rw [List.mk_mem_zipIdx_iff_getElem?]; exact hj)
    simp only [hd, bne_self_eq_false, Bool.false_or, Bool.and_eq_true, decide_eq_true_eq, List.any_eq_true, beq_iff_eq, Array.mem_toList_iff] at this
    exact this
theorem stepsS_at {P : Program} {ops : Array Oper} {C : World → Prop} : ∀ (l : List Oper) (vs : List Value) (a : Act) (i : Nat) (o : Oper), StepsS P ops C l vs a → l[i]? = some o →
    ∃ v ai, YieldsIn P ops C o v ai ∧ putsS l vs a = putsS (l.drop (i + 1)) (vs.drop (i + 1)) (ai.put o.dst v) ∧ ai.tmps.size = a.tmps.size ∧
      (∀ t, (∀ j o', j < i → l[j]? = some o' → o'.dst ≠ some t) → ai.tmps.getD t undef = a.tmps.getD t undef)
  | [], vs, a, i, o, _, hi => by simp at hi
  | o1 :: rest, [], a, i, o, h, _ => h.elim
  | o1 :: rest, v1 :: vs, a, 0, o, h, hi => by
    simp at hi; subst hi
    exact ⟨v1, a, h.1, rfl, rfl, fun _ _ => rfl⟩
  | o1 :: rest, v1 :: vs, a, i + 1, o, h, hi => by
    obtain ⟨v, ai, h1, h2, h3, h4⟩ := stepsS_at rest vs _ i o h.2 (by simpa using hi)
    refine ⟨v, ai, h1, ?_, h3.trans (put_size _ _ _), fun t ht => (h4 t fun j o' hj hl => ht (j + 1) o' (by omega) (by simpa using hl)).trans (put_other _ _ _ _ (ht 0 o1 (by omega) rfl))⟩
    exact h2
/-- The region with its 'alloc' and its store struck out. -/
def mute (o : Oper) : Oper := if isQ o then o else { o with op := .move (.const undef), dst := none }
theorem mute_get {l : List Oper} {j : Nat} {o : Oper} {d : Nat} (h : (l.map mute)[j]? = some o) (hd : o.dst = some d) : l[j]? = some o := by
  rw [List.getElem?_map] at h
  cases hl : l[j]? with
  | none => rw [hl] at h; cases h
  | some o' =>
    rw [hl] at h
    simp only [Option.map_some, Option.some.injEq] at h
    subst h
    unfold mute at hd ⊢
    split at hd
    · rename_i hq; rw [if_pos hq]
    · cases hd
theorem eval_eyes {a a' : Act} {o : Oper} (h : ∀ t ∈ eyes o, a.tmps.getD t undef = a'.tmps.getD t undef) (x : Operand) (hx : x ∈ o.op.operands) : a.eval x = a'.eval x := by
  cases x with
  | tmp t => exact h t (List.mem_filterMap.2 ⟨.tmp t, by simpa using hx, rfl⟩)
  | _ => rfl
set_option maxHeartbeats 1600000 in
theorem wp_region_law {P : Program} {id : Nat} {Q : Exit → Act → World → Prop} {a0 : Act} {B : Nat} {W : World} {y : Ext B W} {l : List Oper} {ops : Array Oper} (aσ : Act) (ia is sa : Nat) (oa os : Oper) (T : TypeId) (yv : Operand) (cs0 cs : Array Value)
    (hm : P.follows .mixedOrders = true) (hback : backB l = true) (hn : lawB l a0.tmps.size = true)
    (hoa : l[ia]? = some oa) (hos : l[is]? = some os) (ha1 : oa.op = .alloc T) (ha2 : oa.dst = some sa) (hs1 : os.op = .store T (.tmp sa) yv) (hs2 : os.dst = none)
    (honly : (l.zipIdx.all fun x => isQ x.1 || (x.2 == ia) || (x.2 == is)) = true) (hsee : (l.zipIdx.all fun x => (x.2 == is) || !(eyes x.1).contains sa) = true)
    (hyv : ∀ t, yv = .tmp t → t ≠ sa)
    (hal : ∀ w, (Instr.alloc T true (.tuple #[])).run P w = .ok (.pointer (some ⟨w.heap.size, 0, none⟩)) (w.alloc (.cells cs0 T)))
    (hval : aσ.eval yv = .agg cs) (hi : (P.info? T).map (·.size) = some cs.size) (hone : cs.all (·.oneCell') = true) (hsz : cs0.size = cs.size) (hBW : B ≤ W.heap.size)
    (hw : ∀ S, Nonempty (ExtS B W S) → wpQuiet P ops (fun w' => ∃ x : ExtS B W S, w' = x.out) (fun a' => a' = aσ) (l.map mute) a0)
    (h : ∀ (x : Ext B W) (p : Nat), B ≤ p → x.out.heap[p]? = some (.cells cs T (0, 0)) → Q .normal (aσ.put (some sa) (.pointer (some ⟨p, 0, none⟩))) x.out) :
    (Code.region id l.toArray true).wp P Q a0 y.out := by
  have hL := fun i o ho => lawB_of hn i o ho
  have hQ : ∀ i o, l[i]? = some o → i ≠ ia → i ≠ is → isQ o = true := by
    intro i o ho h1 h2
    rw [List.all_eq_true] at honly
    have := honly (o, i) (by rw [List.mk_mem_zipIdx_iff_getElem?]; exact ho)
    simpa [h1, h2] using this
  have hE : ∀ i o, l[i]? = some o → i ≠ is → sa ∉ eyes o := by
    intro i o ho h1 hmem
    rw [List.all_eq_true] at hsee
    have := hsee (o, i) (by rw [List.mk_mem_zipIdx_iff_getElem?]; exact ho)
    simp [h1, hmem] at this
  have key : ∀ S, Nonempty (ExtS B W S) → ∀ i o, l[i]? = some o → i ≠ ia → i ≠ is → ∃ v ai, YieldsIn P ops (fun w' => ∃ x : ExtS B W S, w' = x.out) o v ai ∧ (∀ d, o.dst = some d → v = aσ.tmps.getD d undef) ∧
      (∀ t : Nat, (∀ (j : Nat) (o' : Oper), l[j]? = some o' → o'.dst ≠ some t) → ai.tmps.getD t undef = a0.tmps.getD t undef) ∧ (∀ (t j : Nat) (o' : Oper), j < i → l[j]? = some o' → o'.dst = some t → ai.tmps.getD t undef = aσ.tmps.getD t undef) := by
    intro S hSn i o ho h1 h2
    obtain ⟨vs, hst, hfin⟩ := stepsS_of _ _ (hw S hSn)
    have ho' : (l.map mute)[i]? = some o := by rw [List.getElem?_map, ho]; simp [mute, hQ i o ho h1 h2]
    obtain ⟨v, ai, k1, k2, k3, k4⟩ := stepsS_at _ _ _ _ _ hst ho'
    rw [hfin] at k2
    have hdrop : ∀ t : Nat, (∀ (j : Nat) (o' : Oper), i < j → l[j]? = some o' → o'.dst ≠ some t) → ∀ o' ∈ (l.map mute).drop (i + 1), o'.dst ≠ some t := by
      intro t ht o' hm' hd
      obtain ⟨k, hk, rfl⟩ := List.getElem_of_mem hm'
      have hk2 := List.getElem?_eq_getElem hk
      rw [List.getElem?_drop] at hk2
      exact ht _ _ (by omega) (mute_get hk2 hd) hd
    obtain ⟨hg, _, hd1, hd2, _⟩ := hL i o ho
    refine ⟨v, ai, k1, ?_, ?_, ?_⟩
    · intro d hd
      rw [k2, putsS_other d _ _ _ (hdrop d fun j o' hj hl hdd => hd2 j o' hl (by omega) d hdd hd), hd, put_here _ _ _ (by rw [k3]; exact hd1 d hd)]
    · intro t ht
      exact k4 t fun j o' _ hl hd => ht j o' (mute_get hl hd) hd
    · intro t j o' hj hl hd
      have hne : ∀ (j' : Nat) (o'' : Oper), l[j']? = some o'' → j' ≠ j → o''.dst ≠ some t := fun j' o'' hl' hne hd' => (hL j o' hl).2.2.2.1 j' o'' hl' hne t hd' hd
      rw [k2, putsS_other t _ _ _ (hdrop t fun j' o'' hj' hl' => hne j' o'' hl' (by omega)), put_other _ _ _ _ (hne i o ho (by omega))]
  have hsize : aσ.tmps.size = a0.tmps.size := by
    obtain ⟨vs, hst, hfin⟩ := stepsS_of _ _ (hw (fun _ => none) ⟨⟨y.w, y.h, fun _ _ h => by cases h⟩⟩)
    rw [← hfin, putsS_size]
  have hdef : aσ.defers = a0.defers := by
    obtain ⟨vs, hst, hfin⟩ := stepsS_of _ _ (hw (fun _ => none) ⟨⟨y.w, y.h, fun _ _ h => by cases h⟩⟩)
    rw [← hfin, putsS_defers]
  have hout : ∀ t : Nat, (∀ (i : Nat) (o : Oper), l[i]? = some o → i ≠ ia → o.dst ≠ some t) → aσ.tmps.getD t undef = a0.tmps.getD t undef := by
    obtain ⟨vs, hst, hfin⟩ := stepsS_of _ _ (hw (fun _ => none) ⟨⟨y.w, y.h, fun _ _ h => by cases h⟩⟩)
    intro t ht
    rw [← hfin, putsS_other]
    intro o' hm' hd
    obtain ⟨k, hk, rfl⟩ := List.getElem_of_mem hm'
    have hk2 := List.getElem?_eq_getElem hk
    by_cases hka : k = ia
    · subst hka
      rw [List.getElem?_map, hoa] at hk2
      simp only [Option.map_some, Option.some.injEq] at hk2
      rw [← hk2] at hd
      simp [mute, isQ, ha1] at hd
    · exact ht _ _ (mute_get hk2 hd) hka hd
  refine wp_region_inv hm hback (fun L a w => (∃ x : Ext B W, w = x.out) ∧ a.defers = a0.defers ∧ a.tmps.size = a0.tmps.size ∧
    (∀ t : Nat, (∀ (i : Nat) (o : Oper), l[i]? = some o → o.dst ≠ some t) → a.tmps.getD t undef = a0.tmps.getD t undef) ∧
    (∀ (i : Nat) (o : Oper) (d : Nat), l[i]? = some o → i ≠ ia → L i = true → o.dst = some d → a.tmps.getD d undef = aσ.tmps.getD d undef) ∧
    (L ia = true → ∃ p, B ≤ p ∧ a.tmps.getD sa undef = .pointer (some ⟨p, 0, none⟩) ∧ w.heap[p]? = some (.cells (if L is then cs else cs0) T (0, 0))) ∧ (L is = true → L ia = true)) ?_ ?_ ?_
  · intro L hL0
    have hia : ia < l.length := (List.getElem?_eq_some_iff.1 hoa).1
    have his : is < l.length := (List.getElem?_eq_some_iff.1 hos).1
    exact ⟨⟨⟨_, y.h.drew⟩, rfl⟩, rfl, rfl, fun _ _ => rfl, fun i o d ho _ hLi _ => (by rw [hL0 i (List.getElem?_eq_some_iff.1 ho).1] at hLi; cases hLi), fun hLi => (by rw [hL0 ia hia] at hLi; cases hLi), fun hLi => (by rw [hL0 is his] at hLi; cases hLi)⟩
  · intro L a w i o ho hLi hafter ⟨⟨x, hx⟩, i1, i2, i3, i4, i5, i6⟩
    have hB : B ≤ w.heap.size := by rw [hx]; exact Nat.le_trans hBW x.h.size
    have hxb : Below B W w := by rw [hx]; exact x.h
    clear hx
    obtain ⟨hg, hns, hd1, hd2, heyes⟩ := hL i o ho
    rw [if_pos (by simp [Region.wanted, hg])]
    have hsee' : ∀ t ∈ eyes o, t ≠ sa → a.tmps.getD t undef = aσ.tmps.getD t undef := by
      intro t ht hne
      by_cases hex : ∃ (j : Nat) (o' : Oper), l[j]? = some o' ∧ o'.dst = some t
      · obtain ⟨j, o', hj, hd⟩ := hex
        obtain ⟨hji, e, he, hb, rfl⟩ := heyes t ht j o' hj hd
        refine i4 _ o' t hj (fun e' => ?_) (hafter e he hb) hd
        rw [e', hoa] at hj
        simp only [Option.some.injEq] at hj
        rw [← hj, ha2] at hd
        exact hne (Option.some.inj hd).symm
      · have hno : ∀ (j : Nat) (o' : Oper), l[j]? = some o' → o'.dst ≠ some t := fun j o' hj hd => hex ⟨j, o', hj, hd⟩
        rw [i3 t hno, hout t fun j o' hj _ => hno j o' hj]
    have hne' : is ≠ ia := fun e => by rw [e, hoa] at hos; obtain rfl := Option.some.inj hos; rw [ha1] at hs1; cases hs1
    by_cases hia : i = ia
    · subst hia
      rw [hoa] at ho
      obtain rfl := Option.some.inj ho
      unfold Oper.wp execOp
      simp only [ha1, Sem.run_bind, hal, Result.andThen_ok, Sem.run_pure, Oper.upon_value]
      rw [ha2]
      have hLs : L is = false := by
        cases hc : L is with
        | false => rfl
        | true => rw [i6 hc] at hLi; cases hLi
      refine ⟨⟨⟨_, hxb.alloc hB _⟩, rfl⟩, (put_defers' _ _ _).trans i1, (put_size _ _ _).trans i2, fun t ht => ?_, fun j o' d hj hne hLj hd => ?_, fun _ => ⟨w.heap.size, hB, put_here _ _ _ (by rw [i2]; exact hd1 sa ha2), ?_⟩, fun _ => by simp [plus]⟩
      · rw [put_other _ _ _ _ (by rw [← ha2]; exact ht i oa hoa)]; exact i3 t ht
      · have hLj' : L j = true := by unfold plus at hLj; rwa [if_neg hne] at hLj
        rw [put_other _ _ _ _ (by rw [← ha2]; exact hd2 j o' hj hne d hd)]; exact i4 j o' d hj hne hLj' hd
      · have : plus L i is = false := by unfold plus; rw [if_neg hne', hLs]
        rw [this]; exact heap_alloc_new w _
    · by_cases his : i = is
      · subst his
        rw [hos] at ho
        obtain rfl := Option.some.inj ho
        have hsa : sa ∈ eyes os := by unfold eyes; rw [hs1]; simp [Op.operands]
        have hLa : L ia = true := by
          obtain ⟨_, e, he, hb, rfl⟩ := heyes sa hsa ia oa hoa ha2
          exact hafter e he hb
        obtain ⟨p, hp, hpt, hpb⟩ := i5 hLa
        rw [hLi] at hpb
        simp only [Bool.false_eq_true, if_false] at hpb
        have hye : a.eval yv = .agg cs := by
          rw [← hval]
          cases hyy : yv with
          | tmp t => exact hsee' t (by unfold eyes; rw [hs1]; simp [Op.operands, hyy]) (hyv t hyy)
          | _ => rfl
        refine wp_store_mid T (.tmp sa) yv hs1 p 0 cs hpt hye (there_block hpb 0 cs.size (by omega)) hi hone ?_
        obtain ⟨e1, e2, e3⟩ := setCells_heap p T cs.toList 0 w cs0 hpb
        rw [setAll_whole hsz] at e1
        rw [hs2]
        refine ⟨⟨⟨_, hxb.grown e2 hB (fun k hk => by cases hk; exact hp)⟩, rfl⟩, i1, i2, i3, fun j o' d hj hne hLj hd => ?_, fun _ => ⟨p, hp, hpt, ?_⟩, fun _ => ?_⟩
        · have hji : j ≠ i := fun e => by rw [e, hos] at hj; obtain rfl := Option.some.inj hj; rw [hs2] at hd; cases hd
          have hLj' : L j = true := by unfold plus at hLj; rwa [if_neg hji] at hLj
          exact i4 j o' d hj hne hLj' hd
        · have : plus L i i = true := by simp [plus]
          rw [this]; exact e1
        · unfold plus; rw [if_neg (Ne.symm hne')]; exact hLa
      · obtain ⟨S, hS, hSp⟩ : ∃ S : Nat → Option Obj, (∀ p o, S p = some o → w.heap[p]? = some o) ∧ (L ia = true → ∃ p, B ≤ p ∧ a.tmps.getD sa undef = .pointer (some ⟨p, 0, none⟩) ∧ S p = some (.cells (if L is then cs else cs0) T (0, 0))) := by
          cases hc : L ia with
          | false => exact ⟨fun _ => none, ⟨fun _ _ h => (by cases h), fun h => (by cases h)⟩⟩
          | true =>
            obtain ⟨p, hp, hpt, hpb⟩ := i5 hc
            refine ⟨fun k => if k = p then some (.cells (if L is then cs else cs0) T (0, 0)) else none, fun k o h => ?_, fun _ => ⟨p, hp, hpt, by simp⟩⟩
            by_cases hk : k = p
            · subst hk; simp only [if_true] at h; rw [hpb]; exact h
            · simp [hk] at h
        obtain ⟨v, ai, hY, hv, hno, hyes⟩ := key S ⟨⟨w, hxb, hS⟩⟩ i o ho hia his
        have he : execOp a.eval o = execOp ai.eval o := by
          refine execOp_congr o (fun c b hc => by rw [notSelect, hc] at hns; cases hns) (eval_eyes fun t ht => ?_)
          by_cases hex : ∃ (j : Nat) (o' : Oper), l[j]? = some o' ∧ o'.dst = some t
          · obtain ⟨j, o', hj, hd⟩ := hex
            obtain ⟨hji, _⟩ := heyes t ht j o' hj hd
            rw [hyes t j o' hji hj hd]
            exact hsee' t ht fun e => hE i o ho his (e ▸ ht)
          · have hn' : ∀ (j : Nat) (o' : Oper), l[j]? = some o' → o'.dst ≠ some t := fun j o' hj hd => hex ⟨j, o', hj, hd⟩
            rw [i3 t hn', hno t hn']
        have hY' := hY.of_same he (by simp [Region.wanted, hg])
        rcases hY' with ⟨_, hq⟩ | ⟨hw0, _⟩
        · refine Oper.wp_of_quiet (C := ClsS B W S) (K := fun a' => a' = a.put o.dst v) ⟨⟨w, hxb, hS⟩, rfl⟩ ?_ ⟨v, hq, rfl⟩
          rintro a' w' ⟨z, rfl⟩ rfl
          refine ⟨⟨⟨z.w, z.h⟩, rfl⟩, (put_defers' _ _ _).trans i1, (put_size _ _ _).trans i2, fun t ht => ?_, fun j o' d hj hne hLj hd => ?_, fun hLp => ?_, fun hLp => ?_⟩
          · rw [put_other _ _ _ _ (ht i o ho)]; exact i3 t ht
          · by_cases hji : j = i
            · subst hji
              rw [ho] at hj
              obtain rfl := Option.some.inj hj
              rw [hd, put_here _ _ _ (by rw [i2]; exact hd1 d hd)]
              exact hv d hd
            · have hLj' : L j = true := by unfold plus at hLj; rwa [if_neg hji] at hLj
              rw [put_other _ _ _ _ (hd2 j o' hj hji d hd)]; exact i4 j o' d hj hne hLj' hd
          · have hLp' : L ia = true := by unfold plus at hLp; rwa [if_neg (Ne.symm hia)] at hLp
            obtain ⟨p, hp, hpt, hpb⟩ := hSp hLp'
            refine ⟨p, hp, ?_, ?_⟩
            · rw [put_other _ _ _ _ (hd2 ia oa hoa (Ne.symm hia) sa ha2)]; exact hpt
            · have : plus L i is = L is := by unfold plus; rw [if_neg (Ne.symm his)]
              rw [this]; exact z.s p _ hpb
          · have hLp' : L is = true := by unfold plus at hLp; rwa [if_neg (Ne.symm his)] at hLp
            unfold plus; rw [if_neg (Ne.symm hia)]; exact i6 hLp'
        · simp [Region.wanted, hg] at hw0
  · intro L a w hall ⟨⟨x, hx⟩, i1, i2, i3, i4, i5, i6⟩
    have hia : ia < l.length := (List.getElem?_eq_some_iff.1 hoa).1
    have his : is < l.length := (List.getElem?_eq_some_iff.1 hos).1
    obtain ⟨p, hp, hpt, hpb⟩ := i5 (hall ia hia)
    rw [hall is his] at hpb
    simp only [if_true] at hpb
    have ha : a = aσ.put (some sa) (.pointer (some ⟨p, 0, none⟩)) := by
      have ht : a.tmps = (aσ.put (some sa) (.pointer (some ⟨p, 0, none⟩))).tmps := by
        have hgd : ∀ k, a.tmps.getD k undef = (aσ.put (some sa) (.pointer (some ⟨p, 0, none⟩))).tmps.getD k undef := by
          intro k
          by_cases hk : k = sa
          · subst hk
            rw [put_here _ _ _ (by rw [hsize]; exact (hL ia oa hoa).2.2.1 k ha2)]; exact hpt
          · rw [put_other _ _ _ _ (fun e => hk (Option.some.inj e).symm)]
            by_cases hex : ∃ (j : Nat) (o' : Oper), l[j]? = some o' ∧ o'.dst = some k
            · obtain ⟨j, o', hj, hd⟩ := hex
              refine i4 j o' k hj (fun e => ?_) (hall j (List.getElem?_eq_some_iff.1 hj).1) hd
              rw [e, hoa] at hj
              obtain rfl := Option.some.inj hj
              rw [ha2] at hd
              exact hk (Option.some.inj hd).symm
            · have hn' : ∀ (j : Nat) (o' : Oper), l[j]? = some o' → o'.dst ≠ some k := fun j o' hj hd => hex ⟨j, o', hj, hd⟩
              rw [i3 k hn', hout k fun j o' hj _ => hn' j o' hj]
        apply Array.ext
        · rw [put_size, i2, hsize]
        · intro k hk1 hk2
          have := hgd k
          rwa [Array.getD_eq_getD_getElem?, Array.getD_eq_getD_getElem?, Array.getElem?_eq_getElem hk1, Array.getElem?_eq_getElem hk2] at this
      have hd : a.defers = (aσ.put (some sa) (.pointer (some ⟨p, 0, none⟩))).defers := by rw [put_defers', hdef, i1]
      cases a
      cases hp2 : aσ.put (some sa) (.pointer (some ⟨p, 0, none⟩))
      rw [hp2] at ht hd
      dsimp only at ht hd
      subst ht hd
      rfl
    rw [ha, hx]
    exact h x p hp (hx ▸ hpb)
def tmpOf : Operand → Option Nat
  | .tmp t => some t
  | _ => none
theorem wp_region_law0 {P : Program} {id : Nat} {Q : Exit → Act → World → Prop} {a0 : Act} {W : World} {l : List Oper} (B : Nat) (aσ : Act) (ia is sa : Nat) (oa os : Oper) (T : TypeId) (yv : Operand) (cs0 cs : Array Value)
    (hm : P.follows .mixedOrders = true) (hback : backB l = true) (hn : lawB l a0.tmps.size = true)
    (hoa : l[ia]? = some oa) (hos : l[is]? = some os) (ha1 : oa.op = .alloc T) (ha2 : oa.dst = some sa) (hs1 : os.op = .store T (.tmp sa) yv) (hs2 : os.dst = none)
    (honly : (l.zipIdx.all fun x => isQ x.1 || (x.2 == ia) || (x.2 == is)) = true) (hsee : (l.zipIdx.all fun x => (x.2 == is) || !(eyes x.1).contains sa) = true)
    (hyv : (tmpOf yv == some sa) = false)
    (hal : ∀ w, (Instr.alloc T true (.tuple #[])).run P w = .ok (.pointer (some ⟨w.heap.size, 0, none⟩)) (w.alloc (.cells cs0 T)))
    (hi : (P.info? T).map (·.size) = some cs.size) (hone : cs.all (·.oneCell') = true) (hsz : cs0.size = cs.size) (hBW : B ≤ W.heap.size)
    (hw : ∀ S, Nonempty (ExtS B W S) → wpQuiet P l.toArray (fun w' => ∃ x : ExtS B W S, w' = x.out) (fun a' => a' = aσ) (l.map mute) a0)
    (hval : aσ.eval yv = .agg cs)
    (h : ∀ (x : Ext B W) (p : Nat), B ≤ p → x.out.heap[p]? = some (.cells cs T (0, 0)) → Q .normal (aσ.put (some sa) (.pointer (some ⟨p, 0, none⟩))) x.out) :
    (Code.region id l.toArray true).wp P Q a0 W :=
  wp_region_law (y := ⟨W, Below.refl _ _⟩) aσ ia is sa oa os T yv cs0 cs hm hback hn hoa hos ha1 ha2 hs1 hs2 honly hsee (fun t ht e => by subst ht; subst e; simp [tmpOf] at hyv) hal hval hi hone hsz hBW hw h
theorem execOp_buildRoof {o : Oper} {a : Act} {w : World} {x y z : Operand} {p q s : Int} (ho : o.op = .build 38 #[(0, x), (1, y), (2, z)]) (hx : a.eval x = .int .i8 p) (hy : a.eval y = .int .i8 q) (hz : a.eval z = .int .u8 s) :
    (execOp a.eval o).run Try.prog w = .ok (.value (.agg (rcells ⟨p, q, s, List.replicate 64 0⟩))) w := by
  unfold execOp
  simp only [ho, Sem.run_bind, List.map_toArray, List.map_cons, List.map_nil, hx, hy, hz, run_build_roof]
  rfl
theorem Try.allocRoof (w : World) : (Instr.alloc 38 true (.tuple #[])).run Try.prog w = .ok (.pointer (some ⟨w.heap.size, 0, none⟩)) (w.alloc (.cells (rcells Rf.zero) 38)) := by kernel_rfl
end Go.Proofs.Ytjcmdihadblodaa
