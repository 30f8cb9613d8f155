/- Texts of the claim FnExactPatchesOf, part 3 of 5. -/
import Derived.Test.YtfijinbdpfeceaaGExactPatchesOf2
import Derived.Laws.AppendOwn
import Derived.WalkSmall
import Derived.Deep.AppendLies
import Derived.Deep.Onto
import Derived.Laws.OwnMore
import Derived.Maps.AppendAt
import Derived.Lib.SlFresh
import Derived.Sort.Grow
import Derived.Sort.LotA
import Derived.Shelf.Small.Bits
import Derived.Shelf.SlSortCmp.NoneTotal
import Derived.Ground.SlsfProg
import Derived.Test.YtfijinbdpfeceaaProg
/- l03Less on lists of one place. -/
namespace Go.Proofs.Ytfijinbdpfeceaa
open Go.RowKit
set_option linter.unusedSimpArgs false
set_option linter.unusedVariables false

def lessP (p q : Int × Int) : Bool := decide (p.1 < q.1) || (p.1 == q.1 && decide (p.2 < q.2))
theorem run_neq_place (W : World) (p1 p2 q1 q2 : Int) : (binOp .neq 42 (.agg #[.int .i8 p1, .int .i8 p2]) (.agg #[.int .i8 q1, .int .i8 q2])).run Try.prog W = .ok (.bool (!decide ((p1, p2) = (q1, q2)))) W := by
  have h := run_eql_place W p1 p2 q1 q2
  rw [run_eql_struct] at h
  rw [run_neq_struct]
  revert h
  cases (Op.equalIn 10000 42 (.agg #[.int .i8 p1, .int .i8 p2]) (.agg #[.int .i8 q1, .int .i8 q2])).run Try.prog W with
  | ok b w' =>
    intro h
    simp only [Result.andThen_ok] at h ⊢
    injection h with h1 h2
    injection h1 with h1
    rw [h1, h2]
  | _ => intro h; simp [Result.andThen] at h
theorem execOp_neq {P : Program} {o : Oper} {a : Act} {w : World} {t t' : TypeId} {x y : Operand} {xs ys : Array Value} {v : Value} (ho : o.op = .binOp .neq t x y t') (hx : a.eval x = .agg xs) (hy : a.eval y = .agg ys) (hm : P.eqGuardType P.depth t = false)
    (h : (binOp .neq t (.agg xs) (.agg ys)).run P w = .ok v w) : (execOp a.eval o).run P w = .ok (.value v) w := by
  unfold execOp; simp [ho, hx, hy, Sem.run_bind, run_eqGuard_agg w .neq t x y xs ys hm, h]
end Go.Proofs.Ytfijinbdpfeceaa

/- Rows that a call owns, several side by side: appended to, stored into. -/
namespace Go.Proofs.Ytfijinbdpfeceaa
open Go.RowKit
set_option linter.unusedSimpArgs false
set_option linter.unusedVariables false

/-- Two slices do not share their array. -/
def Apart (v v' : Value) : Prop := ∀ g, v.ownBlock = some g → v'.ownBlock = some g → False
theorem Apart.symm {v v' : Value} (h : Apart v v') : Apart v' v := fun g h1 h2 => h g h2 h1
theorem Apart.nil (v : Value) (n c : Nat) : Apart (.slice none n c) v := fun g h => by simp [Value.ownBlock] at h
theorem Apart.nil' (v : Value) (n c : Nat) : Apart v (.slice none n c) := (Apart.nil v n c).symm
/-- From W to w': nothing is turned but the array of v; v' has it, or an array of its own. -/
structure Grew (v v' : Value) (W w' : World) : Prop where
  below : ∀ B0, (∀ g, v.ownBlock = some g → B0 ≤ g) → B0 ≤ W.heap.size → Below B0 W w'
  block : ∀ b o, W.heap[b]? = some o → v.ownBlock ≠ some b → w'.heap[b]? = some o
  own : ∀ g, v'.ownBlock = some g → v.ownBlock = some g ∨ W.heap.size ≤ g
  size : W.heap.size ≤ w'.heap.size
theorem Grew.row {v v' u : Value} {W w' : World} (h : Grew v v' W w') {B : Nat} {e : TypeId} {sz n : Nat} {xs : List Value} (hu : W.ownsRow B e sz u n xs) (ha : Apart u v) : w'.ownsRow B e sz u n xs := by
  refine ⟨hu.1, ?_⟩
  rcases hu.2 with hn | ⟨g, cap, cur, rfl, hb, hg, rest⟩
  · exact .inl hn
  · exact .inr ⟨g, cap, cur, rfl, hb, h.block g _ hg (fun e => ha g rfl e), rest⟩
theorem Grew.apart {v v' u : Value} {W w' : World} (h : Grew v v' W w') {B : Nat} {e : TypeId} {sz n : Nat} {xs : List Value} (hu : W.ownsRow B e sz u n xs) (ha : Apart u v) : Apart u v' := fun g h1 h2 => by
  rcases h.own g h2 with h3 | h3
  · exact ha g h1 h3
  · have := (hu.lt g h1).2; omega
theorem owns_slc {w : World} {base : Nat} {T : TypeId} {s n : Nat} {v : Value} {xs : List Value} (h : w.ownsRow base T s v n xs) : ∃ A c, v = .slice A n c := by
  rcases h.2 with ⟨rfl, rfl⟩ | ⟨g, cap, cur, rfl, _⟩
  · exact ⟨none, 0, rfl⟩
  · exact ⟨_, _, rfl⟩
/-- One element more, which lies in a block of its own that was just laid. -/
theorem wpList_append_row {P : Program} {ops : Array Oper} {rest : List Oper} {o : Oper} {a : Act} {W : World} {Q : Exit → Act → World → Prop} (hgd : o.guard = none) (s x : Operand) (t : TypeId)
    (ho : o.op = .call { callee := .builtin .append, args := #[s, x], argTypes := #[t, t] })
    (B : Nat) (e : TypeId) (i : TypeInfo) (z : Value) (size bytes : Nat) (ht : P.underlying t = some (.slice e)) (hi : P.info? e = some i) (hz : i.zero = some z)
    (hsize : i.size = size) (hby : i.bytes = bytes) (hzs : z.cells.size = size) (hsz : 0 < size) (hby2 : bytes ≤ 100)
    (v : Value) (n : Nat) (xs : List Value) (hs : a.eval s = v) (hown : W.ownsRow B e size v n xs) (news : Array Value) (hns : news.size = size) (h1 : ∀ u ∈ news, u.oneCell' = true)
    (H : Nat) (hx : a.eval x = .slice (some ⟨H, 0, none⟩) 1 1) (hn : n ≤ 1100000) (hB : B ≤ W.heap.size) (hH : W.heap.size = H) (E : TypeId)
    (h : ∀ v' w', w'.ownsRow B e size v' (n + 1) (xs ++ news.toList) → Grew v v' W w' → wpList P ops Q rest (a.put o.dst v') w') : wpList P ops Q (o :: rest) a (W.alloc (.cells news E)) := by
  subst hH
  refine wpList_append_lies _ hgd s x t ho B e i z size bytes ht hi hz hsize hby hzs hsz v n xs hs (hown.alloc _) ⟨W.heap.size, 0, none⟩ 1 1 news.toList hx (by simp [hns]) ?_ (fun u hu => h1 u (by simpa using hu)) (by decide) (Nat.le_trans (Nat.add_le_add_right hn 1) (by decide))
    (Nat.le_trans (Nat.mul_le_mul (Nat.add_le_add_right hn 1) hby2) (by decide)) (Nat.le_trans hB (by simp)) (W.heap.size + 1) (by simp) ?_
  · exact World.news_of_block (block_new1 W _ rfl)
  · intro g cap w' h2 h3 h4 h5
    refine h _ _ h2 ⟨?_, ?_, ?_, ?_⟩
    · intro B0 hB0 hB1
      exact ((Below.refl B0 W).alloc hB1 _).grown h3 (by simp; omega) hB0
    · intro b o hb hne
      have hlt : b < (W.alloc (.cells news E)).heap.size := by have := block_lt hb; simp; omega
      exact (h3.block b hlt (fun e => hne e.symm)).trans (block_alloc hb _)
    · intro g' hg'
      simp [Value.ownBlock] at hg'
      subst hg'
      rcases h4 with h4 | h4
      · exact .inl h4
      · right; omega
    · have := h3.size; simp at this; omega
theorem Grew.of_drew {v v' : Value} {W w' : World} (h : Grew v v' W.drew w') : Grew v v' W w' :=
  ⟨fun B0 h1 h2 => ((Below.refl B0 W).drew).trans (h.below B0 h1 h2), fun b o hb hne => h.block b o hb hne, h.own, h.size⟩
/-- The same behind a draw. -/
theorem wpList_append_rowD {P : Program} {ops : Array Oper} {rest : List Oper} {o : Oper} {a : Act} {W : World} {Q : Exit → Act → World → Prop} (hgd : o.guard = none) (s x : Operand) (t : TypeId)
    (ho : o.op = .call { callee := .builtin .append, args := #[s, x], argTypes := #[t, t] })
    (B : Nat) (e : TypeId) (i : TypeInfo) (z : Value) (size bytes : Nat) (ht : P.underlying t = some (.slice e)) (hi : P.info? e = some i) (hz : i.zero = some z)
    (hsize : i.size = size) (hby : i.bytes = bytes) (hzs : z.cells.size = size) (hsz : 0 < size) (hby2 : bytes ≤ 100)
    (v : Value) (n : Nat) (xs : List Value) (hs : a.eval s = v) (hown : W.ownsRow B e size v n xs) (news : Array Value) (hns : news.size = size) (h1 : ∀ u ∈ news, u.oneCell' = true)
    (H : Nat) (hx : a.eval x = .slice (some ⟨H, 0, none⟩) 1 1) (hn : n ≤ 1100000) (hB : B ≤ W.heap.size) (hH : W.heap.size = H) (E : TypeId)
    (h : ∀ v' w', w'.ownsRow B e size v' (n + 1) (xs ++ news.toList) → Grew v v' W w' → wpList P ops Q rest (a.put o.dst v') w') : wpList P ops Q (o :: rest) a (W.alloc (.cells news E)).drew :=
  wpList_append_row (W := W.drew) hgd s x t ho B e i z size bytes ht hi hz hsize hby hzs hsz hby2 v n xs hs hown news hns h1 H hx hn hB hH E fun v' w' g1 g2 => h v' w' g1 g2.of_drew
/-- One cell of such a row, replaced. -/
theorem owns_set {W : World} {B : Nat} {e : TypeId} {sz n : Nat} {v : Value} {xs : List Value} (h : W.ownsRow B e sz v n xs) {g : Nat} (hg : v.ownBlock = some g) (j : Nat) (hj : j < n * sz) (x : Value) :
    (W.setCell ⟨g, j, none⟩ x).ownsRow B e sz v n (xs.set j x) := by
  refine ⟨by simp [h.1], ?_⟩
  rcases h.2 with ⟨rfl, hn⟩ | ⟨g', cap, cur, rfl, hb, hgg, hc, hm, hs, ht⟩
  · simp [Value.ownBlock] at hg
  · simp [Value.ownBlock] at hg
    subst hg
    refine .inr ⟨g', cap, _, rfl, hb, heap_setCell_same W g' j cur e x hgg, hc, hm, by simp [hs], ?_⟩
    rw [← ht]
    simp [List.take_set]
theorem owns_set_other {W : World} {B : Nat} {e : TypeId} {sz n : Nat} {v : Value} {xs : List Value} (h : W.ownsRow B e sz v n xs) {g : Nat} (hg : v.ownBlock ≠ some g) (j : Nat) (x : Value) :
    (W.setCell ⟨g, j, none⟩ x).ownsRow B e sz v n xs := by
  refine ⟨h.1, ?_⟩
  rcases h.2 with hn | ⟨g', cap, cur, rfl, hb, hgg, rest⟩
  · exact .inl hn
  · exact .inr ⟨g', cap, cur, rfl, hb, block_set_other hgg (a := ⟨g, j, none⟩) x (by rintro rfl; exact hg rfl), rest⟩
theorem owns_below2 {w w' : World} {base B : Nat} {e : TypeId} {size : Nat} {v : Value} {n : Nat} {xs : List Value} (h : w.ownsRow base e size v n xs) (hb : Below B w w') (hB : w.heap.size ≤ B) : w'.ownsRow base e size v n xs := by
  refine ⟨h.1, ?_⟩
  rcases h.2 with hn | ⟨g, cap, cur, rfl, hb0, hg, rest⟩
  · exact .inl hn
  · exact .inr ⟨g, cap, cur, rfl, hb0, block_below hb hg (Nat.lt_of_lt_of_le (block_lt hg) hB), rest⟩
/-- A cell of such a row. -/
theorem owns_cell {W : World} {B : Nat} {e : TypeId} {sz n : Nat} {v : Value} {xs : List Value} (h : W.ownsRow B e sz v n xs) {j : Nat} {x : Value} (hx : xs[j]? = some x) :
    ∃ g c, v = .slice (some ⟨g, 0, none⟩) n c ∧ B ≤ g ∧ g < W.heap.size ∧ W.cell? ⟨g, j, none⟩ = some x ∧ W.frozen? ⟨g, j, none⟩ = false := by
  have hl := (List.getElem?_eq_some_iff.1 hx).1
  rw [h.1] at hl
  rcases h.2 with ⟨rfl, hn⟩ | ⟨g, cap, cur, rfl, hb, hgg, hc, hm, hs, ht⟩
  · subst hn; simp at hl
  · refine ⟨g, cap, rfl, hb, block_lt hgg, cell_block hgg ?_, frozen_of_row _ _ _ _ _ hgg⟩
    rw [← ht, List.getElem?_take, if_pos hl] at hx
    simpa using hx
end Go.Proofs.Ytfijinbdpfeceaa

/- A whole slice appended to a row that a call owns. -/
namespace Go.Proofs.Ytfijinbdpfeceaa
open Go.RowKit
set_option linter.unusedSimpArgs false
set_option linter.unusedVariables false

theorem run_append_void {P : Program} (w : World) (base : Nat) (t ty e : TypeId) (i : TypeInfo) (size : Nat) (ht : P.underlying t = some (.slice e)) (hi : P.info? e = some i)
    (v : Value) (n : Nat) (xs : List Value) (hown : w.ownsRow base e size v n xs) (c : Nat) : (Builtin.append_ #[t, t] ty #[v, .slice none 0 c]).run P w = .ok v w := by
  rcases hown.2 with ⟨rfl, rfl⟩ | ⟨g, cap, cur, rfl, _, _, hnc, _⟩
  · simp [Builtin.append_, run_underlying ht, sizeOf, typeInfo, hi, Builtin.lenOf, Builtin.firstCells]
  · simp [Builtin.append_, run_underlying ht, sizeOf, typeInfo, hi, Builtin.lenOf, Builtin.firstCells, hnc, storeCells]
theorem Grew.of_grown {v v' : Value} {W w' : World} {B : Nat} {e : TypeId} {sz n : Nat} {xs : List Value} (hown : W.ownsRow B e sz v n xs) (hg : W.grownBy w' v.ownBlock) (ho : v'.ownBlock = v.ownBlock ∨ v'.ownBlock = some W.heap.size) : Grew v v' W w' :=
  ⟨fun B0 h1 h2 => (Below.refl B0 W).grown hg h2 h1, fun b o hb hne => (hg.block b (block_lt hb) (fun e => hne e.symm)).trans hb, fun g hg' => by
    rcases ho with ho | ho
    · rw [ho] at hg'; exact .inl hg'
    · rw [ho] at hg'; right; have := Option.some.inj hg'; omega, hg.size⟩
/-- m elements more, which lie elsewhere. -/
theorem wpList_append_many {P : Program} {ops : Array Oper} {rest : List Oper} {o : Oper} {a : Act} {w : World} {Q : Exit → Act → World → Prop} (hgd : o.guard = none) (s x : Operand) (t : TypeId)
    (ho : o.op = .call { callee := .builtin .append, args := #[s, x], argTypes := #[t, t] })
    (base : Nat) (e : TypeId) (i : TypeInfo) (z : Value) (size bytes : Nat) (ht : P.underlying t = some (.slice e)) (hi : P.info? e = some i) (hz : i.zero = some z)
    (hsize : i.size = size) (hby : i.bytes = bytes) (hzs : z.cells.size = size) (hsz : 0 < size) (hby2 : bytes ≤ 100)
    (v : Value) (n : Nat) (xs : List Value) (hown : w.ownsRow base e size v n xs) (hs : a.eval s = v)
    (A : Option Addr) (m c : Nat) (news : List Value) (hl : news.length = m * size) (hsrc : ∀ j u, news[j]? = some u → ∃ ad : Addr, A = some ad ∧ w.cell? (ad.add j) = some u) (h1 : ∀ u ∈ news, u.oneCell' = true)
    (hx : a.eval x = .slice A m c) (hn : n + m ≤ 2200000) (hbase : base ≤ w.heap.size)
    (h : ∀ v' w', w'.ownsRow base e size v' (n + m) (xs ++ news) → Grew v v' w w' → wpList P ops Q rest (a.put o.dst v') w') : wpList P ops Q (o :: rest) a w := by
  have hrun : ∃ v' w', (Builtin.append_ #[t, t] o.type #[v, .slice A m c]).run P w = .ok v' w' ∧ w'.ownsRow base e size v' (n + m) (xs ++ news) ∧ Grew v v' w w' := by
    rcases A with _ | ad
    · have hm : m = 0 := by
        rcases Nat.eq_zero_or_pos m with h0 | h0
        · exact h0
        · have hp : 0 < news.length := by rw [hl]; exact Nat.mul_pos h0 hsz
          obtain ⟨ad, h2, _⟩ := hsrc 0 _ (List.getElem?_eq_getElem hp)
          cases h2
      subst hm
      obtain rfl : news = [] := List.eq_nil_of_length_eq_zero (by simpa using hl)
      exact ⟨v, w, run_append_void w base t o.type e i size ht hi v n xs hown c, by simpa using hown, Grew.of_grown hown (World.grownBy.refl w _) (.inl rfl)⟩
    · obtain ⟨v', w', hr, h2, h3, _, h5⟩ := run_append_own_at (P := P) w base t o.type e i z size bytes ht hi hz hsize hby hzs hsz v n xs hown ad m c news hl (fun j u hj => by
        obtain ⟨ad', h4, h5⟩ := hsrc j u hj
        obtain rfl := Option.some.inj h4
        exact h5) h1 (Nat.le_trans hn (by decide)) (Nat.le_trans (Nat.mul_le_mul hn hby2) (by decide)) hbase
      exact ⟨v', w', hr, h2, Grew.of_grown hown h3 h5⟩
  obtain ⟨v', w', hr, h2, h3⟩ := hrun
  exact Lib.wpList_append_run_sl w hgd s x t ho v (.slice A m c) hs hx hr (h v' w' h2 h3)
end Go.Proofs.Ytfijinbdpfeceaa

/- Rows of places that a call owns. -/
namespace Go.Proofs.Ytfijinbdpfeceaa
open Go.RowKit
set_option linter.unusedSimpArgs false
set_option linter.unusedVariables false

/-- The slice v owns the places l, in a block from B on. -/
def RowQ (B : Nat) (w : World) (v : Value) (l : List (Int × Int)) : Prop := w.ownsRow B 42 2 v l.length (pcells l)
theorem pcells_set : ∀ (l : List (Int × Int)) (k : Nat) (a b : Int), k < l.length → ((pcells l).set (k * 2) (.int .i8 a)).set (k * 2 + 1) (.int .i8 b) = pcells (l.set k (a, b))
  | [], k, a, b, h => by simp at h
  | p :: l, 0, a, b, h => by simp [pcells]
  | p :: l, k + 1, a, b, h => by
    have ih := pcells_set l k a b (by simpa using h)
    have e : ∀ (q : Int × Int) (l : List (Int × Int)), pcells (q :: l) = .int .i8 q.1 :: .int .i8 q.2 :: pcells l := fun q l => by simp [pcells]
    rw [List.set_cons_succ, e, e, ← ih, show (k + 1) * 2 = k * 2 + 1 + 1 by omega]
    rfl
theorem pcells_app (l l' : List (Int × Int)) : pcells (l ++ l') = pcells l ++ pcells l' := by simp [pcells]
theorem pcells_one (l : List (Int × Int)) : ∀ u ∈ pcells l, u.oneCell' = true := by
  intro u hu
  obtain ⟨p, _, h⟩ := List.mem_flatMap.1 hu
  simp at h
  rcases h with rfl | rfl <;> rfl
theorem pcells_inv (l : List (Int × Int)) : ∀ (j : Nat) (u : Value), (pcells l)[j]? = some u → ∃ (i : Nat) (p : Int × Int), l[i]? = some p ∧ ((j = i * 2 ∧ u = .int .i8 p.1) ∨ (j = i * 2 + 1 ∧ u = .int .i8 p.2)) := by
  intro j u hj
  have hl := (List.getElem?_eq_some_iff.1 hj).1
  rw [pcells_len] at hl
  have hi : j / 2 < l.length := by omega
  have hg := pcells_get l (j / 2) _ (List.getElem?_eq_getElem hi)
  refine ⟨j / 2, l[j / 2], List.getElem?_eq_getElem hi, ?_⟩
  rcases Nat.mod_two_eq_zero_or_one j with h | h
  · left
    have e : j = j / 2 * 2 := by omega
    refine ⟨e, ?_⟩
    rw [e] at hj
    exact Option.some.inj (hj.symm.trans (by simpa using hg.1))
  · right
    have e : j = j / 2 * 2 + 1 := by omega
    refine ⟨e, ?_⟩
    have h2 := hg.2
    rw [← e] at h2
    exact Option.some.inj (hj.symm.trans h2)
theorem addr_addQ (b off j : Nat) : (⟨b, off, none⟩ : Addr).add j = ⟨b, off + j, none⟩ := by unfold Addr.add; split <;> simp_all
theorem srcQ {w : World} {A : Option Addr} {l : List (Int × Int)} (h : PairsAt .i8 .i8 w A l) : ∀ j u, (pcells l)[j]? = some u → ∃ ad : Addr, A = some ad ∧ w.cell? (ad.add j) = some u := by
  intro j u hj
  obtain ⟨i, p, hp, h2⟩ := pcells_inv l j u hj
  obtain ⟨b, off, e, _, h3, h4⟩ := h i p hp
  refine ⟨_, e, ?_⟩
  rw [addr_addQ]
  rcases h2 with ⟨rfl, rfl⟩ | ⟨rfl, rfl⟩
  · exact h3
  · rw [← Nat.add_assoc]; exact h4
theorem RowQ.nil (B : Nat) (w : World) : RowQ B w (.slice none 0 0) [] := World.ownsRow_nil w B 42 2
theorem RowQ.made {B : Nat} {w : World} (hB : B ≤ w.heap.size) : RowQ B (w.alloc (.cells #[] 42)) (.slice (some ⟨w.heap.size, 0, none⟩) 0 0) [] := World.ownsRow_made w #[] 0 hB (by decide) rfl
theorem RowQ.slc {B : Nat} {w : World} {v : Value} {l : List (Int × Int)} (h : RowQ B w v l) : ∃ A c, v = .slice A l.length c := owns_slc h
theorem RowQ.below {B B' : Nat} {w w' : World} {v : Value} {l : List (Int × Int)} (h : RowQ B w v l) (hb : Below B' w w') (hB : w.heap.size ≤ B') : RowQ B w' v l := owns_below2 h hb hB
theorem RowQ.alloc {B : Nat} {w : World} {v : Value} {l : List (Int × Int)} (h : RowQ B w v l) (o : Obj) : RowQ B (w.alloc o) v l := World.ownsRow.alloc h o
theorem RowQ.mono {B B' : Nat} {w : World} {v : Value} {l : List (Int × Int)} (h : RowQ B w v l) (hB : B' ≤ B) : RowQ B' w v l := World.ownsRow.mono h hB
theorem RowQ.lt {B : Nat} {w : World} {v : Value} {l : List (Int × Int)} (h : RowQ B w v l) : ∀ g, v.ownBlock = some g → B ≤ g ∧ g < w.heap.size := World.ownsRow.lt h
theorem RowQ.belowG {B : Nat} {w w' : World} {v v' : Value} {l : List (Int × Int)} (h : RowQ B w v l) (hg : Grew v v' w w') (hB : B ≤ w.heap.size) : Below B w w' := hg.below B (fun g hg => (h.lt g hg).1) hB
theorem RowQ.setO {B : Nat} {w : World} {v : Value} {l : List (Int × Int)} (h : RowQ B w v l) {g : Nat} (hg : v.ownBlock ≠ some g) (j : Nat) (x : Value) : RowQ B (w.setCell ⟨g, j, none⟩ x) v l := owns_set_other h hg j x
theorem RowQ.cell {B : Nat} {w : World} {v : Value} {l : List (Int × Int)} (h : RowQ B w v l) {j : Nat} {p : Int × Int} (hj : l[j]? = some p) :
    ∃ g c, v = .slice (some ⟨g, 0, none⟩) l.length c ∧ B ≤ g ∧ g < w.heap.size ∧ w.cell? ⟨g, j * 2, none⟩ = some (.int .i8 p.1) ∧ w.cell? ⟨g, j * 2 + 1, none⟩ = some (.int .i8 p.2) ∧ w.frozen? ⟨g, j * 2, none⟩ = false ∧ w.frozen? ⟨g, j * 2 + 1, none⟩ = false := by
  obtain ⟨g, c, e, h1, h2, h3, h4⟩ := owns_cell h (pcells_get l j p hj).1
  obtain ⟨g', c', e', h1', h2', h3', h4'⟩ := owns_cell h (pcells_get l j p hj).2
  obtain ⟨rfl, rfl⟩ : g = g' ∧ c = c' := by rw [e] at e'; simpa using e'
  exact ⟨g, c, e, h1, h2, h3, h3', h4, h4'⟩
theorem RowQ.cap {B : Nat} {w : World} {A : Option Addr} {n c : Nat} {l : List (Int × Int)} (h : RowQ B w (.slice A n c) l) : l.length ≤ c ∧ c ≤ maxLen := by
  rcases h.2 with ⟨e, hn⟩ | ⟨g, cap, cur, e, _, _, h1, h2, _⟩
  · simp only [Value.slice.injEq] at e
    omega
  · simp only [Value.slice.injEq] at e
    obtain ⟨_, _, rfl⟩ := e
    exact ⟨h1, h2⟩
theorem RowQ.set2 {B : Nat} {w : World} {g n c : Nat} {l : List (Int × Int)} (h : RowQ B w (.slice (some ⟨g, 0, none⟩) n c) l) {k : Nat} (hk : k < l.length) (a b : Int) :
    RowQ B ((w.setCell ⟨g, k * 2, none⟩ (.int .i8 a)).setCell ⟨g, k * 2 + 1, none⟩ (.int .i8 b)) (.slice (some ⟨g, 0, none⟩) n c) (l.set k (a, b)) := by
  have h1 := owns_set (owns_set h (g := g) rfl (k * 2) (by omega) (.int .i8 a)) (g := g) rfl (k * 2 + 1) (by omega) (.int .i8 b)
  rw [pcells_set l k a b hk] at h1
  unfold RowQ
  rw [List.length_set]
  exact h1
theorem RowQ.pairs {B : Nat} {w : World} {A : Option Addr} {n c : Nat} {l : List (Int × Int)} (h : RowQ B w (.slice A n c) l) : PairsAt .i8 .i8 w A l := fun j p hj => by
  obtain ⟨g, c', e, _, h1, h2, h3, _⟩ := h.cell hj
  obtain ⟨rfl, _, _⟩ : A = some ⟨g, 0, none⟩ ∧ n = l.length ∧ c = c' := by simpa using e
  exact ⟨g, 0, rfl, h1, by rw [Nat.zero_add]; exact h2, by rw [Nat.zero_add]; exact h3⟩
/-- All of l' behind l. -/
theorem wp_appQ {ops : Array Oper} {rest : List Oper} {o : Oper} {a : Act} {W : World} {Q : Exit → Act → World → Prop} (hgd : o.guard = none) (s x : Operand)
    (ho : o.op = .call { callee := .builtin .append, args := #[s, x], argTypes := #[33, 33] })
    (B : Nat) (v : Value) (l l' : List (Int × Int)) (hO : RowQ B W v l) (hs : a.eval s = v) (A : Option Addr) (c : Nat) (hA : PairsAt .i8 .i8 W A l') (hx : a.eval x = .slice A l'.length c) (hn : l.length + l'.length ≤ 1100000) (hB : B ≤ W.heap.size)
    (h : ∀ v' w', RowQ B w' v' (l ++ l') → Grew v v' W w' → wpList Try.prog ops Q rest (a.put o.dst v') w') : wpList Try.prog ops Q (o :: rest) a W := by
  obtain ⟨i0, hi, hz0, hz1, hz2⟩ := info_parts Try.infoPlace
  refine wpList_append_many hgd s x 33 ho B 42 i0 (.agg #[.int .i8 0, .int .i8 0]) 2 2 Try.underlying33 hi hz0 hz1 hz2 rfl (by decide) (by decide) v l.length (pcells l) hO hs A l'.length c (pcells l') (pcells_len l') (srcQ hA) (pcells_one l') hx (by omega) hB ?_
  intro v' w' h1 h2
  refine h v' w' ?_ h2
  unfold RowQ
  rw [List.length_append, pcells_app]
  exact h1
end Go.Proofs.Ytfijinbdpfeceaa

/- One place more; a row whose block is kept. -/
namespace Go.Proofs.Ytfijinbdpfeceaa
open Go.RowKit
set_option linter.unusedSimpArgs false
set_option linter.unusedVariables false
/-- A row whose block is kept is kept. -/
theorem owns_keep {W W' : World} {B : Nat} {e : TypeId} {sz n : Nat} {v : Value} {xs : List Value} (h : W.ownsRow B e sz v n xs) (hk : ∀ (g : Nat) (o : Obj), v.ownBlock = some g → W.heap[g]? = some o → W'.heap[g]? = some o) : W'.ownsRow B e sz v n xs := by
  refine ⟨h.1, ?_⟩
  rcases h.2 with hn | ⟨g, cap, cur, rfl, hb, hg, rest⟩
  · exact .inl hn
  · exact .inr ⟨g, cap, cur, rfl, hb, hk g _ rfl hg, rest⟩
/-- One place more. -/
theorem wp_app1Q {ops : Array Oper} {rest : List Oper} {o : Oper} {a : Act} {W : World} {Q : Exit → Act → World → Prop} (hgd : o.guard = none) (s x : Operand)
    (ho : o.op = .call { callee := .builtin .append, args := #[s, x], argTypes := #[33, 33] })
    (B : Nat) (v : Value) (l : List (Int × Int)) (p1 p2 : Int) (hO : RowQ B W v l) (hs : a.eval s = v) (H : Nat) (hx : a.eval x = .slice (some ⟨H, 0, none⟩) 1 1) (hn : l.length ≤ 1100000) (hB : B ≤ W.heap.size) (hH : W.heap.size = H)
    (h : ∀ v' w', RowQ B w' v' (l ++ [(p1, p2)]) → Grew v v' W w' → wpList Try.prog ops Q rest (a.put o.dst v') w') : wpList Try.prog ops Q (o :: rest) a (W.alloc (.cells #[.int .i8 p1, .int .i8 p2] 42)) := by
  obtain ⟨i0, hi, hz0, hz1, hz2⟩ := info_parts Try.infoPlace
  refine wpList_append_row hgd s x 33 ho B 42 i0 (.agg #[.int .i8 0, .int .i8 0]) 2 2 Try.underlying33 hi hz0 hz1 hz2 rfl (by decide) (by decide) v l.length (pcells l) hs hO #[.int .i8 p1, .int .i8 p2] rfl (by simp [Value.oneCell']) H hx hn hB hH _ ?_
  intro v' w' h1 h2
  refine h v' w' ?_ h2
  unfold RowQ
  rw [pcells_snoc, List.length_append]
  exact h1
end Go.Proofs.Ytfijinbdpfeceaa

/- Appends, run. -/
namespace Go.Proofs.Ytfijinbdpfeceaa
open Go.RowKit
set_option linter.unusedSimpArgs false
set_option linter.unusedVariables false

theorem run_append_many {P : Program} {w : World} (t ty e : TypeId) (base : Nat) (i : TypeInfo) (z : Value) (size bytes : Nat) (ht : P.underlying t = some (.slice e)) (hi : P.info? e = some i) (hz : i.zero = some z)
    (hsize : i.size = size) (hby : i.bytes = bytes) (hzs : z.cells.size = size) (hsz : 0 < size) (hby2 : bytes ≤ 100)
    (v : Value) (n : Nat) (xs : List Value) (hown : w.ownsRow base e size v n xs)
    (A : Option Addr) (m c : Nat) (news : List Value) (hl : news.length = m * size) (hsrc : ∀ j u, news[j]? = some u → ∃ ad : Addr, A = some ad ∧ w.cell? (ad.add j) = some u) (h1 : ∀ u ∈ news, u.oneCell' = true)
    (hn : n + m ≤ 2200000) (hbase : base ≤ w.heap.size) :
    ∃ v' w', (Builtin.append_ #[t, t] ty #[v, .slice A m c]).run P w = .ok v' w' ∧ w'.ownsRow base e size v' (n + m) (xs ++ news) ∧ Grew v v' w w' := by
  rcases A with _ | ad
  · have hm : m = 0 := by
      rcases Nat.eq_zero_or_pos m with h0 | h0
      · exact h0
      · have hp : 0 < news.length := by rw [hl]; exact Nat.mul_pos h0 hsz
        obtain ⟨ad, h2, _⟩ := hsrc 0 _ (List.getElem?_eq_getElem hp)
        cases h2
    subst hm
    obtain rfl : news = [] := List.eq_nil_of_length_eq_zero (by simpa using hl)
    exact ⟨v, w, run_append_void w base t ty e i size ht hi v n xs hown c, by simpa using hown, Grew.of_grown hown (World.grownBy.refl w _) (.inl rfl)⟩
  · obtain ⟨v', w', hr, h2, h3, _, h5⟩ := run_append_own_at (P := P) w base t ty e i z size bytes ht hi hz hsize hby hzs hsz v n xs hown ad m c news hl (fun j u hj => by
      obtain ⟨ad', h4, h5⟩ := hsrc j u hj
      obtain rfl := Option.some.inj h4
      exact h5) h1 (Nat.le_trans hn (by decide)) (Nat.le_trans (Nat.mul_le_mul hn hby2) (by decide)) hbase
    exact ⟨v', w', hr, h2, Grew.of_grown hown h3 h5⟩
theorem run_appQ (ty : TypeId) (B : Nat) (W : World) (v : Value) (l l' : List (Int × Int)) (hO : RowQ B W v l) (A : Option Addr) (c : Nat) (hA : PairsAt .i8 .i8 W A l') (hn : l.length + l'.length ≤ 1100000) (hB : B ≤ W.heap.size) :
    ∃ v' w', (Builtin.append_ #[33, 33] ty #[v, .slice A l'.length c]).run Try.prog W = .ok v' w' ∧ RowQ B w' v' (l ++ l') ∧ Grew v v' W w' := by
  obtain ⟨i0, hi, hz0, hz1, hz2⟩ := info_parts Try.infoPlace
  obtain ⟨v', w', h1, h2, h3⟩ := run_append_many (P := Try.prog) (w := W) 33 ty 42 B i0 (.agg #[.int .i8 0, .int .i8 0]) 2 2 Try.underlying33 hi hz0 hz1 hz2 rfl (by decide) (by decide) v l.length (pcells l) hO A l'.length c (pcells l') (pcells_len l') (srcQ hA) (pcells_one l') (by omega) hB
  refine ⟨v', w', h1, ?_, h3⟩
  unfold RowQ
  rw [List.length_append, pcells_app]
  exact h2
theorem exec_append {P : Program} {o : Oper} {a : Act} {w w' : World} {s x : Operand} {t : TypeId} {v xv v' : Value} (ho : o.op = .call { callee := .builtin .append, args := #[s, x], argTypes := #[t, t] })
    (hs : a.eval s = v) (hx : a.eval x = xv) (hr : (Builtin.append_ #[t, t] o.type #[v, xv]).run P w = .ok v' w') : (execOp a.eval o).run P w = .ok (.value v') w' := by
  simp [execOp, ho, resolve, invoke, builtin, hs, hx, hr, Result.andThen]
end Go.Proofs.Ytfijinbdpfeceaa

/- KindAt, the program's and the reference's. -/
namespace Go.Proofs.Ytfijinbdpfeceaa
open Go.RowKit
set_option linter.unusedSimpArgs false
set_option linter.unusedVariables false

/-- What KindAt returns. -/
def kindAtV (r : Rf) (c t : Int) : Int := if codeOf (validB r) (isPl r c t) = 0 then r.at c.toNat t.toNat else 0
theorem codeOf_pl0 {r : Rf} {c t : Int} (h : codeOf (validB r) (isPl r c t) = 0) : validB r = true ∧ (0 ≤ c ∧ c ≤ r.h - 1 ∧ 0 ≤ t ∧ t ≤ r.w - 1) ∧ (0 ≤ c ∧ c ≤ 7) ∧ (0 ≤ t ∧ t ≤ 7) := by
  rcases codeOf_cases (validB r) (isPl r c t) with ⟨_, h1⟩ | ⟨_, _, h1⟩ | ⟨h1, h2, _⟩
  · rw [h1] at h; cases h
  · rw [h1] at h; cases h
  · have := valid_head h1; have := isPl_iff.1 h2; exact ⟨h1, by omega⟩
end Go.Proofs.Ytfijinbdpfeceaa

/- ClimbTo, the program's and the reference's. -/
namespace Go.Proofs.Ytfijinbdpfeceaa
open Go.RowKit
set_option linter.unusedSimpArgs false
set_option linter.unusedVariables false

/-- What ClimbTo returns. -/
def climbV (r : Rf) (c t : Int) : Int := if codeOf (validB r) (isPl r c t) = 0 then r.h - c else 0
theorem codeL_one (v g : Bool) : codeL v g 1 = codeOf v g := by simp [codeL]
theorem allPl_one (r : Rf) (c t : Int) : allPl r [(c, t)] = isPl r c t := by simp [allPl]
theorem SlP_one {w : World} {b : Nat} {c t : Int} {T : TypeId} (h : w.heap[b]? = some (.cells #[.int .i8 c, .int .i8 t] T (0,0))) : SlP w (some ⟨b, 0, none⟩) [(c, t)] := fun j p hj => by
  cases j with
  | zero =>
    simp at hj; subst hj
    exact ⟨b, 0, rfl, block_lt h, cell_block h rfl, cell_block h rfl⟩
  | succ j => simp at hj
end Go.Proofs.Ytfijinbdpfeceaa

/- The tiles beside a tile, the program's. -/
namespace Go.Proofs.Ytfijinbdpfeceaa
open Go.RowKit
set_option linter.unusedSimpArgs false
set_option linter.unusedVariables false

theorem getD_q (a : Act) (t : Nat) : a.tmps[t]?.getD undef = a.tmps.getD t undef := by simp [Array.getD_eq_getD_getElem?]
def hasQ (r : Rf) (p : Int × Int) : Bool := hasB r p.1 p.2
/-- The two neighbours in the course. -/
def twoL (c t : Int) : List (Int × Int) := [(c, t - 1), (c, t + 1)]
theorem two_pairs {w : World} {b : Nat} {c t : Int} {T : TypeId} (h : w.heap[b]? = some (.cells #[.int .i8 c, .int .i8 (t - 1), .int .i8 c, .int .i8 (t + 1)] T (0, 0))) : PairsAt .i8 .i8 w (some ⟨b, 0, none⟩) (twoL c t) := fun j p hj => by
  match j with
  | 0 => simp [twoL] at hj; subst hj; exact ⟨b, 0, rfl, block_lt h, cell_block h rfl, cell_block h rfl⟩
  | 1 => simp [twoL] at hj; subst hj; exact ⟨b, 0, rfl, block_lt h, cell_block h rfl, cell_block h rfl⟩
  | j + 2 => simp [twoL] at hj
theorem two_take (r : Rf) (c t : Int) {k : Nat} {p : Int × Int} (h : (twoL c t)[k]? = some p) : ((twoL c t).take (k + 1)).filter (hasQ r) = ((twoL c t).take k).filter (hasQ r) ++ (if hasQ r p = true then [p] else []) := by
  obtain ⟨hk, rfl⟩ := List.getElem?_eq_some_iff.1 h
  rw [List.take_succ_eq_append_getElem hk, List.filter_append]
  congr 1
  by_cases hh : hasQ r (twoL c t)[k] = true
  · rw [if_pos hh, List.filter_cons_of_pos hh, List.filter_nil]
  · rw [if_neg hh, List.filter_cons_of_neg hh, List.filter_nil]
def besideL (r : Rf) (c t : Int) : List (Int × Int) := (lapL r c t (c - 1) ++ lapL r c t (c + 1)) ++ (twoL c t).filter (hasQ r)
/-- What stands when some of the operations have been carried out. -/
def BesR (B : Nat) (L1 L2 : List (Int × Int)) (res : Nat → Option Value) (V : World) : Prop :=
  (∀ v, res 6 = some v → res 14 = none → RowQ B V v L1) ∧ (∀ v, res 13 = some v → res 14 = none → RowQ B V v L2) ∧ (∀ v v', res 6 = some v → res 13 = some v' → res 14 = none → Apart v v') ∧ (∀ v, res 14 = some v → RowQ B V v (L1 ++ L2)) ∧ (∀ v, res 15 = some v → res 14 = some v)
set_option maxHeartbeats 3200000 in
set_option maxRecDepth 100000 in
theorem c_beside (r : Rf) (hr : r.Ok) (hv : validB r = true) (c t : Int) (hc : 0 ≤ c ∧ c ≤ 7) (ht : 0 ≤ t ∧ t ≤ 7) (w : World) :
    Calls Try.prog 71 #[.agg (rcells r), .agg #[.int .i8 c, .int .i8 t]] w (RetS w (besideL r c t)) := by
  have HX := hid (block_alloc (block_new1 w (.cells (rcells r) 27) rfl) (.cells #[.int .i8 c, .int .i8 t] 42))
  have HP := hid (block_new1 (w.alloc (.cells (rcells r) 27)) (.cells #[.int .i8 c, .int .i8 t] 42) (n := w.heap.size + 1) (by simp))
  obtain ⟨W0, hW0⟩ : ∃ W0, W0 = (w.alloc (.cells (rcells r) 27)).alloc (.cells #[.int .i8 c, .int .i8 t] 42) := ⟨_, rfl⟩
  have HW : Hid (Below w.heap.size w W0) := by rw [hW0]; exact ((Below.refl _ w).alloc (Nat.le_refl _) _).alloc (by simp) _
  have HS : Hid (w.heap.size + 2 ≤ W0.heap.size) := by rw [hW0]; simp [Hid]
  rw [← hW0] at HX HP
  obtain ⟨L1, hL1⟩ : ∃ L, L = lapL r c t (c - 1) := ⟨_, rfl⟩
  obtain ⟨L2, hL2⟩ : ∃ L, L = lapL r c t (c + 1) := ⟨_, rfl⟩
  have HLA : Hid (L1.length ≤ 2 ∧ L2.length ≤ 2) := by rw [hL1, hL2]; exact ⟨lapL_len _ _ _ _, lapL_len _ _ _ _⟩
  have HC1 := fun W => hid (c_lapped r hr hv c t (c - 1) hc ht (by omega) W)
  have HC2 := fun W => hid (c_lapped r hr hv c t (c + 1) hc ht (by omega) W)
  rw [← hL1] at HC1
  rw [← hL2] at HC2
  have HE : Hid (besideL r c t = (L1 ++ L2) ++ (twoL c t).filter (hasQ r)) := by rw [hL1, hL2]; rfl
  have HCX := hid HC1
  have HCY := hid HC2
  have e0 : IntKind.i64.wrap c = c := IntWalk.i64_in _ (by omega)
  have e1 : IntKind.i64.wrap (c - 1) = c - 1 := IntWalk.i64_in _ (by omega)
  have e2 : IntKind.i64.wrap (c + 1) = c + 1 := IntWalk.i64_in _ (by omega)
  clear hL1 hL2 HC1 HC2 hv
  go_enter Try.func71, Try.ntmps71
  go_wp2_with fail
  rw [← hW0]
  clear hW0
  refine wp_region_wildK (w.heap.size + 2) [0, 1, 2, 3, 4, 5, 7, 8, 9, 10, 11, 12] [6, 13, 14, 15] ?s1 (BesR (w.heap.size + 2) L1 L2) (by kernel_rfl) (by kernel_rfl) (by kernel_rfl) (by kernel_rfl) HS.out ?pre1 ?zero1 ?mono1 ?step1 ?end1
  case pre1 =>
    intro B' W' hb hB hS
    have l0 : w.heap.size < B' := by omega
    have l1 : w.heap.size + 1 < B' := by omega
    have HXb := hid (block_below hb HX.out (by omega))
    have HPb := hid (block_below hb HP.out (by omega))
    have q0 : W'.cell? ⟨w.heap.size + 1, 0, none⟩ = some (.int .i8 c) := cell_block HPb.out rfl
    have q1 : W'.cell? ⟨w.heap.size + 1, 1, none⟩ = some (.int .i8 t) := cell_block HPb.out rfl
    have R0 : Hid (∀ x : Ext B' W', (Instr.loadAt 27 (.pointer (some ⟨w.heap.size, 0, none⟩))).run Try.prog x.out = .ok (.agg (rcells r)) x.out) := fun x =>
      run_load_roof 27 Try.underlying27 rfl Try.infoRoof hr (block_below x.below HXb.out l0)
    change wpQuiet _ _ _ _ [_, _, _, _, _, _, _, _, _, _, _, _] _
    repeat (first
      | ((with_reducible refine wpQuiet_run (N := 8) rfl rfl (.agg (rcells r)) ?_ ?_); (rintro _ ⟨x, rfl⟩; exact execOp_load rfl rfl (R0.out x)); go_simp)
      | ((with_reducible refine wpQuiet_run (N := 15) rfl rfl (.agg (rcells r)) ?_ ?_); (rintro _ ⟨x, rfl⟩; exact execOp_load rfl rfl (R0.out x)); go_simp)
      | go_big_quiet_step (fail))
    refine wpQuiet_nil ?_
    exact rfl
  case zero1 => exact fun w' _ => ⟨fun v h => (by cases h), fun v h => (by cases h), fun v v' h => (by cases h), fun v h => (by cases h), fun v h => (by cases h)⟩
  case mono1 =>
    rintro res V V' ⟨h1, h2, h3, h4, h5⟩ hb
    exact ⟨fun v a b => (h1 v a b).below hb (Nat.le_refl _), fun v a b => (h2 v a b).below hb (Nat.le_refl _), h3, fun v a => (h4 v a).below hb (Nat.le_refl _), h5⟩
  case step1 =>
    intro i o hi ho res a wq hn hRq hbq hBq hey hdep
    simp only [List.mem_cons, List.not_mem_nil, or_false] at hi
    obtain ⟨h1, h2, h3, h4, h5⟩ := hRq
    rcases hi with rfl | rfl | rfl | rfl
    · -- the first call
      obtain rfl := Option.some.inj ho
      have e8 : a.eval (.tmp 8) = .agg (rcells r) := (hey 8 (by decide)).2 (by decide)
      have e9 : a.eval (.tmp 9) = .agg #[.int .i8 c, .int .i8 t] := (hey 9 (by decide)).2 (by decide)
      have e13 : a.eval (.tmp 13) = .int .i64 (c - 1) := (hey 13 (by decide)).2 (by decide)
      refine .inl ⟨48, #[.agg (rcells r), .agg #[.int .i8 c, .int .i8 t], .int .i64 (c - 1)], fun W => by unfold execOp; go_simp; exact ⟨(getD_q a 8).trans e8, (getD_q a 9).trans e9, (getD_q a 13).trans e13⟩, ?_⟩
      refine (HCX.out wq).out.mono ?_
      rintro e w' ⟨v, rfl, hb', hr'⟩
      refine ⟨v, rfl, ⟨fun u hu _ => ?_, fun u hu h14 => (h2 u hu h14).below hb' (Nat.le_refl _), fun u u' hu hu' h14 g hg hg' => ?_, fun u hu => (h4 u hu).below hb' (Nat.le_refl _), h5⟩, hbq.trans (hb'.mono hBq)⟩
      · obtain rfl : v = u := Option.some.inj hu
        exact World.ownsRow.mono hr' hBq
      · obtain rfl : v = u := Option.some.inj hu
        have a1 := (World.ownsRow.lt hr' g hg).1
        have a2 := (World.ownsRow.lt (h2 u' hu' h14) g hg').2
        omega
    · -- the second call
      obtain rfl := Option.some.inj ho
      have e15 : a.eval (.tmp 15) = .agg (rcells r) := (hey 15 (by decide)).2 (by decide)
      have e16 : a.eval (.tmp 16) = .agg #[.int .i8 c, .int .i8 t] := (hey 16 (by decide)).2 (by decide)
      have e20 : a.eval (.tmp 20) = .int .i64 (c + 1) := (hey 20 (by decide)).2 (by decide)
      refine .inl ⟨48, #[.agg (rcells r), .agg #[.int .i8 c, .int .i8 t], .int .i64 (c + 1)], fun W => by unfold execOp; go_simp; exact ⟨(getD_q a 15).trans e15, (getD_q a 16).trans e16, (getD_q a 20).trans e20⟩, ?_⟩
      refine (HCY.out wq).out.mono ?_
      rintro e w' ⟨v, rfl, hb', hr'⟩
      refine ⟨v, rfl, ⟨fun u hu h14 => (h1 u hu h14).below hb' (Nat.le_refl _), fun u hu _ => ?_, fun u u' hu hu' h14 g hg hg' => ?_, fun u hu => (h4 u hu).below hb' (Nat.le_refl _), h5⟩, hbq.trans (hb'.mono hBq)⟩
      · obtain rfl : v = u := Option.some.inj hu
        exact World.ownsRow.mono hr' hBq
      · obtain rfl : v = u' := Option.some.inj hu'
        have a1 := (World.ownsRow.lt hr' g hg').1
        have a2 := (World.ownsRow.lt (h1 u hu h14) g hg).2
        omega
    · -- the append
      obtain rfl := Option.some.inj ho
      have r6 := (hey 14 (by decide)).1 6 (by decide) (by decide)
      have r13 := (hey 21 (by decide)).1 13 (by decide) (by decide)
      have hO1 := h1 _ r6 hn
      have hO2 := h2 _ r13 hn
      obtain ⟨A2, c2, e2'⟩ := owns_slc hO2
      have e14 : a.eval (.tmp 14) = a.tmps.getD 14 undef := rfl
      have e21 : a.eval (.tmp 21) = .slice A2 L2.length c2 := e2'
      rw [e2'] at hO2
      obtain ⟨v', w', hrun, hown, hg⟩ := run_appQ 33 (w.heap.size + 2) wq _ L1 L2 hO1 A2 c2 hO2.pairs (by have := HLA.out; omega) hBq
      refine .inr (.inl ⟨v', w', exec_append rfl e14 e21 hrun, ⟨fun u hu h14 => (by cases h14), fun u hu h14 => (by cases h14), fun u u' hu hu' h14 => (by cases h14), fun u hu => ?_, fun u hu => ?_⟩, hbq.trans (hO1.belowG hg hBq)⟩)
      · obtain rfl : v' = u := Option.some.inj hu
        exact hown
      · exact absurd (h5 u hu) (by rw [hn]; simp)
    · obtain rfl := Option.some.inj ho
      have r14 := (hey 22 (by decide)).1 14 (by decide) (by decide)
      have e22 : a.eval (.tmp 22) = a.tmps.getD 22 undef := rfl
      refine .inr (.inl ⟨a.tmps.getD 22 undef, wq, by unfold execOp; go_simp, ⟨h1, h2, h3, h4, fun u hu => ?_⟩, hbq⟩)
      obtain rfl := Option.some.inj hu
      exact r14
  case end1 =>
    intro val wq hRq hbq
    obtain ⟨_, _, _, h4, h5⟩ := hRq
    have hv4 : RowQ (w.heap.size + 2) wq (val 14) (L1 ++ L2) := h4 (val 14) rfl
    have hv5 : val 14 = val 15 := Option.some.inj (h5 (val 15) rfl)
    rw [hv5] at hv4
    obtain ⟨vo, hvo⟩ : ∃ v, v = val 15 := ⟨_, rfl⟩
    rw [← hvo] at hv4
    have hBq : w.heap.size + 2 ≤ wq.heap.size := Nat.le_trans HS.out hbq.size
    have HXq := hid (block_below hbq HX.out (by omega))
    have HPq := block_below hbq HP.out (by omega)
    have q0 : wq.cell? ⟨w.heap.size + 1, 0, none⟩ = some (.int .i8 c) := cell_block HPq rfl
    have q1 : wq.cell? ⟨w.heap.size + 1, 1, none⟩ = some (.int .i8 t) := cell_block HPq rfl
    have et0 : IntKind.i8.wrap (t - 1) = t - 1 := IntWalk.i8_in _ (by omega)
    have et1 : IntKind.i8.wrap (t + 1) = t + 1 := IntWalk.i8_in _ (by omega)
    have HV4 := hid hv4
    have HWq := hid (HW.out.trans (hbq.mono (by omega)))
    clear h4 h5 hv4 HPq hbq HCX HCY
    change Exit.then _ _ _ (((((_ : Act).put (some 14) (val 6)).put (some 21) (val 13)).put (some 22) (val 14)).put (some 5) (val 15)) _
    rw [← hvo]
    simp only [Act.put, List.setIfInBounds_toArray, List.set_cons_zero, List.set_cons_succ]
    clear hv5 hvo
    go_wp2_with fail
    have LQ : w.heap.size + 2 ≤ wq.heap.size := hBq
    obtain ⟨b5, hb5⟩ : ∃ b, b = wq.heap.size := ⟨_, rfl⟩
    have HN := hid (block_new1 wq (.cells #[.int .i8 c, .int .i8 (t - 1), .int .i8 c, .int .i8 (t + 1)] 42) hb5)
    have HX1 := hid (block_alloc HXq.out (.cells #[.int .i8 c, .int .i8 (t - 1), .int .i8 c, .int .i8 (t + 1)] 42))
    have HW1 := hid (HWq.out.trans ((Below.refl w.heap.size wq).alloc HWq.out.size (.cells #[.int .i8 c, .int .i8 (t - 1), .int .i8 c, .int .i8 (t + 1)] 42)))
    have HV1 : Hid (RowQ (w.heap.size + 2) (wq.alloc (.cells #[.int .i8 c, .int .i8 (t - 1), .int .i8 c, .int .i8 (t + 1)] 42)) vo (L1 ++ L2 ++ ((twoL c t).take 0).filter (hasQ r))) := by
      have := World.ownsRow.alloc HV4.out (.cells #[.int .i8 c, .int .i8 (t - 1), .int .i8 c, .int .i8 (t + 1)] 42)
      simp only [List.take_zero, List.filter_nil, List.append_nil]
      exact this
    have HO1 : Hid (∀ g, vo.ownBlock = some g → g ≠ b5) := fun g hg => by have := (World.ownsRow.lt HV4.out g hg).2; omega
    rw [← hb5]
    have LB5 : Hid (w.heap.size + 2 ≤ b5) := by rw [hb5]; exact LQ
    clear HV4 HXq HWq LQ hb5 hBq
    go_loopw [5, 37] (fun v i wr => ∃ k : Nat, k ≤ 2 ∧ i = .int .i64 k ∧ Hid (RowQ (w.heap.size + 2) wr v (L1 ++ L2 ++ ((twoL c t).take k).filter (hasQ r))) ∧ Hid (∀ g, v.ownBlock = some g → g ≠ b5) ∧ Hid (wr.heap[b5]? = some (.cells #[.int .i8 c, .int .i8 (t - 1), .int .i8 c, .int .i8 (t + 1)] 42 (0, 0))) ∧ Hid (wr.heap[w.heap.size]? = some (.cells (rcells r) 27 (0, 0))) ∧ Hid (Below w.heap.size w wr)) (fun _ i _ => 2 - (intOf i).toNat)
    case atStart => exact ⟨0, by omega, rfl, HV1.out, HO1.out, HN.out, HX1.out, HW1.out⟩
    case round =>
      clear HV1 HO1 HN HX1 HW1
      obtain ⟨k, hk, rfl, hro, hob, hbk, hx, hb⟩ := hrel
      obtain ⟨Ao, co, rfl⟩ := owns_slc hro.out
      have LBk := block_lt hbk.out
      have hol : (L1 ++ L2 ++ ((twoL c t).take k).filter (hasQ r)).length ≤ 6 := by
        have h1 := HLA.out
        have h2 := List.length_filter_le (hasQ r) ((twoL c t).take k)
        have h3 : ((twoL c t).take k).length ≤ 2 := by rw [List.length_take]; simp [twoL]; omega
        rw [List.length_append, List.length_append]; omega
      obtain ⟨O, hO⟩ : ∃ O, O = L1 ++ L2 ++ ((twoL c t).take k).filter (hasQ r) := ⟨_, rfl⟩
      by_cases hk2 : k < 2
      · have hd : decide ((k : Int) < 2) = true := decide_eq_true (by omega)
        have hkI : (k : Int) < 2 := by omega
        have hk0 : (0 : Int) ≤ (k : Int) := by omega
        have hkl : k < (twoL c t).length := by simp [twoL]; omega
        have hp := List.getElem?_eq_getElem hkl
        obtain ⟨⟨p1, p2⟩, hpp⟩ : ∃ p, p = (twoL c t)[k] := ⟨_, rfl⟩
        rw [← hpp] at hp
        have HTK := hid (two_take r c t hp)
        have hpb : (0 ≤ p1 ∧ p1 ≤ 7) ∧ (-1 ≤ p2 ∧ p2 ≤ 8) := by
          have hm : (p1, p2) ∈ twoL c t := List.mem_of_getElem? hp
          simp [twoL] at hm
          omega
        obtain ⟨ba, off, e, r1, r2, r3⟩ := two_pairs hbk.out k _ hp
        obtain ⟨rfl, rfl⟩ : b5 = ba ∧ 0 = off := by simpa using e
        rw [Nat.zero_add] at r2 r3
        dsimp only at r2 r3
        have HHAS := fun W => hid (c_has r hr p1 p2 (by omega) (by omega) W)
        obtain ⟨bb, hbb⟩ : ∃ b, hasB r p1 p2 = b := ⟨_, rfl⟩
        rw [hbb] at HHAS
        have HBB : Hid (hasQ r (p1, p2) = bb) := hbb
        have HXn := hid (block_alloc hx.out (.cells #[.int .i8 p1, .int .i8 p2] 42))
        have HNn := hid (block_new1 wr (.cells #[.int .i8 p1, .int .i8 p2] 42) rfl)
        have HBn := hid (hb.out.trans ((Below.refl w.heap.size wr).alloc hb.out.size (.cells #[.int .i8 p1, .int .i8 p2] 42)))
        have Hbn := hid ((Below.refl wr.heap.size wr).alloc (Nat.le_refl _) (.cells #[.int .i8 p1, .int .i8 p2] 42))
        have k0 : (wr.alloc (.cells #[.int .i8 p1, .int .i8 p2] 42)).cell? ⟨wr.heap.size, 0, none⟩ = some (.int .i8 p1) := cell_block HNn.out rfl
        have k1 : (wr.alloc (.cells #[.int .i8 p1, .int .i8 p2] 42)).cell? ⟨wr.heap.size, 1, none⟩ = some (.int .i8 p2) := cell_block HNn.out rfl
        rw [← hO] at hro hol hob ⊢
        have HO := hid hO
        clear hp hpp hpb e hbb hkl hO
        cases bb with
        | true =>
          go_wp2_with (first
            | ((with_reducible refine gate (N := 41) rfl ?_); refine wp_roof 27 Try.underlying27 rfl Try.infoRoof rfl (.tmp 2) rfl w.heap.size rfl r hr HXn.out ?_)
            | (go_at_call 47; ((with_reducible refine (HHAS _).out.mono ?_); rintro e w5 ⟨rfl, hb5⟩); have HB5 := hid (Hbn.out.trans (hb5.mono Hbn.out.size)); have HN5 := hid (block_below hb5 HNn.out (by simp)); have z0 : w5.cell? ⟨wr.heap.size, 0, none⟩ = some (.int .i8 p1) := cell_block HN5.out rfl; have z1 : w5.cell? ⟨wr.heap.size, 1, none⟩ = some (.int .i8 p2) := cell_block HN5.out rfl; have HRO5 := hid (hro.out.below HB5.out (Nat.le_refl _)); have HBK5 := hid (block_below HB5.out hbk.out LBk); have HX5 := hid (block_below HB5.out hx.out (block_lt hx.out)); have LB5' := Nat.le_trans LB5.out (Nat.le_trans (Nat.le_of_lt LBk) HB5.out.size); clear hb5)
            | ((with_reducible refine gate (N := 47) rfl ?_); (refine wp_app1Q rfl (.tmp 44) (.tmp 46) rfl (w.heap.size + 2) (.slice Ao O.length co) O p1 p2 HRO5.out rfl w5.heap.size rfl (Nat.le_trans hol (by decide)) LB5' rfl ?_); intro v' w6 hown hg; obtain ⟨A6, c6, rfl⟩ := owns_slc hown; have HG6 := hid hg; have HRO6 := hid hown; clear hg hown))
          have hb6 : Below w.heap.size w5 w6 := (HRO5.out.belowG HG6.out LB5').mono (by omega)
          refine ⟨⟨k + 1, by omega, by go_num, ?_, fun g hg => ?_, HG6.out.block _ _ HBK5.out (fun e => hob.out _ e rfl), HG6.out.block _ _ HX5.out (fun e => by have := (World.ownsRow.lt HRO5.out _ e).1; omega), (hb.out.trans (HB5.out.mono hb.out.size)).trans hb6⟩, by simp [intOf]; omega⟩
          · show RowQ _ _ _ _
            rw [HTK.out, if_pos HBB.out, ← List.append_assoc, ← HO.out]
            have := HRO6.out
            rw [List.length_append] at this
            exact this
          · rcases HG6.out.own g (by rw [List.length_append]; exact hg) with h1 | h1
            · exact hob.out g h1
            · have := HB5.out.size; omega
        | false =>
          go_wp2_with (first
            | ((with_reducible refine gate (N := 41) rfl ?_); refine wp_roof 27 Try.underlying27 rfl Try.infoRoof rfl (.tmp 2) rfl w.heap.size rfl r hr HXn.out ?_)
            | (go_at_call 47; ((with_reducible refine (HHAS _).out.mono ?_); rintro e w5 ⟨rfl, hb5⟩); have HB5 := hid (Hbn.out.trans (hb5.mono Hbn.out.size)); clear hb5))
          refine ⟨⟨k + 1, by omega, by go_num, ?_, hob.out, block_below HB5.out hbk.out LBk, block_below HB5.out hx.out (block_lt hx.out), hb.out.trans (HB5.out.mono hb.out.size)⟩, by simp [intOf]; omega⟩
          show RowQ _ _ _ _
          rw [HTK.out, if_neg (by rw [HBB.out]; simp), List.append_nil, ← HO.out]
          exact hro.out.below HB5.out (Nat.le_refl _)
      · obtain rfl : k = 2 := by omega
        have hd : decide ((2 : Int) < 2) = false := rfl
        have HRO : Hid (RowQ w.heap.size wr (.slice Ao O.length co) (besideL r c t)) := by
          rw [HE.out]
          have h1 : (twoL c t).take 2 = twoL c t := rfl
          rw [h1] at hO hro
          rw [← hO] at hro ⊢
          exact World.ownsRow.mono hro.out (by omega)
        rw [← hO]
        clear hO hro hol
        go_wp2_with fail
        go_ret
        exact ⟨_, rfl, hb.out, HRO.out⟩
end Go.Proofs.Ytfijinbdpfeceaa

/- Rows of numbers that a call owns. -/
namespace Go.Proofs.Ytfijinbdpfeceaa
open Go.RowKit
set_option linter.unusedSimpArgs false
set_option linter.unusedVariables false

/-- The slice v owns the numbers l, in a block from B on. -/
def RowI (B : Nat) (w : World) (v : Value) (l : List Int) : Prop := w.ownsRow B 2 1 v l.length (icells l)
theorem icells_get {l : List Int} {j : Nat} {n : Int} (h : l[j]? = some n) : (icells l)[j]? = some (.int .i64 n) := by unfold icells; rw [List.getElem?_map, h]; rfl
theorem icells_set (l : List Int) (j : Nat) (n : Int) : (icells l).set j (.int .i64 n) = icells (l.set j n) := by unfold icells; rw [List.map_set]
theorem icells_snoc (l : List Int) (n : Int) : icells (l ++ [n]) = icells l ++ [.int .i64 n] := by simp [icells]
theorem RowI.nil (B : Nat) (w : World) : RowI B w (.slice none 0 0) [] := World.ownsRow_nil w B 2 1
theorem RowI.made {B : Nat} {w : World} (hB : B ≤ w.heap.size) : RowI B (w.alloc (.cells #[] 2)) (.slice (some ⟨w.heap.size, 0, none⟩) 0 0) [] := World.ownsRow_made w #[] 0 hB (by decide) rfl
theorem RowI.slc {B : Nat} {w : World} {v : Value} {l : List Int} (h : RowI B w v l) : ∃ A c, v = .slice A l.length c := owns_slc h
theorem RowI.sli {B : Nat} {w : World} {A : Option Addr} {n c : Nat} {l : List Int} (h : RowI B w (.slice A n c) l) : SlI w A l := fun j p hj => by
  obtain ⟨g, c', e, _, h1, h2, _⟩ := owns_cell h (icells_get hj)
  obtain ⟨rfl, _, _⟩ : A = some ⟨g, 0, none⟩ ∧ n = l.length ∧ c = c' := by simpa using e
  exact ⟨g, 0, rfl, h1, by rw [Nat.zero_add]; exact h2⟩
theorem RowI.cell {B : Nat} {w : World} {v : Value} {l : List Int} (h : RowI B w v l) {j : Nat} {n : Int} (hj : l[j]? = some n) :
    ∃ g c, v = .slice (some ⟨g, 0, none⟩) l.length c ∧ B ≤ g ∧ g < w.heap.size ∧ w.cell? ⟨g, j, none⟩ = some (.int .i64 n) ∧ w.frozen? ⟨g, j, none⟩ = false := owns_cell h (icells_get hj)
theorem RowI.set {B : Nat} {w : World} {g n c : Nat} {l : List Int} (h : RowI B w (.slice (some ⟨g, 0, none⟩) n c) l) {j : Nat} (hj : j < l.length) (x : Int) : RowI B (w.setCell ⟨g, j, none⟩ (.int .i64 x)) (.slice (some ⟨g, 0, none⟩) n c) (l.set j x) := by
  have := owns_set h (g := g) rfl j (by omega) (.int .i64 x)
  rw [icells_set] at this
  unfold RowI
  rw [List.length_set]
  exact this
theorem RowI.setO {B : Nat} {w : World} {v : Value} {l : List Int} (h : RowI B w v l) {g : Nat} (hg : v.ownBlock ≠ some g) (j : Nat) (x : Value) : RowI B (w.setCell ⟨g, j, none⟩ x) v l := owns_set_other h hg j x
theorem RowI.below {B B' : Nat} {w w' : World} {v : Value} {l : List Int} (h : RowI B w v l) (hb : Below B' w w') (hB : w.heap.size ≤ B') : RowI B w' v l := owns_below2 h hb hB
theorem RowI.alloc {B : Nat} {w : World} {v : Value} {l : List Int} (h : RowI B w v l) (o : Obj) : RowI B (w.alloc o) v l := World.ownsRow.alloc h o
theorem RowI.mono {B B' : Nat} {w : World} {v : Value} {l : List Int} (h : RowI B w v l) (hB : B' ≤ B) : RowI B' w v l := World.ownsRow.mono h hB
theorem RowI.lt {B : Nat} {w : World} {v : Value} {l : List Int} (h : RowI B w v l) : ∀ g, v.ownBlock = some g → B ≤ g ∧ g < w.heap.size := World.ownsRow.lt h
theorem RowI.grew {B : Nat} {w w' : World} {u v v' : Value} {l : List Int} (h : RowI B w u l) (hg : Grew v v' w w') (ha : Apart u v) : RowI B w' u l := hg.row h ha
theorem RowI.grewA {B : Nat} {w w' : World} {u v v' : Value} {l : List Int} (h : RowI B w u l) (hg : Grew v v' w w') (ha : Apart u v) : Apart u v' := hg.apart h ha
theorem RowI.belowG {B : Nat} {w w' : World} {v v' : Value} {l : List Int} (h : RowI B w v l) (hg : Grew v v' w w') (hB : B ≤ w.heap.size) : Below B w w' := hg.below B (fun g hg => (h.lt g hg).1) hB
end Go.Proofs.Ytfijinbdpfeceaa

/- cmp.Compare of numbers, and descending order. -/
namespace Go.Proofs.Ytfijinbdpfeceaa
open Go.RowKit
set_option linter.unusedSimpArgs false
set_option linter.unusedVariables false

def cmpZ (x y : Int) : Int := if x < y then -1 else if y < x then 1 else 0
end Go.Proofs.Ytfijinbdpfeceaa

/- A region that draws its order, with one operation of unforeknown result: over any class of worlds. -/
namespace Go.Proofs.Ytfijinbdpfeceaa
open Go.RowKit
set_option linter.unusedSimpArgs false
set_option linter.unusedVariables false
set_option maxHeartbeats 1600000 in
theorem wp_region_wildC {P : Program} {id : Nat} {Q : Exit → Act → World → Prop} {a0 : Act} {W : World} {l : List Oper} (C0 : World → Prop) (hC0 : C0 W.drew) (n : Nat) (aσ : Act) (oc : Oper) (R : Value → World → Prop) (D : World → World → Prop) (hD : ∀ w, D w w)
    (hm : P.follows .mixedOrders = true) (hback : backB l = true) (hn : lawB l a0.tmps.size = true) (hw : wildB2 l n = true) (hoc : l[n]? = some oc)
    (hpre : wpQuiet P l.toArray C0 (fun a' => a' = aσ) (l.take n) a0)
    (hpre2 : ∀ v w1, R v w1 → wpQuiet P l.toArray (D w1) (fun a' => a' = aσ) (l.take n) a0)
    (hop : ∀ (x : World), C0 x → ∀ (a : Act) (K : Act → World → Prop) (Q' : Exit → Act → World → Prop), execOp a.eval oc = execOp aσ.eval oc → (∀ v w', R v w' → K (a.put oc.dst v) w') → Oper.wp P oc a x K Q')
    (hpost : ∀ v w1, R v w1 → wpQuiet P l.toArray (D w1) (fun a' => ∀ w', D w1 w' → Q .normal a' w') (l.drop (n + 1)) (aσ.put oc.dst v)) :
    (Code.region id l.toArray true).wp P Q a0 W := by
  have hL := fun i o ho => lawB_of hn i o ho
  have hone : ∀ (i : Nat) (o : Oper) (j : Nat) (o' : Oper) (d : Nat), l[i]? = some o → l[j]? = some o' → i ≠ j → o.dst = some d → o'.dst ≠ some d := fun i o j o' d hi hj hne hd => (hL j o' hj).2.2.2.1 i o hi hne d hd
  have hnl : n < l.length := (List.getElem?_eq_some_iff.1 hoc).1
  have htake : ∀ (i : Nat) (o : Oper), (l.take n)[i]? = some o → l[i]? = some o ∧ i < n := fun i o h => by
    rw [List.getElem?_take] at h
    split at h
    · exact ⟨h, by assumption⟩
    · cases h
  have hdropg : ∀ (i : Nat) (o : Oper), (l.drop (n + 1))[i]? = some o → l[n + 1 + i]? = some o := fun i o h => by rw [List.getElem?_drop] at h; exact h
  obtain ⟨vs0, hst0, hfin0⟩ := stepsS_of _ _ hpre
  have hsize : aσ.tmps.size = a0.tmps.size := by rw [← hfin0, putsS_size]
  have hdef : aσ.defers = a0.defers := by rw [← hfin0, putsS_defers]
  have key0 := fun i o ho => stepsS_key hst0 hfin0 (fun i o d h hd => (hL i o (htake i o h).1).2.2.1 d hd) (fun i o j o' d h h' hne hd => hone i o j o' d (htake i o h).1 (htake j o' h').1 hne hd) i o ho
  have hout0 : ∀ t : Nat, (∀ (i : Nat) (o : Oper), i < n → l[i]? = some o → o.dst ≠ some t) → aσ.tmps.getD t undef = a0.tmps.getD t undef := by
    intro t ht
    rw [← hfin0, putsS_other]
    intro o' hm' hd
    obtain ⟨k, hk, rfl⟩ := List.getElem_of_mem hm'
    have hk2 := htake k _ (List.getElem?_eq_getElem hk)
    exact ht k _ hk2.2 hk2.1 hd
  -- what stands when the call has been made
  let Post : World → Act → Prop := fun w aτ => ∃ v w0 vs, R v w0 ∧ D w0 w ∧ StepsS P l.toArray (D w0) (l.drop (n + 1)) vs (aσ.put oc.dst v) ∧ putsS (l.drop (n + 1)) vs (aσ.put oc.dst v) = aτ ∧ (∀ w', D w0 w' → Q .normal aτ w') ∧ ∀ d, oc.dst = some d → aτ.tmps.getD d undef = v
  have hPost : ∀ w aτ, Post w aτ → aτ.tmps.size = a0.tmps.size ∧ aτ.defers = a0.defers ∧ (∀ t : Nat, (∀ (i : Nat) (o : Oper), l[i]? = some o → o.dst ≠ some t) → aτ.tmps.getD t undef = a0.tmps.getD t undef) ∧
      (∀ (i : Nat) (o : Oper) (d : Nat), l[i]? = some o → i < n → o.dst = some d → aτ.tmps.getD d undef = aσ.tmps.getD d undef) := by
    rintro w aτ ⟨v, w0, vs, _, _, h1, h2, _, _⟩
    have hoth : ∀ t : Nat, (∀ (i : Nat) (o : Oper), n < i → l[i]? = some o → o.dst ≠ some t) → aτ.tmps.getD t undef = (aσ.put oc.dst v).tmps.getD t undef := by
      intro t ht
      rw [← h2, putsS_other]
      intro o' hm' hd
      obtain ⟨k, hk, rfl⟩ := List.getElem_of_mem hm'
      exact ht _ _ (by omega) (hdropg k _ (List.getElem?_eq_getElem hk)) hd
    refine ⟨by rw [← h2, putsS_size, put_size, hsize], by rw [← h2, putsS_defers, put_defers', hdef], fun t ht => ?_, fun i o d hi hin hd => ?_⟩
    · rw [hoth t fun i o _ hi => ht i o hi, put_other _ _ _ _ (ht n oc hoc), hout0 t fun i o _ hi => ht i o hi]
    · rw [hoth d fun j o' hj hj' => hone i o j o' d hi hj' (by omega) hd, put_other _ _ _ _ (hone i o n oc d hi hoc (by omega) hd)]
  refine wp_region_inv hm hback (fun L a w => a.defers = a0.defers ∧ a.tmps.size = a0.tmps.size ∧ (∀ t : Nat, (∀ (i : Nat) (o : Oper), l[i]? = some o → o.dst ≠ some t) → a.tmps.getD t undef = a0.tmps.getD t undef) ∧
    (∀ (j : Nat) (oj : Oper), l[j]? = some oj → L j = true → ∀ e ∈ oj.after, Region.binds .any e = true → L e.on = true) ∧
    (L n = false → C0 w ∧ ∀ (i : Nat) (o : Oper) (d : Nat), l[i]? = some o → L i = true → o.dst = some d → a.tmps.getD d undef = aσ.tmps.getD d undef) ∧
    (L n = true → ∃ aτ, Post w aτ ∧ ∀ (i : Nat) (o : Oper) (d : Nat), l[i]? = some o → L i = true → o.dst = some d → a.tmps.getD d undef = aτ.tmps.getD d undef)) ?_ ?_ ?_
  · intro L hL0
    exact ⟨rfl, rfl, fun _ _ => rfl, fun j oj hj hLj => (by rw [hL0 j (List.getElem?_eq_some_iff.1 hj).1] at hLj; cases hLj), fun _ => ⟨hC0, fun i o d hi hLi => (by rw [hL0 i (List.getElem?_eq_some_iff.1 hi).1] at hLi; cases hLi)⟩, fun hLn => (by rw [hL0 n hnl] at hLn; cases hLn)⟩
  · intro L a w i o ho hLi hafter ⟨i1, i2, i3, i4, i5, i6⟩
    obtain ⟨hg, hns, hd1, hd2, heyes⟩ := hL i o ho
    rw [if_pos (by simp [Region.wanted, hg])]
    have hcl : ∀ (j : Nat) (oj : Oper), l[j]? = some oj → plus L i j = true → ∀ e ∈ oj.after, Region.binds .any e = true → plus L i e.on = true := by
      intro j oj hj hLj e he hb
      unfold plus at hLj ⊢
      by_cases hji : j = i
      · subst hji
        rw [ho] at hj
        obtain rfl := Option.some.inj hj
        split
        · rfl
        · exact hafter e he hb
      · rw [if_neg hji] at hLj
        split
        · rfl
        · exact i4 j oj hj hLj e he hb
    rcases Nat.lt_trichotomy i n with hin | hin | hin
    · -- ahead of the call
      cases hLn : L n with
      | false =>
        obtain ⟨hx, i7⟩ := i5 hLn
        have ho' : (l.take n)[i]? = some o := by rw [List.getElem?_take, if_pos hin]; exact ho
        obtain ⟨v, ai, hY, hv, hno, hyes⟩ := key0 i o ho'
        have he : execOp a.eval o = execOp ai.eval o := by
          refine execOp_congr o (fun c b hc => by rw [notSelect, hc] at hns; cases hns) (eval_eyes fun t ht => ?_)
          by_cases hex : ∃ (j : Nat) (o' : Oper), l[j]? = some o' ∧ o'.dst = some t
          · obtain ⟨j, o', hj, hd⟩ := hex
            obtain ⟨hji, e, he, hb, hon⟩ := heyes t ht j o' hj hd
            have hLj : L j = true := hon ▸ hafter e he hb
            rw [hyes t j o' hji (by rw [List.getElem?_take, if_pos (by omega)]; exact hj) hd]
            exact i7 j o' t hj hLj hd
          · have hn' : ∀ (j : Nat) (o' : Oper), l[j]? = some o' → o'.dst ≠ some t := fun j o' hj hd => hex ⟨j, o', hj, hd⟩
            rw [i3 t hn', hno t fun j o' hj => hn' j o' (htake j o' hj).1]
        have hY' := hY.of_same he (by simp [Region.wanted, hg])
        rcases hY' with ⟨_, hq⟩ | ⟨hw0, _⟩
        · refine Oper.wp_of_quiet (C := C0) (K := fun a' => a' = a.put o.dst v) hx ?_ ⟨v, hq, rfl⟩
          rintro a' w' hz rfl
          refine ⟨(put_defers' _ _ _).trans i1, (put_size _ _ _).trans i2, fun t ht => ?_, hcl, fun _ => ⟨hz, fun j o' d hj hLj hd => ?_⟩, fun hLp => ?_⟩
          · rw [put_other _ _ _ _ (ht i o ho)]; exact i3 t ht
          · by_cases hji : j = i
            · subst hji
              rw [ho] at hj
              obtain rfl := Option.some.inj hj
              rw [hd, put_here _ _ _ (by rw [i2]; exact hd1 d hd)]
              exact hv d hd
            · have hLj' : L j = true := by unfold plus at hLj; rwa [if_neg hji] at hLj
              rw [put_other _ _ _ _ (hd2 j o' hj hji d hd)]; exact i7 j o' d hj hLj' hd
          · unfold plus at hLp; rw [if_neg (by omega), hLn] at hLp; cases hLp
        · simp [Region.wanted, hg] at hw0
      | true =>
        obtain ⟨aτ, hP, i7⟩ := i6 hLn
        have hP0 := hP
        obtain ⟨p1, p2, p3, p4⟩ := hPost _ _ hP
        obtain ⟨v1, w0, vs1, hR0, hDw, hst1, hfin1, hQ1, hdv1⟩ := hP
        obtain ⟨vs2, hst2, hfin2⟩ := stepsS_of _ _ (hpre2 v1 w0 hR0)
        have ho' : (l.take n)[i]? = some o := by rw [List.getElem?_take, if_pos hin]; exact ho
        obtain ⟨v, ai, hY, hv, hno, hyes⟩ := stepsS_key hst2 hfin2 (fun i o d h hd => (hL i o (htake i o h).1).2.2.1 d hd) (fun i o j o' d h h' hne hd => hone i o j o' d (htake i o h).1 (htake j o' h').1 hne hd) i o ho'
        have he : execOp a.eval o = execOp ai.eval o := by
          refine execOp_congr o (fun c b hc => by rw [notSelect, hc] at hns; cases hns) (eval_eyes fun t ht => ?_)
          by_cases hex : ∃ (j : Nat) (o' : Oper), l[j]? = some o' ∧ o'.dst = some t
          · obtain ⟨j, o', hj, hd⟩ := hex
            obtain ⟨hji, e, he, hb, hon⟩ := heyes t ht j o' hj hd
            have hLj : L j = true := hon ▸ hafter e he hb
            rw [hyes t j o' hji (by rw [List.getElem?_take, if_pos (by omega)]; exact hj) hd, i7 j o' t hj hLj hd]
            exact p4 j o' t hj (by omega) hd
          · have hn' : ∀ (j : Nat) (o' : Oper), l[j]? = some o' → o'.dst ≠ some t := fun j o' hj hd => hex ⟨j, o', hj, hd⟩
            rw [i3 t hn', hno t fun j o' hj => hn' j o' (htake j o' hj).1]
        have hY' := hY.of_same he (by simp [Region.wanted, hg])
        rcases hY' with ⟨_, hq⟩ | ⟨hw0, _⟩
        · refine Oper.wp_of_quiet (C := D w0) (K := fun a' => a' = a.put o.dst v) hDw ?_ ⟨v, hq, rfl⟩
          rintro a' w' hDw' rfl
          refine ⟨(put_defers' _ _ _).trans i1, (put_size _ _ _).trans i2, fun t ht => ?_, hcl, fun hLp => ?_, fun _ => ⟨aτ, ⟨v1, w0, vs1, hR0, hDw', hst1, hfin1, hQ1, hdv1⟩, fun j o' d hj hLj hd => ?_⟩⟩
          · rw [put_other _ _ _ _ (ht i o ho)]; exact i3 t ht
          · unfold plus at hLp; rw [if_neg (by omega), hLn] at hLp; cases hLp
          · by_cases hji : j = i
            · subst hji
              rw [ho] at hj
              obtain rfl := Option.some.inj hj
              rw [hd, put_here _ _ _ (by rw [i2]; exact hd1 d hd), hv d hd]
              exact (p4 j o d ho hin hd).symm
            · have hLj' : L j = true := by unfold plus at hLj; rwa [if_neg hji] at hLj
              rw [put_other _ _ _ _ (hd2 j o' hj hji d hd)]; exact i7 j o' d hj hLj' hd
        · simp [Region.wanted, hg] at hw0
    · -- the call
      subst hin
      rw [hoc] at ho
      obtain rfl := Option.some.inj ho
      obtain ⟨hx, i7⟩ := i5 hLi
      have he : execOp a.eval oc = execOp aσ.eval oc := by
        refine execOp_congr oc (fun c b hc => by rw [notSelect, hc] at hns; cases hns) (eval_eyes fun t ht => ?_)
        by_cases hex : ∃ (j : Nat) (o' : Oper), l[j]? = some o' ∧ o'.dst = some t
        · obtain ⟨j, o', hj, hd⟩ := hex
          obtain ⟨hji, e, he, hb, hon⟩ := heyes t ht j o' hj hd
          exact i7 j o' t hj (hon ▸ hafter e he hb) hd
        · have hn' : ∀ (j : Nat) (o' : Oper), l[j]? = some o' → o'.dst ≠ some t := fun j o' hj hd => hex ⟨j, o', hj, hd⟩
          rw [i3 t hn', hout0 t fun j o' _ hj => hn' j o' hj]
      refine hop _ hx a _ _ he ?_
      rintro v w' hR
      obtain ⟨vs, hst, hQ⟩ := stepsS_of _ _ (hpost v w' hR)
      have hdv : ∀ d, oc.dst = some d → (putsS (l.drop (i + 1)) vs (aσ.put oc.dst v)).tmps.getD d undef = v := by
        intro d hd
        rw [putsS_other, hd, put_here _ _ _ (by rw [hsize]; exact hd1 d hd)]
        intro o' hm' hd'
        obtain ⟨k, hk, rfl⟩ := List.getElem_of_mem hm'
        exact hone i oc _ _ d hoc (hdropg k _ (List.getElem?_eq_getElem hk)) (by omega) hd hd'
      have hP : Post w' (putsS (l.drop (i + 1)) vs (aσ.put oc.dst v)) := ⟨v, w', vs, hR, hD _, hst, rfl, hQ, hdv⟩
      obtain ⟨_, _, _, p4⟩ := hPost _ _ hP
      refine ⟨(put_defers' _ _ _).trans i1, (put_size _ _ _).trans i2, fun t ht => ?_, hcl, fun hLn => ?_, fun _ => ⟨_, hP, fun j o' d hj hLj hd => ?_⟩⟩
      · rw [put_other _ _ _ _ (ht i oc hoc)]; exact i3 t ht
      · simp [plus] at hLn
      · by_cases hji : j = i
        · subst hji
          rw [hoc] at hj
          obtain rfl := Option.some.inj hj
          rw [hd, put_here _ _ _ (by rw [i2]; exact hd1 d hd), ← hd, hdv d hd]
        · have hLj' : L j = true := by unfold plus at hLj; rwa [if_neg hji] at hLj
          have hjn : j < i := by
            rcases Nat.lt_trichotomy j i with h | h | h
            · exact h
            · exact absurd h hji
            · exfalso
              have : ∀ d t, t = d → i < t → t < l.length → L t = true → False := by
                intro d
                induction d using Nat.strongRecOn with
                | _ d ih =>
                  intro t htd hit htl hLt
                  obtain ⟨e, he', hb, h1, h2⟩ := wildB2_post hw t _ (List.getElem?_eq_getElem htl) hit
                  have h3 := i4 t _ (List.getElem?_eq_getElem htl) hLt e he' hb
                  rcases Nat.eq_or_lt_of_le h1 with h4 | h4
                  · rw [← h4, hLi] at h3; cases h3
                  · exact ih e.on (by omega) e.on rfl h4 (by omega) h3
              exact this _ j rfl h (List.getElem?_eq_some_iff.1 hj).1 hLj'
          rw [put_other _ _ _ _ (hd2 j o' hj hji d hd), i7 j o' d hj hLj' hd, p4 j o' d hj hjn hd]
    · -- behind the call
      have hLn : L n = true := by
        obtain ⟨e, he, hb, h1, h2⟩ := wildB2_post hw i o ho hin
        have h3 := hafter e he hb
        have : ∀ d t, t = d → n ≤ t → t < l.length → L t = true → L n = true := by
          intro d
          induction d using Nat.strongRecOn with
          | _ d ih =>
            intro t htd hit htl hLt
            rcases Nat.eq_or_lt_of_le hit with h4 | h4
            · rw [h4]; exact hLt
            · obtain ⟨e, he', hb, h1, h2⟩ := wildB2_post hw t _ (List.getElem?_eq_getElem htl) h4
              exact ih e.on (by omega) e.on rfl h1 (by omega) (i4 t _ (List.getElem?_eq_getElem htl) hLt e he' hb)
        exact this _ e.on rfl h1 (by have := (List.getElem?_eq_some_iff.1 ho).1; omega) h3
      obtain ⟨aτ, hP, i7⟩ := i6 hLn
      obtain ⟨p1, p2, p3, p4⟩ := hPost _ _ hP
      obtain ⟨v, w0, vs, hR0, hDw, hst, hfin, hQ, hdv⟩ := hP
      have ho' : (l.drop (n + 1))[i - (n + 1)]? = some o := by rw [List.getElem?_drop]; rw [show n + 1 + (i - (n + 1)) = i by omega]; exact ho
      obtain ⟨u, ai, hY, hv, hno, hyes⟩ := stepsS_key hst hfin (fun j o' d h hd => by rw [put_size, hsize]; exact (hL _ o' (hdropg j o' h)).2.2.1 d hd) (fun j o' k o'' d h h' hne hd => hone _ o' _ o'' d (hdropg j o' h) (hdropg k o'' h') (by omega) hd) _ o ho'
      have he : execOp a.eval o = execOp ai.eval o := by
        refine execOp_congr o (fun c b hc => by rw [notSelect, hc] at hns; cases hns) (eval_eyes fun t ht => ?_)
        by_cases hex : ∃ (j : Nat) (o' : Oper), l[j]? = some o' ∧ o'.dst = some t
        · obtain ⟨j, o', hj, hd⟩ := hex
          obtain ⟨hji, e, he, hb, hon⟩ := heyes t ht j o' hj hd
          have hLj : L j = true := hon ▸ hafter e he hb
          rw [i7 j o' t hj hLj hd]
          by_cases hjn : n < j
          · rw [hyes t (j - (n + 1)) o' (by omega) (by rw [List.getElem?_drop, show n + 1 + (j - (n + 1)) = j by omega]; exact hj) hd]
          · have h9 : ai.tmps.getD t undef = (aσ.put oc.dst v).tmps.getD t undef := hno t fun k o'' hk => hone j o' _ o'' t hj (hdropg k o'' hk) (by omega) hd
            rw [h9]
            rcases Nat.lt_or_ge j n with h10 | h10
            · rw [p4 j o' t hj h10 hd, put_other _ _ _ _ (hone j o' n oc t hj hoc (by omega) hd)]
            · obtain rfl : j = n := by omega
              rw [hoc] at hj
              obtain rfl := Option.some.inj hj
              rw [hdv t hd, hd, put_here _ _ _ (by rw [hsize]; exact (hL j oc hoc).2.2.1 t hd)]
        · have hn' : ∀ (j : Nat) (o' : Oper), l[j]? = some o' → o'.dst ≠ some t := fun j o' hj hd => hex ⟨j, o', hj, hd⟩
          rw [i3 t hn', hno t fun j o' hj => hn' _ o' (hdropg j o' hj), put_other _ _ _ _ (hn' n oc hoc), hout0 t fun j o' _ hj => hn' j o' hj]
      have hY' := hY.of_same he (by simp [Region.wanted, hg])
      rcases hY' with ⟨_, hq⟩ | ⟨hw0, _⟩
      · refine Oper.wp_of_quiet (C := D w0) (K := fun a' => a' = a.put o.dst u) hDw ?_ ⟨u, hq, rfl⟩
        rintro a' w' hDw' rfl
        refine ⟨(put_defers' _ _ _).trans i1, (put_size _ _ _).trans i2, fun t ht => ?_, hcl, fun hLp => ?_, fun _ => ⟨aτ, ⟨v, w0, vs, hR0, hDw', hst, hfin, hQ, hdv⟩, fun j o' d hj hLj hd => ?_⟩⟩
        · rw [put_other _ _ _ _ (ht i o ho)]; exact i3 t ht
        · unfold plus at hLp; rw [if_neg (by omega), hLn] at hLp; cases hLp
        · by_cases hji : j = i
          · subst hji
            rw [ho] at hj
            obtain rfl := Option.some.inj hj
            rw [hd, put_here _ _ _ (by rw [i2]; exact hd1 d hd)]
            exact hv d hd
          · have hLj' : L j = true := by unfold plus at hLj; rwa [if_neg hji] at hLj
            rw [put_other _ _ _ _ (hd2 j o' hj hji d hd)]; exact i7 j o' d hj hLj' hd
      · simp [Region.wanted, hg] at hw0
  · intro L a w hall ⟨i1, i2, i3, i4, i5, i6⟩
    obtain ⟨aτ, hP, i7⟩ := i6 (hall n hnl)
    obtain ⟨p1, p2, p3, p4⟩ := hPost _ _ hP
    obtain ⟨v, w0, vs, hR0, hDw, hst, hfin, hQ, hdv⟩ := hP
    have : a = aτ := by
      refine act_ext (i2.trans p1.symm) (i1.trans p2.symm) fun k => ?_
      by_cases hex : ∃ (j : Nat) (o' : Oper), l[j]? = some o' ∧ o'.dst = some k
      · obtain ⟨j, o', hj, hd⟩ := hex
        exact i7 j o' k hj (hall j (List.getElem?_eq_some_iff.1 hj).1) hd
      · have hn' : ∀ (j : Nat) (o' : Oper), l[j]? = some o' → o'.dst ≠ some k := fun j o' hj hd => hex ⟨j, o', hj, hd⟩
        rw [i3 k hn', p3 k hn']
    rw [this]; exact hQ _ hDw
/-- The same; the operation is no call. -/
theorem wp_region_wildCO {P : Program} {id : Nat} {Q : Exit → Act → World → Prop} {a0 : Act} {W : World} {l : List Oper} (C0 : World → Prop) (hC0 : C0 W.drew) (n : Nat) (aσ : Act) (oc : Oper) (R : Value → World → Prop) (D : World → World → Prop) (hD : ∀ w, D w w)
    (hm : P.follows .mixedOrders = true) (hback : backB l = true) (hn : lawB l a0.tmps.size = true) (hw : wildB2 l n = true) (hoc : l[n]? = some oc)
    (hpre : wpQuiet P l.toArray C0 (fun a' => a' = aσ) (l.take n) a0)
    (hpre2 : ∀ v w1, R v w1 → wpQuiet P l.toArray (D w1) (fun a' => a' = aσ) (l.take n) a0)
    (hrun : ∀ x, C0 x → ∃ v w', (execOp aσ.eval oc).run P x = .ok (.value v) w' ∧ R v w')
    (hpost : ∀ v w1, R v w1 → wpQuiet P l.toArray (D w1) (fun a' => ∀ w', D w1 w' → Q .normal a' w') (l.drop (n + 1)) (aσ.put oc.dst v)) :
    (Code.region id l.toArray true).wp P Q a0 W :=
  wp_region_wildC C0 hC0 n aσ oc R D hD hm hback hn hw hoc hpre hpre2 (fun x hx a K Q' he hK => by
    obtain ⟨v, w', h1, h2⟩ := hrun x hx
    unfold Oper.wp
    rw [he, h1]
    exact hK v w' h2) hpost
end Go.Proofs.Ytfijinbdpfeceaa

/- Slices of places: copied out of the law's arguments, marked, their sizes asked. -/
namespace Go.Proofs.Ytfijinbdpfeceaa
open Go.RowKit
set_option linter.unusedSimpArgs false
set_option linter.unusedVariables false

theorem OwP.pairs {lo hi : Nat} {w : World} {A : Option Addr} {n c : Nat} {l : List (Int × Int)} (h : OwP lo hi w (.slice A n c) l) : PairsAt .i8 .i8 w A l := fun j p hj => by
  obtain ⟨b, c', e, _, _, h1, h2, h3⟩ := h.cells hj
  obtain ⟨rfl, _, _⟩ : A = some ⟨b, 0, none⟩ ∧ n = l.length ∧ c = c' := by simpa using e
  exact ⟨b, 0, rfl, h1, by rw [Nat.zero_add]; exact h2, by rw [Nat.zero_add]; exact h3⟩
theorem OwQ.pairs {lo hi : Nat} {w : World} {A : Option Addr} {n c : Nat} {l : List (Int × Int)} (h : OwQ lo hi w (.slice A n c) l) : PairsAt .i8 .i8 w A l := h.1.pairs
theorem OwQ.lo {lo lo' hi : Nat} {w : World} {v : Value} {l : List (Int × Int)} (h : OwQ lo hi w v l) (hl : lo' ≤ lo) : OwQ lo' hi w v l := by
  obtain ⟨⟨A, c, rfl, h⟩, h2, h3⟩ := h
  exact ⟨⟨A, c, rfl, fun hl => by obtain ⟨b, cs, h1, h2, h3, h4⟩ := h hl; exact ⟨b, cs, h1, by omega, by omega, h4⟩⟩, by omega, h3⟩
theorem OwQ.outS {lo hi lo' hi' : Nat} {w w' : World} {v : Value} {l : List (Int × Int)} (h : OwQ lo hi w v l) (hO : OutS lo' hi' w w') (hd : hi ≤ lo' ∨ hi' ≤ lo) : OwQ lo hi w' v l := by
  obtain ⟨⟨A, c, rfl, h⟩, h2, h3⟩ := h
  refine ⟨⟨A, c, rfl, fun hl => ?_⟩, h2, Nat.le_trans h3 hO.size⟩
  obtain ⟨b, cs, r1, r2, r3, r4, r5⟩ := h hl
  exact ⟨b, cs, r1, r2, r3, hO.keep r4 (by omega), r5⟩
theorem OwP.hi {lo hi lo' hi' : Nat} {w : World} {v : Value} {l : List (Int × Int)} (h : OwP lo hi w v l) (hl : lo' ≤ lo) (hh : hi ≤ hi') : OwP lo' hi' w v l := by
  obtain ⟨A, c, rfl, h⟩ := h
  exact ⟨A, c, rfl, fun hl => by obtain ⟨b, cs, h1, h2, h3, h4⟩ := h hl; exact ⟨b, cs, h1, by omega, by omega, h4⟩⟩
theorem e_PlaceS {lo hi lo' hi' : Nat} {v v' : Value} {l : List (Int × Int)} (hlen : l.length ≤ 1048576) {w : World} (h : OwQ lo hi w v l) (h' : OwQ lo' hi' w v' l) :
    Calls Try.prog 15 #[v, v'] w fun e w' => e = .returned (.bool true) ∧ Below w.heap.size w w' :=
  c_eqPlaceS lo hi lo' hi' v v' l (Nat.le_trans hlen (by decide)) w h.1 h'.1 h.2.2 h'.2.2
set_option maxRecDepth 100000 in
theorem m_PlaceS {lo hi : Nat} {v : Value} {l : List (Int × Int)} {m : Int} (hm : 0 ≤ m ∧ m ≤ 1000000000) (hlen : l.length ≤ 1048576) {w : World} (h : OwQ lo hi w v l) :
    Calls Try.prog 16 #[v, .int .i64 m] w fun e w' => e = .returned (.int .i64 (m + 2 * l.length)) ∧ Below lo w w' ∧ OutS lo hi w w' ∧ OwQ lo hi w' v (mkL l m l.length) := by
  have h2 := h.2
  have h0 := h.1
  obtain ⟨⟨A, c, rfl, _⟩, _, _⟩ := h
  go_enter Try.func16, Try.ntmps16
  go_wp2_with fail
  go_loopw [1, 5] (fun q i wr => ∃ k : Nat, k ≤ l.length ∧ i = .int .i64 k ∧ q = .int .i64 (m + 2 * k) ∧ Hid (Below lo w wr) ∧ Hid (OutS lo hi w wr) ∧ Hid (OwP lo hi wr (.slice A l.length c) (mkL l m k))) (fun _ i _ => l.length - (intOf i).toNat)
  case atStart => exact ⟨0, by omega, rfl, by simp, Below.refl _ _, OutS.refl _ _ _, by rw [mkL_zero]; exact h0⟩
  case round =>
    obtain ⟨k, hk, rfl, rfl, hb, hOut, hO⟩ := hrel
    by_cases hkl : k < l.length
    · have hd : decide ((k : Int) < (l.length : Int)) = true := decide_eq_true (by omega)
      have hkl' : k < (mkL l m k).length := by rw [mkL_len]; exact hkl
      have hp := List.getElem?_eq_getElem hkl'
      obtain ⟨⟨p1, p2⟩, hpp⟩ : ∃ p, p = (mkL l m k)[k] := ⟨_, rfl⟩
      rw [← hpp] at hp
      obtain ⟨b, c1, e1, r1, r9, q1, q2, q3⟩ := hO.out.cells hp
      obtain ⟨rfl, _, rfl⟩ : A = some ⟨b, 0, none⟩ ∧ l.length = (mkL l m k).length ∧ c = c1 := by simpa using e1
      have HP : Hid (OwP lo hi ((wr.setCell ⟨b, k * 2, none⟩ (.int .i8 (IntKind.i8.wrap (m + 2 * k)))).setCell ⟨b, k * 2 + 1, none⟩ (.int .i8 (IntKind.i8.wrap (m + 2 * k + 1)))) (.slice (some ⟨b, 0, none⟩) l.length c) (mkL l m (k + 1))) := by
        have := hO.out
        rw [← mkL_len l m k] at this
        have := OwP.put this hkl' (IntKind.i8.wrap (m + 2 * k)) (IntKind.i8.wrap (m + 2 * k + 1))
        rw [mkL_step l m k hkl, mkL_len] at this
        exact this
      have f2 : wr.frozen? ⟨b, k * 2, none⟩ = false := by
        obtain ⟨A', c', e', h'⟩ := hO.out
        obtain ⟨b', cs, rfl, _, _, h4, _⟩ := h' (by intro e; rw [e] at hkl'; simp at hkl')
        obtain rfl : b = b' := by simpa using (Value.slice.inj e').1
        exact frozen_of_row _ _ _ _ _ h4
      have f3 : wr.frozen? ⟨b, k * 2 + 1, none⟩ = false := by
        obtain ⟨A', c', e', h'⟩ := hO.out
        obtain ⟨b', cs, rfl, _, _, h4, _⟩ := h' (by intro e; rw [e] at hkl'; simp at hkl')
        obtain rfl : b = b' := by simpa using (Value.slice.inj e').1
        exact frozen_of_row _ _ _ _ _ h4
      clear hp hpp e1 h0 hkl'
      go_wp2_with fail
      exact ⟨⟨k + 1, by omega, by go_num, congrArg (Value.int .i64) (by omega), Below.setCell (Below.setCell hb.out (p := ⟨b, k * 2, none⟩) r1 _) (p := ⟨b, k * 2 + 1, none⟩) r1 _, OutS.setCell (OutS.setCell hOut.out (a := ⟨b, k * 2, none⟩) _ r1 r9) (a := ⟨b, k * 2 + 1, none⟩) _ r1 r9, HP.out⟩, by simp [intOf]; omega⟩
    · obtain rfl : k = l.length := by omega
      have hd : decide ((l.length : Int) < (l.length : Int)) = false := decide_eq_false (by omega)
      go_wp2_with fail
      go_ret
      exact ⟨rfl, hb.out, hOut.out, hO.out, h2.1, Nat.le_trans h2.2 hOut.out.size⟩
set_option maxRecDepth 100000 in
theorem h_PlaceS {lo hi : Nat} {v : Value} {l : List (Int × Int)} {m : Int} (hm : 0 ≤ m ∧ m ≤ 1000000000) (hlen : l.length ≤ 1048576) {w : World} (h : OwQ lo hi w v (mkL l m l.length)) :
    Calls Try.prog 17 #[v, .int .i64 m] w fun e w' => e = .returned (.int .i64 (m + 2 * l.length)) ∧ Below w.heap.size w w' := by
  have h0 := hid h.1
  obtain ⟨⟨A, c, rfl, _⟩, _, _⟩ := h
  rw [mkL_len] at h0 ⊢
  go_enter Try.func17, Try.ntmps17
  go_wp2_with fail
  go_loop [1, 5] (fun q i => ∃ k : Nat, k ≤ l.length ∧ i = .int .i64 k ∧ q = .int .i64 (m + 2 * k)) (fun _ i => l.length - (intOf i).toNat)
  case atStart => exact ⟨0, by omega, rfl, by simp⟩
  case round =>
    obtain ⟨k, hk, rfl, rfl⟩ := hrel
    by_cases hkl : k < l.length
    · have hd : decide ((k : Int) < (l.length : Int)) = true := decide_eq_true (by omega)
      have hp : (mkL l m l.length)[k]? = some (IntKind.i8.wrap (m + 2 * k), IntKind.i8.wrap (m + 2 * k + 1)) := by rw [mkL_get, if_pos hkl, if_pos hkl]
      obtain ⟨b, c1, e1, r1, _, q1, q2, q3⟩ := h0.out.cells hp
      obtain ⟨rfl, _⟩ : A = some ⟨b, 0, none⟩ ∧ c = c1 := by simpa [mkL_len] using e1
      dsimp only at q2 q3
      clear hp e1
      go_wp2_with fail
      exact ⟨⟨k + 1, by omega, by go_num, congrArg (Value.int .i64) (by omega)⟩, by simp [intOf]; omega⟩
    · obtain rfl : k = l.length := by omega
      have hd : decide ((l.length : Int) < (l.length : Int)) = false := decide_eq_false (by omega)
      go_wp2_with fail
      go_ret
      exact ⟨rfl, Below.refl _ _⟩
end Go.Proofs.Ytfijinbdpfeceaa

/- comparePlaces. -/
namespace Go.Proofs.Ytfijinbdpfeceaa
open Go.RowKit
set_option linter.unusedSimpArgs false
set_option linter.unusedVariables false

def cmpPl (p q : Int × Int) : Int := if cmpZ p.1 q.1 = 0 then cmpZ p.2 q.2 else cmpZ p.1 q.1
set_option maxRecDepth 100000 in
theorem c_isNaN8 (x : Int) (w : World) : Calls Try.prog 94 #[.int .i8 x] w fun e w' => e = .returned (.bool false) ∧ w = w' := by
  have hne : (x != x) = false := by simp
  go_enter Try.func94, Try.ntmps94
  go_wp2_with fail
  go_ret
  exact ⟨rfl, rfl⟩
set_option maxRecDepth 100000 in
theorem c_cmp8 (x y : Int) (w : World) : Calls Try.prog 83 #[.int .i8 x, .int .i8 y] w fun e w' => e = .returned (.int .i64 (cmpZ x y)) ∧ w = w' := by
  have h3 : (x < y ∧ cmpZ x y = -1) ∨ (¬ x < y ∧ y < x ∧ cmpZ x y = 1) ∨ (¬ x < y ∧ ¬ y < x ∧ cmpZ x y = 0) := by
    unfold cmpZ
    by_cases h1 : x < y
    · exact .inl ⟨h1, if_pos h1⟩
    · by_cases h2 : y < x
      · exact .inr (.inl ⟨h1, h2, by rw [if_neg h1, if_pos h2]⟩)
      · exact .inr (.inr ⟨h1, h2, by rw [if_neg h1, if_neg h2]⟩)
  rcases h3 with ⟨h1, h2⟩ | ⟨h1, h2, h3⟩ | ⟨h1, h2, h3⟩
  · rw [h2]
    have d1 : decide (x < y) = true := decide_eq_true h1
    clear h1 h2
    go_enter Try.func83, Try.ntmps83
    go_wp2_with (go_at_call 94; ((with_reducible refine (c_isNaN8 _ _).mono ?_); rintro e w1 ⟨rfl, rfl⟩))
    go_ret
    exact ⟨rfl, rfl⟩
  · rw [h3]
    have d1 : decide (x < y) = false := decide_eq_false h1
    have d2 : decide (x > y) = true := decide_eq_true h2
    clear h1 h2 h3
    go_enter Try.func83, Try.ntmps83
    go_wp2_with (go_at_call 94; ((with_reducible refine (c_isNaN8 _ _).mono ?_); rintro e w1 ⟨rfl, rfl⟩))
    go_ret
    exact ⟨rfl, rfl⟩
  · rw [h3]
    have d1 : decide (x < y) = false := decide_eq_false h1
    have d2 : decide (x > y) = false := decide_eq_false h2
    clear h1 h2 h3
    go_enter Try.func83, Try.ntmps83
    go_wp2_with (go_at_call 94; ((with_reducible refine (c_isNaN8 _ _).mono ?_); rintro e w1 ⟨rfl, rfl⟩))
    go_ret
    exact ⟨rfl, rfl⟩
set_option maxRecDepth 100000 in
theorem c_or (x y : Int) (b c : Nat) (w : World) (hx : w.cell? ⟨b, 0, none⟩ = some (.int .i64 x)) (hy : w.cell? ⟨b, 1, none⟩ = some (.int .i64 y)) :
    Calls Try.prog 82 #[.slice (some ⟨b, 0, none⟩) 2 c] w fun e w' => e = .returned (.int .i64 (if x = 0 then y else x)) ∧ w = w' := by
  by_cases h : x = 0
  · subst h
    rw [if_pos rfl]
    by_cases h2 : y = 0
    · subst h2
      go_enter Try.func82, Try.ntmps82
      go_wp2_with fail
      refine wp_loop_rounds 3 ?_
      rw [rounds_succ]
      go_wp2_with fail
      rw [rounds_succ]
      go_wp2_with fail
      rw [rounds_succ]
      go_wp2_with fail
      go_ret
      exact ⟨rfl, rfl⟩
    · have hn : (y != 0) = true := by simpa using h2
      clear h2
      go_enter Try.func82, Try.ntmps82
      go_wp2_with fail
      refine wp_loop_rounds 2 ?_
      rw [rounds_succ]
      go_wp2_with fail
      rw [rounds_succ]
      go_wp2_with fail
      go_ret
      exact ⟨rfl, rfl⟩
  · rw [if_neg h]
    have hn : (x != 0) = true := by simpa using h
    clear h
    go_enter Try.func82, Try.ntmps82
    go_wp2_with fail
    refine wp_loop_rounds 1 ?_
    rw [rounds_succ]
    go_wp2_with fail
    go_ret
    exact ⟨rfl, rfl⟩
end Go.Proofs.Ytfijinbdpfeceaa

/- comparePlaces: what it leaves, to the letter. -/
namespace Go.Proofs.Ytfijinbdpfeceaa
open Go.RowKit
set_option linter.unusedSimpArgs false
set_option linter.unusedVariables false

theorem cell_drewN (W : World) (q : Nat) (a : Addr) : (W.drewN q).cell? a = W.cell? a := by
  induction q generalizing W with
  | zero => rfl
  | succ q ih => first | exact ih W.drew | exact ih W
theorem size_drewN' (W : World) (q : Nat) : (W.drewN q).heap.size = W.heap.size := by
  induction q generalizing W with
  | zero => rfl
  | succ q ih => first | exact ih W.drew | exact ih W
theorem alloc_drewN (W : World) (q : Nat) (o : Obj) : (W.alloc o).drewN q = (W.drewN q).alloc o := by
  induction q generalizing W with
  | zero => rfl
  | succ q ih => first | exact ih W.drew | (show ((W.alloc o).drewN q).drew = _; rw [ih]; rfl)
theorem drewN_add (W : World) (a b : Nat) : (W.drewN a).drewN b = W.drewN (a + b) := by
  have h : ∀ (n : Nat) (V : World), V.drewN n = { V with drawn := V.drawn + n } := by
    intro n
    induction n with
    | zero => intro V; rfl
    | succ n ih => intro V; first | (show V.drew.drewN n = _; rw [ih]; simp [World.drew, Nat.add_assoc, Nat.add_comm]) | (show (V.drewN n).drew = _; rw [ih]; simp [World.drew, Nat.add_assoc])
  rw [h, h, h]
  simp [Nat.add_assoc]
set_option maxHeartbeats 1600000 in
set_option maxRecDepth 100000 in
theorem c_comparePlaces (p1 p2 q1 q2 : Int) (w : World) : Calls Try.prog 73 #[.agg #[.int .i8 p1, .int .i8 p2], .agg #[.int .i8 q1, .int .i8 q2]] w fun e w' =>
    e = .returned (.int .i64 (cmpPl (p1, p2) (q1, q2))) ∧ ∃ (q : Nat) (os : Array Obj), w' = Sort.grow (w.drewN q) os := by
  obtain ⟨r, hr⟩ : ∃ r, r = cmpPl (p1, p2) (q1, q2) := ⟨_, rfl⟩
  rw [← hr]
  have HRr := hid hr
  clear hr
  have HP := hid (block_alloc (block_new1 w (.cells #[.int .i8 p1, .int .i8 p2] 42) rfl) (.cells #[.int .i8 q1, .int .i8 q2] 42))
  have HQ := hid (block_new1 (w.alloc (.cells #[.int .i8 p1, .int .i8 p2] 42)) (.cells #[.int .i8 q1, .int .i8 q2] 42) (n := w.heap.size + 1) (by simp))
  have HC := hid (fun (x y : Int) W => c_cmp8 x y W)
  go_enter Try.func73, Try.ntmps73
  go_wp2_with fail
  obtain ⟨W2, hW2⟩ : ∃ W2, W2 = (w.alloc (.cells #[.int .i8 p1, .int .i8 p2] 42)).alloc (.cells #[.int .i8 q1, .int .i8 q2] 42) := ⟨_, rfl⟩
  have k0 := cell_block HP.out (j := 0) rfl
  have k1 := cell_block HP.out (j := 1) rfl
  have m0 := cell_block HQ.out (j := 0) rfl
  have m1 := cell_block HQ.out (j := 1) rfl
  have HW2 := hid hW2
  have hsz : W2.heap.size = w.heap.size + 2 := by rw [hW2]; simp
  have HSz := hid hsz
  rw [← hW2] at k0 k1 m0 m1 ⊢
  clear hW2 hsz
  refine wp_region_wildCO (fun w' => ∃ q, w' = W2.drewN q) ⟨1, rfl⟩ 10 ?s1 _ (fun v w1 => ∃ q, v = .slice (some ⟨W2.heap.size, 0, none⟩) 2 2 ∧ w1 = (W2.drewN q).alloc (.cells #[.int .i64 (cmpZ p1 q1), .int .i64 (cmpZ p2 q2)] 3)) (fun w1 w' => ∃ q, w' = w1.drewN q) (fun _ => ⟨0, rfl⟩) (by kernel_rfl) (by kernel_rfl) (by kernel_rfl) (by kernel_rfl) rfl ?pre1 ?pre2 ?op1 ?post1
  case pre1 =>
    have K0 : Hid (∀ q, (W2.drewN q).cell? ⟨w.heap.size, 0, none⟩ = some (.int .i8 p1)) := fun q => (cell_drewN W2 q _).trans k0
    simp only [List.take_succ_cons, List.take_zero]
    repeat (go_big_quiet_step ((go_at_call 83; (refine (HC.out _ _ _).mono ?_; rintro e w' ⟨rfl, rfl⟩; exact ⟨rfl, ⟨_, rfl⟩⟩))))
    refine wpQuiet_nil ?_
    exact rfl
  case pre2 =>
    rintro v w1 ⟨q, rfl, rfl⟩
    obtain ⟨O, hO⟩ : ∃ O : Obj, O = .cells #[.int .i64 (cmpZ p1 q1), .int .i64 (cmpZ p2 q2)] 3 := ⟨_, rfl⟩
    rw [← hO]
    have tr : ∀ (b j : Nat) (u : Value), b < W2.heap.size → W2.cell? ⟨b, j, none⟩ = some u → ((W2.drewN q).alloc O).cell? ⟨b, j, none⟩ = some u := fun b j u hb h => (((Below.refl (W2.drewN q).heap.size (W2.drewN q)).alloc (Nat.le_refl _) O).cell (p := ⟨b, j, none⟩) (by rw [size_drewN']; exact hb)).trans ((cell_drewN W2 q _).trans h)
    have e2 := HSz.out
    have t0 := tr _ _ _ (by omega) k0
    have t1 := tr _ _ _ (by omega) k1
    have t2 := tr _ _ _ (by omega) m0
    have t3 := tr _ _ _ (by omega) m1
    obtain ⟨X, hX⟩ : ∃ X, X = (W2.drewN q).alloc O := ⟨_, rfl⟩
    rw [← hX] at t0 t1 t2 t3 ⊢
    clear hX hO tr e2
    simp only [List.take_succ_cons, List.take_zero]
    repeat (go_big_quiet_step ((go_at_call 83; (refine (HC.out _ _ _).mono ?_; rintro e w' ⟨rfl, rfl⟩; exact ⟨rfl, ⟨_, rfl⟩⟩))))
    refine wpQuiet_nil ?_
    exact rfl
  case op1 =>
    rintro x ⟨q, rfl⟩
    refine ⟨_, _, ?_, ⟨q, rfl, rfl⟩⟩
    rw [← size_drewN' W2 q]
    unfold execOp
    go_simp
  case post1 =>
    rintro v w1 ⟨q, rfl, rfl⟩
    have hb := block_new1 (W2.drewN q) (.cells #[.int .i64 (cmpZ p1 q1), .int .i64 (cmpZ p2 q2)] 3) (size_drewN' W2 q)
    have n0 := cell_block hb (j := 0) rfl
    have n1 := cell_block hb (j := 1) rfl
    obtain ⟨X, hX⟩ : ∃ X, X = (W2.drewN q).alloc (.cells #[.int .i64 (cmpZ p1 q1), .int .i64 (cmpZ p2 q2)] 3) := ⟨_, rfl⟩
    rw [← hX] at n0 n1 ⊢
    have HXX := hid hX
    have hO0 := (fun q' => c_or (cmpZ p1 q1) (cmpZ p2 q2) W2.heap.size 2 (X.drewN q') ((cell_drewN X q' _).trans n0) ((cell_drewN X q' _).trans n1))
    have hre : (if cmpZ p1 q1 = 0 then cmpZ p2 q2 else cmpZ p1 q1) = cmpPl (p1, p2) (q1, q2) := rfl
    rw [hre, ← HRr.out] at hO0
    have HO := hid hO0
    clear hre hO0
    clear hX hb n0 n1
    simp only [List.drop_succ_cons, List.drop_zero, Act.put, List.setIfInBounds_toArray, List.set_cons_zero, List.set_cons_succ]
    repeat (go_big_quiet_step ((go_at_call 82; (refine (HO.out _).mono ?_; rintro e w' ⟨rfl, rfl⟩; exact ⟨rfl, ⟨_, rfl⟩⟩))))
    refine wpQuiet_nil ?_
    rintro _ ⟨q', rfl⟩
    go_wp2_with fail
    go_ret
    refine ⟨rfl, q + q', #[.cells #[.int .i8 p1, .int .i8 p2] 42, .cells #[.int .i8 q1, .int .i8 q2] 42, .cells #[.int .i64 (cmpZ p1 q1), .int .i64 (cmpZ p2 q2)] 3], ?_⟩
    rw [HXX.out, HW2.out]
    simp only [alloc_drewN, drewN_add]
    simp only [Sort.alloc_eq_grow, Sort.grow_grow]
    rfl
end Go.Proofs.Ytfijinbdpfeceaa

/- l04Sorted: places sorted by insertion. -/
namespace Go.Proofs.Ytfijinbdpfeceaa
open Go.RowKit
set_option linter.unusedSimpArgs false
set_option linter.unusedVariables false

def sortP (l : List (Int × Int)) : List (Int × Int) := (Sort.insertionSort lessP l.toArray 0 l.length).toList
theorem swp_list {α : Type} [Inhabited α] (L : List α) (i j : Nat) (x y : α) (hi : L[i]? = some x) (hj : L[j]? = some y) : (Sort.swp L.toArray i j) = ((L.set i y).set j x).toArray := by
  have h1 : L.toArray[i]! = x := by simp [hi]
  have h2 : L.toArray[j]! = y := by simp [hj]
  unfold Sort.swp
  rw [h1, h2]
  simp
theorem insInner_no {D : List (Int × Int)} {j : Nat} {x y : Int × Int} (hx : D[j + 1]? = some x) (hy : D[j]? = some y) (h : lessP x y = false) : Sort.insInner lessP 0 (j + 1) D.toArray = D.toArray := by
  rw [Sort.insInner]
  have h1 : D.toArray[j + 1]! = x := by simp [hx]
  have h2 : D.toArray[j]! = y := by simp [hy]
  rw [h1, h2, h]
  simp
theorem insInner_yes {D : List (Int × Int)} {j : Nat} {x y : Int × Int} (hx : D[j + 1]? = some x) (hy : D[j]? = some y) (h : lessP x y = true) : Sort.insInner lessP 0 (j + 1) D.toArray = Sort.insInner lessP 0 j ((D.set (j + 1) y).set j x).toArray := by
  rw [Sort.insInner]
  have h1 : D.toArray[j + 1]! = x := by simp [hx]
  have h2 : D.toArray[j]! = y := by simp [hy]
  rw [h1, h2, h, swp_list D (j + 1) j x y hx hy]
  simp
end Go.Proofs.Ytfijinbdpfeceaa

/- Library contracts laid at the round b3 (numbers of that seat). -/
namespace Go.Proofs
open Go.Shelf
def Try.lays129_ren : Go.Shelf.Ren := ⟨fun | 129 => 93 | n => n, fun | 53 => 110 | 3 => 3 | 4 => 4 | 46 => 96 | 5 => 5 | 9 => 9 | n => n, fun | n => n⟩
theorem Try.lays129 : Go.Proofs.Lays.n129 Try.prog Try.lays129_ren := {
  mixed := by kernel_rfl
  f129 := Try.func93.trans (congrArg some (by kernel_rfl))
  t3 := Try.underlying3
  a3 := Try.isAgg3
  z3 := Try.sizeOf3
  v3 := Try.zeroValue3
  t4 := Try.underlying4
  a4 := Try.isAgg4
  z4 := Try.sizeOf4
  v4 := Try.zeroValue4
  t5 := Try.underlying5
  a5 := Try.isAgg5
  z5 := Try.sizeOf5
  v5 := Try.zeroValue5
  t9 := Try.underlying9
  a9 := Try.isAgg9
  z9 := Try.sizeOf9
  v9 := Try.zeroValue9
  t46 := Try.underlying96
  a46 := Try.isAgg96
  z46 := Try.sizeOf96
  v46 := Try.zeroValue96
  t53 := Try.underlying110
  a53 := Try.isAgg110
  z53 := Try.sizeOf110
  v53 := Try.zeroValue110 }
def Try.lays125_ren : Go.Shelf.Ren := ⟨fun | 125 => 81 | 128 => 92 | 129 => 93 | n => n, fun | 46 => 96 | 3 => 3 | 51 => 108 | 53 => 110 | 4 => 4 | 5 => 5 | 9 => 9 | n => n, fun | n => n⟩
theorem Try.lays125 : Go.Proofs.Lays.n125 Try.prog Try.lays125_ren := {
  mixed := by kernel_rfl
  f125 := Try.func81.trans (congrArg some (by kernel_rfl))
  f128 := Try.func92.trans (congrArg some (by kernel_rfl))
  f129 := Try.func93.trans (congrArg some (by kernel_rfl))
  t3 := Try.underlying3
  a3 := Try.isAgg3
  z3 := Try.sizeOf3
  v3 := Try.zeroValue3
  t4 := Try.underlying4
  a4 := Try.isAgg4
  z4 := Try.sizeOf4
  v4 := Try.zeroValue4
  t5 := Try.underlying5
  a5 := Try.isAgg5
  z5 := Try.sizeOf5
  v5 := Try.zeroValue5
  t9 := Try.underlying9
  a9 := Try.isAgg9
  z9 := Try.sizeOf9
  v9 := Try.zeroValue9
  t46 := Try.underlying96
  a46 := Try.isAgg96
  z46 := Try.sizeOf96
  v46 := Try.zeroValue96
  t51 := Try.underlying108
  a51 := Try.isAgg108
  z51 := Try.sizeOf108
  v51 := Try.zeroValue108
  t53 := Try.underlying110
  a53 := Try.isAgg110
  z53 := Try.sizeOf110
  v53 := Try.zeroValue110 }
def Try.laysQ6_ren : Go.Shelf.Ren := ⟨fun | 6 => 72 | 15 => 81 | 14 => 80 | 28 => 92 | 29 => 93 | 20 => 84 | 21 => 85 | 22 => 86 | 23 => 87 | 24 => 88 | 25 => 89 | 26 => 90 | 27 => 91 | 46 => 95 | 47 => 96 | 48 => 97 | 49 => 98 | 50 => 99 | 57 => 100 | n => n, fun | 22 => 33 | 24 => 42 | 25 => 89 | 3 => 3 | 39 => 96 | 0 => 0 | 53 => 108 | 55 => 110 | 4 => 4 | 46 => 101 | 45 => 100 | 50 => 105 | 5 => 5 | 9 => 9 | 66 => 112 | 70 => 116 | 76 => 118 | 77 => 119 | n => n, fun | n => n⟩
theorem Try.laysQ6 : Go.Proofs.SlLaysF0.n6 Try.prog Try.laysQ6_ren := {
  mixed := by kernel_rfl
  f6 := ⟨Try.f72.name, by decide, Try.func72.trans (congrArg some (by kernel_rfl))⟩
  f14 := ⟨Try.f80.name, by decide, Try.func80.trans (congrArg some (by kernel_rfl))⟩
  f15 := Try.func81.trans (congrArg some (by kernel_rfl))
  f20 := ⟨Try.f84.name, by decide, Try.func84.trans (congrArg some (by kernel_rfl))⟩
  f21 := ⟨Try.f85.name, by decide, Try.func85.trans (congrArg some (by kernel_rfl))⟩
  f22 := ⟨Try.f86.name, by decide, Try.func86.trans (congrArg some (by kernel_rfl))⟩
  f23 := ⟨Try.f87.name, by decide, Try.func87.trans (congrArg some (by kernel_rfl))⟩
  f24 := ⟨Try.f88.name, by decide, Try.func88.trans (congrArg some (by kernel_rfl))⟩
  f25 := ⟨Try.f89.name, by decide, Try.func89.trans (congrArg some (by kernel_rfl))⟩
  f26 := ⟨Try.f90.name, by decide, Try.func90.trans (congrArg some (by kernel_rfl))⟩
  f27 := ⟨Try.f91.name, by decide, Try.func91.trans (congrArg some (by kernel_rfl))⟩
  f28 := Try.func92.trans (congrArg some (by kernel_rfl))
  f29 := Try.func93.trans (congrArg some (by kernel_rfl))
  f46 := ⟨Try.f95.name, by decide, Try.func95.trans (congrArg some (by kernel_rfl))⟩
  f47 := Try.func96.trans (congrArg some (by kernel_rfl))
  f48 := Try.func97.trans (congrArg some (by kernel_rfl))
  f49 := ⟨Try.f98.name, by decide, Try.func98.trans (congrArg some (by kernel_rfl))⟩
  f50 := ⟨Try.f99.name, by decide, Try.func99.trans (congrArg some (by kernel_rfl))⟩
  f57 := ⟨Try.f100.name, by decide, Try.func100.trans (congrArg some (by kernel_rfl))⟩
  t0 := Try.underlying0
  a0 := Try.isAgg0
  z0 := Try.sizeOf0
  v0 := Try.zeroValue0
  t3 := Try.underlying3
  a3 := Try.isAgg3
  z3 := Try.sizeOf3
  v3 := Try.zeroValue3
  t4 := Try.underlying4
  a4 := Try.isAgg4
  z4 := Try.sizeOf4
  v4 := Try.zeroValue4
  t5 := Try.underlying5
  a5 := Try.isAgg5
  z5 := Try.sizeOf5
  v5 := Try.zeroValue5
  t9 := Try.underlying9
  a9 := Try.isAgg9
  z9 := Try.sizeOf9
  v9 := Try.zeroValue9
  t22 := Try.underlying33
  a22 := Try.isAgg33
  z22 := Try.sizeOf33
  v22 := Try.zeroValue33
  t25 := Try.underlying89
  a25 := Try.isAgg89
  z25 := Try.sizeOf89
  v25 := Try.zeroValue89
  t39 := Try.underlying96
  a39 := Try.isAgg96
  z39 := Try.sizeOf96
  v39 := Try.zeroValue96
  t45 := Try.underlying100
  a45 := Try.isAgg100
  z45 := Try.sizeOf100
  v45 := Try.zeroValue100
  t46 := Try.underlying101
  a46 := Try.isAgg101
  z46 := Try.sizeOf101
  v46 := Try.zeroValue101
  t50 := Try.underlying105
  a50 := Try.isAgg105
  z50 := Try.sizeOf105
  v50 := Try.zeroValue105
  t53 := Try.underlying108
  a53 := Try.isAgg108
  z53 := Try.sizeOf108
  v53 := Try.zeroValue108
  t55 := Try.underlying110
  a55 := Try.isAgg110
  z55 := Try.sizeOf110
  v55 := Try.zeroValue110
  t66 := Try.underlying112
  a66 := Try.isAgg112
  z66 := Try.sizeOf112
  v66 := Try.zeroValue112
  t70 := Try.underlying116
  a70 := Try.isAgg116
  z70 := Try.sizeOf116
  v70 := Try.zeroValue116
  t76 := Try.underlying118
  a76 := Try.isAgg118
  z76 := Try.sizeOf118
  v76 := Try.zeroValue118
  t77 := Try.underlying119
  a77 := Try.isAgg119
  z77 := Try.sizeOf119
  v77 := Try.zeroValue119 }
end Go.Proofs

/- slices.SortFunc over places, by comparePlaces. -/
namespace Go.Proofs.Ytfijinbdpfeceaa
open Go.RowKit Go.Shelf
set_option linter.unusedSimpArgs false
set_option linter.unusedVariables false

def encP (p : Int × Int) : List Value := [.int .i8 p.1, .int .i8 p.2]
theorem flat_pcells (l : List (Int × Int)) : Sort.flatK encP 2 l.toArray = (pcells l).toArray := by
  apply Array.ext
  · simp [pcells_len]
  · intro t h1 h2
    have h1' : t < l.length * 2 := by simpa using h1
    have e1 := Sort.get_flatK encP 2 l.toArray t (by simpa using h1')
    rw [getElem!_pos _ t h1] at e1
    rw [e1]
    have hi : t / 2 < l.length := by omega
    have hg := pcells_get l (t / 2) _ (List.getElem?_eq_getElem hi)
    have hx : l.toArray[t / 2]! = l[t / 2] := by simp [hi]
    rw [hx]
    rcases Nat.mod_two_eq_zero_or_one t with h | h
    · have e : t / 2 * 2 = t := by omega
      rw [e] at hg
      have := List.getElem?_eq_some_iff.1 hg.1
      simp [encP, h, this.2]
    · have e : t / 2 * 2 + 1 = t := by omega
      rw [e] at hg
      have := List.getElem?_eq_some_iff.1 hg.2
      simp [encP, h, this.2]
theorem ltP_eq (x y : Int × Int) : ltOf cmpPl x y = lessP x y := by
  unfold ltOf cmpPl cmpZ lessP
  by_cases h1 : x.1 < y.1
  · simp [h1]
  · by_cases h2 : y.1 < x.1
    · have h3 : ¬ x.1 = y.1 := by omega
      simp [h1, h2, h3]
    · have h3 : x.1 = y.1 := by omega
      by_cases h4 : x.2 < y.2
      · simp [h3, h4]
      · by_cases h5 : y.2 < x.2 <;> simp [h3, h4, h5]
theorem holds_rowQ {B : Nat} {w : World} {g n c : Nat} {l : List (Int × Int)} (h : RowQ B w (.slice (some ⟨g, 0, none⟩) n c) l) : Sort.HoldsK encP 2 w g 0 l.toArray := by
  unfold Sort.HoldsK
  rw [flat_pcells]
  intro j hj
  have hj' : j < (pcells l).length := by simpa using hj
  obtain ⟨g', c', e, _, _, h1, h2⟩ := owns_cell h (List.getElem?_eq_getElem hj')
  obtain ⟨rfl, _, _⟩ : g = g' ∧ n = l.length ∧ c = c' := by simpa using e
  rw [Nat.zero_add]
  refine ⟨?_, h2⟩
  rw [h1, getElem!_pos _ j hj]
  simp
theorem putRow_owns {w : World} {B : Nat} {e : TypeId} {size g n c : Nat} {xs F : List Value} (h : w.ownsRow B e size (.slice (some ⟨g, 0, none⟩) n c) n xs) (hF : F.length = xs.length) : (Sort.putRow id w g 0 F.toArray).ownsRow B e size (.slice (some ⟨g, 0, none⟩) n c) n F := by
  refine ⟨by rw [hF]; exact h.1, ?_⟩
  have hl := h.1
  rcases h.2 with ⟨e1, _⟩ | ⟨g', cap, cur, e1, hb, hgg, hc, hm, hs, ht⟩
  · simp at e1
  · simp only [Value.slice.injEq, Option.some.injEq, Addr.mk.injEq, and_true, true_and] at e1
    obtain ⟨rfl, rfl⟩ := e1
    refine .inr ⟨g, c, Sort.putCells id 0 F.toArray cur, rfl, hb, ?_, hc, hm, by simp [Sort.putCells, hs], ?_⟩
    · unfold Sort.putRow Sort.mapBlock
      simp only [Array.getElem?_modify, hgg, if_true, Option.map_some]
      rfl
    · have hle : n * size ≤ cur.size := by rw [hs]; exact Nat.mul_le_mul_right _ hc
      apply List.ext_getElem?
      intro j
      by_cases hj : j < F.length
      · have hjc : j < cur.size := by omega
        rw [List.getElem?_take, if_pos (by omega)]
        simp only [Sort.putCells, Array.getElem?_toList, Array.getElem?_mapIdx, Array.getElem?_eq_getElem hjc, Option.map_some]
        rw [if_pos ⟨Nat.zero_le _, by simpa using hj⟩, List.getElem?_eq_getElem hj]
        simp [hj]
      · have e2 : F[j]? = none := List.getElem?_eq_none (by omega)
        rw [e2, List.getElem?_eq_none]
        simp only [List.length_take]
        omega
theorem below_putRowV {B : Nat} (w : World) (g : Nat) (hg : B ≤ g) (d : Array Value) : Below B w (Sort.putRow id w g 0 d) :=
  ⟨rfl, rfl, rfl, by simp, fun k hk => by
    unfold Sort.putRow Sort.mapBlock
    simp only [Array.getElem?_modify, if_neg (show ¬ g = k by omega)]⟩
theorem below_grow (w : World) (os : Array Obj) : Below w.heap.size w (Sort.grow w os) :=
  ⟨rfl, rfl, rfl, by simp [Sort.grow], fun k hk => by
    unfold Sort.grow
    simp only [Array.getElem?_append, hk, if_true]⟩
theorem swo_lessQ : Sort.SWO lessP where
  irrefl := fun x => by simp [lessP]
  trans := fun x y z h1 h2 => by simp [lessP] at *; omega
  ntrans := fun x y z h1 h2 => by simp [lessP] at *; omega
theorem lessP_tot (x y : Int × Int) (h1 : lessP x y = false) (h2 : lessP y x = false) : x = y := by
  simp [lessP] at h1 h2
  apply Prod.ext <;> omega
theorem sortP_merge (l : List (Int × Int)) : l.mergeSort (fun x y => !lessP y x) = sortP l := by
  have h := Sort.insertionSort_holds (lt := lessP) swo_lessQ l.toArray 0 l.length (Nat.zero_le _) (by simp)
  have := Sort.sorted_unique_holds swo_lessQ lessP_tot l.toArray (Sort.insertionSort lessP l.toArray 0 l.length) (by simpa using h.1) (by simpa using h.2)
  simpa [sortP] using this.symm
theorem sortP_lenQ (l : List (Int × Int)) : (sortP l).length = l.length := by
  rw [← sortP_merge, List.length_mergeSort]
theorem ltP_fun : ltOf cmpPl = lessP := by funext x y; exact ltP_eq x y
theorem c_sortQ (B : Nat) (A : Option Addr) (c : Nat) (l : List (Int × Int)) (hlen : l.length ≤ 4000000) (w : World) (hO : RowQ B w (.slice A l.length c) l) :
    Calls Try.prog 72 #[.slice A l.length c, .func (.func 73) #[] #[]] w fun e w' => e = .returned (.tuple #[]) ∧ Below B w w' ∧ RowQ B w' (.slice A l.length c) (sortP l) := by
  cases l with
  | nil =>
    have h := AnyF.slices_SortFunc_none Try.laysQ6 A c (.func (.func 73) #[] #[]) w
    refine h.mono ?_
    rintro e w' ⟨rfl, rfl⟩
    exact ⟨rfl, Below.refl _ _, by have : sortP [] = [] := List.eq_nil_of_length_eq_zero (sortP_lenQ []); rw [this]; exact hO⟩
  | cons p l =>
    obtain ⟨g, c', e, hg, hgl, _⟩ := hO.cell (j := 0) rfl
    obtain ⟨rfl, rfl⟩ : A = some ⟨g, 0, none⟩ ∧ c = c' := by simpa using e
    have h := AnyQ.slices_SortFunc_total Try.laysQ6 2 (fun w => by kernel_rfl) (fun w => by kernel_rfl) encP (fun _ => rfl) (fun x v hv => by simp [encP] at hv; rcases hv with rfl | rfl <;> rfl) cmpPl (by rw [ltP_fun]; exact swo_lessQ) 73 #[] g 0 c (p :: l).toArray w (enters_of Try.func73 (by kernel_rfl) rfl)
      (fun m os dk _ x y => c_comparePlaces x.1 x.2 y.1 y.2 _) (holds_rowQ hO) hgl (by simp at hlen ⊢; omega) (by rw [ltP_fun]; exact lessP_tot)
    refine h.mono ?_
    rintro e w' ⟨rfl, n, os, rfl⟩
    rw [ltP_fun]
    have he : ((p :: l).toArray.toList.mergeSort fun x y => !lessP y x).toArray = (sortP (p :: l)).toArray := by rw [← sortP_merge]
    rw [he]
    unfold sortWorldK Sort.putRowK
    rw [flat_pcells]
    have hw : RowQ B (Sort.ahead w n) (.slice (some ⟨g, 0, none⟩) (p :: l).length c) (p :: l) := hO
    have h1 := putRow_owns (F := pcells (sortP (p :: l))) hw (by rw [pcells_len, pcells_len, sortP_lenQ])
    have h2 : RowQ B (Sort.putRow id (Sort.ahead w n) g 0 (pcells (sortP (p :: l))).toArray) (.slice (some ⟨g, 0, none⟩) (p :: l).length c) (sortP (p :: l)) := by
      unfold RowQ
      rw [sortP_lenQ]
      exact h1
    have hb0 : Below B w (Sort.ahead w n) := ⟨rfl, rfl, rfl, Nat.le_refl _, fun _ _ => rfl⟩
    have hb1 := hb0.trans (below_putRowV (Sort.ahead w n) g hg (pcells (sortP (p :: l))).toArray)
    have hb2 := below_grow (Sort.putRow id (Sort.ahead w n) g 0 (pcells (sortP (p :: l))).toArray) os
    have hBw : B ≤ (Sort.putRow id (Sort.ahead w n) g 0 (pcells (sortP (p :: l))).toArray).heap.size := by simp; omega
    exact ⟨rfl, hb1.trans (hb2.mono hBw), h2.below hb2 (Nat.le_refl _)⟩
end Go.Proofs.Ytfijinbdpfeceaa

/- The patch of a tile: plain. -/
namespace Go.Proofs.Ytfijinbdpfeceaa
open Go.RowKit
set_option linter.unusedSimpArgs false
set_option linter.unusedVariables false

def InR (r : Rf) (p : Int × Int) : Prop := (0 ≤ p.1 ∧ p.1 < r.h) ∧ (0 ≤ p.2 ∧ p.2 < r.w)
def allR (r : Rf) : List (Int × Int) := allUp r.w.toNat r.h.toNat 0
theorem mem_allR {r : Rf} (hv : validB r = true) {p : Int × Int} : p ∈ allR r ↔ InR r p := by
  have vh := valid_head hv
  obtain ⟨p1, p2⟩ := p
  unfold allR allUp InR
  simp only [List.range_zero, List.map_nil, List.append_nil, List.mem_flatMap, List.mem_range, List.mem_map, Prod.mk.injEq]
  constructor
  · rintro ⟨a, ha, b, hb, rfl, rfl⟩
    omega
  · rintro ⟨⟨h1, h2⟩, h3, h4⟩
    exact ⟨p1.toNat, by omega, p2.toNat, by omega, by omega, by omega⟩
theorem allR_sorted (r : Rf) : (allR r).Pairwise fun x y => lessP x y = true := by
  unfold allR allUp
  simp only [List.range_zero, List.map_nil, List.append_nil]
  rw [List.pairwise_flatMap]
  constructor
  · intro a _
    rw [List.pairwise_map]
    exact List.pairwise_lt_range.imp fun {x y} h => by simp [lessP]; omega
  · refine List.pairwise_lt_range.imp fun {x y} h => ?_
    intro u hu v hv
    obtain ⟨a, _, rfl⟩ := List.mem_map.1 hu
    obtain ⟨b, _, rfl⟩ := List.mem_map.1 hv
    simp [lessP]; omega
theorem lt_nodup {l : List (Int × Int)} (h : l.Pairwise fun x y => lessP x y = true) : l.Nodup := List.nodup_iff_pairwise_ne.2 (h.imp fun {x y} h e => by subst e; simp [lessP] at h)
theorem lt_le {l : List (Int × Int)} (h : l.Pairwise fun x y => lessP x y = true) : l.Pairwise fun x y => lessP y x = false := h.imp fun {x y} h => by simp [lessP] at *; omega
def GoodQ (r : Rf) (out : List (Int × Int)) : Prop := out.Nodup ∧ ∀ p ∈ out, InR r p
theorem good_len {r : Rf} (hv : validB r = true) {out : List (Int × Int)} (h : GoodQ r out) : out.length ≤ 64 := by
  have vh := valid_head hv
  have h1 := List.Nodup.length_le_of_subset h.1 (fun p hp => (mem_allR hv).2 (h.2 p hp))
  have h2 : (allR r).length ≤ 64 := by
    unfold allR
    rw [allUp_len]
    have : r.h.toNat * r.w.toNat ≤ 8 * 8 := Nat.mul_le_mul (by omega) (by omega)
    omega
  omega
theorem beside_in {r : Rf} (hv : validB r = true) {c t : Int} : ∀ p ∈ besideL r c t, InR r p := fun p hp => by
  unfold besideL at hp
  rcases List.mem_append.1 hp with h | h
  · rcases List.mem_append.1 h with h | h
    · have := lapL_mem hv p h; unfold InR; omega
    · have := lapL_mem hv p h; unfold InR; omega
  · have h2 := (List.mem_filter.1 h).2
    unfold hasQ at h2
    rw [hasB_valid hv] at h2
    have := isPl_iff.1 h2
    unfold InR; omega
def addQ (r : Rf) (k : Int) (out : List (Int × Int)) (p : Int × Int) : List (Int × Int) := if r.at p.1.toNat p.2.toNat = k ∧ p ∉ out then out ++ [p] else out
theorem addQ_good {r : Rf} {k : Int} {out : List (Int × Int)} {p : Int × Int} (h : GoodQ r out) (hp : InR r p) : GoodQ r (addQ r k out p) := by
  unfold addQ
  split
  · rename_i hc
    refine ⟨?_, fun q hq => ?_⟩
    · rw [List.nodup_append]
      refine ⟨h.1, by simp, fun a ha b hb => ?_⟩
      rw [List.mem_singleton] at hb
      subst hb
      rintro rfl
      exact hc.2 ha
    · rcases List.mem_append.1 hq with h1 | h1
      · exact h.2 q h1
      · rw [List.mem_singleton] at h1; subst h1; exact hp
  · exact h
theorem addQ_len (r : Rf) (k : Int) (out : List (Int × Int)) (p : Int × Int) : out.length ≤ (addQ r k out p).length := by unfold addQ; split <;> simp
/-- All that is found from number i on. -/
def bfsQ (r : Rf) (k : Int) : Nat → Nat → List (Int × Int) → List (Int × Int)
  | 0, _, out => out
  | n + 1, i, out => match out[i]? with
    | none => out
    | some p => bfsQ r k n (i + 1) ((besideL r p.1 p.2).foldl (addQ r k) out)
theorem bfsQ_step (r : Rf) (k : Int) {i : Nat} {out : List (Int × Int)} {p : Int × Int} (h : out[i]? = some p) (hi : i ≤ 64) : bfsQ r k (65 - i) i out = bfsQ r k (65 - (i + 1)) (i + 1) ((besideL r p.1 p.2).foldl (addQ r k) out) := by
  obtain ⟨n, hn⟩ : ∃ n, 65 - i = n + 1 := ⟨64 - i, by omega⟩
  rw [hn, show 65 - (i + 1) = n by omega]
  show (match out[i]? with | none => out | some p => _) = _
  rw [h]
theorem bfsQ_end (r : Rf) (k : Int) {i : Nat} {out : List (Int × Int)} (h : out.length ≤ i) : bfsQ r k (65 - i) i out = out := by
  cases hn : 65 - i with
  | zero => rfl
  | succ n =>
    show (match out[i]? with | none => out | some p => _) = _
    rw [List.getElem?_eq_none h]
theorem fold_take (r : Rf) (k : Int) (out NB : List (Int × Int)) {j : Nat} {q : Int × Int} (h : NB[j]? = some q) : (NB.take (j + 1)).foldl (addQ r k) out = addQ r k ((NB.take j).foldl (addQ r k) out) q := by
  obtain ⟨hj, rfl⟩ := List.getElem?_eq_some_iff.1 h
  rw [List.take_succ_eq_append_getElem hj, List.foldl_append]; rfl
theorem fold_good {r : Rf} {k : Int} : ∀ (NB out : List (Int × Int)), GoodQ r out → (∀ p ∈ NB, InR r p) → GoodQ r (NB.foldl (addQ r k) out) ∧ out.length ≤ (NB.foldl (addQ r k) out).length
  | [], out, h, _ => ⟨h, Nat.le_refl _⟩
  | p :: NB, out, h, hN => by
    have := fold_good (k := k) NB (addQ r k out p) (addQ_good h (hN p (by simp))) (fun q hq => hN q (by simp [hq]))
    exact ⟨this.1, Nat.le_trans (addQ_len r k out p) this.2⟩
def patchF (r : Rf) (c t : Int) : List (Int × Int) := bfsQ r (r.at c.toNat t.toNat) 65 0 [(c, t)]
def patchL (r : Rf) (c t : Int) : List (Int × Int) := sortP (patchF r c t)
theorem sortP_permR (l : List (Int × Int)) : (sortP l).Perm l := by rw [← sortP_merge]; exact List.mergeSort_perm l _
theorem sortP_pairR (l : List (Int × Int)) : (sortP l).Pairwise fun x y => lessP y x = false := by
  rw [← sortP_merge]
  have h := List.pairwise_mergeSort (le := fun x y => !lessP y x) (fun a b c h1 h2 => by simp [lessP] at *; omega) (fun a b => by simp [lessP]; omega) l
  exact h.imp fun h => by simpa using h
theorem patch_filter {r : Rf} (hv : validB r = true) {F : List (Int × Int)} (h : GoodQ r F) : sortP F = (allR r).filter fun p => decide (p ∈ F) := by
  have h1 : ((allR r).filter fun p => decide (p ∈ F)).Pairwise fun x y => lessP x y = true := (allR_sorted r).filter _
  refine List.Perm.eq_of_pairwise (le := fun x y => lessP y x = false) (fun a b _ _ h1 h2 => lessP_tot a b h2 h1) (sortP_pairR F) (lt_le h1) ?_
  refine (List.perm_ext_iff_of_nodup ((sortP_permR F).nodup_iff.2 h.1) (lt_nodup h1)).2 fun p => ?_
  rw [(sortP_permR F).mem_iff, List.mem_filter, decide_eq_true_iff]
  exact ⟨fun hp => ⟨(mem_allR hv).2 (h.2 p hp), hp⟩, fun hp => hp.2⟩
end Go.Proofs.Ytfijinbdpfeceaa

/- The patch of a tile, the program's. -/
namespace Go.Proofs.Ytfijinbdpfeceaa
open Go.RowKit
set_option linter.unusedSimpArgs false
set_option linter.unusedVariables false

theorem row_one (w : World) {B : Nat} (hB : B ≤ w.heap.size) (c t : Int) : RowQ B (w.alloc (.cells #[.int .i8 c, .int .i8 t] 42)) (.slice (some ⟨w.heap.size, 0, none⟩) 1 1) [(c, t)] :=
  ⟨by simp [pcells], .inr ⟨w.heap.size, 1, #[.int .i8 c, .int .i8 t], rfl, hB, block_new1 w _ rfl, Nat.le_refl _, (by decide : 1 ≤ maxLen), rfl, rfl⟩⟩
def PatR (B : Nat) (L : List (Int × Int)) (res : Nat → Option Value) (V : World) : Prop :=
  (∀ v, res 5 = some v → RowQ B V v L) ∧ (∀ v, res 6 = some v → v = .int .i64 L.length)
set_option maxHeartbeats 6400000 in
set_option maxRecDepth 100000 in
theorem c_patch (r : Rf) (hr : r.Ok) (hv : validB r = true) (c t : Int) (hin : InR r (c, t)) (w : World) :
    Calls Try.prog 50 #[.agg (rcells r), .agg #[.int .i8 c, .int .i8 t]] w (RetS w (patchL r c t)) := by
  have vh := valid_head hv
  have hct : (0 ≤ c ∧ c ≤ 7) ∧ (0 ≤ t ∧ t ≤ 7) := by unfold InR at hin; omega
  have HX := hid (block_alloc (block_new1 w (.cells (rcells r) 27) rfl) (.cells #[.int .i8 c, .int .i8 t] 42))
  have HP := hid (block_new1 (w.alloc (.cells (rcells r) 27)) (.cells #[.int .i8 c, .int .i8 t] 42) (n := w.heap.size + 1) (by simp))
  obtain ⟨W0, hW0⟩ : ∃ W0, W0 = (w.alloc (.cells (rcells r) 27)).alloc (.cells #[.int .i8 c, .int .i8 t] 42) := ⟨_, rfl⟩
  have HW : Hid (Below w.heap.size w W0) := by rw [hW0]; exact ((Below.refl _ w).alloc (Nat.le_refl _) _).alloc (by simp) _
  have hS : W0.heap.size = w.heap.size + 2 := by rw [hW0]; simp
  rw [← hW0] at HX HP
  have q0 : W0.cell? ⟨w.heap.size + 1, 0, none⟩ = some (.int .i8 c) := cell_block HP.out rfl
  have q1 : W0.cell? ⟨w.heap.size + 1, 1, none⟩ = some (.int .i8 t) := cell_block HP.out rfl
  have HR1 : Hid (RowQ (w.heap.size + 2) (W0.alloc (.cells #[.int .i8 c, .int .i8 t] 42)) (.slice (some ⟨w.heap.size + 1 + 1, 0, none⟩) 1 1) [(c, t)]) := by
    have := row_one W0 (B := w.heap.size + 2) (by omega) c t
    rw [hS] at this
    exact this
  have HB1 := hid ((Below.refl (w.heap.size + 2) W0).alloc (by omega) (.cells #[.int .i8 c, .int .i8 t] 42))
  have HV := hid hv
  obtain ⟨kd, hkd⟩ : ∃ k, k = r.at c.toNat t.toNat := ⟨_, rfl⟩
  have HKA := fun W => hid (c_kind r hr c t hct.1 hct.2 W)
  rw [← hkd] at HKA
  obtain ⟨F, hF⟩ : ∃ F, F = patchF r c t := ⟨_, rfl⟩
  have HF : Hid (bfsQ r kd (65 - 0) 0 [(c, t)] = F) := by rw [hF, hkd]; rfl
  have HG1 : Hid (GoodQ r [(c, t)]) := ⟨by simp, fun p hp => by simp at hp; subst hp; exact hin⟩
  have HPL : Hid (patchL r c t = sortP F) := by rw [hF]; rfl
  have HS := hid hS
  clear hkd hF hv hin hct vh
  go_enter Try.func50, Try.ntmps50
  go_wp2_with fail
  simp only [← hW0]
  go_wp2_with fail
  have HP' := hid (block_lt HX.out)
  go_loopw [5, 6] (fun vo i wr => ∃ (k : Nat) (out : List (Int × Int)), k ≤ out.length ∧ i = .int .i64 k ∧ Hid (RowQ (w.heap.size + 2) wr vo out) ∧ Hid (GoodQ r out) ∧ Hid (bfsQ r kd (65 - k) k out = F) ∧ Hid (Below (w.heap.size + 2) W0 wr)) (fun _ i _ => 65 - (intOf i).toNat)
  case atStart => exact ⟨0, [(c, t)], by simp, rfl, HR1.out, HG1.out, HF.out, HB1.out⟩
  case round =>
    clear HR1 HG1 HF HB1 q0 q1
    obtain ⟨wo, rfl⟩ : ∃ W, W = wr := ⟨_, rfl⟩
    obtain ⟨k, out, hk, rfl, hro, hgo, hfe, hb⟩ := hrel
    obtain ⟨Ao, co, rfl⟩ := owns_slc hro.out
    have h64 := good_len HV.out hgo.out
    have LB : w.heap.size + 2 ≤ wo.heap.size := by have := hb.out.size; have := HS.out; omega
    have HXo := hid (block_below hb.out HX.out (by omega))
    have HPo := hid (block_below hb.out HP.out (by omega))
    by_cases hkl : k < out.length
    · have hd : decide ((k : Int) < (out.length : Int)) = true := decide_eq_true (by omega)
      have hkI : (k : Int) < (out.length : Int) := by omega
      have hk0 : (0 : Int) ≤ (k : Int) := by omega
      have hk64 : (k : Int) ≤ 64 := by omega
      have hp := List.getElem?_eq_getElem hkl
      obtain ⟨⟨p1, p2⟩, hpp⟩ : ∃ p, p = out[k] := ⟨_, rfl⟩
      rw [← hpp] at hp
      have hpr := hgo.out.2 (p1, p2) (List.mem_of_getElem? hp)
      have vh := valid_head HV.out
      have hp7 : (0 ≤ p1 ∧ p1 ≤ 7) ∧ (0 ≤ p2 ∧ p2 ≤ 7) := by unfold InR at hpr; omega
      obtain ⟨g, cg, e, hgB, hgl, c0, c1, _, _⟩ := hro.out.cell hp
      obtain ⟨rfl, -, rfl⟩ : Ao = some ⟨g, 0, none⟩ ∧ out.length = out.length ∧ co = cg := by simpa using e
      dsimp only at c0 c1
      have HST := hid ((bfsQ_step r kd hp (by omega)).symm.trans hfe.out)
      obtain ⟨NB, hNB⟩ : ∃ N, N = besideL r p1 p2 := ⟨_, rfl⟩
      have HNI : Hid (∀ q ∈ NB, InR r q) := by rw [hNB]; exact beside_in HV.out
      have HBE := fun W => hid (c_beside r hr HV.out p1 p2 hp7.1 hp7.2 W)
      dsimp only at HST
      rw [← hNB] at HST HBE
      have HN12 : Hid (NB.length ≤ 100) := by
        rw [hNB]
        unfold besideL
        have h1 := lapL_len r p1 p2 (p1 - 1)
        have h2 := lapL_len r p1 p2 (p1 + 1)
        have h3 := List.length_filter_le (hasQ r) (twoL p1 p2)
        have h4 : (twoL p1 p2).length = 2 := rfl
        show _ ≤ _
        rw [List.length_append, List.length_append]; omega
      have HBX := hid HBE
      have C0 := hid c0
      have C1 := hid c1
      have HGL := hid hgl
      have LBo := hid LB
      have H64 := hid h64
      clear hp hpp hpr hp7 e hNB HBE vh
      go_wp2_with fail
      refine wp_region_wildK wo.heap.size [0, 1, 2, 3, 4, 7] [5, 6] ?s1 (PatR wo.heap.size NB) (by kernel_rfl) (by kernel_rfl) (by kernel_rfl) (by kernel_rfl) (Nat.le_refl _) ?pre1 ?zero1 ?mono1 ?step1 ?end1
      case pre1 =>
        intro B' W' hb' hB hS'
        have l0 : w.heap.size < B' := by have := LBo.out; omega
        have l1 : w.heap.size + 1 < B' := by have := LBo.out; omega
        have l2 : g < B' := by have := HGL.out; omega
        have HXb := hid (block_below hb' HXo.out (block_lt HXo.out))
        have c0' : W'.cell? ⟨g, k * 2, none⟩ = some (.int .i8 p1) := (hb'.cell (p := ⟨g, _, none⟩) HGL.out).trans C0.out
        have c1' : W'.cell? ⟨g, k * 2 + 1, none⟩ = some (.int .i8 p2) := (hb'.cell (p := ⟨g, _, none⟩) HGL.out).trans C1.out
        have R0 : Hid (∀ x : Ext B' W', (Instr.loadAt 27 (.pointer (some ⟨w.heap.size, 0, none⟩))).run Try.prog x.out = .ok (.agg (rcells r)) x.out) := fun x =>
          run_load_roof 27 Try.underlying27 rfl Try.infoRoof hr (block_below x.below HXb.out l0)
        change wpQuiet _ _ _ _ [_, _, _, _, _, _] _
        repeat (first
          | ((with_reducible refine wpQuiet_run (N := 17) rfl rfl (.agg (rcells r)) ?_ ?_); (rintro _ ⟨x, rfl⟩; exact execOp_load rfl rfl (R0.out x)); go_simp)
          | go_big_quiet_step (fail))
        refine wpQuiet_nil ?_
        exact rfl
      case zero1 => exact fun w' _ => ⟨fun v h => (by cases h), fun v h => (by cases h)⟩
      case mono1 =>
        rintro res V V' ⟨h1, h2⟩ hb
        exact ⟨fun v a => (h1 v a).below hb (Nat.le_refl _), h2⟩
      case step1 =>
        intro i o hi ho res a wq hn hRq hbq hBq hey hdep
        simp only [List.mem_cons, List.not_mem_nil, or_false] at hi
        obtain ⟨h1, h2⟩ := hRq
        rcases hi with rfl | rfl
        · obtain rfl := Option.some.inj ho
          have e17 : a.eval (.tmp 17) = .agg (rcells r) := (hey 17 (by decide)).2 (by decide)
          have e21 : a.eval (.tmp 21) = .agg #[.int .i8 p1, .int .i8 p2] := (hey 21 (by decide)).2 (by decide)
          refine .inl ⟨71, #[.agg (rcells r), .agg #[.int .i8 p1, .int .i8 p2]], fun W => by unfold execOp; go_simp; exact ⟨(getD_q a 17).trans e17, (getD_q a 21).trans e21⟩, ?_⟩
          refine (HBX.out wq).out.mono ?_
          rintro e w' ⟨v, rfl, hb', hr'⟩
          refine ⟨v, rfl, ⟨fun u hu => ?_, h2⟩, hbq.trans (hb'.mono hBq)⟩
          obtain rfl : v = u := Option.some.inj hu
          exact World.ownsRow.mono hr' hBq
        · obtain rfl := Option.some.inj ho
          have r5 := (hey 22 (by decide)).1 5 (by decide) (by decide)
          obtain ⟨An, cn, en⟩ := owns_slc (h1 _ r5)
          have en' : a.tmps[22]?.getD undef = .slice An NB.length cn := (getD_q a 22).trans en
          refine .inr (.inl ⟨.int .i64 NB.length, wq, ?_, ⟨h1, fun u hu => ?_⟩, hbq⟩)
          · unfold execOp
            go_simp
          · obtain rfl := Option.some.inj hu
            rfl
      case end1 =>
        intro val wq hRq hbq
        obtain ⟨h1, h2⟩ := hRq
        have hn5 : RowQ wo.heap.size wq (val 5) NB := h1 (val 5) rfl
        have hn6 : val 6 = .int .i64 NB.length := h2 (val 6) rfl
        obtain ⟨An, cn, en⟩ := owns_slc hn5
        rw [en] at hn5
        have HN5 := hid hn5
        have HRq := hid (hro.out.below hbq (Nat.le_refl _))
        have HBq := hid (hb.out.trans (hbq.mono LBo.out))
        have Hbq := hid hbq
        have HAp : Hid (Apart (.slice An NB.length cn) (.slice (some ⟨g, 0, none⟩) out.length co)) := fun g' h3 h4 => by
          have h5 := (World.ownsRow.lt hn5 g' h3).1
          have h6 := (World.ownsRow.lt hro.out g' h4).2
          omega
        clear h1 h2 hn5 hbq HBX
        change Exit.then _ _ _ (((_ : Act).put (some 22) (val 5)).put (some 23) (val 6)) _
        rw [en, hn6]
        simp only [Act.put, List.setIfInBounds_toArray, List.set_cons_zero, List.set_cons_succ]
        clear en hn6
        go_wp2_with fail
        go_loopw [5, 24] (fun vo i wr => ∃ (j : Nat) (o2 : List (Int × Int)), j ≤ NB.length ∧ i = .int .i64 j ∧ Hid (RowQ (w.heap.size + 2) wr vo o2) ∧ Hid (GoodQ r o2 ∧ out.length ≤ o2.length) ∧ Hid (o2 = (NB.take j).foldl (addQ r kd) out) ∧ Hid (RowQ wo.heap.size wr (.slice An NB.length cn) NB) ∧ Hid (Apart (.slice An NB.length cn) vo) ∧ Hid (Below (w.heap.size + 2) W0 wr)) (fun _ i _ => NB.length - (intOf i).toNat)
        case atStart => exact ⟨0, out, by omega, rfl, HRq.out, ⟨hgo.out, Nat.le_refl _⟩, rfl, HN5.out, HAp.out, HBq.out⟩
        case round =>
          clear HRq HN5 HAp HBq Hbq c0 c1 hgl
          obtain ⟨j, o2, hj, rfl, hr2, hg2, hf2, hnb, hap, hb2⟩ := hrel
          obtain ⟨A2, c2, rfl⟩ := owns_slc hr2.out
          have LW2 : w.heap.size + 2 ≤ wr.heap.size := by have := hb2.out.size; have := HS.out; omega
          have hN12 := HN12.out
          by_cases hjl : j < NB.length
          · have hd2 : decide ((j : Int) < (NB.length : Int)) = true := decide_eq_true (by omega)
            have hjI : (j : Int) < (NB.length : Int) := by omega
            have hj0 : (0 : Int) ≤ (j : Int) := by omega
            have hq := List.getElem?_eq_getElem hjl
            obtain ⟨⟨q1, q2⟩, hqq⟩ : ∃ p, p = NB[j] := ⟨_, rfl⟩
            rw [← hqq] at hq
            have hqr := HNI.out (q1, q2) (List.mem_of_getElem? hq)
            have vh := valid_head HV.out
            have hq7 : (0 ≤ q1 ∧ q1 ≤ 7) ∧ (0 ≤ q2 ∧ q2 ≤ 7) := by unfold InR at hqr; omega
            have HADD := hid (fold_take r kd out NB hq)
            have HGA := hid (addQ_good (k := kd) hg2.out.1 hqr)
            obtain ⟨gn, cg, e, _, hnl, n0, n1, _, _⟩ := hnb.out.cell hq
            obtain ⟨rfl, -, rfl⟩ : An = some ⟨gn, 0, none⟩ ∧ NB.length = NB.length ∧ cn = cg := by simpa using e
            dsimp only at n0 n1
            have HX2 := hid (block_alloc (block_below hb2.out HX.out (by have := HS.out; have := HP'.out; omega)) (.cells #[.int .i8 q1, .int .i8 q2] 42))
            have HP2 := hid (block_alloc (block_below hb2.out HP.out (by have := block_lt HP.out; have := HS.out; omega)) (.cells #[.int .i8 q1, .int .i8 q2] 42))
            have HQ2 := hid (block_new1 wr (.cells #[.int .i8 q1, .int .i8 q2] 42) rfl)
            have HRa : Hid (RowQ (w.heap.size + 2) (wr.alloc (.cells #[.int .i8 q1, .int .i8 q2] 42)) (.slice A2 o2.length c2) o2) := World.ownsRow.alloc hr2.out _
            have HNa : Hid (RowQ wo.heap.size (wr.alloc (.cells #[.int .i8 q1, .int .i8 q2] 42)) (.slice (some ⟨gn, 0, none⟩) NB.length cn) NB) := World.ownsRow.alloc hnb.out _
            have HBa := hid (hb2.out.trans ((Below.refl (w.heap.size + 2) wr).alloc LW2 (.cells #[.int .i8 q1, .int .i8 q2] 42)))
            obtain ⟨W2, hW2⟩ : ∃ W2, W2 = wr.alloc (.cells #[.int .i8 q1, .int .i8 q2] 42) := ⟨_, rfl⟩
            have HL2 : Hid (wr.heap.size + 1 = W2.heap.size) := by rw [hW2]; simp [Hid]
            rw [← hW2] at HX2 HP2 HQ2 HRa HNa HBa
            have LX2 := block_lt HX2.out
            have LP2 := block_lt HP2.out
            have LQ2 := block_lt HQ2.out
            have m0 : W2.cell? ⟨wr.heap.size, 0, none⟩ = some (.int .i8 q1) := cell_block HQ2.out rfl
            have m1 : W2.cell? ⟨wr.heap.size, 1, none⟩ = some (.int .i8 q2) := cell_block HQ2.out rfl
            have m2 : W2.cell? ⟨w.heap.size + 1, 0, none⟩ = some (.int .i8 c) := cell_block HP2.out rfl
            have m3 : W2.cell? ⟨w.heap.size + 1, 1, none⟩ = some (.int .i8 t) := cell_block HP2.out rfl
            have m2x : ∀ x : Ext W2.heap.size W2, x.out.cell? ⟨w.heap.size + 1, 0, none⟩ = some (.int .i8 c) := fun x => (x.below.cell (p := ⟨w.heap.size + 1, 0, none⟩) LP2).trans m2
            have m3x : ∀ x : Ext W2.heap.size W2, x.out.cell? ⟨w.heap.size + 1, 1, none⟩ = some (.int .i8 t) := fun x => (x.below.cell (p := ⟨w.heap.size + 1, 1, none⟩) LP2).trans m3
            have R0 : Hid (∀ x : Ext W2.heap.size W2, (Instr.loadAt 27 (.pointer (some ⟨w.heap.size, 0, none⟩))).run Try.prog x.out = .ok (.agg (rcells r)) x.out) := fun x =>
              run_load_roof 27 Try.underlying27 rfl Try.infoRoof hr (block_below x.below HX2.out LX2)
            have HKQ := fun W => hid (c_kind r hr q1 q2 hq7.1 hq7.2 W)
            have HCO := fun W h => hid (c_containsP A2 c2 o2 (by have := good_len HV.out hg2.out.1; omega) q1 q2 W h)
            have HRP : Hid (RowQ (w.heap.size + 2) W2 (.slice A2 o2.length c2) o2) := HRa.out
            have HAQ : Hid (addQ r kd o2 (q1, q2) = if r.at q1.toNat q2.toNat = kd ∧ (q1, q2) ∉ o2 then o2 ++ [(q1, q2)] else o2) := rfl
            obtain ⟨z, hz⟩ : ∃ z, z = r.at q1.toNat q2.toNat := ⟨_, rfl⟩
            rw [← hz] at HKQ HAQ
            have hat := hr.at q1.toNat q2.toNat
            have ho64 := good_len HV.out hg2.out.1
            clear hq hqq hqr hq7 e hz vh
            by_cases hzk : z = kd
            · have z1 : (z == kd) = true := by rw [beq_iff_eq]; exact hzk
              by_cases hc : (q1, q2) ∈ o2
              · have HAQ : Hid (addQ r kd o2 (q1, q2) = o2) := by rw [HAQ.out, if_neg (fun h => h.2 hc)]; rfl
                rw [decide_eq_true hc] at HCO
                clear hzk hc
                go_wp2_with fail
                rw [← hW2]
                refine wp_region_ext W2.heap.size (by kernel_rfl) (by kernel_rfl) ?_
                repeat (first
                  | ((with_reducible refine wpQuiet_run (N := 28) rfl rfl (.agg (rcells r)) ?_ ?_); (rintro _ ⟨x, rfl⟩; exact execOp_load rfl rfl (R0.out x)); go_simp)
                  | ((with_reducible refine wpQuiet_run (N := 31) rfl rfl (.agg (rcells r)) ?_ ?_); (rintro _ ⟨x, rfl⟩; exact execOp_load rfl rfl (R0.out x)); go_simp)
                  | go_big_quiet_step (first
                    | (go_at_call 42; with_reducible exact Calls.ext (Nat.le_refl _) (HKQ _).out)
                    | (go_at_call 42; with_reducible exact Calls.ext (Nat.le_refl _) (HKA _).out)
                    | (go_at_call 69; exact Calls.ext (Nat.le_refl _) (HCO _ ((HRP.out.below (Ext.below _) (Nat.le_refl _)).pairs)).out)))
                refine wpQuiet_nil ?_
                intro x
                go_wp2_with fail
                exact ⟨⟨j + 1, o2, by omega, by go_num, HRa.out.below x.below (Nat.le_refl _), hg2.out, by rw [HADD.out, ← hf2.out, HAQ.out]; rfl, HNa.out.below x.below (Nat.le_refl _), hap.out, HBa.out.trans (x.below.mono (by have := HL2.out; omega))⟩, by simp [intOf]; omega⟩
              · have HAQ : Hid (addQ r kd o2 (q1, q2) = o2 ++ [(q1, q2)]) := by rw [HAQ.out, if_pos ⟨hzk, hc⟩]; rfl
                rw [decide_eq_false hc] at HCO
                clear hzk hc
                go_wp2_with fail
                rw [← hW2]
                refine wp_region_ext W2.heap.size (by kernel_rfl) (by kernel_rfl) ?_
                repeat (first
                  | ((with_reducible refine wpQuiet_run (N := 28) rfl rfl (.agg (rcells r)) ?_ ?_); (rintro _ ⟨x, rfl⟩; exact execOp_load rfl rfl (R0.out x)); go_simp)
                  | ((with_reducible refine wpQuiet_run (N := 31) rfl rfl (.agg (rcells r)) ?_ ?_); (rintro _ ⟨x, rfl⟩; exact execOp_load rfl rfl (R0.out x)); go_simp)
                  | go_big_quiet_step (first
                    | (go_at_call 42; with_reducible exact Calls.ext (Nat.le_refl _) (HKQ _).out)
                    | (go_at_call 42; with_reducible exact Calls.ext (Nat.le_refl _) (HKA _).out)
                    | (go_at_call 69; exact Calls.ext (Nat.le_refl _) (HCO _ ((HRP.out.below (Ext.below _) (Nat.le_refl _)).pairs)).out)))
                refine wpQuiet_nil ?_
                intro x
                have HRx := hid (HRa.out.below x.below (Nat.le_refl _))
                have HNx := hid (HNa.out.below x.below (Nat.le_refl _))
                have LW3 : w.heap.size + 2 ≤ W2.heap.size := by have := HL2.out; omega
                have HBx := hid (HBa.out.trans (x.below.mono LW3))
                have HQx := block_below x.below HQ2.out LQ2
                have LWx : w.heap.size + 2 ≤ x.out.heap.size := Nat.le_trans LW3 x.below.size
                obtain ⟨X, hX⟩ : ∃ X, X = x.out := ⟨_, rfl⟩
                rw [← hX] at HRx HNx HBx HQx LWx ⊢
                have y0 : X.cell? ⟨wr.heap.size, 0, none⟩ = some (.int .i8 q1) := cell_block HQx rfl
                have y1 : X.cell? ⟨wr.heap.size, 1, none⟩ = some (.int .i8 q2) := cell_block HQx rfl
                clear hX x HQx
                go_wp2_with ((with_reducible refine gate (N := 44) rfl ?_); (refine wp_app1Q rfl (.tmp 41) (.tmp 43) rfl (w.heap.size + 2) (.slice A2 o2.length c2) o2 q1 q2 HRx.out rfl X.heap.size rfl (Nat.le_trans ho64 (by decide)) LWx rfl ?_); intro v' w6 hown hg; obtain ⟨A6, c6, rfl⟩ := owns_slc hown; have HG6 := hid hg; have HRO6 := hid hown; clear hg hown)
                refine ⟨⟨j + 1, o2 ++ [(q1, q2)], by omega, by go_num, by rw [List.length_append] at *; exact HRO6.out, ⟨by rw [← HAQ.out]; exact HGA.out, by have := hg2.out.2; rw [List.length_append]; omega⟩, by rw [HADD.out, ← hf2.out, HAQ.out]; rfl, HG6.out.row HNx.out hap.out, ?_, HBx.out.trans (HRx.out.belowG HG6.out LWx)⟩, by simp [intOf]; omega⟩
                have := HG6.out.apart HNx.out hap.out
                exact fun g' h1 h2 => this g' h1 (by rw [List.length_append]; exact h2)
            · have z1 : (z == kd) = false := by rw [beq_eq_false_iff_ne]; exact hzk
              have HAQ : Hid (addQ r kd o2 (q1, q2) = o2) := by rw [HAQ.out, if_neg (fun h => hzk h.1)]; rfl
              clear hzk
              go_wp2_with fail
              rw [← hW2]
              refine wp_region_ext W2.heap.size (by kernel_rfl) (by kernel_rfl) ?_
              repeat (first
                | ((with_reducible refine wpQuiet_run (N := 28) rfl rfl (.agg (rcells r)) ?_ ?_); (rintro _ ⟨x, rfl⟩; exact execOp_load rfl rfl (R0.out x)); go_simp)
                | ((with_reducible refine wpQuiet_run (N := 31) rfl rfl (.agg (rcells r)) ?_ ?_); (rintro _ ⟨x, rfl⟩; exact execOp_load rfl rfl (R0.out x)); go_simp)
                | go_big_quiet_step (first
                  | (go_at_call 42; with_reducible exact Calls.ext (Nat.le_refl _) (HKQ _).out)
                  | (go_at_call 42; with_reducible exact Calls.ext (Nat.le_refl _) (HKA _).out)))
              refine wpQuiet_nil ?_
              intro x
              go_wp2_with fail
              exact ⟨⟨j + 1, o2, by omega, by go_num, HRa.out.below x.below (Nat.le_refl _), hg2.out, by rw [HADD.out, ← hf2.out, HAQ.out]; rfl, HNa.out.below x.below (Nat.le_refl _), hap.out, HBa.out.trans (x.below.mono (by have := HL2.out; omega))⟩, by simp [intOf]; omega⟩
          · obtain rfl : j = NB.length := by omega
            have hd2 : decide ((NB.length : Int) < (NB.length : Int)) = false := decide_eq_false (by omega)
            have HFE : Hid (bfsQ r kd (65 - (k + 1)) (k + 1) o2 = F) := by
              have h1 := hf2.out
              rw [List.take_length] at h1
              rw [h1]; exact HST.out
            go_wp2_with fail
            exact ⟨⟨k + 1, o2, by have := hg2.out.2; omega, by go_num, hr2.out, hg2.out.1, HFE.out, hb2.out⟩, by have := H64.out; simp [intOf]; omega⟩
    · obtain rfl : k = out.length := by omega
      have hd : decide ((out.length : Int) < (out.length : Int)) = false := decide_eq_false (by omega)
      have HOF := hid (show out = F by rw [← hfe.out]; exact (bfsQ_end r kd (Nat.le_refl _)).symm)
      have HSO := fun (W : World) h => hid (c_sortQ (w.heap.size + 2) Ao co out (by omega) W h)
      go_wp2_with (go_at_call 72; ((refine (HSO _ hro.out).out.mono ?_); rintro e w5 ⟨rfl, hb5, hr5⟩); have HB5 := hid hb5; have HR5 := hid hr5; clear hb5 hr5)
      go_ret
      refine ⟨_, rfl, HW.out.trans ((hb.out.trans HB5.out).mono (by omega)), ?_⟩
      have h1 := World.ownsRow.mono HR5.out (by omega : w.heap.size ≤ w.heap.size + 2)
      rw [HPL.out, ← HOF.out]
      exact h1
end Go.Proofs.Ytfijinbdpfeceaa
