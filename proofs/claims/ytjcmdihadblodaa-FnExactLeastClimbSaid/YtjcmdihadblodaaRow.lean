/- Rows that a call owns, several side by side: appended to, stored into. -/
import Derived.Test.YtjcmdihadblodaaReg
import Derived.Laws.AppendOwn
import Derived.WalkSmall
import Derived.Deep.AppendLies
import Derived.Deep.Onto
import Derived.Laws.OwnMore
namespace Go.Proofs.Ytjcmdihadblodaa
open Go.RowKit
set_option linter.unusedSimpArgs false
set_option linter.unusedVariables false

/-- Two slices do not share their array. -/
def Apart (v v' : Value) : Prop := ∀ g, v.ownBlock = some g → v'.ownBlock = some g → False
theorem Apart.symm {v v' : Value} (h : Apart v v') : Apart v' v := fun g h1 h2 => h g h2 h1
theorem Apart.nil (v : Value) (n c : Nat) : Apart (.slice none n c) v := fun g h => by simp [Value.ownBlock] at h
theorem Apart.nil' (v : Value) (n c : Nat) : Apart v (.slice none n c) := (Apart.nil v n c).symm
/-- From W to w': nothing is turned but the array of v; v' has it, or an array of its own. -/
structure Grew (v v' : Value) (W w' : World) : Prop where
  below : ∀ B0, (∀ g, v.ownBlock = some g → B0 ≤ g) → B0 ≤ W.heap.size → Below B0 W w'
  block : ∀ b o, W.heap[b]? = some o → v.ownBlock ≠ some b → w'.heap[b]? = some o
  own : ∀ g, v'.ownBlock = some g → v.ownBlock = some g ∨ W.heap.size ≤ g
  size : W.heap.size ≤ w'.heap.size
theorem Grew.row {v v' u : Value} {W w' : World} (h : Grew v v' W w') {B : Nat} {e : TypeId} {sz n : Nat} {xs : List Value} (hu : W.ownsRow B e sz u n xs) (ha : Apart u v) : w'.ownsRow B e sz u n xs := by
  refine ⟨hu.1, ?_⟩
  rcases hu.2 with hn | ⟨g, cap, cur, rfl, hb, hg, rest⟩
  · exact .inl hn
  · exact .inr ⟨g, cap, cur, rfl, hb, h.block g _ hg (fun e => ha g rfl e), rest⟩
theorem Grew.apart {v v' u : Value} {W w' : World} (h : Grew v v' W w') {B : Nat} {e : TypeId} {sz n : Nat} {xs : List Value} (hu : W.ownsRow B e sz u n xs) (ha : Apart u v) : Apart u v' := fun g h1 h2 => by
  rcases h.own g h2 with h3 | h3
  · exact ha g h1 h3
  · have := (hu.lt g h1).2; omega
theorem owns_slc {w : World} {base : Nat} {T : TypeId} {s n : Nat} {v : Value} {xs : List Value} (h : w.ownsRow base T s v n xs) : ∃ A c, v = .slice A n c := by
  rcases h.2 with ⟨rfl, rfl⟩ | ⟨g, cap, cur, rfl, _⟩
  · exact ⟨none, 0, rfl⟩
  · exact ⟨_, _, rfl⟩
/-- One element more, which lies in a block of its own that was just laid. -/
theorem wpList_append_row {P : Program} {ops : Array Oper} {rest : List Oper} {o : Oper} {a : Act} {W : World} {Q : Exit → Act → World → Prop} (hgd : o.guard = none) (s x : Operand) (t : TypeId)
    (ho : o.op = .call { callee := .builtin .append, args := #[s, x], argTypes := #[t, t] })
    (B : Nat) (e : TypeId) (i : TypeInfo) (z : Value) (size bytes : Nat) (ht : P.underlying t = some (.slice e)) (hi : P.info? e = some i) (hz : i.zero = some z)
    (hsize : i.size = size) (hby : i.bytes = bytes) (hzs : z.cells.size = size) (hsz : 0 < size) (hby2 : bytes ≤ 100)
    (v : Value) (n : Nat) (xs : List Value) (hs : a.eval s = v) (hown : W.ownsRow B e size v n xs) (news : Array Value) (hns : news.size = size) (h1 : ∀ u ∈ news, u.oneCell' = true)
    (H : Nat) (hx : a.eval x = .slice (some ⟨H, 0, none⟩) 1 1) (hn : n ≤ 1100000) (hB : B ≤ W.heap.size) (hH : W.heap.size = H) (E : TypeId)
    (h : ∀ v' w', w'.ownsRow B e size v' (n + 1) (xs ++ news.toList) → Grew v v' W w' → wpList P ops Q rest (a.put o.dst v') w') : wpList P ops Q (o :: rest) a (W.alloc (.cells news E)) := by
  subst hH
  refine wpList_append_lies _ hgd s x t ho B e i z size bytes ht hi hz hsize hby hzs hsz v n xs hs (hown.alloc _) ⟨W.heap.size, 0, none⟩ 1 1 news.toList hx (by simp [hns]) ?_ (fun u hu => h1 u (by simpa using hu)) (by decide) (Nat.le_trans (Nat.add_le_add_right hn 1) (by decide))
    (Nat.le_trans (Nat.mul_le_mul (Nat.add_le_add_right hn 1) hby2) (by decide)) (Nat.le_trans hB (by simp)) (W.heap.size + 1) (by simp) ?_
  · exact World.news_of_block (block_new1 W _ rfl)
  · intro g cap w' h2 h3 h4 h5
    refine h _ _ h2 ⟨?_, ?_, ?_, ?_⟩
    · intro B0 hB0 hB1
      exact ((Below.refl B0 W).alloc hB1 _).grown h3 (by simp; omega) hB0
    · intro b o hb hne
      have hlt : b < (W.alloc (.cells news E)).heap.size := by have := block_lt hb; simp; omega
      exact (h3.block b hlt (fun e => hne e.symm)).trans (block_alloc hb _)
    · intro g' hg'
      simp [Value.ownBlock] at hg'
      subst hg'
      rcases h4 with h4 | h4
      · exact .inl h4
      · right; omega
    · have := h3.size; simp at this; omega
theorem Grew.of_drew {v v' : Value} {W w' : World} (h : Grew v v' W.drew w') : Grew v v' W w' :=
  ⟨fun B0 h1 h2 => ((Below.refl B0 W).drew).trans (h.below B0 h1 h2), fun b o hb hne => h.block b o hb hne, h.own, h.size⟩
/-- The same behind a draw. -/
theorem wpList_append_rowD {P : Program} {ops : Array Oper} {rest : List Oper} {o : Oper} {a : Act} {W : World} {Q : Exit → Act → World → Prop} (hgd : o.guard = none) (s x : Operand) (t : TypeId)
    (ho : o.op = .call { callee := .builtin .append, args := #[s, x], argTypes := #[t, t] })
    (B : Nat) (e : TypeId) (i : TypeInfo) (z : Value) (size bytes : Nat) (ht : P.underlying t = some (.slice e)) (hi : P.info? e = some i) (hz : i.zero = some z)
    (hsize : i.size = size) (hby : i.bytes = bytes) (hzs : z.cells.size = size) (hsz : 0 < size) (hby2 : bytes ≤ 100)
    (v : Value) (n : Nat) (xs : List Value) (hs : a.eval s = v) (hown : W.ownsRow B e size v n xs) (news : Array Value) (hns : news.size = size) (h1 : ∀ u ∈ news, u.oneCell' = true)
    (H : Nat) (hx : a.eval x = .slice (some ⟨H, 0, none⟩) 1 1) (hn : n ≤ 1100000) (hB : B ≤ W.heap.size) (hH : W.heap.size = H) (E : TypeId)
    (h : ∀ v' w', w'.ownsRow B e size v' (n + 1) (xs ++ news.toList) → Grew v v' W w' → wpList P ops Q rest (a.put o.dst v') w') : wpList P ops Q (o :: rest) a (W.alloc (.cells news E)).drew :=
  wpList_append_row (W := W.drew) hgd s x t ho B e i z size bytes ht hi hz hsize hby hzs hsz hby2 v n xs hs hown news hns h1 H hx hn hB hH E fun v' w' g1 g2 => h v' w' g1 g2.of_drew
/-- One cell of such a row, replaced. -/
theorem owns_set {W : World} {B : Nat} {e : TypeId} {sz n : Nat} {v : Value} {xs : List Value} (h : W.ownsRow B e sz v n xs) {g : Nat} (hg : v.ownBlock = some g) (j : Nat) (hj : j < n * sz) (x : Value) :
    (W.setCell ⟨g, j, none⟩ x).ownsRow B e sz v n (xs.set j x) := by
  refine ⟨by simp [h.1], ?_⟩
  rcases h.2 with ⟨rfl, hn⟩ | ⟨g', cap, cur, rfl, hb, hgg, hc, hm, hs, ht⟩
  · simp [Value.ownBlock] at hg
  · simp [Value.ownBlock] at hg
    subst hg
    refine .inr ⟨g', cap, _, rfl, hb, heap_setCell_same W g' j cur e x hgg, hc, hm, by simp [hs], ?_⟩
    rw [← ht]
    simp [List.take_set]
theorem owns_set_other {W : World} {B : Nat} {e : TypeId} {sz n : Nat} {v : Value} {xs : List Value} (h : W.ownsRow B e sz v n xs) {g : Nat} (hg : v.ownBlock ≠ some g) (j : Nat) (x : Value) :
    (W.setCell ⟨g, j, none⟩ x).ownsRow B e sz v n xs := by
  refine ⟨h.1, ?_⟩
  rcases h.2 with hn | ⟨g', cap, cur, rfl, hb, hgg, rest⟩
  · exact .inl hn
  · exact .inr ⟨g', cap, cur, rfl, hb, block_set_other hgg (a := ⟨g, j, none⟩) x (by rintro rfl; exact hg rfl), rest⟩
theorem owns_below2 {w w' : World} {base B : Nat} {e : TypeId} {size : Nat} {v : Value} {n : Nat} {xs : List Value} (h : w.ownsRow base e size v n xs) (hb : Below B w w') (hB : w.heap.size ≤ B) : w'.ownsRow base e size v n xs := by
  refine ⟨h.1, ?_⟩
  rcases h.2 with hn | ⟨g, cap, cur, rfl, hb0, hg, rest⟩
  · exact .inl hn
  · exact .inr ⟨g, cap, cur, rfl, hb0, block_below hb hg (Nat.lt_of_lt_of_le (block_lt hg) hB), rest⟩
/-- A cell of such a row. -/
theorem owns_cell {W : World} {B : Nat} {e : TypeId} {sz n : Nat} {v : Value} {xs : List Value} (h : W.ownsRow B e sz v n xs) {j : Nat} {x : Value} (hx : xs[j]? = some x) :
    ∃ g c, v = .slice (some ⟨g, 0, none⟩) n c ∧ B ≤ g ∧ g < W.heap.size ∧ W.cell? ⟨g, j, none⟩ = some x ∧ W.frozen? ⟨g, j, none⟩ = false := by
  have hl := (List.getElem?_eq_some_iff.1 hx).1
  rw [h.1] at hl
  rcases h.2 with ⟨rfl, hn⟩ | ⟨g, cap, cur, rfl, hb, hgg, hc, hm, hs, ht⟩
  · subst hn; simp at hl
  · refine ⟨g, cap, rfl, hb, block_lt hgg, cell_block hgg ?_, frozen_of_row _ _ _ _ _ hgg⟩
    rw [← ht, List.getElem?_take, if_pos hl] at hx
    simpa using hx
end Go.Proofs.Ytjcmdihadblodaa
