/- Rows of places that a call owns. -/
import Derived.Test.YtjcmdihadblodaaLess
import Derived.Test.YtjcmdihadblodaaMany
namespace Go.Proofs.Ytjcmdihadblodaa
open Go.RowKit
set_option linter.unusedSimpArgs false
set_option linter.unusedVariables false

/-- The slice v owns the places l, in a block from B on. -/
def RowQ (B : Nat) (w : World) (v : Value) (l : List (Int × Int)) : Prop := w.ownsRow B 58 2 v l.length (pcells l)
theorem pcells_set : ∀ (l : List (Int × Int)) (k : Nat) (a b : Int), k < l.length → ((pcells l).set (k * 2) (.int .i8 a)).set (k * 2 + 1) (.int .i8 b) = pcells (l.set k (a, b))
  | [], k, a, b, h => by simp at h
  | p :: l, 0, a, b, h => by simp [pcells]
  | p :: l, k + 1, a, b, h => by
    have ih := pcells_set l k a b (by simpa using h)
    have e : ∀ (q : Int × Int) (l : List (Int × Int)), pcells (q :: l) = .int .i8 q.1 :: .int .i8 q.2 :: pcells l := fun q l => by simp [pcells]
    rw [List.set_cons_succ, e, e, ← ih, show (k + 1) * 2 = k * 2 + 1 + 1 by omega]
    rfl
theorem pcells_app (l l' : List (Int × Int)) : pcells (l ++ l') = pcells l ++ pcells l' := by simp [pcells]
theorem pcells_one (l : List (Int × Int)) : ∀ u ∈ pcells l, u.oneCell' = true := by
  intro u hu
  obtain ⟨p, _, h⟩ := List.mem_flatMap.1 hu
  simp at h
  rcases h with rfl | rfl <;> rfl
theorem pcells_inv (l : List (Int × Int)) : ∀ (j : Nat) (u : Value), (pcells l)[j]? = some u → ∃ (i : Nat) (p : Int × Int), l[i]? = some p ∧ ((j = i * 2 ∧ u = .int .i8 p.1) ∨ (j = i * 2 + 1 ∧ u = .int .i8 p.2)) := by
  intro j u hj
  have hl := (List.getElem?_eq_some_iff.1 hj).1
  rw [pcells_len] at hl
  have hi : j / 2 < l.length := by omega
  have hg := pcells_get l (j / 2) _ (List.getElem?_eq_getElem hi)
  refine ⟨j / 2, l[j / 2], List.getElem?_eq_getElem hi, ?_⟩
  rcases Nat.mod_two_eq_zero_or_one j with h | h
  · left
    have e : j = j / 2 * 2 := by omega
    refine ⟨e, ?_⟩
    rw [e] at hj
    exact Option.some.inj (hj.symm.trans (by simpa using hg.1))
  · right
    have e : j = j / 2 * 2 + 1 := by omega
    refine ⟨e, ?_⟩
    have h2 := hg.2
    rw [← e] at h2
    exact Option.some.inj (hj.symm.trans h2)
theorem addr_addQ (b off j : Nat) : (⟨b, off, none⟩ : Addr).add j = ⟨b, off + j, none⟩ := by unfold Addr.add; split <;> simp_all
theorem srcQ {w : World} {A : Option Addr} {l : List (Int × Int)} (h : PairsAt .i8 .i8 w A l) : ∀ j u, (pcells l)[j]? = some u → ∃ ad : Addr, A = some ad ∧ w.cell? (ad.add j) = some u := by
  intro j u hj
  obtain ⟨i, p, hp, h2⟩ := pcells_inv l j u hj
  obtain ⟨b, off, e, _, h3, h4⟩ := h i p hp
  refine ⟨_, e, ?_⟩
  rw [addr_addQ]
  rcases h2 with ⟨rfl, rfl⟩ | ⟨rfl, rfl⟩
  · exact h3
  · rw [← Nat.add_assoc]; exact h4
theorem RowQ.nil (B : Nat) (w : World) : RowQ B w (.slice none 0 0) [] := World.ownsRow_nil w B 58 2
theorem RowQ.made {B : Nat} {w : World} (hB : B ≤ w.heap.size) : RowQ B (w.alloc (.cells #[] 58)) (.slice (some ⟨w.heap.size, 0, none⟩) 0 0) [] := World.ownsRow_made w #[] 0 hB (by decide) rfl
theorem RowQ.slc {B : Nat} {w : World} {v : Value} {l : List (Int × Int)} (h : RowQ B w v l) : ∃ A c, v = .slice A l.length c := owns_slc h
theorem RowQ.below {B B' : Nat} {w w' : World} {v : Value} {l : List (Int × Int)} (h : RowQ B w v l) (hb : Below B' w w') (hB : w.heap.size ≤ B') : RowQ B w' v l := owns_below2 h hb hB
theorem RowQ.alloc {B : Nat} {w : World} {v : Value} {l : List (Int × Int)} (h : RowQ B w v l) (o : Obj) : RowQ B (w.alloc o) v l := World.ownsRow.alloc h o
theorem RowQ.mono {B B' : Nat} {w : World} {v : Value} {l : List (Int × Int)} (h : RowQ B w v l) (hB : B' ≤ B) : RowQ B' w v l := World.ownsRow.mono h hB
theorem RowQ.lt {B : Nat} {w : World} {v : Value} {l : List (Int × Int)} (h : RowQ B w v l) : ∀ g, v.ownBlock = some g → B ≤ g ∧ g < w.heap.size := World.ownsRow.lt h
theorem RowQ.belowG {B : Nat} {w w' : World} {v v' : Value} {l : List (Int × Int)} (h : RowQ B w v l) (hg : Grew v v' w w') (hB : B ≤ w.heap.size) : Below B w w' := hg.below B (fun g hg => (h.lt g hg).1) hB
theorem RowQ.setO {B : Nat} {w : World} {v : Value} {l : List (Int × Int)} (h : RowQ B w v l) {g : Nat} (hg : v.ownBlock ≠ some g) (j : Nat) (x : Value) : RowQ B (w.setCell ⟨g, j, none⟩ x) v l := owns_set_other h hg j x
theorem RowQ.cell {B : Nat} {w : World} {v : Value} {l : List (Int × Int)} (h : RowQ B w v l) {j : Nat} {p : Int × Int} (hj : l[j]? = some p) :
    ∃ g c, v = .slice (some ⟨g, 0, none⟩) l.length c ∧ B ≤ g ∧ g < w.heap.size ∧ w.cell? ⟨g, j * 2, none⟩ = some (.int .i8 p.1) ∧ w.cell? ⟨g, j * 2 + 1, none⟩ = some (.int .i8 p.2) ∧ w.frozen? ⟨g, j * 2, none⟩ = false ∧ w.frozen? ⟨g, j * 2 + 1, none⟩ = false := by
  obtain ⟨g, c, e, h1, h2, h3, h4⟩ := owns_cell h (pcells_get l j p hj).1
  obtain ⟨g', c', e', h1', h2', h3', h4'⟩ := owns_cell h (pcells_get l j p hj).2
  obtain ⟨rfl, rfl⟩ : g = g' ∧ c = c' := by rw [e] at e'; simpa using e'
  exact ⟨g, c, e, h1, h2, h3, h3', h4, h4'⟩
theorem RowQ.cap {B : Nat} {w : World} {A : Option Addr} {n c : Nat} {l : List (Int × Int)} (h : RowQ B w (.slice A n c) l) : l.length ≤ c ∧ c ≤ maxLen := by
  rcases h.2 with ⟨e, hn⟩ | ⟨g, cap, cur, e, _, _, h1, h2, _⟩
  · simp only [Value.slice.injEq] at e
    omega
  · simp only [Value.slice.injEq] at e
    obtain ⟨_, _, rfl⟩ := e
    exact ⟨h1, h2⟩
theorem RowQ.set2 {B : Nat} {w : World} {g n c : Nat} {l : List (Int × Int)} (h : RowQ B w (.slice (some ⟨g, 0, none⟩) n c) l) {k : Nat} (hk : k < l.length) (a b : Int) :
    RowQ B ((w.setCell ⟨g, k * 2, none⟩ (.int .i8 a)).setCell ⟨g, k * 2 + 1, none⟩ (.int .i8 b)) (.slice (some ⟨g, 0, none⟩) n c) (l.set k (a, b)) := by
  have h1 := owns_set (owns_set h (g := g) rfl (k * 2) (by omega) (.int .i8 a)) (g := g) rfl (k * 2 + 1) (by omega) (.int .i8 b)
  rw [pcells_set l k a b hk] at h1
  unfold RowQ
  rw [List.length_set]
  exact h1
theorem RowQ.pairs {B : Nat} {w : World} {A : Option Addr} {n c : Nat} {l : List (Int × Int)} (h : RowQ B w (.slice A n c) l) : PairsAt .i8 .i8 w A l := fun j p hj => by
  obtain ⟨g, c', e, _, h1, h2, h3, _⟩ := h.cell hj
  obtain ⟨rfl, _, _⟩ : A = some ⟨g, 0, none⟩ ∧ n = l.length ∧ c = c' := by simpa using e
  exact ⟨g, 0, rfl, h1, by rw [Nat.zero_add]; exact h2, by rw [Nat.zero_add]; exact h3⟩
/-- All of l' behind l. -/
theorem wp_appQ {ops : Array Oper} {rest : List Oper} {o : Oper} {a : Act} {W : World} {Q : Exit → Act → World → Prop} (hgd : o.guard = none) (s x : Operand)
    (ho : o.op = .call { callee := .builtin .append, args := #[s, x], argTypes := #[40, 40] })
    (B : Nat) (v : Value) (l l' : List (Int × Int)) (hO : RowQ B W v l) (hs : a.eval s = v) (A : Option Addr) (c : Nat) (hA : PairsAt .i8 .i8 W A l') (hx : a.eval x = .slice A l'.length c) (hn : l.length + l'.length ≤ 1100000) (hB : B ≤ W.heap.size)
    (h : ∀ v' w', RowQ B w' v' (l ++ l') → Grew v v' W w' → wpList Try.prog ops Q rest (a.put o.dst v') w') : wpList Try.prog ops Q (o :: rest) a W := by
  obtain ⟨i0, hi, hz0, hz1, hz2⟩ := info_parts Try.infoPlace
  refine wpList_append_many hgd s x 40 ho B 58 i0 (.agg #[.int .i8 0, .int .i8 0]) 2 2 Try.underlying40 hi hz0 hz1 hz2 rfl (by decide) (by decide) v l.length (pcells l) hO hs A l'.length c (pcells l') (pcells_len l') (srcQ hA) (pcells_one l') hx (by omega) hB ?_
  intro v' w' h1 h2
  refine h v' w' ?_ h2
  unfold RowQ
  rw [List.length_append, pcells_app]
  exact h1
end Go.Proofs.Ytjcmdihadblodaa
