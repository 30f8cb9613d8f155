/- Rows of numbers that a call owns. -/
import Derived.Test.YtjcmdihadblodaaSli
import Derived.Test.YtjcmdihadblodaaRow
namespace Go.Proofs.Ytjcmdihadblodaa
open Go.RowKit
set_option linter.unusedSimpArgs false
set_option linter.unusedVariables false

/-- The slice v owns the numbers l, in a block from B on. -/
def RowI (B : Nat) (w : World) (v : Value) (l : List Int) : Prop := w.ownsRow B 2 1 v l.length (icells l)
theorem icells_get {l : List Int} {j : Nat} {n : Int} (h : l[j]? = some n) : (icells l)[j]? = some (.int .i64 n) := by unfold icells; rw [List.getElem?_map, h]; rfl
theorem icells_set (l : List Int) (j : Nat) (n : Int) : (icells l).set j (.int .i64 n) = icells (l.set j n) := by unfold icells; rw [List.map_set]
theorem icells_snoc (l : List Int) (n : Int) : icells (l ++ [n]) = icells l ++ [.int .i64 n] := by simp [icells]
theorem RowI.nil (B : Nat) (w : World) : RowI B w (.slice none 0 0) [] := World.ownsRow_nil w B 2 1
theorem RowI.made {B : Nat} {w : World} (hB : B ≤ w.heap.size) : RowI B (w.alloc (.cells #[] 2)) (.slice (some ⟨w.heap.size, 0, none⟩) 0 0) [] := World.ownsRow_made w #[] 0 hB (by decide) rfl
theorem RowI.slc {B : Nat} {w : World} {v : Value} {l : List Int} (h : RowI B w v l) : ∃ A c, v = .slice A l.length c := owns_slc h
theorem RowI.sli {B : Nat} {w : World} {A : Option Addr} {n c : Nat} {l : List Int} (h : RowI B w (.slice A n c) l) : SlI w A l := fun j p hj => by
  obtain ⟨g, c', e, _, h1, h2, _⟩ := owns_cell h (icells_get hj)
  obtain ⟨rfl, _, _⟩ : A = some ⟨g, 0, none⟩ ∧ n = l.length ∧ c = c' := by simpa using e
  exact ⟨g, 0, rfl, h1, by rw [Nat.zero_add]; exact h2⟩
theorem RowI.cell {B : Nat} {w : World} {v : Value} {l : List Int} (h : RowI B w v l) {j : Nat} {n : Int} (hj : l[j]? = some n) :
    ∃ g c, v = .slice (some ⟨g, 0, none⟩) l.length c ∧ B ≤ g ∧ g < w.heap.size ∧ w.cell? ⟨g, j, none⟩ = some (.int .i64 n) ∧ w.frozen? ⟨g, j, none⟩ = false := owns_cell h (icells_get hj)
theorem RowI.set {B : Nat} {w : World} {g n c : Nat} {l : List Int} (h : RowI B w (.slice (some ⟨g, 0, none⟩) n c) l) {j : Nat} (hj : j < l.length) (x : Int) : RowI B (w.setCell ⟨g, j, none⟩ (.int .i64 x)) (.slice (some ⟨g, 0, none⟩) n c) (l.set j x) := by
  have := owns_set h (g := g) rfl j (by omega) (.int .i64 x)
  rw [icells_set] at this
  unfold RowI
  rw [List.length_set]
  exact this
theorem RowI.setO {B : Nat} {w : World} {v : Value} {l : List Int} (h : RowI B w v l) {g : Nat} (hg : v.ownBlock ≠ some g) (j : Nat) (x : Value) : RowI B (w.setCell ⟨g, j, none⟩ x) v l := owns_set_other h hg j x
theorem RowI.below {B B' : Nat} {w w' : World} {v : Value} {l : List Int} (h : RowI B w v l) (hb : Below B' w w') (hB : w.heap.size ≤ B') : RowI B w' v l := owns_below2 h hb hB
theorem RowI.alloc {B : Nat} {w : World} {v : Value} {l : List Int} (h : RowI B w v l) (o : Obj) : RowI B (w.alloc o) v l := World.ownsRow.alloc h o
theorem RowI.mono {B B' : Nat} {w : World} {v : Value} {l : List Int} (h : RowI B w v l) (hB : B' ≤ B) : RowI B' w v l := World.ownsRow.mono h hB
theorem RowI.lt {B : Nat} {w : World} {v : Value} {l : List Int} (h : RowI B w v l) : ∀ g, v.ownBlock = some g → B ≤ g ∧ g < w.heap.size := World.ownsRow.lt h
theorem RowI.grew {B : Nat} {w w' : World} {u v v' : Value} {l : List Int} (h : RowI B w u l) (hg : Grew v v' w w') (ha : Apart u v) : RowI B w' u l := hg.row h ha
theorem RowI.grewA {B : Nat} {w w' : World} {u v v' : Value} {l : List Int} (h : RowI B w u l) (hg : Grew v v' w w') (ha : Apart u v) : Apart u v' := hg.apart h ha
theorem RowI.belowG {B : Nat} {w w' : World} {v v' : Value} {l : List Int} (h : RowI B w v l) (hg : Grew v v' w w') (hB : B ≤ w.heap.size) : Below B w w' := hg.below B (fun g hg => (h.lt g hg).1) hB
/-- One number more. -/
theorem wp_appI {ops : Array Oper} {rest : List Oper} {o : Oper} {a : Act} {W : World} {Q : Exit → Act → World → Prop} (hgd : o.guard = none) (s x : Operand)
    (ho : o.op = .call { callee := .builtin .append, args := #[s, x], argTypes := #[22, 22] })
    (B : Nat) (v : Value) (l : List Int) (n : Int) (hO : RowI B W v l) (hs : a.eval s = v) (H : Nat) (hx : a.eval x = .slice (some ⟨H, 0, none⟩) 1 1) (hn : l.length ≤ 1100000) (hB : B ≤ W.heap.size) (hH : W.heap.size = H)
    (h : ∀ v' w', RowI B w' v' (l ++ [n]) → Grew v v' W w' → wpList Try.prog ops Q rest (a.put o.dst v') w') : wpList Try.prog ops Q (o :: rest) a (W.alloc (.cells #[.int .i64 n] 2)) := by
  obtain ⟨i0, hi, hz0, hz1, hz2⟩ := info_parts Try.infoI64
  refine wpList_append_row hgd s x 22 ho B 2 i0 (.int .i64 0) 1 8 Try.underlying22 hi hz0 hz1 hz2 rfl (by decide) (by decide) v l.length (icells l) hs hO #[.int .i64 n] rfl (by simp [Value.oneCell']) H hx hn hB hH _ ?_
  intro v' w' h1 h2
  refine h v' w' ?_ h2
  unfold RowI
  rw [icells_snoc, List.length_append]
  exact h1
/-- One number more, behind a draw. -/
theorem wp_appID {ops : Array Oper} {rest : List Oper} {o : Oper} {a : Act} {W : World} {Q : Exit → Act → World → Prop} (hgd : o.guard = none) (s x : Operand)
    (ho : o.op = .call { callee := .builtin .append, args := #[s, x], argTypes := #[22, 22] })
    (B : Nat) (v : Value) (l : List Int) (n : Int) (hO : RowI B W v l) (hs : a.eval s = v) (H : Nat) (hx : a.eval x = .slice (some ⟨H, 0, none⟩) 1 1) (hn : l.length ≤ 1100000) (hB : B ≤ W.heap.size) (hH : W.heap.size = H)
    (h : ∀ v' w', RowI B w' v' (l ++ [n]) → Grew v v' W w' → wpList Try.prog ops Q rest (a.put o.dst v') w') : wpList Try.prog ops Q (o :: rest) a (W.alloc (.cells #[.int .i64 n] 2)).drew := by
  obtain ⟨i0, hi, hz0, hz1, hz2⟩ := info_parts Try.infoI64
  refine wpList_append_rowD hgd s x 22 ho B 2 i0 (.int .i64 0) 1 8 Try.underlying22 hi hz0 hz1 hz2 rfl (by decide) (by decide) v l.length (icells l) hs hO #[.int .i64 n] rfl (by simp [Value.oneCell']) H hx hn hB hH _ ?_
  intro v' w' h1 h2
  refine h v' w' ?_ h2
  unfold RowI
  rw [icells_snoc, List.length_append]
  exact h1
end Go.Proofs.Ytjcmdihadblodaa
