/- Slices of pieces that a call has made: compared, marked, held against their marks. -/
import Derived.Test.YtohdfnbjfhiacaaList
import Derived.Test.YtohdfnbjfhiacaaReg
namespace Go.Proofs.Ytohdfnbjfhiacaa
open Go.RowKit
set_option linter.unusedSimpArgs false
set_option linter.unusedVariables false

/-- The slice v holds the pieces l; its array, if l is not empty, lies in a block from lo on, below hi, that starts with them. -/
def OwC (lo hi : Nat) (w : World) (v : Value) (l : List (Int × Int)) : Prop :=
  ∃ A c, v = .slice A l.length c ∧ (l ≠ [] → ∃ b cs, A = some ⟨b, 0, none⟩ ∧ lo ≤ b ∧ b < hi ∧ w.heap[b]? = some (.cells cs 75 (0, 0)) ∧ l.length * 2 ≤ cs.size ∧
    ∀ j p, l[j]? = some p → cs[j * 2]? = some (.int .i8 p.1) ∧ cs[j * 2 + 1]? = some (.int .i8 p.2))
theorem OwC.below {lo hi B : Nat} {w w' : World} {v : Value} {l : List (Int × Int)} (h : OwC lo hi w v l) (hb : Below B w w') (hB : hi ≤ B) : OwC lo hi w' v l := by
  obtain ⟨A, c, rfl, h⟩ := h
  refine ⟨A, c, rfl, fun hl => ?_⟩
  obtain ⟨b, cs, h1, h2, h3, h4, h5⟩ := h hl
  exact ⟨b, cs, h1, h2, h3, block_below hb h4 (by omega), h5⟩
theorem OwC.cells {lo hi : Nat} {w : World} {v : Value} {l : List (Int × Int)} (h : OwC lo hi w v l) {j : Nat} {p : Int × Int} (hj : l[j]? = some p) :
    ∃ b c, v = .slice (some ⟨b, 0, none⟩) l.length c ∧ lo ≤ b ∧ b < hi ∧ b < w.heap.size ∧ w.cell? ⟨b, j * 2, none⟩ = some (.int .i8 p.1) ∧ w.cell? ⟨b, j * 2 + 1, none⟩ = some (.int .i8 p.2) := by
  obtain ⟨A, c, rfl, h⟩ := h
  obtain ⟨b, cs, rfl, h2, h3, h4, h5, h6⟩ := h (by rintro rfl; simp at hj)
  have := h6 j p hj
  exact ⟨b, c, rfl, h2, h3, block_lt h4, cell_block h4 this.1, cell_block h4 this.2⟩
/-- One place of such a slice, replaced. -/
theorem OwC.put {lo hi : Nat} {w : World} {b c : Nat} {l : List (Int × Int)} (h : OwC lo hi w (.slice (some ⟨b, 0, none⟩) l.length c) l) {k : Nat} (hk : k < l.length) (x y : Int) :
    OwC lo hi ((w.setCell ⟨b, k * 2, none⟩ (.int .i8 x)).setCell ⟨b, k * 2 + 1, none⟩ (.int .i8 y)) (.slice (some ⟨b, 0, none⟩) l.length c) (l.set k (x, y)) := by
  obtain ⟨A, c', e, h⟩ := h
  have hne : l ≠ [] := by rintro rfl; simp at hk
  obtain ⟨b', cs, rfl, h2, h3, h4, h5, h6⟩ := h hne
  have e1 := (Value.slice.inj e).1
  obtain rfl : b = b' := by simpa using e1
  have g1 := heap_setCell_same w b (k * 2) cs _ (.int .i8 x) h4
  have g2 := heap_setCell_same _ b (k * 2 + 1) _ _ (.int .i8 y) g1
  refine ⟨_, c, by simp, fun _ => ⟨b, _, rfl, h2, h3, g2, by simp; omega, fun j p hj => ?_⟩⟩
  rw [List.getElem?_set] at hj
  by_cases hjk : k = j
  · subst hjk
    rw [if_pos rfl, if_pos hk] at hj
    obtain rfl := Option.some.inj hj
    constructor
    · rw [Array.getElem?_setIfInBounds_ne (by omega), Array.getElem?_setIfInBounds, if_pos rfl, if_pos (by omega)]
    · rw [Array.getElem?_setIfInBounds, if_pos rfl, if_pos (by simp; omega)]
  · rw [if_neg hjk] at hj
    have := h6 j p hj
    rw [Array.getElem?_setIfInBounds_ne (by omega), Array.getElem?_setIfInBounds_ne (by omega), Array.getElem?_setIfInBounds_ne (by omega), Array.getElem?_setIfInBounds_ne (by omega)]
    exact this
/-- The pieces l, those below k marked from m on. -/
def mkC (l : List (Int × Int)) (m : Int) (k : Nat) : List (Int × Int) := (List.range l.length).map fun j => if j < k then (IntKind.i8.wrap (m + 2 * j), IntKind.i8.wrap (m + 2 * j + 1)) else l.getD j (0, 0)
theorem mkC_len (l : List (Int × Int)) (m : Int) (k : Nat) : (mkC l m k).length = l.length := by simp [mkC]
theorem mkC_get (l : List (Int × Int)) (m : Int) (k j : Nat) : (mkC l m k)[j]? = if j < l.length then some (if j < k then (IntKind.i8.wrap (m + 2 * j), IntKind.i8.wrap (m + 2 * j + 1)) else l.getD j (0, 0)) else none := by
  unfold mkC
  rw [List.getElem?_map]
  by_cases hj : j < l.length
  · rw [List.getElem?_range hj, if_pos hj]; rfl
  · rw [List.getElem?_eq_none (by simp; omega), if_neg hj]; rfl
theorem mkC_zero (l : List (Int × Int)) (m : Int) : mkC l m 0 = l := by
  apply List.ext_getElem?
  intro j
  rw [mkC_get]
  by_cases hj : j < l.length
  · rw [if_pos hj, if_neg (by omega), List.getD_eq_getElem?_getD, List.getElem?_eq_getElem hj]; rfl
  · rw [if_neg hj, List.getElem?_eq_none (by omega)]
theorem mkC_step (l : List (Int × Int)) (m : Int) (k : Nat) (hk : k < l.length) : (mkC l m k).set k (IntKind.i8.wrap (m + 2 * k), IntKind.i8.wrap (m + 2 * k + 1)) = mkC l m (k + 1) := by
  apply List.ext_getElem?
  intro j
  rw [List.getElem?_set, mkC_get, mkC_get, mkC_len]
  by_cases hj : j < l.length
  · rw [if_pos hj, if_pos hj]
    by_cases hjk : k = j
    · subst hjk; rw [if_pos rfl, if_pos hk, if_pos (by omega)]
    · rw [if_neg hjk]
      by_cases h2 : j < k
      · rw [if_pos h2, if_pos (by omega)]
      · rw [if_neg h2, if_neg (by omega)]
  · rw [if_neg hj, if_neg hj]
    by_cases hjk : k = j
    · omega
    · rw [if_neg hjk]
/-- The cells of pieces. -/
def ccells (l : List (Int × Int)) : List Value := l.flatMap fun p => [.int .i8 p.1, .int .i8 p.2]
theorem ccells_len (l : List (Int × Int)) : (ccells l).length = l.length * 2 := by
  induction l with
  | nil => rfl
  | cons p l ih => simp only [ccells, List.flatMap_cons, List.length_append] at ih ⊢; rw [ih]; simp; omega
theorem ccells_get (l : List (Int × Int)) : ∀ j p, l[j]? = some p → (ccells l)[j * 2]? = some (.int .i8 p.1) ∧ (ccells l)[j * 2 + 1]? = some (.int .i8 p.2) := by
  induction l with
  | nil => intro j p h; simp at h
  | cons q l ih =>
    intro j p h
    cases j with
    | zero => simp at h; subst h; simp [ccells]
    | succ j =>
      have := ih j p (by simpa using h)
      have e1 : (j + 1) * 2 = j * 2 + 1 + 1 := by omega
      rw [e1]
      simpa [ccells] using this
theorem ccells_snoc (l : List (Int × Int)) (p : Int × Int) : ccells (l ++ [p]) = ccells l ++ [.int .i8 p.1, .int .i8 p.2] := by simp [ccells]
theorem OwC.of_owns {w : World} {base : Nat} {v : Value} {l : List (Int × Int)} (h : w.ownsRow base 75 2 v l.length (ccells l)) : OwC base w.heap.size w v l := by
  rcases h.2 with ⟨rfl, hn⟩ | ⟨g, cap, cur, rfl, hb, hg, hc, hm, hs, ht⟩
  · exact ⟨none, 0, by rw [hn], fun hl => absurd (List.eq_nil_of_length_eq_zero hn) hl⟩
  · refine ⟨_, cap, rfl, fun _ => ⟨g, cur, rfl, hb, block_lt hg, hg, by rw [hs]; omega, fun j p hj => ?_⟩⟩
    have hjl := (List.getElem?_eq_some_iff.1 hj).1
    have hp := ccells_get l j p hj
    rw [← ht, List.getElem?_take, List.getElem?_take, if_pos (by omega), if_pos (by omega)] at hp
    simpa using hp
end Go.Proofs.Ytohdfnbjfhiacaa
