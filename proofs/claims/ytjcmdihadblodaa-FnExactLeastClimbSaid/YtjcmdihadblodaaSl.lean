/- Slices of places that a call has made: compared, marked, held against their marks. -/
import Derived.Test.YtjcmdihadblodaaList
import Derived.Test.YtjcmdihadblodaaReg
namespace Go.Proofs.Ytjcmdihadblodaa
open Go.RowKit
set_option linter.unusedSimpArgs false
set_option linter.unusedVariables false

/-- The slice v holds the places l; its array, if l is not empty, lies in a block from lo on, below hi, that starts with them. -/
def OwP (lo hi : Nat) (w : World) (v : Value) (l : List (Int × Int)) : Prop :=
  ∃ A c, v = .slice A l.length c ∧ (l ≠ [] → ∃ b cs, A = some ⟨b, 0, none⟩ ∧ lo ≤ b ∧ b < hi ∧ w.heap[b]? = some (.cells cs 58 (0, 0)) ∧ l.length * 2 ≤ cs.size ∧
    ∀ j p, l[j]? = some p → cs[j * 2]? = some (.int .i8 p.1) ∧ cs[j * 2 + 1]? = some (.int .i8 p.2))
theorem OwP.below {lo hi B : Nat} {w w' : World} {v : Value} {l : List (Int × Int)} (h : OwP lo hi w v l) (hb : Below B w w') (hB : hi ≤ B) : OwP lo hi w' v l := by
  obtain ⟨A, c, rfl, h⟩ := h
  refine ⟨A, c, rfl, fun hl => ?_⟩
  obtain ⟨b, cs, h1, h2, h3, h4, h5⟩ := h hl
  exact ⟨b, cs, h1, h2, h3, block_below hb h4 (by omega), h5⟩
theorem OwP.cells {lo hi : Nat} {w : World} {v : Value} {l : List (Int × Int)} (h : OwP lo hi w v l) {j : Nat} {p : Int × Int} (hj : l[j]? = some p) :
    ∃ b c, v = .slice (some ⟨b, 0, none⟩) l.length c ∧ lo ≤ b ∧ b < hi ∧ b < w.heap.size ∧ w.cell? ⟨b, j * 2, none⟩ = some (.int .i8 p.1) ∧ w.cell? ⟨b, j * 2 + 1, none⟩ = some (.int .i8 p.2) := by
  obtain ⟨A, c, rfl, h⟩ := h
  obtain ⟨b, cs, rfl, h2, h3, h4, h5, h6⟩ := h (by rintro rfl; simp at hj)
  have := h6 j p hj
  exact ⟨b, c, rfl, h2, h3, block_lt h4, cell_block h4 this.1, cell_block h4 this.2⟩
set_option maxRecDepth 100000 in
theorem c_eqPlace (c t : Int) (w : World) : Calls Try.prog 38 #[.agg #[.int .i8 c, .int .i8 t], .agg #[.int .i8 c, .int .i8 t]] w fun e w' => e = .returned (.bool true) ∧ Below w.heap.size w w' := by
  go_enter Try.func38, Try.ntmps38
  go_wp2_with fail
  go_ret
  exact ⟨rfl, ((Below.refl _ w).alloc (Nat.le_refl _) _).alloc (by simp) _⟩
set_option maxRecDepth 100000 in
theorem c_eqPlaceS (lo hi lo' hi' : Nat) (v v' : Value) (l : List (Int × Int)) (hlen : l.length ≤ 70368744177664) (w : World) (h : OwP lo hi w v l) (h' : OwP lo' hi' w v' l) (hh : hi ≤ w.heap.size) (hh' : hi' ≤ w.heap.size) :
    Calls Try.prog 20 #[v, v'] w fun e w' => e = .returned (.bool true) ∧ Below w.heap.size w w' := by
  have HA := hid h
  have HA' := hid h'
  obtain ⟨A, c, rfl, h0⟩ := h
  obtain ⟨A', c', rfl, h0'⟩ := h'
  clear h0 h0'
  go_enter Try.func20, Try.ntmps20
  go_wp2_with fail
  go_loopw [5] (fun i wr => ∃ k : Nat, k ≤ l.length ∧ i = .int .i64 k ∧ Hid (Below w.heap.size w wr)) (fun i _ => l.length - (intOf i).toNat)
  case atStart => exact ⟨0, by omega, rfl, Below.refl _ _⟩
  case round =>
    obtain ⟨k, hk, rfl, hb⟩ := hrel
    by_cases hkl : k < l.length
    · have hd : decide ((k : Int) < (l.length : Int)) = true := decide_eq_true (by omega)
      have hp := List.getElem?_eq_getElem hkl
      obtain ⟨⟨p1, p2⟩, hpp⟩ : ∃ p, p = l[k] := ⟨_, rfl⟩
      rw [← hpp] at hp
      obtain ⟨b, c1, e1, _, _, q1, q2, q3⟩ := (HA.out.below hb.out hh).cells hp
      obtain ⟨b', c1', e1', _, _, q1', q2', q3'⟩ := (HA'.out.below hb.out hh').cells hp
      obtain ⟨rfl, rfl⟩ : A = some ⟨b, 0, none⟩ ∧ c = c1 := by simpa using e1
      obtain ⟨rfl, rfl⟩ : A' = some ⟨b', 0, none⟩ ∧ c' = c1' := by simpa using e1'
      have HW : Hid (Below wr.heap.size wr wr) := Below.refl _ _
      clear hp hpp e1 e1'
      go_wp2_with fail
      refine wp_region_ext wr.heap.size (by kernel_rfl) (by kernel_rfl) ?_
      repeat (go_big_quiet_step ((go_at_call 38; with_reducible exact Calls.ext (Nat.le_refl _) (c_eqPlace p1 p2 _))))
      refine wpQuiet_nil ?_
      intro x
      go_wp2_with fail
      exact ⟨⟨k + 1, by omega, by go_num, hb.out.trans (x.h.mono hb.out.size)⟩, by simp [intOf]; omega⟩
    · obtain rfl : k = l.length := by omega
      have hd : decide ((l.length : Int) < (l.length : Int)) = false := decide_eq_false (by omega)
      go_wp2_with fail
      go_ret
      exact ⟨rfl, hb.out⟩
/-- One place of such a slice, replaced. -/
theorem OwP.put {lo hi : Nat} {w : World} {b c : Nat} {l : List (Int × Int)} (h : OwP lo hi w (.slice (some ⟨b, 0, none⟩) l.length c) l) {k : Nat} (hk : k < l.length) (x y : Int) :
    OwP lo hi ((w.setCell ⟨b, k * 2, none⟩ (.int .i8 x)).setCell ⟨b, k * 2 + 1, none⟩ (.int .i8 y)) (.slice (some ⟨b, 0, none⟩) l.length c) (l.set k (x, y)) := by
  obtain ⟨A, c', e, h⟩ := h
  have hne : l ≠ [] := by rintro rfl; simp at hk
  obtain ⟨b', cs, rfl, h2, h3, h4, h5, h6⟩ := h hne
  have e1 := (Value.slice.inj e).1
  obtain rfl : b = b' := by simpa using e1
  have g1 := heap_setCell_same w b (k * 2) cs _ (.int .i8 x) h4
  have g2 := heap_setCell_same _ b (k * 2 + 1) _ _ (.int .i8 y) g1
  refine ⟨_, c, by simp, fun _ => ⟨b, _, rfl, h2, h3, g2, by simp; omega, fun j p hj => ?_⟩⟩
  rw [List.getElem?_set] at hj
  by_cases hjk : k = j
  · subst hjk
    rw [if_pos rfl, if_pos hk] at hj
    obtain rfl := Option.some.inj hj
    constructor
    · rw [Array.getElem?_setIfInBounds_ne (by omega), Array.getElem?_setIfInBounds, if_pos rfl, if_pos (by omega)]
    · rw [Array.getElem?_setIfInBounds, if_pos rfl, if_pos (by simp; omega)]
  · rw [if_neg hjk] at hj
    have := h6 j p hj
    rw [Array.getElem?_setIfInBounds_ne (by omega), Array.getElem?_setIfInBounds_ne (by omega), Array.getElem?_setIfInBounds_ne (by omega), Array.getElem?_setIfInBounds_ne (by omega)]
    exact this
/-- The places l, those below k marked from m on. -/
def mkL (l : List (Int × Int)) (m : Int) (k : Nat) : List (Int × Int) := (List.range l.length).map fun j => if j < k then (IntKind.i8.wrap (m + 2 * j), IntKind.i8.wrap (m + 2 * j + 1)) else l.getD j (0, 0)
theorem mkL_len (l : List (Int × Int)) (m : Int) (k : Nat) : (mkL l m k).length = l.length := by simp [mkL]
theorem mkL_get (l : List (Int × Int)) (m : Int) (k j : Nat) : (mkL l m k)[j]? = if j < l.length then some (if j < k then (IntKind.i8.wrap (m + 2 * j), IntKind.i8.wrap (m + 2 * j + 1)) else l.getD j (0, 0)) else none := by
  unfold mkL
  rw [List.getElem?_map]
  by_cases hj : j < l.length
  · rw [List.getElem?_range hj, if_pos hj]; rfl
  · rw [List.getElem?_eq_none (by simp; omega), if_neg hj]; rfl
theorem mkL_zero (l : List (Int × Int)) (m : Int) : mkL l m 0 = l := by
  apply List.ext_getElem?
  intro j
  rw [mkL_get]
  by_cases hj : j < l.length
  · rw [if_pos hj, if_neg (by omega), List.getD_eq_getElem?_getD, List.getElem?_eq_getElem hj]; rfl
  · rw [if_neg hj, List.getElem?_eq_none (by omega)]
theorem mkL_step (l : List (Int × Int)) (m : Int) (k : Nat) (hk : k < l.length) : (mkL l m k).set k (IntKind.i8.wrap (m + 2 * k), IntKind.i8.wrap (m + 2 * k + 1)) = mkL l m (k + 1) := by
  apply List.ext_getElem?
  intro j
  rw [List.getElem?_set, mkL_get, mkL_get, mkL_len]
  by_cases hj : j < l.length
  · rw [if_pos hj, if_pos hj]
    by_cases hjk : k = j
    · subst hjk; rw [if_pos rfl, if_pos hk, if_pos (by omega)]
    · rw [if_neg hjk]
      by_cases h2 : j < k
      · rw [if_pos h2, if_pos (by omega)]
      · rw [if_neg h2, if_neg (by omega)]
  · rw [if_neg hj, if_neg hj]
    by_cases hjk : k = j
    · omega
    · rw [if_neg hjk]
/-- The cells of places. -/
def pcells (l : List (Int × Int)) : List Value := l.flatMap fun p => [.int .i8 p.1, .int .i8 p.2]
theorem pcells_len (l : List (Int × Int)) : (pcells l).length = l.length * 2 := by
  induction l with
  | nil => rfl
  | cons p l ih => simp only [pcells, List.flatMap_cons, List.length_append] at ih ⊢; rw [ih]; simp; omega
theorem pcells_get (l : List (Int × Int)) : ∀ j p, l[j]? = some p → (pcells l)[j * 2]? = some (.int .i8 p.1) ∧ (pcells l)[j * 2 + 1]? = some (.int .i8 p.2) := by
  induction l with
  | nil => intro j p h; simp at h
  | cons q l ih =>
    intro j p h
    cases j with
    | zero => simp at h; subst h; simp [pcells]
    | succ j =>
      have := ih j p (by simpa using h)
      have e1 : (j + 1) * 2 = j * 2 + 1 + 1 := by omega
      rw [e1]
      simpa [pcells] using this
theorem pcells_snoc (l : List (Int × Int)) (p : Int × Int) : pcells (l ++ [p]) = pcells l ++ [.int .i8 p.1, .int .i8 p.2] := by simp [pcells]
theorem OwP.of_owns {w : World} {base : Nat} {v : Value} {l : List (Int × Int)} (h : w.ownsRow base 58 2 v l.length (pcells l)) : OwP base w.heap.size w v l := by
  rcases h.2 with ⟨rfl, hn⟩ | ⟨g, cap, cur, rfl, hb, hg, hc, hm, hs, ht⟩
  · exact ⟨none, 0, by rw [hn], fun hl => absurd (List.eq_nil_of_length_eq_zero hn) hl⟩
  · refine ⟨_, cap, rfl, fun _ => ⟨g, cur, rfl, hb, block_lt hg, hg, by rw [hs]; omega, fun j p hj => ?_⟩⟩
    have hjl := (List.getElem?_eq_some_iff.1 hj).1
    have hp := pcells_get l j p hj
    rw [← ht, List.getElem?_take, List.getElem?_take, if_pos (by omega), if_pos (by omega)] at hp
    simpa using hp
end Go.Proofs.Ytjcmdihadblodaa
