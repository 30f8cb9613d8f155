/- Slices of numbers that a call has made: compared, marked, held against their marks. -/
import Derived.Test.YtjcmdihadblodaaNum
import Derived.Test.YtjcmdihadblodaaReg
import Derived.Laws.AppendOwn
import Derived.WalkSmall
import Derived.Deep.Onto
namespace Go.Proofs.Ytjcmdihadblodaa
open Go.RowKit
set_option linter.unusedSimpArgs false
set_option linter.unusedVariables false

/-- The cells of numbers. -/
def icells (l : List Int) : List Value := l.map (Value.int .i64)
/-- A slice's elements, numbers, lie at A. -/
def SlI (w : World) (A : Option Addr) (l : List Int) : Prop := ∀ j n, l[j]? = some n → ∃ b off, A = some ⟨b, off, none⟩ ∧ b < w.heap.size ∧ w.cell? ⟨b, off + j, none⟩ = some (.int .i64 n)
theorem SlI.below {B : Nat} {w w' : World} {A : Option Addr} {l : List Int} (h : SlI w A l) (hb : Below B w w') (hB : w.heap.size ≤ B) : SlI w' A l := fun j n hj => by
  obtain ⟨b, off, e, h1, h2⟩ := h j n hj
  exact ⟨b, off, e, Nat.lt_of_lt_of_le h1 hb.size, (hb.cell (p := ⟨b, _, none⟩) (by show b < B; omega)).trans h2⟩
/-- The slice v holds the numbers l; its array, if l is not empty, lies in a block from lo on, below hi, that starts with them. -/
def OwI (lo hi : Nat) (w : World) (v : Value) (l : List Int) : Prop :=
  ∃ A c, v = .slice A l.length c ∧ (l ≠ [] → ∃ (b : Nat) (cs : Array Value), A = some ⟨b, 0, none⟩ ∧ lo ≤ b ∧ b < hi ∧ w.heap[b]? = some (.cells cs 2 (0, 0)) ∧ l.length ≤ cs.size ∧ ∀ (j : Nat) (n : Int), l[j]? = some n → cs[j]? = some (.int .i64 n))
theorem OwI.below {lo hi B : Nat} {w w' : World} {v : Value} {l : List Int} (h : OwI lo hi w v l) (hb : Below B w w') (hB : hi ≤ B) : OwI lo hi w' v l := by
  obtain ⟨A, c, rfl, h⟩ := h
  refine ⟨A, c, rfl, fun hl => ?_⟩
  obtain ⟨b, cs, h1, h2, h3, h4, h5⟩ := h hl
  exact ⟨b, cs, h1, h2, h3, block_below hb h4 (by omega), h5⟩
theorem OwI.cells {lo hi : Nat} {w : World} {v : Value} {l : List Int} (h : OwI lo hi w v l) {j : Nat} {n : Int} (hj : l[j]? = some n) :
    ∃ b c, v = .slice (some ⟨b, 0, none⟩) l.length c ∧ lo ≤ b ∧ b < hi ∧ b < w.heap.size ∧ w.cell? ⟨b, j, none⟩ = some (.int .i64 n) ∧ w.frozen? ⟨b, j, none⟩ = false := by
  obtain ⟨A, c, rfl, h⟩ := h
  obtain ⟨b, cs, rfl, h2, h3, h4, h5, h6⟩ := h (by rintro rfl; simp at hj)
  exact ⟨b, c, rfl, h2, h3, block_lt h4, cell_block h4 (h6 j n hj), frozen_of_row _ _ _ _ _ h4⟩
set_option maxRecDepth 100000 in
theorem c_eqInt64S (lo hi lo' hi' : Nat) (v v' : Value) (l : List Int) (hlen : l.length ≤ 70368744177664) (w : World) (h : OwI lo hi w v l) (h' : OwI lo' hi' w v' l) (hh : hi ≤ w.heap.size) (hh' : hi' ≤ w.heap.size) :
    Calls Try.prog 10 #[v, v'] w fun e w' => e = .returned (.bool true) ∧ Below w.heap.size w w' := by
  have HA := hid h
  have HA' := hid h'
  obtain ⟨A, c, rfl, h0⟩ := h
  obtain ⟨A', c', rfl, h0'⟩ := h'
  clear h0 h0'
  go_enter Try.func10, Try.ntmps10
  go_wp2_with fail
  go_loopw [5] (fun i wr => ∃ k : Nat, k ≤ l.length ∧ i = .int .i64 k ∧ Hid (Below w.heap.size w wr)) (fun i _ => l.length - (intOf i).toNat)
  case atStart => exact ⟨0, by omega, rfl, Below.refl _ _⟩
  case round =>
    obtain ⟨k, hk, rfl, hb⟩ := hrel
    by_cases hkl : k < l.length
    · have hd : decide ((k : Int) < (l.length : Int)) = true := decide_eq_true (by omega)
      have hkI : (k : Int) < (l.length : Int) := by omega
      have hk0 : (0 : Int) ≤ (k : Int) := by omega
      have hp := List.getElem?_eq_getElem hkl
      obtain ⟨p, hpp⟩ : ∃ p, p = l[k] := ⟨_, rfl⟩
      rw [← hpp] at hp
      obtain ⟨b, c1, e1, _, _, q1, q2, _⟩ := (HA.out.below hb.out hh).cells hp
      obtain ⟨b', c1', e1', _, _, q1', q2', _⟩ := (HA'.out.below hb.out hh').cells hp
      obtain ⟨rfl, rfl⟩ : A = some ⟨b, 0, none⟩ ∧ c = c1 := by simpa using e1
      obtain ⟨rfl, rfl⟩ : A' = some ⟨b', 0, none⟩ ∧ c' = c1' := by simpa using e1'
      have hne : (p != p) = false := by simp
      clear hp hpp e1 e1'
      go_wp2_with fail
      refine wp_region_ext wr.heap.size (by kernel_rfl) (by kernel_rfl) ?_
      repeat (go_big_quiet_step (fail))
      refine wpQuiet_nil ?_
      intro x
      go_wp2_with fail
      exact ⟨⟨k + 1, by omega, by go_num, hb.out.trans (x.below.mono hb.out.size)⟩, by simp [intOf]; omega⟩
    · obtain rfl : k = l.length := by omega
      have hd : decide ((l.length : Int) < (l.length : Int)) = false := decide_eq_false (by omega)
      go_wp2_with fail
      go_ret
      exact ⟨rfl, hb.out⟩
/-- One number of such a slice, replaced. -/
theorem OwI.put {lo hi : Nat} {w : World} {b c : Nat} {l : List Int} (h : OwI lo hi w (.slice (some ⟨b, 0, none⟩) l.length c) l) {k : Nat} (hk : k < l.length) (x : Int) :
    OwI lo hi (w.setCell ⟨b, k, none⟩ (.int .i64 x)) (.slice (some ⟨b, 0, none⟩) l.length c) (l.set k x) := by
  obtain ⟨A, c', e, h⟩ := h
  have hne : l ≠ [] := by rintro rfl; simp at hk
  obtain ⟨b', cs, rfl, h2, h3, h4, h5, h6⟩ := h hne
  have e1 := (Value.slice.inj e).1
  obtain rfl : b = b' := by simpa using e1
  have g1 := heap_setCell_same w b k cs _ (.int .i64 x) h4
  refine ⟨_, c, by simp, fun _ => ⟨b, _, rfl, h2, h3, g1, by simp; omega, fun j n hj => ?_⟩⟩
  rw [List.getElem?_set] at hj
  by_cases hjk : k = j
  · subst hjk
    rw [if_pos rfl, if_pos hk] at hj
    obtain rfl := Option.some.inj hj
    rw [Array.getElem?_setIfInBounds, if_pos rfl, if_pos (by omega)]
  · rw [if_neg hjk] at hj
    rw [Array.getElem?_setIfInBounds_ne hjk]
    exact h6 j n hj
/-- The numbers l, those below k marked from m on. -/
def mkI (l : List Int) (m : Int) (k : Nat) : List Int := (List.range l.length).map fun j => if j < k then m + j else l.getD j 0
theorem mkI_len (l : List Int) (m : Int) (k : Nat) : (mkI l m k).length = l.length := by simp [mkI]
theorem mkI_get (l : List Int) (m : Int) (k j : Nat) : (mkI l m k)[j]? = if j < l.length then some (if j < k then m + j else l.getD j 0) else none := by
  unfold mkI
  rw [List.getElem?_map]
  by_cases hj : j < l.length
  · rw [List.getElem?_range hj, if_pos hj]; rfl
  · rw [List.getElem?_eq_none (by simp; omega), if_neg hj]; rfl
theorem mkI_zero (l : List Int) (m : Int) : mkI l m 0 = l := by
  apply List.ext_getElem?
  intro j
  rw [mkI_get]
  by_cases hj : j < l.length
  · rw [if_pos hj, if_neg (by omega), List.getD_eq_getElem?_getD, List.getElem?_eq_getElem hj]; rfl
  · rw [if_neg hj, List.getElem?_eq_none (by omega)]
theorem mkI_step (l : List Int) (m : Int) (k : Nat) (hk : k < l.length) : (mkI l m k).set k (m + k) = mkI l m (k + 1) := by
  apply List.ext_getElem?
  intro j
  rw [List.getElem?_set, mkI_get, mkI_get, mkI_len]
  by_cases hj : j < l.length
  · rw [if_pos hj, if_pos hj]
    by_cases hjk : k = j
    · subst hjk; rw [if_pos rfl, if_pos hk, if_pos (by omega)]
    · rw [if_neg hjk]
      by_cases h2 : j < k
      · rw [if_pos h2, if_pos (by omega)]
      · rw [if_neg h2, if_neg (by omega)]
  · rw [if_neg hj, if_neg hj]
    by_cases hjk : k = j
    · omega
    · rw [if_neg hjk]
set_option maxRecDepth 100000 in
theorem c_markInt64S (lo hi : Nat) (v : Value) (l : List Int) (m : Int) (hm : 0 ≤ m ∧ m ≤ 1000000) (hlen : l.length ≤ 10000000) (w : World) (h : OwI lo hi w v l) (hh : hi ≤ w.heap.size) (hlo : lo ≤ w.heap.size) :
    Calls Try.prog 11 #[v, .int .i64 m] w fun e w' => e = .returned (.int .i64 (m + l.length)) ∧ Below lo w w' ∧ OwI lo hi w' v (mkI l m l.length) := by
  have h0 := h
  obtain ⟨A, c, rfl, _⟩ := h
  go_enter Try.func11, Try.ntmps11
  go_wp2_with fail
  go_loopw [1, 5] (fun q i wr => ∃ k : Nat, k ≤ l.length ∧ i = .int .i64 k ∧ q = .int .i64 (m + k) ∧ Hid (Below lo w wr) ∧ Hid (OwI lo hi wr (.slice A l.length c) (mkI l m k))) (fun _ i _ => l.length - (intOf i).toNat)
  case atStart => exact ⟨0, by omega, rfl, by simp, Below.refl _ _, by rw [mkI_zero]; exact h0⟩
  case round =>
    obtain ⟨k, hk, rfl, rfl, hb, hO⟩ := hrel
    by_cases hkl : k < l.length
    · have hd : decide ((k : Int) < (l.length : Int)) = true := decide_eq_true (by omega)
      have hkI : (k : Int) < (l.length : Int) := by omega
      have hk0 : (0 : Int) ≤ (k : Int) := by omega
      have hkl' : k < (mkI l m k).length := by rw [mkI_len]; exact hkl
      have hp := List.getElem?_eq_getElem hkl'
      obtain ⟨p, hpp⟩ : ∃ p, p = (mkI l m k)[k] := ⟨_, rfl⟩
      rw [← hpp] at hp
      obtain ⟨b, c1, e1, r1, _, q1, q2, f2⟩ := hO.out.cells hp
      obtain ⟨rfl, _, rfl⟩ : A = some ⟨b, 0, none⟩ ∧ l.length = (mkI l m k).length ∧ c = c1 := by simpa using e1
      have HP : Hid (OwI lo hi (wr.setCell ⟨b, k, none⟩ (.int .i64 (m + k))) (.slice (some ⟨b, 0, none⟩) l.length c) (mkI l m (k + 1))) := by
        have := hO.out
        rw [← mkI_len l m k] at this
        have := OwI.put this hkl' (m + k)
        rw [mkI_step l m k hkl, mkI_len] at this
        exact this
      clear hp hpp e1 h0 hkl'
      go_wp2_with fail
      exact ⟨⟨k + 1, by omega, by go_num, congrArg (Value.int .i64) (by omega), Below.setCell hb.out (p := ⟨b, k, none⟩) r1 _, HP.out⟩, by simp [intOf]; omega⟩
    · obtain rfl : k = l.length := by omega
      have hd : decide ((l.length : Int) < (l.length : Int)) = false := decide_eq_false (by omega)
      go_wp2_with fail
      go_ret
      exact ⟨rfl, hb.out, hO.out⟩
set_option maxRecDepth 100000 in
theorem c_heldInt64S (lo hi : Nat) (v : Value) (l : List Int) (m : Int) (hm : 0 ≤ m ∧ m ≤ 1000000) (hlen : l.length ≤ 10000000) (w : World) (h : OwI lo hi w v (mkI l m l.length)) :
    Calls Try.prog 12 #[v, .int .i64 m] w fun e w' => e = .returned (.int .i64 (m + l.length)) ∧ Below w.heap.size w w' := by
  have h0 := hid h
  obtain ⟨A, c, rfl, _⟩ := h
  rw [mkI_len] at h0 ⊢
  go_enter Try.func12, Try.ntmps12
  go_wp2_with fail
  go_loop [1, 5] (fun q i => ∃ k : Nat, k ≤ l.length ∧ i = .int .i64 k ∧ q = .int .i64 (m + k)) (fun _ i => l.length - (intOf i).toNat)
  case atStart => exact ⟨0, by omega, rfl, by simp⟩
  case round =>
    obtain ⟨k, hk, rfl, rfl⟩ := hrel
    by_cases hkl : k < l.length
    · have hd : decide ((k : Int) < (l.length : Int)) = true := decide_eq_true (by omega)
      have hkI : (k : Int) < (l.length : Int) := by omega
      have hk0 : (0 : Int) ≤ (k : Int) := by omega
      have hp : (mkI l m l.length)[k]? = some (m + k) := by rw [mkI_get, if_pos hkl, if_pos hkl]
      obtain ⟨b, c1, e1, r1, _, q1, q2, _⟩ := h0.out.cells hp
      obtain ⟨rfl, _⟩ : A = some ⟨b, 0, none⟩ ∧ c = c1 := by simpa [mkI_len] using e1
      have hne : (m + (k : Int) != m + (k : Int)) = false := by simp
      clear hp e1
      go_wp2_with fail
      exact ⟨⟨k + 1, by omega, by go_num, congrArg (Value.int .i64) (by omega)⟩, by simp [intOf]; omega⟩
    · obtain rfl : k = l.length := by omega
      have hd : decide ((l.length : Int) < (l.length : Int)) = false := decide_eq_false (by omega)
      go_wp2_with fail
      go_ret
      exact ⟨rfl, Below.refl _ _⟩
theorem OwI.of_owns {w : World} {base : Nat} {v : Value} {l : List Int} (h : w.ownsRow base 2 1 v l.length (icells l)) : OwI base w.heap.size w v l := by
  rcases h.2 with ⟨rfl, hn⟩ | ⟨g, cap, cur, rfl, hb, hg, hc, hm, hs, ht⟩
  · exact ⟨none, 0, by rw [hn], fun hl => absurd (List.eq_nil_of_length_eq_zero hn) hl⟩
  · refine ⟨_, cap, rfl, fun _ => ⟨g, cur, rfl, hb, block_lt hg, hg, by rw [hs]; omega, fun j n hj => ?_⟩⟩
    have hjl := (List.getElem?_eq_some_iff.1 hj).1
    have hp : (icells l)[j]? = some (.int .i64 n) := by unfold icells; rw [List.getElem?_map, hj]; rfl
    rw [← ht, List.getElem?_take, if_pos (by omega)] at hp
    simpa using hp
theorem owns_slice' {w : World} {base : Nat} {T : TypeId} {s n : Nat} {v : Value} {xs : List Value} (h : w.ownsRow base T s v n xs) : ∃ A c, v = .slice A n c := by
  rcases h.2 with ⟨rfl, rfl⟩ | ⟨g, cap, cur, rfl, _⟩
  · exact ⟨none, 0, rfl⟩
  · exact ⟨_, _, rfl⟩
/-- A result of two: a slice of numbers and a code. -/
def RetI (w : World) (l : List Int) (k : Int) (e : Ending) (w' : World) : Prop := ∃ v, e = .returned (.tuple #[v, .int .i64 k]) ∧ Below w.heap.size w w' ∧ w'.ownsRow w.heap.size 2 1 v l.length (icells l)
/-- A slice of numbers whose array lies in the blocks lo .. hi, all of them laid. -/
def OwJ (lo hi : Nat) (w : World) (v : Value) (l : List Int) : Prop := OwI lo hi w v l ∧ lo ≤ hi ∧ hi ≤ w.heap.size
theorem OwJ.below {lo hi : Nat} {w w' : World} {v : Value} {l : List Int} (h : OwJ lo hi w v l) (hb : Below w.heap.size w w') : OwJ lo hi w' v l := ⟨h.1.below hb h.2.2, h.2.1, Nat.le_trans h.2.2 hb.size⟩
theorem OwJ.below' {lo hi B : Nat} {w w' : World} {v : Value} {l : List Int} (h : OwJ lo hi w v l) (hb : Below B w w') (hB : hi ≤ B) (hs : w.heap.size ≤ w'.heap.size) : OwJ lo hi w' v l := ⟨h.1.below hb hB, h.2.1, Nat.le_trans h.2.2 hs⟩
theorem OwJ.of {w w' : World} {v : Value} {l : List Int} (h : w'.ownsRow w.heap.size 2 1 v l.length (icells l)) (hb : Below w.heap.size w w') : OwJ w.heap.size w'.heap.size w' v l := ⟨OwI.of_owns h, hb.size, Nat.le_refl _⟩
theorem q_eqInt64S {lo hi lo' hi' : Nat} {v v' : Value} {l : List Int} (hlen : l.length ≤ 1000000) {w : World} (h : OwJ lo hi w v l) (h' : OwJ lo' hi' w v' l) :
    Calls Try.prog 10 #[v, v'] w fun e w' => e = .returned (.bool true) ∧ Below w.heap.size w w' :=
  c_eqInt64S lo hi lo' hi' v v' l (Nat.le_trans hlen (by decide)) w h.1 h'.1 h.2.2 h'.2.2
theorem q_markInt64S {lo hi : Nat} {v : Value} {l : List Int} (hlen : l.length ≤ 1000000) {w : World} (h : OwJ lo hi w v l) :
    Calls Try.prog 11 #[v, .int .i64 1] w fun e w' => e = .returned (.int .i64 (1 + l.length)) ∧ Below lo w w' ∧ OwJ lo hi w' v (mkI l 1 l.length) :=
  (c_markInt64S lo hi v l 1 (by decide) (Nat.le_trans hlen (by decide)) w h.1 h.2.2 (Nat.le_trans h.2.1 h.2.2)).mono fun _ _ ⟨he, hb, ho⟩ => ⟨he, hb, ho, h.2.1, Nat.le_trans h.2.2 hb.size⟩
theorem q_heldInt64S {lo hi : Nat} {v : Value} {l : List Int} (hlen : l.length ≤ 1000000) {w : World} (h : OwJ lo hi w v (mkI l 1 l.length)) :
    Calls Try.prog 12 #[v, .int .i64 1] w fun e w' => e = .returned (.int .i64 (1 + l.length)) ∧ Below w.heap.size w w' :=
  c_heldInt64S lo hi v l 1 (by decide) (Nat.le_trans hlen (by decide)) w h.1
/-- What a call out of a world above W has left: a slice of numbers and a code. -/
def WildI (B : Nat) (W : World) (l : List Int) (k : Int) (u : Value) (w' : World) : Prop := ∃ (x : Ext B W) (A : Option Addr) (c : Nat), u = .tuple #[.slice A l.length c, .int .i64 k] ∧ Below x.out.heap.size x.out w' ∧ OwJ x.out.heap.size w'.heap.size w' (.slice A l.length c) l
theorem WildI.of {B : Nat} {W : World} {x : Ext B W} {P : Program} {f : FuncId} {args : Array Value} {l : List Int} {k : Int} (h : Calls P f args x.out (RetI x.out l k)) : Calls P f args x.out fun e w' => ∃ u, e = .returned u ∧ WildI B W l k u w' :=
  h.mono fun e w' ⟨v, he, hb, ho⟩ => by
    obtain ⟨A, c, rfl⟩ := owns_slice' ho
    exact ⟨_, he, x, A, c, rfl, hb, OwJ.of ho hb⟩
theorem Try.infoI64 : (Try.prog.info? 2).map (fun i => (i.zero, i.size, i.bytes)) = some (some (.int .i64 0), 1, 8) := by kernel_rfl
end Go.Proofs.Ytjcmdihadblodaa
