/- Texts of the claim FnExactNewTilesFor, part 2 of 5. -/
import Derived.Test.YtpmadamaefbamaaGExactNewTilesFor1
import Derived.Laws.AppendOwn
import Derived.WalkSmall
import Derived.Deep.Onto
import Derived.Shelf.Abstract
import Derived.Maps.OwnOps
import Derived.Maps.Views
import Derived.Deep.AppendLies
import Derived.Laws.OwnMore
import Derived.BigRegion
/- Slices of numbers that a call has made: compared, marked, held against their marks. -/
namespace Go.Proofs.Ytpmadamaefbamaa
open Go.RowKit
set_option linter.unusedSimpArgs false
set_option linter.unusedVariables false

/-- The cells of numbers. -/
def icells (l : List Int) : List Value := l.map (Value.int .i64)
/-- A slice's elements, numbers, lie at A. -/
def SlI (w : World) (A : Option Addr) (l : List Int) : Prop := ∀ j n, l[j]? = some n → ∃ b off, A = some ⟨b, off, none⟩ ∧ b < w.heap.size ∧ w.cell? ⟨b, off + j, none⟩ = some (.int .i64 n)
theorem SlI.below {B : Nat} {w w' : World} {A : Option Addr} {l : List Int} (h : SlI w A l) (hb : Below B w w') (hB : w.heap.size ≤ B) : SlI w' A l := fun j n hj => by
  obtain ⟨b, off, e, h1, h2⟩ := h j n hj
  exact ⟨b, off, e, Nat.lt_of_lt_of_le h1 hb.size, (hb.cell (p := ⟨b, _, none⟩) (by show b < B; omega)).trans h2⟩
/-- The slice v holds the numbers l; its array, if l is not empty, lies in a block from lo on, below hi, that starts with them. -/
def OwI (lo hi : Nat) (w : World) (v : Value) (l : List Int) : Prop :=
  ∃ A c, v = .slice A l.length c ∧ (l ≠ [] → ∃ (b : Nat) (cs : Array Value), A = some ⟨b, 0, none⟩ ∧ lo ≤ b ∧ b < hi ∧ w.heap[b]? = some (.cells cs 2 (0, 0)) ∧ l.length ≤ cs.size ∧ ∀ (j : Nat) (n : Int), l[j]? = some n → cs[j]? = some (.int .i64 n))
theorem OwI.below {lo hi B : Nat} {w w' : World} {v : Value} {l : List Int} (h : OwI lo hi w v l) (hb : Below B w w') (hB : hi ≤ B) : OwI lo hi w' v l := by
  obtain ⟨A, c, rfl, h⟩ := h
  refine ⟨A, c, rfl, fun hl => ?_⟩
  obtain ⟨b, cs, h1, h2, h3, h4, h5⟩ := h hl
  exact ⟨b, cs, h1, h2, h3, block_below hb h4 (by omega), h5⟩
theorem OwI.cells {lo hi : Nat} {w : World} {v : Value} {l : List Int} (h : OwI lo hi w v l) {j : Nat} {n : Int} (hj : l[j]? = some n) :
    ∃ b c, v = .slice (some ⟨b, 0, none⟩) l.length c ∧ lo ≤ b ∧ b < hi ∧ b < w.heap.size ∧ w.cell? ⟨b, j, none⟩ = some (.int .i64 n) ∧ w.frozen? ⟨b, j, none⟩ = false := by
  obtain ⟨A, c, rfl, h⟩ := h
  obtain ⟨b, cs, rfl, h2, h3, h4, h5, h6⟩ := h (by rintro rfl; simp at hj)
  exact ⟨b, c, rfl, h2, h3, block_lt h4, cell_block h4 (h6 j n hj), frozen_of_row _ _ _ _ _ h4⟩
set_option maxRecDepth 100000 in
theorem c_eqInt64S (lo hi lo' hi' : Nat) (v v' : Value) (l : List Int) (hlen : l.length ≤ 70368744177664) (w : World) (h : OwI lo hi w v l) (h' : OwI lo' hi' w v' l) (hh : hi ≤ w.heap.size) (hh' : hi' ≤ w.heap.size) :
    Calls Try.prog 10 #[v, v'] w fun e w' => e = .returned (.bool true) ∧ Below w.heap.size w w' := by
  have HA := hid h
  have HA' := hid h'
  obtain ⟨A, c, rfl, h0⟩ := h
  obtain ⟨A', c', rfl, h0'⟩ := h'
  clear h0 h0'
  go_enter Try.func10, Try.ntmps10
  go_wp2_with fail
  go_loopw [5] (fun i wr => ∃ k : Nat, k ≤ l.length ∧ i = .int .i64 k ∧ Hid (Below w.heap.size w wr)) (fun i _ => l.length - (intOf i).toNat)
  case atStart => exact ⟨0, by omega, rfl, Below.refl _ _⟩
  case round =>
    obtain ⟨k, hk, rfl, hb⟩ := hrel
    by_cases hkl : k < l.length
    · have hd : decide ((k : Int) < (l.length : Int)) = true := decide_eq_true (by omega)
      have hkI : (k : Int) < (l.length : Int) := by omega
      have hk0 : (0 : Int) ≤ (k : Int) := by omega
      have hp := List.getElem?_eq_getElem hkl
      obtain ⟨p, hpp⟩ : ∃ p, p = l[k] := ⟨_, rfl⟩
      rw [← hpp] at hp
      obtain ⟨b, c1, e1, _, _, q1, q2, _⟩ := (HA.out.below hb.out hh).cells hp
      obtain ⟨b', c1', e1', _, _, q1', q2', _⟩ := (HA'.out.below hb.out hh').cells hp
      obtain ⟨rfl, rfl⟩ : A = some ⟨b, 0, none⟩ ∧ c = c1 := by simpa using e1
      obtain ⟨rfl, rfl⟩ : A' = some ⟨b', 0, none⟩ ∧ c' = c1' := by simpa using e1'
      have hne : (p != p) = false := by simp
      clear hp hpp e1 e1'
      go_wp2_with fail
      refine wp_region_ext wr.heap.size (by kernel_rfl) (by kernel_rfl) ?_
      repeat (go_big_quiet_step (fail))
      refine wpQuiet_nil ?_
      intro x
      go_wp2_with fail
      exact ⟨⟨k + 1, by omega, by go_num, hb.out.trans (x.below.mono hb.out.size)⟩, by simp [intOf]; omega⟩
    · obtain rfl : k = l.length := by omega
      have hd : decide ((l.length : Int) < (l.length : Int)) = false := decide_eq_false (by omega)
      go_wp2_with fail
      go_ret
      exact ⟨rfl, hb.out⟩
/-- One number of such a slice, replaced. -/
theorem OwI.put {lo hi : Nat} {w : World} {b c : Nat} {l : List Int} (h : OwI lo hi w (.slice (some ⟨b, 0, none⟩) l.length c) l) {k : Nat} (hk : k < l.length) (x : Int) :
    OwI lo hi (w.setCell ⟨b, k, none⟩ (.int .i64 x)) (.slice (some ⟨b, 0, none⟩) l.length c) (l.set k x) := by
  obtain ⟨A, c', e, h⟩ := h
  have hne : l ≠ [] := by rintro rfl; simp at hk
  obtain ⟨b', cs, rfl, h2, h3, h4, h5, h6⟩ := h hne
  have e1 := (Value.slice.inj e).1
  obtain rfl : b = b' := by simpa using e1
  have g1 := heap_setCell_same w b k cs _ (.int .i64 x) h4
  refine ⟨_, c, by simp, fun _ => ⟨b, _, rfl, h2, h3, g1, by simp; omega, fun j n hj => ?_⟩⟩
  rw [List.getElem?_set] at hj
  by_cases hjk : k = j
  · subst hjk
    rw [if_pos rfl, if_pos hk] at hj
    obtain rfl := Option.some.inj hj
    rw [Array.getElem?_setIfInBounds, if_pos rfl, if_pos (by omega)]
  · rw [if_neg hjk] at hj
    rw [Array.getElem?_setIfInBounds_ne hjk]
    exact h6 j n hj
/-- The numbers l, those below k marked from m on. -/
def mkI (l : List Int) (m : Int) (k : Nat) : List Int := (List.range l.length).map fun j => if j < k then m + j else l.getD j 0
theorem mkI_len (l : List Int) (m : Int) (k : Nat) : (mkI l m k).length = l.length := by simp [mkI]
theorem mkI_get (l : List Int) (m : Int) (k j : Nat) : (mkI l m k)[j]? = if j < l.length then some (if j < k then m + j else l.getD j 0) else none := by
  unfold mkI
  rw [List.getElem?_map]
  by_cases hj : j < l.length
  · rw [List.getElem?_range hj, if_pos hj]; rfl
  · rw [List.getElem?_eq_none (by simp; omega), if_neg hj]; rfl
theorem mkI_zero (l : List Int) (m : Int) : mkI l m 0 = l := by
  apply List.ext_getElem?
  intro j
  rw [mkI_get]
  by_cases hj : j < l.length
  · rw [if_pos hj, if_neg (by omega), List.getD_eq_getElem?_getD, List.getElem?_eq_getElem hj]; rfl
  · rw [if_neg hj, List.getElem?_eq_none (by omega)]
theorem mkI_step (l : List Int) (m : Int) (k : Nat) (hk : k < l.length) : (mkI l m k).set k (m + k) = mkI l m (k + 1) := by
  apply List.ext_getElem?
  intro j
  rw [List.getElem?_set, mkI_get, mkI_get, mkI_len]
  by_cases hj : j < l.length
  · rw [if_pos hj, if_pos hj]
    by_cases hjk : k = j
    · subst hjk; rw [if_pos rfl, if_pos hk, if_pos (by omega)]
    · rw [if_neg hjk]
      by_cases h2 : j < k
      · rw [if_pos h2, if_pos (by omega)]
      · rw [if_neg h2, if_neg (by omega)]
  · rw [if_neg hj, if_neg hj]
    by_cases hjk : k = j
    · omega
    · rw [if_neg hjk]
set_option maxRecDepth 100000 in
theorem c_markInt64S (lo hi : Nat) (v : Value) (l : List Int) (m : Int) (hm : 0 ≤ m ∧ m ≤ 1000000) (hlen : l.length ≤ 10000000) (w : World) (h : OwI lo hi w v l) (hh : hi ≤ w.heap.size) (hlo : lo ≤ w.heap.size) :
    Calls Try.prog 13 #[v, .int .i64 m] w fun e w' => e = .returned (.int .i64 (m + l.length)) ∧ Below lo w w' ∧ OwI lo hi w' v (mkI l m l.length) := by
  have h0 := h
  obtain ⟨A, c, rfl, _⟩ := h
  go_enter Try.func13, Try.ntmps13
  go_wp2_with fail
  go_loopw [1, 5] (fun q i wr => ∃ k : Nat, k ≤ l.length ∧ i = .int .i64 k ∧ q = .int .i64 (m + k) ∧ Hid (Below lo w wr) ∧ Hid (OwI lo hi wr (.slice A l.length c) (mkI l m k))) (fun _ i _ => l.length - (intOf i).toNat)
  case atStart => exact ⟨0, by omega, rfl, by simp, Below.refl _ _, by rw [mkI_zero]; exact h0⟩
  case round =>
    obtain ⟨k, hk, rfl, rfl, hb, hO⟩ := hrel
    by_cases hkl : k < l.length
    · have hd : decide ((k : Int) < (l.length : Int)) = true := decide_eq_true (by omega)
      have hkI : (k : Int) < (l.length : Int) := by omega
      have hk0 : (0 : Int) ≤ (k : Int) := by omega
      have hkl' : k < (mkI l m k).length := by rw [mkI_len]; exact hkl
      have hp := List.getElem?_eq_getElem hkl'
      obtain ⟨p, hpp⟩ : ∃ p, p = (mkI l m k)[k] := ⟨_, rfl⟩
      rw [← hpp] at hp
      obtain ⟨b, c1, e1, r1, _, q1, q2, f2⟩ := hO.out.cells hp
      obtain ⟨rfl, _, rfl⟩ : A = some ⟨b, 0, none⟩ ∧ l.length = (mkI l m k).length ∧ c = c1 := by simpa using e1
      have HP : Hid (OwI lo hi (wr.setCell ⟨b, k, none⟩ (.int .i64 (m + k))) (.slice (some ⟨b, 0, none⟩) l.length c) (mkI l m (k + 1))) := by
        have := hO.out
        rw [← mkI_len l m k] at this
        have := OwI.put this hkl' (m + k)
        rw [mkI_step l m k hkl, mkI_len] at this
        exact this
      clear hp hpp e1 h0 hkl'
      go_wp2_with fail
      exact ⟨⟨k + 1, by omega, by go_num, congrArg (Value.int .i64) (by omega), Below.setCell hb.out (p := ⟨b, k, none⟩) r1 _, HP.out⟩, by simp [intOf]; omega⟩
    · obtain rfl : k = l.length := by omega
      have hd : decide ((l.length : Int) < (l.length : Int)) = false := decide_eq_false (by omega)
      go_wp2_with fail
      go_ret
      exact ⟨rfl, hb.out, hO.out⟩
set_option maxRecDepth 100000 in
theorem c_heldInt64S (lo hi : Nat) (v : Value) (l : List Int) (m : Int) (hm : 0 ≤ m ∧ m ≤ 1000000) (hlen : l.length ≤ 10000000) (w : World) (h : OwI lo hi w v (mkI l m l.length)) :
    Calls Try.prog 14 #[v, .int .i64 m] w fun e w' => e = .returned (.int .i64 (m + l.length)) ∧ Below w.heap.size w w' := by
  have h0 := hid h
  obtain ⟨A, c, rfl, _⟩ := h
  rw [mkI_len] at h0 ⊢
  go_enter Try.func14, Try.ntmps14
  go_wp2_with fail
  go_loop [1, 5] (fun q i => ∃ k : Nat, k ≤ l.length ∧ i = .int .i64 k ∧ q = .int .i64 (m + k)) (fun _ i => l.length - (intOf i).toNat)
  case atStart => exact ⟨0, by omega, rfl, by simp⟩
  case round =>
    obtain ⟨k, hk, rfl, rfl⟩ := hrel
    by_cases hkl : k < l.length
    · have hd : decide ((k : Int) < (l.length : Int)) = true := decide_eq_true (by omega)
      have hkI : (k : Int) < (l.length : Int) := by omega
      have hk0 : (0 : Int) ≤ (k : Int) := by omega
      have hp : (mkI l m l.length)[k]? = some (m + k) := by rw [mkI_get, if_pos hkl, if_pos hkl]
      obtain ⟨b, c1, e1, r1, _, q1, q2, _⟩ := h0.out.cells hp
      obtain ⟨rfl, _⟩ : A = some ⟨b, 0, none⟩ ∧ c = c1 := by simpa [mkI_len] using e1
      have hne : (m + (k : Int) != m + (k : Int)) = false := by simp
      clear hp e1
      go_wp2_with fail
      exact ⟨⟨k + 1, by omega, by go_num, congrArg (Value.int .i64) (by omega)⟩, by simp [intOf]; omega⟩
    · obtain rfl : k = l.length := by omega
      have hd : decide ((l.length : Int) < (l.length : Int)) = false := decide_eq_false (by omega)
      go_wp2_with fail
      go_ret
      exact ⟨rfl, Below.refl _ _⟩
theorem OwI.of_owns {w : World} {base : Nat} {v : Value} {l : List Int} (h : w.ownsRow base 2 1 v l.length (icells l)) : OwI base w.heap.size w v l := by
  rcases h.2 with ⟨rfl, hn⟩ | ⟨g, cap, cur, rfl, hb, hg, hc, hm, hs, ht⟩
  · exact ⟨none, 0, by rw [hn], fun hl => absurd (List.eq_nil_of_length_eq_zero hn) hl⟩
  · refine ⟨_, cap, rfl, fun _ => ⟨g, cur, rfl, hb, block_lt hg, hg, by rw [hs]; omega, fun j n hj => ?_⟩⟩
    have hjl := (List.getElem?_eq_some_iff.1 hj).1
    have hp : (icells l)[j]? = some (.int .i64 n) := by unfold icells; rw [List.getElem?_map, hj]; rfl
    rw [← ht, List.getElem?_take, if_pos (by omega)] at hp
    simpa using hp
theorem owns_slice' {w : World} {base : Nat} {T : TypeId} {s n : Nat} {v : Value} {xs : List Value} (h : w.ownsRow base T s v n xs) : ∃ A c, v = .slice A n c := by
  rcases h.2 with ⟨rfl, rfl⟩ | ⟨g, cap, cur, rfl, _⟩
  · exact ⟨none, 0, rfl⟩
  · exact ⟨_, _, rfl⟩
/-- A result of two: a slice of numbers and a code. -/
def RetI (w : World) (l : List Int) (k : Int) (e : Ending) (w' : World) : Prop := ∃ v, e = .returned (.tuple #[v, .int .i64 k]) ∧ Below w.heap.size w w' ∧ w'.ownsRow w.heap.size 2 1 v l.length (icells l)
/-- A slice of numbers whose array lies in the blocks lo .. hi, all of them laid. -/
def OwJ (lo hi : Nat) (w : World) (v : Value) (l : List Int) : Prop := OwI lo hi w v l ∧ lo ≤ hi ∧ hi ≤ w.heap.size
theorem OwJ.below {lo hi : Nat} {w w' : World} {v : Value} {l : List Int} (h : OwJ lo hi w v l) (hb : Below w.heap.size w w') : OwJ lo hi w' v l := ⟨h.1.below hb h.2.2, h.2.1, Nat.le_trans h.2.2 hb.size⟩
theorem OwJ.below' {lo hi B : Nat} {w w' : World} {v : Value} {l : List Int} (h : OwJ lo hi w v l) (hb : Below B w w') (hB : hi ≤ B) (hs : w.heap.size ≤ w'.heap.size) : OwJ lo hi w' v l := ⟨h.1.below hb hB, h.2.1, Nat.le_trans h.2.2 hs⟩
theorem OwJ.of {w w' : World} {v : Value} {l : List Int} (h : w'.ownsRow w.heap.size 2 1 v l.length (icells l)) (hb : Below w.heap.size w w') : OwJ w.heap.size w'.heap.size w' v l := ⟨OwI.of_owns h, hb.size, Nat.le_refl _⟩
theorem q_eqInt64S {lo hi lo' hi' : Nat} {v v' : Value} {l : List Int} (hlen : l.length ≤ 1000000) {w : World} (h : OwJ lo hi w v l) (h' : OwJ lo' hi' w v' l) :
    Calls Try.prog 10 #[v, v'] w fun e w' => e = .returned (.bool true) ∧ Below w.heap.size w w' :=
  c_eqInt64S lo hi lo' hi' v v' l (Nat.le_trans hlen (by decide)) w h.1 h'.1 h.2.2 h'.2.2
theorem q_markInt64S {lo hi : Nat} {v : Value} {l : List Int} (hlen : l.length ≤ 1000000) {w : World} (h : OwJ lo hi w v l) :
    Calls Try.prog 13 #[v, .int .i64 1] w fun e w' => e = .returned (.int .i64 (1 + l.length)) ∧ Below lo w w' ∧ OwJ lo hi w' v (mkI l 1 l.length) :=
  (c_markInt64S lo hi v l 1 (by decide) (Nat.le_trans hlen (by decide)) w h.1 h.2.2 (Nat.le_trans h.2.1 h.2.2)).mono fun _ _ ⟨he, hb, ho⟩ => ⟨he, hb, ho, h.2.1, Nat.le_trans h.2.2 hb.size⟩
theorem q_heldInt64S {lo hi : Nat} {v : Value} {l : List Int} (hlen : l.length ≤ 1000000) {w : World} (h : OwJ lo hi w v (mkI l 1 l.length)) :
    Calls Try.prog 14 #[v, .int .i64 1] w fun e w' => e = .returned (.int .i64 (1 + l.length)) ∧ Below w.heap.size w w' :=
  c_heldInt64S lo hi v l 1 (by decide) (Nat.le_trans hlen (by decide)) w h.1
/-- What a call out of a world above W has left: a slice of numbers and a code. -/
def WildI (B : Nat) (W : World) (l : List Int) (k : Int) (u : Value) (w' : World) : Prop := ∃ (x : Ext B W) (A : Option Addr) (c : Nat), u = .tuple #[.slice A l.length c, .int .i64 k] ∧ Below x.out.heap.size x.out w' ∧ OwJ x.out.heap.size w'.heap.size w' (.slice A l.length c) l
theorem WildI.of {B : Nat} {W : World} {x : Ext B W} {P : Program} {f : FuncId} {args : Array Value} {l : List Int} {k : Int} (h : Calls P f args x.out (RetI x.out l k)) : Calls P f args x.out fun e w' => ∃ u, e = .returned u ∧ WildI B W l k u w' :=
  h.mono fun e w' ⟨v, he, hb, ho⟩ => by
    obtain ⟨A, c, rfl⟩ := owns_slice' ho
    exact ⟨_, he, x, A, c, rfl, hb, OwJ.of ho hb⟩
theorem Try.infoI64 : (Try.prog.info? 2).map (fun i => (i.zero, i.size, i.bytes)) = some (some (.int .i64 0), 1, 8) := by kernel_rfl
end Go.Proofs.Ytpmadamaefbamaa

/- each over numbers: the program's, at a function value. -/
namespace Go.Proofs.Ytpmadamaefbamaa
open Go.RowKit
set_option linter.unusedSimpArgs false
set_option linter.unusedVariables false

theorem owns_below' {w w' : World} {base : Nat} {e : TypeId} {size : Nat} {v : Value} {n : Nat} {xs : List Value} (h : w.ownsRow base e size v n xs) (hb : Below w.heap.size w w') : w'.ownsRow base e size v n xs :=
  h.kept (row := none) ⟨hb.os, hb.tape, hb.output, hb.size, fun k hk _ => hb.block k hk⟩ (Classical.em _)
theorem cell_one_new' (W : World) (v : Value) (T : TypeId) : ∀ j u, [v][j]? = some u → (W.alloc (.cells #[v] T)).cell? ((⟨W.heap.size, 0, none⟩ : Addr).add j) = some u := fun j u hj => by
  match j, hj with
  | 0, hj =>
    obtain rfl : v = u := by simpa using hj
    have : (⟨W.heap.size, 0, none⟩ : Addr).add 0 = ⟨W.heap.size, 0, none⟩ := by simp [Addr.add]
    rw [this]; exact cell_block (block_new1 W _ rfl) rfl
/-- A function value that turns numbers into numbers, in all worlds above a world. -/
def TurnsI (g : Nat) (fst cap : Array Value) (f : Int → Int) (l : List Int) (w : World) : Prop :=
  ∀ (W : World) (n : Int), n ∈ l → Below w.heap.size w W → Calls Try.prog g (fst ++ #[.int .i64 n] ++ cap) W fun e w' => e = .returned (.int .i64 (f n)) ∧ Below W.heap.size W w'
end Go.Proofs.Ytpmadamaefbamaa

/- each over spans: the program's, at a function value. -/
namespace Go.Proofs.Ytpmadamaefbamaa
open Go.RowKit
set_option linter.unusedSimpArgs false
set_option linter.unusedVariables false

theorem cell_two_new' (W : World) (a b : Value) (T : TypeId) : ∀ j u, [a, b][j]? = some u → (W.alloc (.cells #[a, b] T)).cell? ((⟨W.heap.size, 0, none⟩ : Addr).add j) = some u := fun j u hj => by
  match j, hj with
  | 0, hj =>
    obtain rfl : a = u := by simpa using hj
    have : (⟨W.heap.size, 0, none⟩ : Addr).add 0 = ⟨W.heap.size, 0, none⟩ := by simp [Addr.add]
    rw [this]; exact cell_block (block_new1 W _ rfl) rfl
  | 1, hj =>
    obtain rfl : b = u := by simpa using hj
    have : (⟨W.heap.size, 0, none⟩ : Addr).add 1 = ⟨W.heap.size, 1, none⟩ := by simp [Addr.add]
    rw [this]; exact cell_block (block_new1 W _ rfl) rfl
/-- A function value that turns the spans of a list, in all worlds above a world. -/
def TurnsSI (g : Nat) (fst cap : Array Value) (f : Int × Int → Int) (l : List (Int × Int)) (w : World) : Prop :=
  ∀ (W : World) (p : Int × Int), p ∈ l → Below w.heap.size w W → Calls Try.prog g (fst ++ #[.agg #[.int .i16 p.1, .int .i16 p.2]] ++ cap) W fun e w' => e = .returned (.int .i64 (f p)) ∧ Below W.heap.size W w'
/-- A function value that turns the spans of a list, in all worlds above a world. -/
def TurnsSS (g : Nat) (fst cap : Array Value) (f : Int × Int → Int × Int) (l : List (Int × Int)) (w : World) : Prop :=
  ∀ (W : World) (p : Int × Int), p ∈ l → Below w.heap.size w W → Calls Try.prog g (fst ++ #[.agg #[.int .i16 p.1, .int .i16 p.2]] ++ cap) W fun e w' => e = .returned (.agg #[.int .i16 (f p).1, .int .i16 (f p).2]) ∧ Below W.heap.size W w'
end Go.Proofs.Ytpmadamaefbamaa

/- areAll over spans, at a function value. -/
namespace Go.Proofs.Ytpmadamaefbamaa
open Go.RowKit
set_option linter.unusedSimpArgs false
set_option linter.unusedVariables false

/-- A function value that tells of the spans of a list, in all worlds above a world. -/
def TellsS (g : Nat) (fst cap : Array Value) (f : Int × Int → Bool) (l : List (Int × Int)) (w : World) : Prop :=
  ∀ (W : World) (p : Int × Int), p ∈ l → Below w.heap.size w W → Calls Try.prog g (fst ++ #[.agg #[.int .i16 p.1, .int .i16 p.2]] ++ cap) W fun e w' => e = .returned (.bool (f p)) ∧ Below W.heap.size W w'
end Go.Proofs.Ytpmadamaefbamaa

/- Valid shapes: the program's and the reference's. -/
namespace Go.Proofs.Ytpmadamaefbamaa
open Go.RowKit
set_option linter.unusedSimpArgs false
set_option linter.unusedVariables false

def spOk (p : Int × Int) : Bool := decide (0 ≤ p.1) && (decide (p.1 < p.2) && decide (p.2 ≤ 200))
def shOk (s : Int) (l : List (Int × Int)) : Bool := decide (s ≤ 1) && (inB l.length 1 12 && l.all spOk)
/-- The numbers of spans are of their kinds. -/
def SpB (l : List (Int × Int)) : Prop := ∀ p ∈ l, (-32768 ≤ p.1 ∧ p.1 ≤ 32767) ∧ (-32768 ≤ p.2 ∧ p.2 ≤ 32767)
end Go.Proofs.Ytpmadamaefbamaa

/- Units of a shape: the program's and the reference's. -/
namespace Go.Proofs.Ytpmadamaefbamaa
open Go.RowKit
set_option linter.unusedSimpArgs false
set_option linter.unusedVariables false

theorem sli_own {w : World} {base : Nat} {v : Value} {l : List Int} (h : w.ownsRow base 2 1 v l.length (icells l)) : ∃ A c, v = .slice A l.length c ∧ SlI w A l := by
  obtain ⟨A, c, rfl⟩ := owns_slice' h
  refine ⟨A, c, rfl, fun j n hj => ?_⟩
  obtain ⟨b, c', e, _, _, h1, h2, _⟩ := (OwI.of_owns h).cells hj
  obtain ⟨rfl, _⟩ : A = some ⟨b, 0, none⟩ ∧ c = c' := by simpa using e
  exact ⟨b, 0, rfl, h1, by rw [Nat.zero_add]; exact h2⟩
theorem sum_le (l : List Int) (M : Int) (hM : 0 ≤ M) (h : ∀ n ∈ l, 0 ≤ n ∧ n ≤ M) : 0 ≤ l.sum ∧ l.sum ≤ M * l.length := by
  induction l with
  | nil => simp
  | cons a l ih =>
    have h1 := ih fun n hn => h n (List.mem_cons_of_mem _ hn)
    have h2 := h a List.mem_cons_self
    rw [List.sum_cons, List.length_cons, Int.natCast_succ, Int.mul_add, Int.mul_one]
    omega
theorem sum_take_succ (l : List Int) (k : Nat) (hk : k < l.length) : (l.take (k + 1)).sum = (l.take k).sum + l[k] := by
  rw [List.take_succ_eq_append_getElem hk, List.sum_append]; simp
def unitsL (l : List (Int × Int)) : Int := (l.map fun p => p.2 - p.1).sum
theorem spOk_iff (p : Int × Int) : spOk p = true ↔ 0 ≤ p.1 ∧ p.1 < p.2 ∧ p.2 ≤ 200 := by simp [spOk]
theorem shOk_all {s : Int} {l : List (Int × Int)} (h : shOk s l = true) : (∀ p ∈ l, 0 ≤ p.1 ∧ p.1 < p.2 ∧ p.2 ≤ 200) ∧ 1 ≤ l.length ∧ l.length ≤ 12 ∧ s ≤ 1 := by
  unfold shOk at h
  simp only [Bool.and_eq_true, decide_eq_true_eq] at h
  refine ⟨fun p hp => (spOk_iff p).1 (List.all_eq_true.1 h.2.2 p hp), ?_⟩
  have := inB_iff.1 h.2.1
  omega
/-- A result of two numbers. -/
def Ret2 (w : World) (n k : Int) (e : Ending) (w' : World) : Prop := e = .returned (.tuple #[.int .i64 n, .int .i64 k]) ∧ Below w.heap.size w w'
def unitsN (s : Int) (l : List (Int × Int)) : Int := if shOk s l = true then unitsL l else 0
def unitsC (s : Int) (l : List (Int × Int)) : Int := if shOk s l = true then 0 else 1
end Go.Proofs.Ytpmadamaefbamaa

/- The pieces of a course and how many tiles are laid whole: the program's and the reference's. -/
namespace Go.Proofs.Ytpmadamaefbamaa
open Go.RowKit
set_option linter.unusedSimpArgs false
set_option linter.unusedVariables false

/-- The piece that a tile from b on is cut to, if it is cut. -/
def pieceAt (L R b : Int) : Option (Int × Int) := if b + 8 ≤ L then none else if L ≤ b ∧ b + 8 ≤ R then none else if b < L ∧ ¬ b + 8 ≤ R then some (2, R - L) else if b < L then some (1, b + 8 - L) else some (0, R - b)
def wholeAt (L R b : Int) : Bool := decide (L ≤ b ∧ b + 8 ≤ R)
theorem pieceAt_none {L R b : Int} (h1 : b + 8 ≤ L) : pieceAt L R b = none := by unfold pieceAt; rw [if_pos h1]
theorem pieceAt_whole {L R b : Int} (h2 : L ≤ b) (h3 : b + 8 ≤ R) : pieceAt L R b = none := by unfold pieceAt; rw [if_neg (by omega), if_pos ⟨h2, h3⟩]
theorem pieceAt_left {L R b : Int} (h1 : ¬ b + 8 ≤ L) (h2 : L ≤ b) (h3 : ¬ b + 8 ≤ R) : pieceAt L R b = some (0, R - b) := by unfold pieceAt; rw [if_neg h1, if_neg (by omega), if_neg (by omega), if_neg (by omega)]
theorem pieceAt_mid {L R b : Int} (h1 : ¬ b + 8 ≤ L) (h2 : ¬ L ≤ b) (h3 : ¬ b + 8 ≤ R) : pieceAt L R b = some (2, R - L) := by unfold pieceAt; rw [if_neg h1, if_neg (by omega), if_pos ⟨by omega, h3⟩]
theorem pieceAt_right {L R b : Int} (h1 : ¬ b + 8 ≤ L) (h2 : ¬ L ≤ b) (h3 : b + 8 ≤ R) : pieceAt L R b = some (1, b + 8 - L) := by unfold pieceAt; rw [if_neg h1, if_neg (by omega), if_neg (by omega), if_pos (by omega)]
theorem wholeAt_no1 {L R b : Int} (h : b + 8 ≤ L) : wholeAt L R b = false := decide_eq_false (by omega)
theorem wholeAt_no2 {L R b : Int} (h : ¬ L ≤ b) : wholeAt L R b = false := decide_eq_false (by omega)
theorem wholeAt_no3 {L R b : Int} (h : ¬ b + 8 ≤ R) : wholeAt L R b = false := decide_eq_false (by omega)
theorem wholeAt_yes {L R b : Int} (h2 : L ≤ b) (h3 : b + 8 ≤ R) : wholeAt L R b = true := decide_eq_true ⟨h2, h3⟩
/-- The pieces of the first k tiles, and how many of these are whole; the first one begins at B - 8. -/
def laidP (L R B : Int) (k : Nat) : List (Int × Int) := (List.range k).filterMap fun i : Nat => pieceAt L R (B - 8 + 8 * (i : Int))
def laidW (L R B : Int) (k : Nat) : Int := (((List.range k).filter fun i : Nat => wholeAt L R (B - 8 + 8 * (i : Int))).length : Int)
/-- How many tiles there are. -/
def laidN (R B : Int) : Nat := ((R - B + 15) / 8).toNat
theorem laidN_lt {R B : Int} (hB : 0 ≤ B ∧ B ≤ 4) (hR : 0 < R) (k : Nat) : k < laidN R B ↔ B - 8 + 8 * (k : Int) < R := by unfold laidN; omega
theorem laidP_none (L R B : Int) (k : Nat) (h : pieceAt L R (B - 8 + 8 * (k : Int)) = none) : laidP L R B (k + 1) = laidP L R B k := by
  unfold laidP; rw [List.range_succ, List.filterMap_append]; simp [h]
theorem laidP_some (L R B : Int) (k : Nat) (p : Int × Int) (h : pieceAt L R (B - 8 + 8 * (k : Int)) = some p) : laidP L R B (k + 1) = laidP L R B k ++ [p] := by
  unfold laidP; rw [List.range_succ, List.filterMap_append]; simp [h]
theorem laidW_no (L R B : Int) (k : Nat) (h : wholeAt L R (B - 8 + 8 * (k : Int)) = false) : laidW L R B (k + 1) = laidW L R B k := by
  unfold laidW; rw [List.range_succ, List.filter_append]; simp [h]
theorem laidW_yes (L R B : Int) (k : Nat) (h : wholeAt L R (B - 8 + 8 * (k : Int)) = true) : laidW L R B (k + 1) = laidW L R B k + 1 := by
  unfold laidW; rw [List.range_succ, List.filter_append]; simp [h]
theorem laidP_len (L R B : Int) (k : Nat) : (laidP L R B k).length ≤ k := by
  unfold laidP; exact Nat.le_trans (List.length_filterMap_le _ _) (by simp)
theorem laidW_le (L R B : Int) (k : Nat) : 0 ≤ laidW L R B k ∧ laidW L R B k ≤ k := by
  unfold laidW
  have := List.length_filter_le (fun i : Nat => wholeAt L R (B - 8 + 8 * (i : Int))) (List.range k)
  rw [List.length_range] at this
  omega
theorem Try.infoPiece : (Try.prog.info? 50).map (fun i => (i.zero, i.size, i.bytes)) = some (some (.agg #[.int .i8 0, .int .i8 0]), 2, 2) := by kernel_rfl
/-- Where the first tile of a course begins, and 8 more. -/
def beginB (s course : Int) : Int := (course + s) % 2 * 4
theorem beginB_04 (s course : Int) : 0 ≤ beginB s course ∧ beginB s course ≤ 4 := by unfold beginB; omega
end Go.Proofs.Ytpmadamaefbamaa

/- How many tiles of a shape are laid whole: the program's and the reference's. -/
namespace Go.Proofs.Ytpmadamaefbamaa
open Go.RowKit
set_option linter.unusedSimpArgs false
set_option linter.unusedVariables false

theorem Try.infoInt : (Try.prog.info? 3).map (fun i => (i.zero, i.size, i.bytes)) = some (some (.int .i64 0), 1, 8) := by kernel_rfl
/-- The numbers below n. -/
def upL (n : Nat) : List Int := (List.range n).map fun i : Nat => (i : Int)
theorem upL_len (n : Nat) : (upL n).length = n := by simp [upL]
theorem upL_succ (n : Nat) : upL (n + 1) = upL n ++ [(n : Int)] := by simp [upL, List.range_succ]
theorem sli_ownI {w : World} {base : Nat} {v : Value} {l : List Int} (h : w.ownsRow base 3 1 v l.length (icells l)) : ∃ A c, v = .slice A l.length c ∧ SlI w A l := by
  rcases h.2 with ⟨rfl, hn⟩ | ⟨g, cap, cur, rfl, hb, hg, hc, hm, hs, ht⟩
  · exact ⟨none, 0, by rw [hn], fun j n hj => by have := List.eq_nil_of_length_eq_zero hn; subst this; simp at hj⟩
  · refine ⟨_, cap, rfl, fun j n hj => ⟨g, 0, rfl, block_lt hg, ?_⟩⟩
    have hjl := (List.getElem?_eq_some_iff.1 hj).1
    have hp : (icells l)[j]? = some (.int .i64 n) := by unfold icells; rw [List.getElem?_map, hj]; rfl
    rw [← ht, List.getElem?_take, if_pos (by omega)] at hp
    rw [Nat.zero_add]
    exact cell_block hg (by simpa using hp)
set_option maxHeartbeats 800000 in
set_option maxRecDepth 100000 in
theorem c_upTo (n : Nat) (hn : n ≤ 1000000) (w : World) :
    Calls Try.prog 53 #[.int .i64 n] w fun e w' => ∃ v, e = .returned v ∧ Below w.heap.size w w' ∧ w'.ownsRow w.heap.size 3 1 v (upL n).length (icells (upL n)) := by
  obtain ⟨i0, hi, hz0, hz1, hz2⟩ := info_parts Try.infoInt
  go_enter Try.func53, Try.ntmps53
  go_wp2_with fail
  go_loopw [3, 6] (fun v i wr => ∃ k : Nat, k ≤ n ∧ i = .int .i64 k ∧ Hid (Below w.heap.size w wr) ∧ Hid (wr.ownsRow w.heap.size 3 1 v (upL k).length (icells (upL k)))) (fun _ i _ => n - (intOf i).toNat)
  case atStart => exact ⟨0, by omega, rfl, Below.refl _ _, World.ownsRow_nil _ _ _ _⟩
  case round =>
    obtain ⟨k, hk, rfl, hb, hO⟩ := hrel
    by_cases hkl : k < n
    · have hd : decide ((k : Int) < (n : Int)) = true := decide_eq_true (by omega)
      have HLE : Hid ((upL k).length ≤ 1000000) := by rw [upL_len]; exact Nat.le_trans hk hn
      have HBS := hid hb.out.size
      have HY := hid (upL_succ k)
      go_wp2_with ((with_reducible refine gate (N := 12) rfl ?_); refine wpList_append_own _ rfl (.tmp 9) (.tmp 11) 70 rfl w.heap.size 3 i0 (.int .i64 0) 1 8 Try.underlying70 hi hz0 hz1 hz2 rfl (by decide) _ _ _ rfl (hO.out.alloc _) ⟨wr.heap.size, 0, none⟩ 1 1 [.int .i64 k] rfl rfl (cell_one_new' wr _ _) (by simp [Value.oneCell']) (Nat.le_trans (Nat.add_le_add_right HLE.out 1) (by decide)) (by have := HLE.out; omega) (Nat.le_trans HBS.out (by simp)) ?_; intro v' w3 hown3 hgrow _)
      refine ⟨⟨k + 1, by omega, by go_num, (hb.out.alloc HBS.out _).grown hgrow (by have := HBS.out; simp; omega) (fun k hk => (hO.out.lt k hk).1), ?_⟩, by simp [intOf]; omega⟩
      show World.ownsRow _ _ _ _ _ _ _
      rw [HY.out, List.length_append]
      unfold icells
      rw [List.map_append]; exact hown3
    · obtain rfl : k = n := by omega
      have hd : decide ((k : Int) < (k : Int)) = false := decide_eq_false (by omega)
      go_wp2_with fail
      go_ret
      exact ⟨_, rfl, hb.out, hO.out⟩
/-- How many tiles of course i are laid whole, and its pieces. -/
def courseW (s : Int) (l : List (Int × Int)) (i : Nat) : Int := laidW (l.getD i (0, 0)).1 (l.getD i (0, 0)).2 (beginB s i) (laidN (l.getD i (0, 0)).2 (beginB s i))
def courseP (s : Int) (l : List (Int × Int)) (i : Nat) : List (Int × Int) := laidP (l.getD i (0, 0)).1 (l.getD i (0, 0)).2 (beginB s i) (laidN (l.getD i (0, 0)).2 (beginB s i))
theorem getD_of {l : List (Int × Int)} {i : Nat} {p : Int × Int} (h : l[i]? = some p) : l.getD i (0, 0) = p := by rw [List.getD_eq_getElem?_getD, h]; rfl
theorem courseW_of {s : Int} {l : List (Int × Int)} {i : Nat} {L R : Int} (h : l[i]? = some (L, R)) : laidW L R (beginB s i) (laidN R (beginB s i)) = courseW s l i := by unfold courseW; rw [getD_of h]
theorem courseP_of {s : Int} {l : List (Int × Int)} {i : Nat} {L R : Int} (h : l[i]? = some (L, R)) : laidP L R (beginB s i) (laidN R (beginB s i)) = courseP s l i := by unfold courseP; rw [getD_of h]
theorem laidN_le {R B : Int} (hR : R ≤ 200) (hB : 0 ≤ B) : laidN R B ≤ 30 := by unfold laidN; omega
theorem courseW_b {s : Int} {l : List (Int × Int)} {i : Nat} (h : ∀ p ∈ l, 0 ≤ p.1 ∧ p.1 < p.2 ∧ p.2 ≤ 200) (hi : i < l.length) : 0 ≤ courseW s l i ∧ courseW s l i ≤ 30 := by
  have h1 := h _ (List.getElem_mem hi)
  have e : l.getD i (0, 0) = l[i] := getD_of (List.getElem?_eq_getElem hi)
  unfold courseW
  rw [e]
  have := laidW_le l[i].1 l[i].2 (beginB s i) (laidN l[i].2 (beginB s i))
  have := laidN_le h1.2.2 (beginB_04 s i).1
  omega
theorem courseW_bs (s : Int) {l : List (Int × Int)} (h : ∀ p ∈ l, 0 ≤ p.1 ∧ p.1 < p.2 ∧ p.2 ≤ 200) : ∀ n ∈ (upL l.length).map (fun n => courseW s l n.toNat), 0 ≤ n ∧ n ≤ 1000000 := by
  intro n hn
  obtain ⟨p, hp, hpn⟩ := List.mem_map.1 hn
  obtain ⟨i, hi, hpi⟩ := List.mem_map.1 hp
  subst hpi
  rw [Int.toNat_natCast] at hpn
  have h1 := courseW_b (s := s) h (List.mem_range.1 hi)
  rw [hpn] at h1
  omega
def courseWs (s : Int) (l : List (Int × Int)) : List Int := (upL l.length).map fun n => courseW s l n.toNat
theorem courseWs_len (s : Int) (l : List (Int × Int)) : (courseWs s l).length = l.length := by unfold courseWs; rw [List.length_map, upL_len]
def wholeL (s : Int) (l : List (Int × Int)) : Int := (courseWs s l).sum
/-- What 'laid' returns of a course that is there. -/
def RetLaid (w : World) (s : Int) (l : List (Int × Int)) (i : Nat) (e : Ending) (w' : World) : Prop := ∃ v, e = .returned (.tuple #[.int .i64 (courseW s l i), v]) ∧ Below w.heap.size w w' ∧ w'.ownsRow w.heap.size 50 2 v (courseP s l i).length (ccells (courseP s l i))
def wholeN (s : Int) (l : List (Int × Int)) : Int := if shOk s l = true then wholeL s l else 0
theorem wholeK (s : Int) (l : List (Int × Int)) (k : Nat) (hk : k < l.length) : ((courseWs s l).take (k + 1)).sum = ((courseWs s l).take k).sum + courseW s l k := by
  rw [sum_take_succ _ k (by rw [courseWs_len]; exact hk)]
  congr 1
  simp [courseWs, upL]
theorem wholeK_b (s : Int) (l : List (Int × Int)) (hB : ∀ p ∈ l, 0 ≤ p.1 ∧ p.1 < p.2 ∧ p.2 ≤ 200) (k : Nat) : 0 ≤ ((courseWs s l).take k).sum ∧ ((courseWs s l).take k).sum ≤ 1000000 * k := by
  have h := sum_le ((courseWs s l).take k) 1000000 (by decide) fun n hn => courseW_bs s hB n (List.mem_of_mem_take hn)
  have h2 : ((courseWs s l).take k).length ≤ k := by rw [List.length_take]; omega
  omega
end Go.Proofs.Ytpmadamaefbamaa

/- The indices of pieces, from the widest one on: plain. -/
namespace Go.Proofs.Ytpmadamaefbamaa
set_option linter.unusedSimpArgs false
set_option linter.unusedVariables false

def wdL (l : List (Int × Int)) (i : Int) : Int := (l.getD i.toNat (0, 0)).2
def haL (l : List (Int × Int)) (i : Int) : Int := (l.getD i.toNat (0, 0)).1
theorem wdL_get {l : List (Int × Int)} {k : Nat} {p : Int × Int} (h : l[k]? = some p) : wdL l k = p.2 := by
  unfold wdL
  rw [List.getD_eq_getElem?_getD, Int.toNat_natCast, h]; rfl
theorem haL_get {l : List (Int × Int)} {k : Nat} {p : Int × Int} (h : l[k]? = some p) : haL l k = p.1 := by
  unfold haL
  rw [List.getD_eq_getElem?_getD, Int.toNat_natCast, h]; rfl
def rkL (l : List (Int × Int)) (i : Int) : Int := (8 - wdL l i) * 1000 + i
def filW (l : List (Int × Int)) (k : Nat) : List Int := (upL l.length).filter fun i => decide (wdL l i = (k : Int))
def ordFrom (l : List (Int × Int)) : Nat → List Int
  | 0 => filW l 0
  | k + 1 => filW l (k + 1) ++ ordFrom l k
def ordL (l : List (Int × Int)) : List Int := ordFrom l 8
theorem mem_upL {n : Nat} {i : Int} : i ∈ upL n ↔ 0 ≤ i ∧ i < n := by
  unfold upL
  rw [List.mem_map]
  constructor
  · rintro ⟨k, hk, rfl⟩
    have := List.mem_range.1 hk
    omega
  · rintro ⟨h1, h2⟩
    exact ⟨i.toNat, List.mem_range.2 (by omega), by omega⟩
theorem upL_pair (n : Nat) : (upL n).Pairwise (· < ·) := by
  unfold upL
  rw [List.pairwise_map]
  exact List.pairwise_lt_range.imp fun h => by omega
theorem mem_filW {l : List (Int × Int)} {k : Nat} {i : Int} : i ∈ filW l k ↔ (0 ≤ i ∧ i < l.length) ∧ wdL l i = k := by
  unfold filW
  rw [List.mem_filter, mem_upL, decide_eq_true_iff]
theorem mem_ordFrom {l : List (Int × Int)} : ∀ {k : Nat} {i : Int}, i ∈ ordFrom l k ↔ (0 ≤ i ∧ i < l.length) ∧ (0 ≤ wdL l i ∧ wdL l i ≤ k)
  | 0, i => by
    unfold ordFrom
    rw [mem_filW]
    constructor
    · rintro ⟨h1, h2⟩; exact ⟨h1, by omega⟩
    · rintro ⟨h1, h2⟩; exact ⟨h1, by omega⟩
  | k + 1, i => by
    unfold ordFrom
    rw [List.mem_append, mem_filW, mem_ordFrom]
    constructor
    · rintro (⟨h1, h2⟩ | ⟨h1, h2⟩)
      · exact ⟨h1, by omega⟩
      · exact ⟨h1, by omega⟩
    · rintro ⟨h1, h2⟩
      by_cases h : wdL l i = ((k + 1 : Nat) : Int)
      · exact .inl ⟨h1, h⟩
      · exact .inr ⟨h1, by omega⟩
theorem rk_idx {l : List (Int × Int)} {x y : Int} (h : wdL l x = wdL l y) (hxy : x < y) : rkL l x < rkL l y := by unfold rkL; rw [h]; omega
theorem rk_wide {l : List (Int × Int)} {x y : Int} (h : wdL l y < wdL l x) (hx : 0 ≤ x ∧ x < 1000) (hy : 0 ≤ y ∧ y < 1000) : rkL l x < rkL l y := by unfold rkL; omega
theorem filW_pair (l : List (Int × Int)) (k : Nat) : (filW l k).Pairwise fun a b => rkL l a < rkL l b := by
  unfold filW
  have h := (upL_pair l.length).filter (fun i => decide (wdL l i = (k : Int)))
  refine h.imp_of_mem fun {a b} ha hb hab => rk_idx ?_ hab
  have h1 := of_decide_eq_true (List.mem_filter.1 ha).2
  have h2 := of_decide_eq_true (List.mem_filter.1 hb).2
  rw [h1, h2]
theorem ordFrom_pair (l : List (Int × Int)) (hn : l.length ≤ 1000) : ∀ k : Nat, (ordFrom l k).Pairwise fun a b => rkL l a < rkL l b
  | 0 => filW_pair l 0
  | k + 1 => by
    unfold ordFrom
    rw [List.pairwise_append]
    refine ⟨filW_pair l (k + 1), ordFrom_pair l hn k, fun a ha b hb => ?_⟩
    have h1 := mem_filW.1 ha
    have h2 := mem_ordFrom.1 hb
    exact rk_wide (by omega) ⟨h1.1.1, by omega⟩ ⟨h2.1.1, by omega⟩
theorem sorted_ext {α : Type} {R : α → α → Prop} (hir : ∀ a, ¬ R a a) (htr : ∀ a b c, R a b → R b c → R a c) : ∀ (l1 l2 : List α), l1.Pairwise R → l2.Pairwise R → (∀ x, x ∈ l1 ↔ x ∈ l2) → l1 = l2
  | [], [], _, _, _ => rfl
  | [], b :: l2, _, _, h => by have := (h b).2 (by simp); simp at this
  | a :: l1, [], _, _, h => by have := (h a).1 (by simp); simp at this
  | a :: l1, b :: l2, h1, h2, h => by
    rw [List.pairwise_cons] at h1 h2
    have hab : a = b := by
      rcases List.mem_cons.1 ((h a).1 (by simp)) with e | e
      · exact e
      · rcases List.mem_cons.1 ((h b).2 (by simp)) with e' | e'
        · exact e'.symm
        · exact absurd (htr _ _ _ (h2.1 a e) (h1.1 b e')) (hir b)
    subst hab
    congr 1
    refine sorted_ext hir htr l1 l2 h1.2 h2.2 fun x => ?_
    constructor
    · intro hx
      rcases List.mem_cons.1 ((h x).1 (List.mem_cons_of_mem _ hx)) with e | e
      · subst e; exact absurd (h1.1 x hx) (hir x)
      · exact e
    · intro hx
      rcases List.mem_cons.1 ((h x).2 (List.mem_cons_of_mem _ hx)) with e | e
      · subst e; exact absurd (h2.1 x hx) (hir x)
      · exact e
theorem ord_of_sorted {l : List (Int × Int)} (hn : l.length ≤ 1000) (hw : ∀ i : Int, 0 ≤ i → i < l.length → 0 ≤ wdL l i ∧ wdL l i ≤ 8) {f f' : Nat → Int} (hf : ∀ k, k < l.length → f k = (k : Int)) (hs : Same 0 l.length f f') (ha : Asc (rkL l) 0 l.length f') :
    (List.range l.length).map f' = ordL l := by
  refine sorted_ext (R := fun a b => rkL l a < rkL l b) (fun a h => absurd h (Int.lt_irrefl _)) (fun a b c h1 h2 => Int.lt_trans h1 h2) _ _ ?_ (ordFrom_pair l hn 8) fun x => ?_
  · rw [List.pairwise_map]
    refine List.pairwise_lt_range.imp_of_mem fun {a b} ha' hb' hab => ha a b (Nat.zero_le _) hab (List.mem_range.1 hb')
  · unfold ordL
    rw [mem_ordFrom, List.mem_map]
    constructor
    · rintro ⟨k, hk, rfl⟩
      obtain ⟨j, _, j2, e⟩ := hs.to k (Nat.zero_le _) (List.mem_range.1 hk)
      rw [e, hf j j2]
      exact ⟨by omega, hw _ (by omega) (by omega)⟩
    · rintro ⟨⟨h1, h2⟩, _⟩
      obtain ⟨j, _, j2, e⟩ := hs.of x.toNat (Nat.zero_le _) (by omega)
      refine ⟨j, List.mem_range.2 j2, ?_⟩
      rw [← e, hf _ (by omega)]; omega
theorem ordL_mem {l : List (Int × Int)} {i : Int} (h : i ∈ ordL l) : 0 ≤ i ∧ i < l.length := (mem_ordFrom.1 h).1
theorem ordL_nodup (l : List (Int × Int)) (hn : l.length ≤ 1000) : (ordL l).Nodup := (ordFrom_pair l hn 8).imp fun h e => by rw [e] at h; exact absurd h (Int.lt_irrefl _)
theorem ordL_len {l : List (Int × Int)} (hn : l.length ≤ 1000) (hw : ∀ i : Int, 0 ≤ i → i < l.length → 0 ≤ wdL l i ∧ wdL l i ≤ 8) : (ordL l).length = l.length := by
  have hp : (ordL l).Perm (upL l.length) := (List.perm_ext_iff_of_nodup (ordL_nodup l hn) ((upL_pair _).imp fun h => Int.ne_of_lt h)).2 fun x => by
    unfold ordL
    rw [mem_ordFrom, mem_upL]
    exact ⟨fun h => h.1, fun h => ⟨h, hw x h.1 h.2⟩⟩
  rw [hp.length_eq, upL_len]
end Go.Proofs.Ytpmadamaefbamaa

/- Pieces that are cut of a stock: plain. -/
namespace Go.Proofs.Ytpmadamaefbamaa
set_option linter.unusedSimpArgs false
set_option linter.unusedVariables false

/-- An array of numbers, as a function. -/
def arrV (f : Nat → Int) (N : Nat) : Array Value := ((List.range N).map fun x => Value.int .i64 (f x)).toArray
theorem arrV_size (f : Nat → Int) (N : Nat) : (arrV f N).size = N := by simp [arrV]
theorem arrV_get (f : Nat → Int) {N x : Nat} (h : x < N) : (arrV f N)[x]? = some (.int .i64 (f x)) := by
  unfold arrV
  rw [List.getElem?_toArray, List.getElem?_map, List.getElem?_range h]; rfl
theorem arrV_set (f : Nat → Int) {N x : Nat} (h : x < N) (v : Int) : (arrV f N).setIfInBounds x (.int .i64 v) = arrV (fun y => if y = x then v else f y) N := by
  apply Array.ext_getElem?
  intro y
  rw [Array.getElem?_setIfInBounds]
  by_cases hy : y < N
  · rw [arrV_size]
    by_cases e : x = y
    · subst e; rw [if_pos rfl, if_pos h, arrV_get _ h, if_pos rfl]
    · rw [if_neg e, arrV_get _ hy, arrV_get _ hy, if_neg (fun e' => e e'.symm)]
  · have h1 : (arrV f N)[y]? = none := Array.getElem?_eq_none (by rw [arrV_size]; omega)
    have h2 : (arrV (fun z => if z = x then v else f z) N)[y]? = none := Array.getElem?_eq_none (by rw [arrV_size]; omega)
    rw [h1, h2, if_neg (by omega)]
theorem made_zeroV (N : Nat) : madeCells #[.int .i64 0] N = arrV (fun _ => 0) N := by
  apply Array.ext_getElem?
  intro y
  by_cases hy : y < N
  · rw [arrV_get _ hy]
    simp [madeCells, hy, Nat.mod_one]
  · rw [Array.getElem?_eq_none (by rw [size_madeCells]; omega), Array.getElem?_eq_none (by rw [arrV_size]; omega)]
/-- The first piece can be cut of the second. -/
def isCutB (p q : Int × Int) : Bool := decide (p.2 ≤ q.2) && (decide (p.1 = 2) || decide (p.1 = q.1))
/-- One of the stock more looked at. -/
def bestB (s : List (Int × Int)) (T : List Int) (p : Int × Int) (b : Int) (k : Nat) : Bool :=
  !decide ((k : Int) ∈ T) && (isCutB p (s.getD k (0, 0)) && (decide (b = -1) || decide (wdL s k < wdL s b)))
def bestN (s : List (Int × Int)) (T : List Int) (p : Int × Int) : Nat → Int
  | 0 => -1
  | k + 1 => if bestB s T p (bestN s T p k) k = true then (k : Int) else bestN s T p k
theorem bestN_b (s : List (Int × Int)) (T : List Int) (p : Int × Int) : ∀ k, bestN s T p k = -1 ∨ (0 ≤ bestN s T p k ∧ bestN s T p k < k)
  | 0 => .inl rfl
  | k + 1 => by
    unfold bestN
    split
    · exact .inr ⟨by omega, by omega⟩
    · rcases bestN_b s T p k with h | h
      · exact .inl h
      · exact .inr ⟨h.1, by omega⟩
/-- What is found for the first j of the order, and which of the stock are taken. -/
def covSt (l s : List (Int × Int)) (O : List Int) : Nat → (Nat → Int) × List Int
  | 0 => (fun _ => 0, [])
  | j + 1 =>
    let st := covSt l s O j
    let i := O.getD j 0
    let b := bestN s st.2 (l.getD i.toNat (0, 0)) s.length
    (fun y => if y = i.toNat then b else st.1 y, if b = -1 then st.2 else st.2 ++ [b])
theorem covSt_succ (l s : List (Int × Int)) {O : List Int} {j i : Nat} {p : Int × Int} (hj : O[j]? = some (i : Int)) (hi : l[i]? = some p) :
    covSt l s O (j + 1) = (fun y => if y = i then bestN s (covSt l s O j).2 p s.length else (covSt l s O j).1 y, if bestN s (covSt l s O j).2 p s.length = -1 then (covSt l s O j).2 else (covSt l s O j).2 ++ [bestN s (covSt l s O j).2 p s.length]) := by
  show (fun y => _, _) = _
  rw [List.getD_eq_getElem?_getD, hj]
  simp only [Option.getD_some, Int.toNat_natCast]
  rw [List.getD_eq_getElem?_getD, hi]; rfl
def covL (l s : List (Int × Int)) : List Int := (List.range l.length).map (covSt l s (ordL l) (ordL l).length).1
theorem covL_len (l s : List (Int × Int)) : (covL l s).length = l.length := by simp [covL]
theorem arrV_toList (f : Nat → Int) (N : Nat) : (arrV f N).toList = icells ((List.range N).map f) := by
  unfold arrV icells
  rw [List.map_map]; rfl
end Go.Proofs.Ytpmadamaefbamaa

/- areAll and IndexFunc over numbers, at a function value. -/
namespace Go.Proofs.Ytpmadamaefbamaa
open Go.RowKit
set_option linter.unusedSimpArgs false
set_option linter.unusedVariables false

/-- A function value that tells of the numbers of a list, in all worlds above a world. -/
def TellsI (g : Nat) (fst cap : Array Value) (f : Int → Bool) (l : List Int) (w : World) : Prop :=
  ∀ (W : World) (p : Int), p ∈ l → Below w.heap.size w W → Calls Try.prog g (fst ++ #[.int .i64 p] ++ cap) W fun e w' => e = .returned (.bool (f p)) ∧ Below W.heap.size W w'
/-- The first number's index of which f says yes, or -1. -/
def idxI (f : Int → Bool) (l : List Int) : Int := if l.any f = true then (l.findIdx f : Int) else -1
theorem idxI_at {f : Int → Bool} {l : List Int} {k : Nat} (hk : k < l.length) (h : (l.take k).any f = false) (hf : f l[k] = true) : (k : Int) = idxI f l := by
  have h1 : l.any f = true := List.any_eq_true.2 ⟨_, List.getElem_mem hk, hf⟩
  unfold idxI
  rw [if_pos h1]
  have e : l = l.take k ++ l.drop k := (List.take_append_drop k l).symm
  have h2 : (l.take k).findIdx f = k := by
    have h3 : (l.take k).findIdx f = (l.take k).length := List.findIdx_eq_length.2 fun x hx => by
      have := List.any_eq_false.1 h x hx
      simpa using this
    rw [h3, List.length_take]; omega
  have h4 : (l.drop k).findIdx f = 0 := by
    rw [List.drop_eq_getElem_cons hk, List.findIdx_cons, hf]; rfl
  rw [e, List.findIdx_append, h2, h4, List.length_take, if_neg (by omega)]
  omega
end Go.Proofs.Ytpmadamaefbamaa

/- areAll and IndexFunc over slices of pieces, at a function value. -/
namespace Go.Proofs.Ytpmadamaefbamaa
open Go.RowKit
set_option linter.unusedSimpArgs false
set_option linter.unusedVariables false
def SlV (w : World) (A : Option Addr) (l : List (Value × Bool)) : Prop := ∀ j v, l[j]? = some v → ∃ b off, A = some ⟨b, off, none⟩ ∧ b < w.heap.size ∧ w.cell? ⟨b, off + j, none⟩ = some v.1
theorem SlV.below {B : Nat} {w w' : World} {A : Option Addr} {l : List (Value × Bool)} (h : SlV w A l) (hb : Below B w w') (hB : w.heap.size ≤ B) : SlV w' A l := fun j n hj => by
  obtain ⟨b, off, e, h1, h2⟩ := h j n hj
  exact ⟨b, off, e, Nat.lt_of_lt_of_le h1 hb.size, (hb.cell (p := ⟨b, _, none⟩) (by show b < B; omega)).trans h2⟩
def TellsV (g : Nat) (fst cap : Array Value) (f : Value × Bool → Bool) (l : List (Value × Bool)) (w : World) : Prop :=
  ∀ (W : World) (p : Value × Bool), p ∈ l → Below w.heap.size w W → Calls Try.prog g (fst ++ #[p.1] ++ cap) W fun e w' => e = .returned (.bool (f p)) ∧ Below W.heap.size W w'
def idxV (f : Value × Bool → Bool) (l : List (Value × Bool)) : Int := if l.any f = true then (l.findIdx f : Int) else -1
theorem idxV_at {f : Value × Bool → Bool} {l : List (Value × Bool)} {k : Nat} (hk : k < l.length) (h : (l.take k).any f = false) (hf : f l[k] = true) : (k : Int) = idxV f l := by
  have h1 : l.any f = true := List.any_eq_true.2 ⟨_, List.getElem_mem hk, hf⟩
  unfold idxV
  rw [if_pos h1]
  have e : l = l.take k ++ l.drop k := (List.take_append_drop k l).symm
  have h2 : (l.take k).findIdx f = k := by
    have h3 : (l.take k).findIdx f = (l.take k).length := List.findIdx_eq_length.2 fun x hx => by
      have := List.any_eq_false.1 h x hx
      simpa using this
    rw [h3, List.length_take]; omega
  have h4 : (l.drop k).findIdx f = 0 := by
    rw [List.drop_eq_getElem_cons hk, List.findIdx_cons, hf]; rfl
  rw [e, List.findIdx_append, h2, h4, List.length_take, if_neg (by omega)]
  omega

set_option maxRecDepth 100000 in
theorem c_indexFV (g : Nat) (fst cap : Array Value) (eg : ∀ args w, (callFunc g args).run Try.prog w = .ok (.enter g args) w) (f : Value × Bool → Bool) (A : Option Addr) (cc : Nat) (l : List (Value × Bool)) (hlen : l.length ≤ 1048576) (w : World) (hA : SlV w A l) (hf : TellsV g fst cap f l w) :
    Calls Try.prog 59 #[.slice A l.length cc, .func (.func g) fst cap] w fun e w' => ∃ n : Int, e = .returned (.int .i64 n) ∧ Below w.heap.size w w' ∧ decide (n ≥ 0) = l.any f ∧ n = idxV f l := by
  have HA := hid hA; clear hA
  have HF := hid hf; clear hf
  go_enter Try.func59, Try.ntmps59
  go_wp2_with fail
  go_loopw [8] (fun i wr => ∃ k : Nat, k ≤ l.length ∧ i = .int .i64 k ∧ Hid (Below w.heap.size w wr) ∧ Hid ((l.take k).any f = false)) (fun i _ => l.length - (intOf i).toNat)
  case atStart => exact ⟨0, by omega, rfl, Below.refl _ _, by simp [Hid]⟩
  case round =>
    obtain ⟨k, hk, rfl, hb, hno⟩ := hrel
    by_cases hkl : k < l.length
    · have hd : decide ((k : Int) < (l.length : Int)) = true := decide_eq_true (by omega)
      have hkI : (k : Int) < (l.length : Int) := by omega
      have hk0 : (0 : Int) ≤ (k : Int) := by omega
      have hp := List.getElem?_eq_getElem hkl
      obtain ⟨p1, hpp⟩ : ∃ p, p = l[k] := ⟨_, rfl⟩
      rw [← hpp] at hp
      have HM : Hid (p1 ∈ l) := by rw [hpp]; exact List.getElem_mem hkl
      have HIX : Hid (f p1 = true → (k : Int) = idxV f l) := fun h => by rw [hpp] at h; exact idxV_at hkl hno.out h
      have HTk : Hid ((l.take (k + 1)).any f = f p1) := by
        show _ = _
        rw [List.take_succ_eq_append_getElem hkl, List.any_append, hno.out, ← hpp]; simp
      obtain ⟨b, off, rfl, r1, r2⟩ := HA.out k _ hp
      have c0 := (hb.out.cell (p := ⟨b, _, none⟩) r1).trans r2
      have HC := hid (HF.out wr p1 HM.out hb.out)
      clear hp hpp r2
      cases hq : f p1 with
      | true =>
        have HQ := hid hq; clear hq
        have hcall := HC.out
        rw [HQ.out] at hcall
        have HC' := hid hcall
        clear hcall HC
        go_wp2_with (go_at_fn g; refine HC'.out.mono ?_; rintro e w2 ⟨rfl, hb2⟩)
        go_ret
        refine ⟨_, rfl, hb.out.trans (hb2.mono hb.out.size), ?_, HIX.out HQ.out⟩
        have h1 : l.any f = true := List.any_eq_true.2 ⟨_, HM.out, HQ.out⟩
        rw [h1]; exact decide_eq_true (by omega)
      | false =>
        have HQ := hid hq; clear hq
        have hcall := HC.out
        rw [HQ.out] at hcall
        have HC' := hid hcall
        clear hcall HC
        go_wp2_with (go_at_fn g; refine HC'.out.mono ?_; rintro e w2 ⟨rfl, hb2⟩)
        exact ⟨⟨k + 1, by omega, by go_num, hb.out.trans (hb2.mono hb.out.size), HTk.out.trans HQ.out⟩, by simp [intOf]; omega⟩
    · obtain rfl : k = l.length := by omega
      have hd : decide ((l.length : Int) < (l.length : Int)) = false := decide_eq_false (by omega)
      rw [List.take_length] at hno
      go_wp2_with fail
      go_ret
      exact ⟨_, rfl, hb.out, by rw [hno.out]; rfl, by unfold idxV; rw [hno.out]; rfl⟩
set_option maxRecDepth 100000 in
theorem c_containsFV (g : Nat) (fst cap : Array Value) (eg : ∀ args w, (callFunc g args).run Try.prog w = .ok (.enter g args) w) (f : Value × Bool → Bool) (A : Option Addr) (cc : Nat) (l : List (Value × Bool)) (hlen : l.length ≤ 1048576) (w : World) (hA : SlV w A l) (hf : TellsV g fst cap f l w) :
    Calls Try.prog 48 #[.slice A l.length cc, .func (.func g) fst cap] w fun e w' => e = .returned (.bool (l.any f)) ∧ Below w.heap.size w w' := by
  have HC := hid (c_indexFV g fst cap eg f A cc l hlen w hA hf); clear hA hf
  go_enter Try.func48, Try.ntmps48
  go_wp2_with (go_at_call 59; refine HC.out.mono ?_; rintro e w1 ⟨n, rfl, hb1, hn, he⟩; have HN := hid hn; clear hn he)
  all_goals
    go_ret
    exact ⟨ret_bool HN.out, hb1⟩
set_option maxRecDepth 100000 in
theorem c_areAllCloV (g : Nat) (fst cap : Array Value) (eg : ∀ args w, (callFunc g args).run Try.prog w = .ok (.enter g args) w) (f : Value × Bool → Bool) (l : List (Value × Bool)) (p : Value × Bool) (hp : p ∈ l) (bx : Nat) (w : World) (hb : w.heap[bx]? = some (.cells #[.func (.func g) fst cap] 62 (0, 0))) (hf : TellsV g fst cap f l w) :
    Calls Try.prog 49 #[p.1, .pointer (some ⟨bx, 0, none⟩)] w fun e w' => e = .returned (.bool (!f p)) ∧ Below w.heap.size w w' := by
  have k0 : w.cell? ⟨bx, 0, none⟩ = some (.func (.func g) fst cap) := cell_block hb rfl
  have HC := hid (hf w p hp (Below.refl _ w))
  clear hb hf hp
  go_enter Try.func49, Try.ntmps49
  go_wp2_with (go_at_fn g; refine HC.out.mono ?_; rintro e w2 ⟨rfl, hb2⟩)
  go_ret
  exact ⟨rfl, hb2⟩
set_option maxRecDepth 100000 in
theorem c_areAllV (g : Nat) (fst cap : Array Value) (eg : ∀ args w, (callFunc g args).run Try.prog w = .ok (.enter g args) w) (f : Value × Bool → Bool) (A : Option Addr) (cc : Nat) (l : List (Value × Bool)) (hlen : l.length ≤ 1048576) (w : World) (hA : SlV w A l) (hf : TellsV g fst cap f l w) :
    Calls Try.prog 36 #[.slice A l.length cc, .func (.func g) fst cap] w fun e w' => e = .returned (.bool (l.all f)) ∧ Below w.heap.size w w' := by
  have B0 : Below w.heap.size w (w.alloc (.cells #[.func (.func g) fst cap] 62)) := (Below.refl _ w).alloc (Nat.le_refl _) _
  have HX := hid (block_new1 w (.cells #[.func (.func g) fst cap] 62) rfl)
  have HT : Hid (TellsV 49 #[] #[.pointer (some ⟨w.heap.size, 0, none⟩)] (fun p => !f p) l (w.alloc (.cells #[.func (.func g) fst cap] 62))) := by
    intro W p hp hb
    refine c_areAllCloV g fst cap eg f l p hp _ W (block_below hb HX.out (by simp)) ?_
    intro W2 q hq hb2
    exact hf W2 q hq (B0.trans (hb.trans (hb2.mono hb.size) |>.mono (by simp)))
  have HC := hid (c_containsFV 49 #[] _ (enters_of Try.func49 (by kernel_rfl) rfl) _ A cc l hlen _ (hA.below B0 (Nat.le_refl _)) HT.out)
  clear hA hf HT
  go_enter Try.func36, Try.ntmps36
  go_wp2_with (go_at_call 48; ((with_reducible refine HC.out.mono ?_); rintro e w1 ⟨rfl, hb1⟩))
  go_ret
  refine ⟨ret_bool ?_, B0.trans (hb1.mono (by simp))⟩
  rw [List.all_eq_not_any_not]
end Go.Proofs.Ytpmadamaefbamaa

/- Slices of pieces: copied out of the law's arguments, marked, their sizes asked. -/
namespace Go.Proofs.Ytpmadamaefbamaa
open Go.RowKit
set_option linter.unusedSimpArgs false
set_option linter.unusedVariables false

theorem OwC.pairs {lo hi : Nat} {w : World} {A : Option Addr} {n c : Nat} {l : List (Int × Int)} (h : OwC lo hi w (.slice A n c) l) : PairsAt .i8 .i8 w A l := fun j p hj => by
  obtain ⟨b, c', e, _, _, h1, h2, h3⟩ := h.cells hj
  obtain ⟨rfl, _, _⟩ : A = some ⟨b, 0, none⟩ ∧ n = l.length ∧ c = c' := by simpa using e
  exact ⟨b, 0, rfl, h1, by rw [Nat.zero_add]; exact h2, by rw [Nat.zero_add]; exact h3⟩
/-- A slice of pieces whose array lies in the blocks lo .. hi, all of them laid. -/
def OwD (lo hi : Nat) (w : World) (v : Value) (l : List (Int × Int)) : Prop := OwC lo hi w v l ∧ lo ≤ hi ∧ hi ≤ w.heap.size
theorem OwD.below {lo hi : Nat} {w w' : World} {v : Value} {l : List (Int × Int)} (h : OwD lo hi w v l) (hb : Below w.heap.size w w') : OwD lo hi w' v l := ⟨h.1.below hb h.2.2, h.2.1, Nat.le_trans h.2.2 hb.size⟩
theorem OwD.below' {lo hi B : Nat} {w w' : World} {v : Value} {l : List (Int × Int)} (h : OwD lo hi w v l) (hb : Below B w w') (hB : hi ≤ B) : OwD lo hi w' v l := ⟨h.1.below hb hB, h.2.1, Nat.le_trans h.2.2 hb.size⟩
theorem OwD.alloc {lo hi : Nat} {w : World} {v : Value} {l : List (Int × Int)} (h : OwD lo hi w v l) (o : Obj) : OwD lo hi (w.alloc o) v l := h.below ((Below.refl _ w).alloc (Nat.le_refl _) o)
theorem OwD.of {w w' : World} {v : Value} {l : List (Int × Int)} (h : w'.ownsRow w.heap.size 50 2 v l.length (ccells l)) (hb : Below w.heap.size w w') : OwD w.heap.size w'.heap.size w' v l := ⟨OwC.of_owns h, hb.size, Nat.le_refl _⟩
theorem OwD.pairs {lo hi : Nat} {w : World} {A : Option Addr} {n c : Nat} {l : List (Int × Int)} (h : OwD lo hi w (.slice A n c) l) : PairsAt .i8 .i8 w A l := h.1.pairs
theorem OwD.lo {lo lo' hi : Nat} {w : World} {v : Value} {l : List (Int × Int)} (h : OwD lo hi w v l) (hl : lo' ≤ lo) : OwD lo' hi w v l := by
  obtain ⟨⟨A, c, rfl, h⟩, h2, h3⟩ := h
  exact ⟨⟨A, c, rfl, fun hl => by obtain ⟨b, cs, h1, h2, h3, h4⟩ := h hl; exact ⟨b, cs, h1, by omega, by omega, h4⟩⟩, by omega, h3⟩
theorem OwD.outS {lo hi lo' hi' : Nat} {w w' : World} {v : Value} {l : List (Int × Int)} (h : OwD lo hi w v l) (hO : OutS lo' hi' w w') (hd : hi ≤ lo' ∨ hi' ≤ lo) : OwD lo hi w' v l := by
  obtain ⟨⟨A, c, rfl, h⟩, h2, h3⟩ := h
  refine ⟨⟨A, c, rfl, fun hl => ?_⟩, h2, Nat.le_trans h3 hO.size⟩
  obtain ⟨b, cs, r1, r2, r3, r4, r5⟩ := h hl
  exact ⟨b, cs, r1, r2, r3, hO.keep r4 (by omega), r5⟩
theorem OwC.hi {lo hi lo' hi' : Nat} {w : World} {v : Value} {l : List (Int × Int)} (h : OwC lo hi w v l) (hl : lo' ≤ lo) (hh : hi ≤ hi') : OwC lo' hi' w v l := by
  obtain ⟨A, c, rfl, h⟩ := h
  exact ⟨A, c, rfl, fun hl => by obtain ⟨b, cs, h1, h2, h3, h4⟩ := h hl; exact ⟨b, cs, h1, by omega, by omega, h4⟩⟩
set_option maxRecDepth 100000 in
theorem c_toPiece (c t : Int) (w : World) : Calls Try.prog 24 #[.agg #[.int .i8 c, .int .i8 t]] w fun e w' => e = .returned (.agg #[.int .i8 c, .int .i8 t]) ∧ Below w.heap.size w w' := by
  go_enter Try.func24, Try.ntmps24
  go_wp2_with fail
  refine bodyPost_ret (v := .agg #[.int .i8 c, .int .i8 t]) (by simp [results, Try.results24, go_sem]) rfl ⟨rfl, ?_⟩
  exact (((Below.refl _ w).alloc (Nat.le_refl _) _).alloc (by simp) _).alloc (by simp; omega) _
/-- The first k pairs of a list, zeros behind. -/
def padD (l : List (Int × Int)) (k : Nat) : List (Int × Int) := l.take k ++ List.replicate (l.length - k) (0, 0)
theorem padD_len (l : List (Int × Int)) (k : Nat) (hk : k ≤ l.length) : (padD l k).length = l.length := by simp [padD]; omega
theorem padD_zero (l : List (Int × Int)) : padD l 0 = List.replicate l.length (0, 0) := by simp [padD]
theorem padD_all (l : List (Int × Int)) : padD l l.length = l := by simp [padD]
theorem padD_step (l : List (Int × Int)) (k : Nat) (hk : k < l.length) (p : Int × Int) (hp : p = l[k]) : (padD l k).set k (p.1, p.2) = padD l (k + 1) := by
  apply List.ext_getElem?
  intro j
  unfold padD
  have e : l.length - k = (l.length - (k + 1)) + 1 := by omega
  have h1 : (l.take k).length = k := by simp; omega
  have h2 : (l.take k ++ List.replicate (l.length - k) ((0, 0) : Int × Int)).set k (p.1, p.2) = l.take k ++ (List.replicate (l.length - k) ((0, 0) : Int × Int)).set 0 (p.1, p.2) := by
    rw [List.set_append_right _ _ (by omega)]; rw [h1, Nat.sub_self]
  rw [h2, e, List.replicate_succ, List.set_cons_zero, List.take_succ_eq_append_getElem hk, List.append_assoc, ← hp]
  rfl
theorem owD_free {lo hi : Nat} {w : World} {b n c : Nat} {l : List (Int × Int)} (h : OwC lo hi w (.slice (some ⟨b, 0, none⟩) n c) l) {k : Nat} (hk : k < l.length) :
    (∃ v, w.cell? ⟨b, k * 2, none⟩ = some v) ∧ (∃ v, w.cell? ⟨b, k * 2 + 1, none⟩ = some v) ∧ w.frozen? ⟨b, k * 2, none⟩ = false ∧ w.frozen? ⟨b, k * 2 + 1, none⟩ = false ∧ lo ≤ b := by
  have hne : l ≠ [] := by rintro rfl; simp at hk
  obtain ⟨b', c', e, h1, h2, h3, h4, h5⟩ := h.cells (List.getElem?_eq_getElem hk)
  obtain ⟨A, c2, e2, h⟩ := h
  obtain ⟨b2, cs, rfl, q2, q3, q4, _⟩ := h hne
  obtain ⟨rfl, _⟩ : b = b' ∧ n = l.length ∧ c = c' := by simpa using e
  obtain ⟨rfl, _⟩ : b = b2 ∧ n = l.length ∧ c = c2 := by simpa using e2
  exact ⟨⟨_, h4⟩, ⟨_, h5⟩, frozen_of_row _ _ _ _ _ q4, frozen_of_row _ _ _ _ _ q4, q2⟩
theorem made_twoD (x : Value) (m : Nat) : (madeCells #[x, x] m).toList = List.replicate m x := by
  apply List.ext_getElem
  · simp [madeCells]
  · intro j h1 h2
    have h3 : j % 2 = 0 ∨ j % 2 = 1 := by omega
    rcases h3 with h3 | h3 <;> simp [madeCells, h3]
theorem ccells_rep (n : Nat) : ccells (List.replicate n (0, 0)) = List.replicate (n * 2) (.int .i8 0) := by
  induction n with
  | zero => rfl
  | succ n ih =>
    rw [List.replicate_succ', ccells_snoc, ih, show (n + 1) * 2 = n * 2 + 1 + 1 by omega, List.replicate_succ', List.replicate_succ', List.append_assoc]
    rfl
theorem made_D (n : Nat) {w : World} {base cap : Nat} {A : Option Addr} (h : w.ownsRow base 50 2 (.slice A n cap) n (madeCells (Value.agg #[.int .i8 0, .int .i8 0]).cells (n * 2)).toList) : OwC base w.heap.size w (.slice A n cap) (List.replicate n (0, 0)) := by
  have e : (madeCells (Value.agg #[.int .i8 0, .int .i8 0]).cells (n * 2)).toList = ccells (List.replicate n (0, 0)) := by
    rw [ccells_rep]
    exact made_twoD (.int .i8 0) (n * 2)
  rw [e] at h
  have h2 : w.ownsRow base 50 2 (.slice A n cap) (List.replicate n ((0, 0) : Int × Int)).length (ccells (List.replicate n (0, 0))) := by rw [List.length_replicate]; exact h
  exact OwC.of_owns h2
theorem Try.infoToPiece : (Try.prog.info? 50).map (fun i => (i.zero, i.size, i.bytes)) = some (some (.agg #[.int .i8 0, .int .i8 0]), 2, 2) := by kernel_rfl
theorem toPiece_parts : ∃ i, Try.prog.info? 50 = some i ∧ i.zero = some (.agg #[.int .i8 0, .int .i8 0]) ∧ i.size = 2 ∧ i.bytes = 2 := by
  have h := Try.infoToPiece
  cases hi : Try.prog.info? 50 with
  | none => rw [hi] at h; cases h
  | some i => rw [hi] at h; simp at h; exact ⟨i, rfl, h.1, h.2.1, h.2.2⟩
set_option maxHeartbeats 800000 in
set_option maxRecDepth 100000 in
theorem c_toPieceS (A : Option Addr) (c : Nat) (l : List (Int × Int)) (hlen : l.length ≤ 1048576) (w : World) (hA : PairsAt .i8 .i8 w A l) :
    Calls Try.prog 8 #[.slice A l.length c] w fun e w' => ∃ (A' : Option Addr) (c' : Nat), e = .returned (.slice A' l.length c') ∧ Below w.heap.size w w' ∧ OwD w.heap.size w'.heap.size w' (.slice A' l.length c') l := by
  obtain ⟨i0, hi, hz0, hz1, hz2⟩ := toPiece_parts
  have HA := hid hA; clear hA
  go_enter Try.func8, Try.ntmps8
  go_wp2_with ((with_reducible refine gate (N := 7) rfl ?_); refine wpList_make_full _ rfl (.tmp 6) (.tmp 6) 27 rfl w.heap.size 50 i0 (.agg #[.int .i8 0, .int .i8 0]) 2 Try.underlying27 hi hz0 hz1 .i64 .i64 (l.length : Int) (l.length : Int) l.length rfl rfl rfl rfl (by rw [hz2]; omega) (Nat.le_trans hlen (by decide)) (Nat.le_refl _) ?_; intro w1 hown hgrow)
  have HB1 : Hid (Below w.heap.size w w1) := (Below.refl _ w).grown hgrow (Nat.le_refl _) (fun k hk => by cases hk)
  have HO1 : Hid (OwC w.heap.size w1.heap.size w1 (.slice (some ⟨w.heap.size, 0, none⟩) l.length l.length) (padD l 0)) := by
    rw [padD_zero]
    have := made_D l.length hown
    simpa [Hid] using this
  have hS1 : Hid (w.heap.size ≤ w1.heap.size) := HB1.out.size
  clear hown hgrow
  go_loopw [4] (fun i wr => ∃ k : Nat, k ≤ l.length ∧ i = .int .i64 k ∧ Hid (Below w.heap.size w wr) ∧ Hid (w1.heap.size ≤ wr.heap.size) ∧ Hid (OwC w.heap.size w1.heap.size wr (.slice (some ⟨w.heap.size, 0, none⟩) l.length l.length) (padD l k))) (fun i _ => l.length - (intOf i).toNat)
  case atStart => exact ⟨0, by omega, rfl, HB1, Nat.le_refl _, HO1⟩
  case round =>
    obtain ⟨k, hk, rfl, hb, hS, hO⟩ := hrel
    by_cases hkl : k < l.length
    · have hd : decide ((k : Int) < (l.length : Int)) = true := decide_eq_true (by omega)
      have hkI : (k : Int) < (l.length : Int) := by omega
      have hk0 : (0 : Int) ≤ (k : Int) := by omega
      have hp := List.getElem?_eq_getElem hkl
      obtain ⟨⟨p1, p2⟩, hpp⟩ : ∃ p, p = l[k] := ⟨_, rfl⟩
      rw [← hpp] at hp
      have HST : Hid ((padD l k).set k (p1, p2) = padD l (k + 1)) := padD_step l k hkl _ hpp
      have HL := hid (padD_len l k hk)
      obtain ⟨b, off, rfl, r1, r2, r3⟩ := HA.out k _ hp
      dsimp only at r2 r3
      have c0 := (hb.out.cell (p := ⟨b, _, none⟩) r1).trans r2
      have c1 := (hb.out.cell (p := ⟨b, _, none⟩) r1).trans r3
      clear hp hpp r2 r3
      go_wp2_with (go_at_call 24; refine (c_toPiece p1 p2 _).mono ?_; rintro e w2 ⟨rfl, hb2⟩; have O2 := hid (hO.out.below hb2 hS.out); have hb := hid (hb.out.trans (hb2.mono hb.out.size)); have hS := hid (Nat.le_trans hS.out hb2.size); clear hb2; obtain ⟨⟨v0, m0⟩, ⟨v1, m1⟩, m2, m3, m4⟩ := owD_free O2.out (k := k) (by rw [HL.out]; exact hkl))
      refine ⟨⟨k + 1, by omega, by go_num, Below.setCell (Below.setCell hb.out (p := ⟨w.heap.size, k * 2, none⟩) (Nat.le_refl _) _) (p := ⟨w.heap.size, k * 2 + 1, none⟩) (Nat.le_refl _) _, ?_, ?_⟩, by simp [intOf]; omega⟩
      · have := hS.out; simpa [Hid] using this
      · have h1 := O2.out
        rw [← HL.out] at h1
        have h2 := OwC.put h1 (by rw [HL.out]; exact hkl) p1 p2
        rw [HST.out, HL.out] at h2
        exact h2
    · obtain rfl : k = l.length := by omega
      have hd : decide ((l.length : Int) < (l.length : Int)) = false := decide_eq_false (by omega)
      rw [padD_all] at hO
      go_wp2_with fail
      go_ret
      exact ⟨_, _, rfl, hb.out, ⟨hO.out.hi (Nat.le_refl _) hS.out, hb.out.size, Nat.le_refl _⟩⟩
set_option maxRecDepth 100000 in
theorem c_szPieceS (A : Option Addr) (c : Nat) (n : Nat) (hn : n ≤ 9223372036854775807) (m : Int) (hm : 0 ≤ m ∧ m ≤ 1048576) (w : World) :
    Calls Try.prog 6 #[.slice A n c, .int .i64 m] w fun e w' => e = .returned (.int .i64 (if (n : Int) ≤ m then (m - n : Int) else -1)) ∧ w = w' := by
  by_cases h : (n : Int) ≤ m
  · have h1 : ¬ ((m : Int) - n < 0) := by omega
    have hd : decide ((m : Int) - n < 0) = false := decide_eq_false h1
    rw [if_pos h]
    go_enter Try.func6, Try.ntmps6
    go_wp2_with fail
    go_ret
    exact ⟨rfl, rfl⟩
  · have h1 : ((m : Int) - n < 0) := by omega
    have hd : decide ((m : Int) - n < 0) = true := decide_eq_true h1
    rw [if_neg h]
    go_enter Try.func6, Try.ntmps6
    go_wp2_with fail
    go_ret
    exact ⟨rfl, rfl⟩
theorem e_PieceS {lo hi lo' hi' : Nat} {v v' : Value} {l : List (Int × Int)} (hlen : l.length ≤ 1048576) {w : World} (h : OwD lo hi w v l) (h' : OwD lo' hi' w v' l) :
    Calls Try.prog 11 #[v, v'] w fun e w' => e = .returned (.bool true) ∧ Below w.heap.size w w' :=
  c_eqPieceS lo hi lo' hi' v v' l (Nat.le_trans hlen (by decide)) w h.1 h'.1 h.2.2 h'.2.2
set_option maxRecDepth 100000 in
theorem m_PieceS {lo hi : Nat} {v : Value} {l : List (Int × Int)} {m : Int} (hm : 0 ≤ m ∧ m ≤ 1000000000) (hlen : l.length ≤ 1048576) {w : World} (h : OwD lo hi w v l) :
    Calls Try.prog 12 #[v, .int .i64 m] w fun e w' => e = .returned (.int .i64 (m + 2 * l.length)) ∧ Below lo w w' ∧ OutS lo hi w w' ∧ OwD lo hi w' v (mkC l m l.length) := by
  have h2 := h.2
  have h0 := h.1
  obtain ⟨⟨A, c, rfl, _⟩, _, _⟩ := h
  go_enter Try.func12, Try.ntmps12
  go_wp2_with fail
  go_loopw [1, 5] (fun q i wr => ∃ k : Nat, k ≤ l.length ∧ i = .int .i64 k ∧ q = .int .i64 (m + 2 * k) ∧ Hid (Below lo w wr) ∧ Hid (OutS lo hi w wr) ∧ Hid (OwC lo hi wr (.slice A l.length c) (mkC l m k))) (fun _ i _ => l.length - (intOf i).toNat)
  case atStart => exact ⟨0, by omega, rfl, by simp, Below.refl _ _, OutS.refl _ _ _, by rw [mkC_zero]; exact h0⟩
  case round =>
    obtain ⟨k, hk, rfl, rfl, hb, hOut, hO⟩ := hrel
    by_cases hkl : k < l.length
    · have hd : decide ((k : Int) < (l.length : Int)) = true := decide_eq_true (by omega)
      have hkl' : k < (mkC l m k).length := by rw [mkC_len]; exact hkl
      have hp := List.getElem?_eq_getElem hkl'
      obtain ⟨⟨p1, p2⟩, hpp⟩ : ∃ p, p = (mkC l m k)[k] := ⟨_, rfl⟩
      rw [← hpp] at hp
      obtain ⟨b, c1, e1, r1, r9, q1, q2, q3⟩ := hO.out.cells hp
      obtain ⟨rfl, _, rfl⟩ : A = some ⟨b, 0, none⟩ ∧ l.length = (mkC l m k).length ∧ c = c1 := by simpa using e1
      have HP : Hid (OwC lo hi ((wr.setCell ⟨b, k * 2, none⟩ (.int .i8 (IntKind.i8.wrap (m + 2 * k)))).setCell ⟨b, k * 2 + 1, none⟩ (.int .i8 (IntKind.i8.wrap (m + 2 * k + 1)))) (.slice (some ⟨b, 0, none⟩) l.length c) (mkC l m (k + 1))) := by
        have := hO.out
        rw [← mkC_len l m k] at this
        have := OwC.put this hkl' (IntKind.i8.wrap (m + 2 * k)) (IntKind.i8.wrap (m + 2 * k + 1))
        rw [mkC_step l m k hkl, mkC_len] at this
        exact this
      have f2 : wr.frozen? ⟨b, k * 2, none⟩ = false := by
        obtain ⟨A', c', e', h'⟩ := hO.out
        obtain ⟨b', cs, rfl, _, _, h4, _⟩ := h' (by intro e; rw [e] at hkl'; simp at hkl')
        obtain rfl : b = b' := by simpa using (Value.slice.inj e').1
        exact frozen_of_row _ _ _ _ _ h4
      have f3 : wr.frozen? ⟨b, k * 2 + 1, none⟩ = false := by
        obtain ⟨A', c', e', h'⟩ := hO.out
        obtain ⟨b', cs, rfl, _, _, h4, _⟩ := h' (by intro e; rw [e] at hkl'; simp at hkl')
        obtain rfl : b = b' := by simpa using (Value.slice.inj e').1
        exact frozen_of_row _ _ _ _ _ h4
      clear hp hpp e1 h0 hkl'
      go_wp2_with fail
      exact ⟨⟨k + 1, by omega, by go_num, congrArg (Value.int .i64) (by omega), Below.setCell (Below.setCell hb.out (p := ⟨b, k * 2, none⟩) r1 _) (p := ⟨b, k * 2 + 1, none⟩) r1 _, OutS.setCell (OutS.setCell hOut.out (a := ⟨b, k * 2, none⟩) _ r1 r9) (a := ⟨b, k * 2 + 1, none⟩) _ r1 r9, HP.out⟩, by simp [intOf]; omega⟩
    · obtain rfl : k = l.length := by omega
      have hd : decide ((l.length : Int) < (l.length : Int)) = false := decide_eq_false (by omega)
      go_wp2_with fail
      go_ret
      exact ⟨rfl, hb.out, hOut.out, hO.out, h2.1, Nat.le_trans h2.2 hOut.out.size⟩
end Go.Proofs.Ytpmadamaefbamaa

/- areAll over pieces, at a function value. -/
namespace Go.Proofs.Ytpmadamaefbamaa
open Go.RowKit
set_option linter.unusedSimpArgs false
set_option linter.unusedVariables false

/-- A function value that tells of the pieces of a list, in all worlds above a world. -/
def TellsC (g : Nat) (fst cap : Array Value) (f : Int × Int → Bool) (l : List (Int × Int)) (w : World) : Prop :=
  ∀ (W : World) (p : Int × Int), p ∈ l → Below w.heap.size w W → Calls Try.prog g (fst ++ #[.agg #[.int .i8 p.1, .int .i8 p.2]] ++ cap) W fun e w' => e = .returned (.bool (f p)) ∧ Below W.heap.size W w'
/-- The first one's index of which f says yes, or -1. -/
def idxC (f : Int × Int → Bool) (l : List (Int × Int)) : Int := if l.any f = true then (l.findIdx f : Int) else -1
theorem idxC_at {f : Int × Int → Bool} {l : List (Int × Int)} {k : Nat} (hk : k < l.length) (h : (l.take k).any f = false) (hf : f l[k] = true) : (k : Int) = idxC f l := by
  have h1 : l.any f = true := List.any_eq_true.2 ⟨_, List.getElem_mem hk, hf⟩
  unfold idxC
  rw [if_pos h1]
  have e : l = l.take k ++ l.drop k := (List.take_append_drop k l).symm
  have h2 : (l.take k).findIdx f = k := by
    have h3 : (l.take k).findIdx f = (l.take k).length := List.findIdx_eq_length.2 fun x hx => by
      have := List.any_eq_false.1 h x hx
      simpa using this
    rw [h3, List.length_take]; omega
  have h4 : (l.drop k).findIdx f = 0 := by
    rw [List.drop_eq_getElem_cons hk, List.findIdx_cons, hf]; rfl
  rw [e, List.findIdx_append, h2, h4, List.length_take, if_neg (by omega)]
  omega
set_option maxRecDepth 100000 in
theorem c_indexFC (g : Nat) (fst cap : Array Value) (eg : ∀ args w, (callFunc g args).run Try.prog w = .ok (.enter g args) w) (f : Int × Int → Bool) (A : Option Addr) (cc : Nat) (l : List (Int × Int)) (hlen : l.length ≤ 1048576) (w : World) (hA : PairsAt .i8 .i8 w A l) (hf : TellsC g fst cap f l w) :
    Calls Try.prog 60 #[.slice A l.length cc, .func (.func g) fst cap] w fun e w' => ∃ n : Int, e = .returned (.int .i64 n) ∧ Below w.heap.size w w' ∧ decide (n ≥ 0) = l.any f ∧ n = idxC f l := by
  have HA := hid hA; clear hA
  have HF := hid hf; clear hf
  go_enter Try.func60, Try.ntmps60
  go_wp2_with fail
  go_loopw [8] (fun i wr => ∃ k : Nat, k ≤ l.length ∧ i = .int .i64 k ∧ Hid (Below w.heap.size w wr) ∧ Hid ((l.take k).any f = false)) (fun i _ => l.length - (intOf i).toNat)
  case atStart => exact ⟨0, by omega, rfl, Below.refl _ _, by simp [Hid]⟩
  case round =>
    obtain ⟨k, hk, rfl, hb, hno⟩ := hrel
    by_cases hkl : k < l.length
    · have hd : decide ((k : Int) < (l.length : Int)) = true := decide_eq_true (by omega)
      have hkI : (k : Int) < (l.length : Int) := by omega
      have hk0 : (0 : Int) ≤ (k : Int) := by omega
      have hp := List.getElem?_eq_getElem hkl
      obtain ⟨⟨p1, p2⟩, hpp⟩ : ∃ p, p = l[k] := ⟨_, rfl⟩
      rw [← hpp] at hp
      have HM : Hid ((p1, p2) ∈ l) := by rw [hpp]; exact List.getElem_mem hkl
      have HIX : Hid (f (p1, p2) = true → (k : Int) = idxC f l) := fun h => by rw [hpp] at h; exact idxC_at hkl hno.out h
      have HTk : Hid ((l.take (k + 1)).any f = f (p1, p2)) := by
        show _ = _
        rw [List.take_succ_eq_append_getElem hkl, List.any_append, hno.out, ← hpp]; simp
      obtain ⟨b, off, rfl, r1, r2, r3⟩ := HA.out k _ hp
      have c0 := (hb.out.cell (p := ⟨b, _, none⟩) r1).trans r2
      have c1 := (hb.out.cell (p := ⟨b, _, none⟩) r1).trans r3
      dsimp only at c0 c1
      have HC := hid (HF.out wr (p1, p2) HM.out hb.out)
      clear hp hpp r2 r3
      cases hq : f (p1, p2) with
      | true =>
        have HQ := hid hq; clear hq
        have hcall := HC.out
        rw [HQ.out] at hcall
        have HC' := hid hcall
        clear hcall HC
        go_wp2_with (go_at_fn g; refine HC'.out.mono ?_; rintro e w2 ⟨rfl, hb2⟩)
        go_ret
        refine ⟨_, rfl, hb.out.trans (hb2.mono hb.out.size), ?_, HIX.out HQ.out⟩
        have h1 : l.any f = true := List.any_eq_true.2 ⟨_, HM.out, HQ.out⟩
        rw [h1]; exact decide_eq_true (by omega)
      | false =>
        have HQ := hid hq; clear hq
        have hcall := HC.out
        rw [HQ.out] at hcall
        have HC' := hid hcall
        clear hcall HC
        go_wp2_with (go_at_fn g; refine HC'.out.mono ?_; rintro e w2 ⟨rfl, hb2⟩)
        exact ⟨⟨k + 1, by omega, by go_num, hb.out.trans (hb2.mono hb.out.size), HTk.out.trans HQ.out⟩, by simp [intOf]; omega⟩
    · obtain rfl : k = l.length := by omega
      have hd : decide ((l.length : Int) < (l.length : Int)) = false := decide_eq_false (by omega)
      rw [List.take_length] at hno
      go_wp2_with fail
      go_ret
      exact ⟨_, rfl, hb.out, by rw [hno.out]; rfl, by unfold idxC; rw [hno.out]; rfl⟩
set_option maxRecDepth 100000 in
theorem c_containsFC (g : Nat) (fst cap : Array Value) (eg : ∀ args w, (callFunc g args).run Try.prog w = .ok (.enter g args) w) (f : Int × Int → Bool) (A : Option Addr) (cc : Nat) (l : List (Int × Int)) (hlen : l.length ≤ 1048576) (w : World) (hA : PairsAt .i8 .i8 w A l) (hf : TellsC g fst cap f l w) :
    Calls Try.prog 50 #[.slice A l.length cc, .func (.func g) fst cap] w fun e w' => e = .returned (.bool (l.any f)) ∧ Below w.heap.size w w' := by
  have HC := hid (c_indexFC g fst cap eg f A cc l hlen w hA hf); clear hA hf
  go_enter Try.func50, Try.ntmps50
  go_wp2_with (go_at_call 60; refine HC.out.mono ?_; rintro e w1 ⟨n, rfl, hb1, hn, he⟩; have HN := hid hn; clear hn he)
  all_goals
    go_ret
    exact ⟨ret_bool HN.out, hb1⟩
set_option maxRecDepth 100000 in
theorem c_areAllCloC (g : Nat) (fst cap : Array Value) (eg : ∀ args w, (callFunc g args).run Try.prog w = .ok (.enter g args) w) (f : Int × Int → Bool) (l : List (Int × Int)) (p : Int × Int) (hp : p ∈ l) (bx : Nat) (w : World) (hb : w.heap[bx]? = some (.cells #[.func (.func g) fst cap] 68 (0, 0))) (hf : TellsC g fst cap f l w) :
    Calls Try.prog 51 #[.agg #[.int .i8 p.1, .int .i8 p.2], .pointer (some ⟨bx, 0, none⟩)] w fun e w' => e = .returned (.bool (!f p)) ∧ Below w.heap.size w w' := by
  obtain ⟨p1, p2⟩ := p
  have k0 : (w.alloc (.cells #[.int .i8 p1, .int .i8 p2] 50)).cell? ⟨bx, 0, none⟩ = some (.func (.func g) fst cap) := cell_block (block_alloc hb _) rfl
  have HC := hid (hf (w.alloc (.cells #[.int .i8 p1, .int .i8 p2] 50)) (p1, p2) hp ((Below.refl _ w).alloc (Nat.le_refl _) _))
  clear hb hf hp
  go_enter Try.func51, Try.ntmps51
  go_wp2_with (go_at_fn g; refine HC.out.mono ?_; rintro e w2 ⟨rfl, hb2⟩)
  go_ret
  exact ⟨rfl, ((Below.refl _ w).alloc (Nat.le_refl _) _).trans (hb2.mono (by simp))⟩
set_option maxRecDepth 100000 in
theorem c_areAllC (g : Nat) (fst cap : Array Value) (eg : ∀ args w, (callFunc g args).run Try.prog w = .ok (.enter g args) w) (f : Int × Int → Bool) (A : Option Addr) (cc : Nat) (l : List (Int × Int)) (hlen : l.length ≤ 1048576) (w : World) (hA : PairsAt .i8 .i8 w A l) (hf : TellsC g fst cap f l w) :
    Calls Try.prog 38 #[.slice A l.length cc, .func (.func g) fst cap] w fun e w' => e = .returned (.bool (l.all f)) ∧ Below w.heap.size w w' := by
  have B0 : Below w.heap.size w (w.alloc (.cells #[.func (.func g) fst cap] 68)) := (Below.refl _ w).alloc (Nat.le_refl _) _
  have HX := hid (block_new1 w (.cells #[.func (.func g) fst cap] 68) rfl)
  have HT : Hid (TellsC 51 #[] #[.pointer (some ⟨w.heap.size, 0, none⟩)] (fun p => !f p) l (w.alloc (.cells #[.func (.func g) fst cap] 68))) := by
    intro W p hp hb
    refine c_areAllCloC g fst cap eg f l p hp _ W (block_below hb HX.out (by simp)) ?_
    intro W2 q hq hb2
    exact hf W2 q hq (B0.trans (hb.trans (hb2.mono hb.size) |>.mono (by simp)))
  have HC := hid (c_containsFC 51 #[] _ (enters_of Try.func51 (by kernel_rfl) rfl) _ A cc l hlen _ (hA.below B0 (Nat.le_refl _)) HT.out)
  clear hA hf HT
  go_enter Try.func38, Try.ntmps38
  go_wp2_with (go_at_call 50; ((with_reducible refine HC.out.mono ?_); rintro e w1 ⟨rfl, hb1⟩))
  go_ret
  refine ⟨ret_bool ?_, B0.trans (hb1.mono (by simp))⟩
  rw [List.all_eq_not_any_not]
end Go.Proofs.Ytpmadamaefbamaa

/- The code of lists of pieces: the program's and the reference's. -/
namespace Go.Proofs.Ytpmadamaefbamaa
open Go.RowKit
set_option linter.unusedSimpArgs false
set_option linter.unusedVariables false
def isPc (p : Int × Int) : Bool := inB p.1 0 2 && inB p.2 1 7
set_option maxRecDepth 100000 in
theorem c_isPiece (p1 p2 : Int) (w : World) : Calls Try.prog 39 #[.agg #[.int .i8 p1, .int .i8 p2]] w fun e w' => e = .returned (.bool (isPc (p1, p2))) ∧ Below w.heap.size w w' := by
  have HF : Hid (isPc (p1, p2) = (inB p1 0 2 && inB p2 1 7)) := rfl
  obtain ⟨g1, hg1⟩ : ∃ g, inB p1 0 2 = g := ⟨_, rfl⟩
  obtain ⟨g2, hg2⟩ : ∃ g, inB p2 1 7 = g := ⟨_, rfl⟩
  have H1 := hid hg1
  have H2 := hid hg2
  rw [hg1, hg2] at HF
  clear hg1 hg2
  cases g1 <;> cases g2 <;>
  · go_enter Try.func39, Try.ntmps39
    have t1 : True := trivial
    go_wp2_with (first
      | (go_at_call 52; ((with_reducible refine (c_within8 p1 0 2 _ _ H1.out).mono ?_); rintro e1 w1 ⟨rfl, rfl⟩))
      | (go_at_call 52; ((with_reducible refine (c_within8 p2 1 7 _ _ H2.out).mono ?_); rintro e1 w1 ⟨rfl, rfl⟩)))
    go_ret
    exact ⟨ret_bool HF.out.symm, (Below.refl _ w).alloc (Nat.le_refl _) _⟩
set_option maxRecDepth 100000 in
theorem c_piecesC1 (A : Option Addr) (c : Nat) (l : List (Int × Int)) (hlen : l.length ≤ 1048576) (w : World) (hA : PairsAt .i8 .i8 w A l) :
    Calls Try.prog 37 #[.slice A l.length c] w fun e w' => e = .returned (.bool (l.all isPc)) ∧ Below w.heap.size w w' := by
  have HC := hid (c_areAllC 39 #[] #[] (enters_of Try.func39 (by kernel_rfl) rfl) isPc A c l hlen w hA (fun W p hp _ => c_isPiece p.1 p.2 W))
  clear hA
  go_enter Try.func37, Try.ntmps37
  go_wp2_with (go_at_call 38; ((with_reducible refine HC.out.mono ?_); rintro e1 w1 ⟨rfl, hb1⟩))
  go_ret
  exact ⟨rfl, hb1⟩
set_option maxRecDepth 100000 in
theorem c_piecesC2 (A : Option Addr) (c n : Nat) (hlen : n ≤ 1048576) (w : World) :
    Calls Try.prog 40 #[.slice A n c] w fun e w' => e = .returned (.bool (decide (n ≤ 30))) ∧ Below w.heap.size w w' := by
  by_cases h : n ≤ 30
  · have d1 : decide ((n : Int) ≤ 30) = true := decide_eq_true (by omega)
    have HD : Hid (decide (n ≤ 30) = true) := decide_eq_true h
    clear h
    go_enter Try.func40, Try.ntmps40
    go_wp2_with fail
    go_ret
    exact ⟨ret_bool HD.out.symm, Below.refl _ _⟩
  · have d1 : decide ((n : Int) ≤ 30) = false := decide_eq_false (by omega)
    have HD : Hid (decide (n ≤ 30) = false) := decide_eq_false h
    clear h
    go_enter Try.func40, Try.ntmps40
    go_wp2_with fail
    go_ret
    exact ⟨ret_bool HD.out.symm, Below.refl _ _⟩
/-- The code of lists. -/
def pcK (ls : List (List (Int × Int))) : Int := if (ls.all fun l => l.all isPc) = true then (if (ls.all fun l => decide (l.length ≤ 30)) = true then 0 else 3) else 1
/-- Slices that hold the lists. -/
def HoldsC (w : World) (vs : List Value) (ls : List (List (Int × Int))) : Prop := vs.length = ls.length ∧ ∀ (j : Nat) (v : Value) (l : List (Int × Int)), vs[j]? = some v → ls[j]? = some l → ∃ (A : Option Addr) (c : Nat), v = .slice A l.length c ∧ PairsAt .i8 .i8 w A l ∧ l.length ≤ 1048576
theorem holdsC_zip {w : World} {vs : List Value} {ls : List (List (Int × Int))} (h : HoldsC w vs ls) (g : List (Int × Int) → Bool) : ∀ p ∈ (vs.zip (ls.map g)), ∃ (l : List (Int × Int)) (A : Option Addr) (c : Nat), p = (Value.slice A l.length c, g l) ∧ PairsAt .i8 .i8 w A l ∧ l.length ≤ 1048576 := by
  intro p hp
  obtain ⟨j, hj, rfl⟩ := List.mem_iff_getElem.1 hp
  rw [List.length_zip, List.length_map] at hj
  have h1 : j < vs.length := by omega
  have h2 : j < ls.length := by omega
  obtain ⟨A, c, e, h3, h4⟩ := h.2 j _ _ (List.getElem?_eq_getElem h1) (List.getElem?_eq_getElem h2)
  exact ⟨ls[j], A, c, by rw [List.getElem_zip, List.getElem_map, e], h3, h4⟩
theorem all_zip (vs : List Value) (ls : List (List (Int × Int))) (hl : vs.length = ls.length) (g : List (Int × Int) → Bool) : (vs.zip (ls.map g)).all (·.2) = ls.all g := by
  induction vs generalizing ls with
  | nil => cases ls with
    | nil => rfl
    | cons a ls => simp at hl
  | cons v vs ih => cases ls with
    | nil => simp at hl
    | cons a ls => simp only [List.map_cons, List.zip_cons_cons, List.all_cons, ih ls (by simpa using hl)]
set_option maxRecDepth 100000 in
theorem c_piecesCode (A : Option Addr) (c : Nat) (vs : List Value) (ls : List (List (Int × Int))) (hl : vs.length ≤ 10) (w : World) (hA : ∀ j v, vs[j]? = some v → ∃ b off, A = some ⟨b, off, none⟩ ∧ b < w.heap.size ∧ w.cell? ⟨b, off + j, none⟩ = some v) (hv : HoldsC w vs ls) :
    Calls Try.prog 25 #[.slice A vs.length c] w fun e w' => e = .returned (.int .i64 (pcK ls)) ∧ Below w.heap.size w w' := by
  have key : ∀ (g : List (Int × Int) → Bool) (fn : Nat) (eg : ∀ args w, (callFunc fn args).run Try.prog w = .ok (.enter fn args) w) (hg : ∀ (W : World) A c (l : List (Int × Int)), l.length ≤ 1048576 → PairsAt .i8 .i8 W A l → Calls Try.prog fn #[.slice A l.length c] W fun e w' => e = .returned (.bool (g l)) ∧ Below W.heap.size W w') (W : World), Below w.heap.size w W →
      Calls Try.prog 36 #[.slice A vs.length c, .func (.func fn) #[] #[]] W fun e w' => e = .returned (.bool (ls.all g)) ∧ Below W.heap.size W w' := by
    intro g fn eg hg W hW
    have hz : (vs.zip (ls.map g)).length = vs.length := by rw [List.length_zip, List.length_map, hv.1, Nat.min_self]
    have := c_areAllV fn #[] #[] eg (·.2) A c (vs.zip (ls.map g)) (by omega) W (fun j p hj => by
      have hj1 : vs[j]? = some p.1 := by
        obtain ⟨h1, h2⟩ := List.getElem?_eq_some_iff.1 hj
        rw [hz] at h1
        rw [List.getElem?_eq_getElem h1]
        rw [List.getElem_zip] at h2
        rw [← h2]
      obtain ⟨b, off, e, h1, h2⟩ := hA j _ hj1
      exact ⟨b, off, e, Nat.lt_of_lt_of_le h1 hW.size, (hW.cell (p := ⟨b, _, none⟩) h1).trans h2⟩) (fun W2 p hp hb => by
      obtain ⟨l, A', c', rfl, h1, h2⟩ := holdsC_zip hv g p hp
      exact hg W2 A' c' l h2 ((h1.below hW (Nat.le_refl _)).below hb (Nat.le_refl _)))
    rw [hz, all_zip vs ls hv.1 g] at this
    exact this
  have H1 := fun W h => hid (key (fun l => l.all isPc) 37 (enters_of Try.func37 (by kernel_rfl) rfl) (fun W A c l h1 h2 => c_piecesC1 A c l h1 W h2) W h)
  have H2 := fun W h => hid (key (fun l => decide (l.length ≤ 30)) 40 (enters_of Try.func40 (by kernel_rfl) rfl) (fun W A c l h1 h2 => c_piecesC2 A c l.length h1 W) W h)
  have HK : Hid (pcK ls = if (ls.all fun l => l.all isPc) = true then (if (ls.all fun l => decide (l.length ≤ 30)) = true then 0 else 3) else 1) := rfl
  obtain ⟨g1, hg1⟩ : ∃ g, g = (ls.all fun l => l.all isPc) := ⟨_, rfl⟩
  obtain ⟨g2, hg2⟩ : ∃ g, g = (ls.all fun l => decide (l.length ≤ 30)) := ⟨_, rfl⟩
  rw [← hg1] at H1 HK
  rw [← hg2] at H2 HK
  obtain ⟨n, hn⟩ : ∃ n, n = vs.length := ⟨_, rfl⟩
  rw [← hn] at H1 H2 ⊢
  have HB0 := hid (Below.refl w.heap.size w)
  clear hg1 hg2 key hv hA hn hl
  cases g1 <;> cases g2 <;>
  · go_enter Try.func25, Try.ntmps25
    go_wp2_with (first
      | (go_at_call 36; ((with_reducible refine (H1 _ HB0.out).out.mono ?_); rintro e1 w1 ⟨rfl, hb1⟩); have HB1 := hid hb1; clear hb1)
      | (go_at_call 36; ((with_reducible refine (H2 _ HB1.out).out.mono ?_); rintro e2 w2 ⟨rfl, hb2⟩); have HB2 := hid (HB1.out.trans (hb2.mono HB1.out.size)); clear hb2))
    go_ret
    first | exact ⟨by rw [HK.out]; rfl, HB2.out⟩ | exact ⟨by rw [HK.out]; rfl, HB1.out⟩
end Go.Proofs.Ytpmadamaefbamaa

/- Pairs of pieces: plain. -/
namespace Go.Proofs.Ytpmadamaefbamaa
set_option linter.unusedSimpArgs false
set_option linter.unusedVariables false

/-- A right piece that fits a left one and is not taken. -/
def fitB (l : List (Int × Int)) (a : Int) (T : List Int) (b : Int) : Bool := decide (haL l b = 1) && (!decide (b ∈ T) && decide (wdL l a + wdL l b ≤ 8))
def pairA (l : List (Int × Int)) (ord : List Int) (st : List (Int × Int)) (a : Int) : List (Int × Int) :=
  if haL l a = 0 then (if ord.any (fitB l a (st.map (·.2))) = true then st ++ [(a, ord.getD (ord.findIdx (fitB l a (st.map (·.2)))) 0)] else st) else st
/-- The pairs that the first k of the order give. -/
def pairN (l : List (Int × Int)) (ord : List Int) (k : Nat) : List (Int × Int) := (ord.take k).foldl (pairA l ord) []
def pairL (l : List (Int × Int)) : List (Int × Int) := pairN l (ordL l) (ordL l).length
theorem pairN_succ {l : List (Int × Int)} {ord : List Int} {k : Nat} {a : Int} (h : ord[k]? = some a) : pairN l ord (k + 1) = pairA l ord (pairN l ord k) a := by
  obtain ⟨hk, rfl⟩ := List.getElem?_eq_some_iff.1 h
  unfold pairN
  rw [List.take_succ_eq_append_getElem hk, List.foldl_append]; rfl
theorem pairA_no {l : List (Int × Int)} {ord : List Int} {st : List (Int × Int)} {a : Int} (h : ¬ haL l a = 0) : pairA l ord st a = st := if_neg h
theorem pairA_none {l : List (Int × Int)} {ord : List Int} {st : List (Int × Int)} {a : Int} (h : ord.any (fitB l a (st.map (·.2))) = false) : pairA l ord st a = st := by
  unfold pairA
  rw [h]
  split <;> rfl
theorem pairA_some {l : List (Int × Int)} {ord : List Int} {st : List (Int × Int)} {a b : Int} {k : Nat} (h0 : haL l a = 0) (hk : ord[k]? = some b) (hno : (ord.take k).any (fitB l a (st.map (·.2))) = false) (hf : fitB l a (st.map (·.2)) b = true) :
    pairA l ord st a = st ++ [(a, b)] ∧ ord.any (fitB l a (st.map (·.2))) = true ∧ (k : Int) = idxI (fitB l a (st.map (·.2))) ord := by
  obtain ⟨hkl, rfl⟩ := List.getElem?_eq_some_iff.1 hk
  have h1 : ord.any (fitB l a (st.map (·.2))) = true := List.any_eq_true.2 ⟨_, List.getElem_mem hkl, hf⟩
  have h2 := idxI_at hkl hno hf
  refine ⟨?_, h1, h2⟩
  unfold pairA
  rw [if_pos h0, if_pos h1]
  unfold idxI at h2
  rw [if_pos h1] at h2
  have h3 : ord.findIdx (fitB l a (st.map (·.2))) = k := by omega
  rw [h3, List.getD_eq_getElem?_getD, List.getElem?_eq_getElem hkl]; rfl
/-- The index that is found. -/
theorem idxI_some {f : Int → Bool} {ord : List Int} (h : ord.any f = true) : ∃ k b, idxI f ord = ((k : Nat) : Int) ∧ ord[k]? = some b ∧ f b = true ∧ (ord.take k).any f = false := by
  have h1 : ord.findIdx f < ord.length := List.findIdx_lt_length.2 (List.any_eq_true.1 h)
  refine ⟨ord.findIdx f, ord[ord.findIdx f], by unfold idxI; rw [if_pos h], List.getElem?_eq_getElem h1, List.findIdx_getElem (w := h1), ?_⟩
  cases hh : (ord.take (ord.findIdx f)).any f with
  | false => rfl
  | true =>
    obtain ⟨x, hx, hfx⟩ := List.any_eq_true.1 hh
    obtain ⟨j, hj, rfl⟩ := List.mem_iff_getElem.1 hx
    rw [List.getElem_take] at hfx
    have hj' : j < ord.findIdx f := by rw [List.length_take] at hj; omega
    exact absurd hfx (by simpa using List.not_of_lt_findIdx hj')
theorem pairN_len (l : List (Int × Int)) (ord : List Int) : ∀ k : Nat, (pairN l ord k).length ≤ k := by
  intro k
  induction k with
  | zero => simp [pairN]
  | succ k ih =>
    cases h : ord[k]? with
    | none =>
      have hk : ord.length ≤ k := List.getElem?_eq_none_iff.1 h
      unfold pairN at ih ⊢
      rw [List.take_of_length_le (by omega)] at ih ⊢
      omega
    | some a =>
      rw [pairN_succ h]
      unfold pairA
      split
      · split
        · rw [List.length_append, List.length_singleton]; omega
        · omega
      · omega
theorem pairN_mem {l : List (Int × Int)} {ord : List Int} (hr : ∀ x ∈ ord, 0 ≤ x ∧ x < l.length) : ∀ k : Nat, ∀ p ∈ pairN l ord k, (0 ≤ p.1 ∧ p.1 < l.length) ∧ (0 ≤ p.2 ∧ p.2 < l.length) := by
  intro k
  induction k with
  | zero => intro p hp; simp [pairN] at hp
  | succ k ih =>
    cases h : ord[k]? with
    | none =>
      have hk : ord.length ≤ k := List.getElem?_eq_none_iff.1 h
      unfold pairN at ih ⊢
      rw [List.take_of_length_le (by omega)] at ih ⊢
      exact ih
    | some a =>
      have ha := hr a (List.mem_of_getElem? h)
      rw [pairN_succ h]
      unfold pairA
      split
      · split
        · rename_i hany
          obtain ⟨j, b, e1, e2, _, _⟩ := idxI_some hany
          intro p hp
          rcases List.mem_append.1 hp with hp | hp
          · exact ih p hp
          · rw [List.mem_singleton] at hp
            subst hp
            refine ⟨ha, ?_⟩
            have h1 : ord.findIdx (fitB l a ((pairN l ord k).map (·.2))) = j := by unfold idxI at e1; rw [if_pos hany] at e1; omega
            show 0 ≤ ord.getD _ 0 ∧ ord.getD _ 0 < _
            rw [h1, List.getD_eq_getElem?_getD, e2]
            exact hr b (List.mem_of_getElem? e2)
        · exact ih
      · exact ih
end Go.Proofs.Ytpmadamaefbamaa

/- A map[int]bool that a call made, all of whose entries are true: a set of numbers. -/
namespace Go.Proofs.Ytpmadamaefbamaa
open Go.RowKit
set_option linter.unusedSimpArgs false
set_option linter.unusedVariables false

/-- Block b is the map; the numbers in T are its keys. -/
def MapB (w : World) (b n : Nat) (T : List Int) : Prop :=
  ∃ D : DataW Nat, w.ownsMap Try.prog 3 (plainElem Try.prog 4) b n D ∧ Go.Maps.IsMap D ∧ ∀ x : Int, D.atKey (.int .i64 x) (.lit (.bool false)) = .lit (.bool (decide (x ∈ T)))
theorem MapB.made (w : World) : MapB (w.alloc (.map #[] 0)) w.heap.size 0 [] :=
  ⟨.map [], World.ownsMap_made w _ _ _, Go.Maps.isMap_empty, fun x => by simp [DataW.atKey]⟩
theorem MapB.lt {w : World} {b n : Nat} {T : List Int} (h : MapB w b n T) : b < w.heap.size := by
  obtain ⟨D, h1, _⟩ := h
  exact h1.lt
theorem MapB.keep {w w' : World} {b n : Nat} {T : List Int} (h : MapB w b n T) (hk : ∀ o, w.heap[b]? = some o → w'.heap[b]? = some o) : MapB w' b n T := by
  obtain ⟨D, ⟨es, clock, hb, F, hs, hD⟩, h2, h3⟩ := h
  exact ⟨D, ⟨es, clock, hk _ hb, F, hs, hD⟩, h2, h3⟩
theorem MapB.below {w w' : World} {b n : Nat} {T : List Int} (h : MapB w b n T) {B : Nat} (hb : Below B w w') (hB : b < B) : MapB w' b n T := h.keep fun o ho => block_below hb ho hB
theorem lit_i64 {x : Int} (h : -9223372036854775808 ≤ x ∧ x ≤ 9223372036854775807) : (Lit.int .i64 x).wf = true := by
  have e1 : IntKind.i64.min = -9223372036854775808 := by decide
  have e2 : IntKind.i64.max = 9223372036854775807 := by decide
  simp [Lit.wf, e1, e2]
  omega
theorem plain_bool_inv {P : Program} {e : TypeId} (he : P.underlying e = some .bool) {v : Value} {z : DataW Nat × List MemPlace} (h : plainElem P e v = some z) : ∃ a, v = .bool a ∧ z = (.lit (.bool a), []) := by
  unfold plainElem at h
  rw [he] at h
  cases v <;> simp at h
  exact ⟨_, rfl, h.symm⟩
theorem Try.keyInt : Go.Maps.Keyed Try.prog 3 := Go.Maps.int_keyed Try.underlying3
theorem MapB.lookup {w : World} {b n : Nat} {T : List Int} (h : MapB w b n T) (x : Int) (hx : -9223372036854775808 ≤ x ∧ x ≤ 9223372036854775807) :
    (Instr.lookup 69 (.map (some b)) (.int .i64 x) false).run Try.prog w = .ok (.bool (decide (x ∈ T))) w := by
  obtain ⟨D, h1, h2, h3⟩ := h
  have hz : (zeroValue 4).run Try.prog w = .ok (.bool false) w := by kernel_rfl
  obtain ⟨v, ps, hrun, hv⟩ := h1.lookup Try.keyInt Try.underlying69 hz (plainElem_bool Try.underlying4 false) (Go.Maps.keyOf_int_mk Try.underlying3 (lit_i64 hx))
  obtain ⟨a, rfl, e⟩ := plain_bool_inv Try.underlying4 hv
  rw [hrun]
  have e1 : D.atKey (.int .i64 x) (.lit (.bool false)) = .lit (.bool a) := (Prod.mk.inj e).1
  rw [h3 x] at e1
  have : decide (x ∈ T) = a := by simpa using e1
  rw [this]
theorem MapB.update {w : World} {b n : Nat} {T : List Int} (h : MapB w b n T) (hn : n < 1000000) (x : Int) (hx : -9223372036854775808 ≤ x ∧ x ≤ 9223372036854775807) :
    ∃ w', (Instr.mapUpdate 69 (.map (some b)) (.int .i64 x) (.bool true)).run Try.prog w = .ok () w' ∧ MapB w' b (n + 1) (T ++ [x]) ∧ w.grownBy w' (some b) := by
  obtain ⟨D, h1, h2, h3⟩ := h
  obtain ⟨w', hrun, h4, h5⟩ := h1.update Try.keyInt Try.underlying69 (Nat.lt_of_lt_of_le hn (by decide)) (Go.Maps.keyOf_int_mk Try.underlying3 (lit_i64 hx)) (plainElem_bool Try.underlying4 true)
  refine ⟨w', hrun, ⟨_, h4, h2.put _ _, fun y => ?_⟩, h5⟩
  by_cases e : y = x
  · subst e
    rw [Go.Maps.atKey_put_same h2 (show WideAt.IsKeyLit (.int .i64 y) from trivial)]
    simp
  · rw [Go.Maps.atKey_put_other (fun e' => e (by simpa using e')), h3 y]
    simp [e]
end Go.Proofs.Ytpmadamaefbamaa

/- Worlds in which one block was turned, and others made. -/
namespace Go.Proofs.Ytpmadamaefbamaa
open Go.RowKit
set_option linter.unusedSimpArgs false
set_option linter.unusedVariables false

/-- From w to w' nothing is turned but the block p. -/
structure Butt (p : Nat) (w w' : World) : Prop where
  os : w'.os = w.os
  tape : w'.tape = w.tape
  output : w'.output = w.output
  size : w.heap.size ≤ w'.heap.size
  block : ∀ k, k < w.heap.size → k ≠ p → w'.heap[k]? = w.heap[k]?
theorem Butt.refl (p : Nat) (w : World) : Butt p w w := ⟨rfl, rfl, rfl, Nat.le_refl _, fun _ _ _ => rfl⟩
theorem Butt.trans {p : Nat} {a b c : World} (h : Butt p a b) (k : Butt p b c) : Butt p a c :=
  ⟨k.os.trans h.os, k.tape.trans h.tape, k.output.trans h.output, Nat.le_trans h.size k.size, fun i hi hn => (k.block i (Nat.lt_of_lt_of_le hi h.size) hn).trans (h.block i hi hn)⟩
theorem Butt.of {p : Nat} {w w' : World} (h : Below w.heap.size w w') : Butt p w w' := ⟨h.os, h.tape, h.output, h.size, fun k hk _ => h.block k hk⟩
theorem Butt.set (p : Nat) (w : World) (j : Nat) (v : Value) : Butt p w (w.setCell ⟨p, j, none⟩ v) :=
  ⟨rfl, rfl, rfl, by simp, fun k _ hn => heap_setCell_other w ⟨p, j, none⟩ k v hn⟩
theorem Butt.below {p B : Nat} {w w' : World} (h : Butt p w w') (h1 : B ≤ p) (h2 : B ≤ w.heap.size) : Below B w w' :=
  ⟨h.os, h.tape, h.output, h.size, fun k hk => h.block k (by omega) (by omega)⟩
theorem Butt.at {p : Nat} {w w' : World} (h : Butt p w w') {b : Nat} {o : Obj} (hb : w.heap[b]? = some o) (hn : b ≠ p) : w'.heap[b]? = some o := (h.block b (block_lt hb) hn).trans hb
end Go.Proofs.Ytpmadamaefbamaa

/- Rows that a call owns, several side by side: appended to, stored into. -/
namespace Go.Proofs.Ytpmadamaefbamaa
open Go.RowKit
set_option linter.unusedSimpArgs false
set_option linter.unusedVariables false

/-- Two slices do not share their array. -/
def Apart (v v' : Value) : Prop := ∀ g, v.ownBlock = some g → v'.ownBlock = some g → False
theorem Apart.symm {v v' : Value} (h : Apart v v') : Apart v' v := fun g h1 h2 => h g h2 h1
theorem Apart.nil (v : Value) (n c : Nat) : Apart (.slice none n c) v := fun g h => by simp [Value.ownBlock] at h
theorem Apart.nil' (v : Value) (n c : Nat) : Apart v (.slice none n c) := (Apart.nil v n c).symm
/-- From W to w': nothing is turned but the array of v; v' has it, or an array of its own. -/
structure Grew (v v' : Value) (W w' : World) : Prop where
  below : ∀ B0, (∀ g, v.ownBlock = some g → B0 ≤ g) → B0 ≤ W.heap.size → Below B0 W w'
  block : ∀ b o, W.heap[b]? = some o → v.ownBlock ≠ some b → w'.heap[b]? = some o
  own : ∀ g, v'.ownBlock = some g → v.ownBlock = some g ∨ W.heap.size ≤ g
  size : W.heap.size ≤ w'.heap.size
theorem Grew.row {v v' u : Value} {W w' : World} (h : Grew v v' W w') {B : Nat} {e : TypeId} {sz n : Nat} {xs : List Value} (hu : W.ownsRow B e sz u n xs) (ha : Apart u v) : w'.ownsRow B e sz u n xs := by
  refine ⟨hu.1, ?_⟩
  rcases hu.2 with hn | ⟨g, cap, cur, rfl, hb, hg, rest⟩
  · exact .inl hn
  · exact .inr ⟨g, cap, cur, rfl, hb, h.block g _ hg (fun e => ha g rfl e), rest⟩
theorem Grew.apart {v v' u : Value} {W w' : World} (h : Grew v v' W w') {B : Nat} {e : TypeId} {sz n : Nat} {xs : List Value} (hu : W.ownsRow B e sz u n xs) (ha : Apart u v) : Apart u v' := fun g h1 h2 => by
  rcases h.own g h2 with h3 | h3
  · exact ha g h1 h3
  · have := (hu.lt g h1).2; omega
theorem owns_slc {w : World} {base : Nat} {T : TypeId} {s n : Nat} {v : Value} {xs : List Value} (h : w.ownsRow base T s v n xs) : ∃ A c, v = .slice A n c := by
  rcases h.2 with ⟨rfl, rfl⟩ | ⟨g, cap, cur, rfl, _⟩
  · exact ⟨none, 0, rfl⟩
  · exact ⟨_, _, rfl⟩
/-- One element more, which lies in a block of its own that was just laid. -/
theorem wpList_append_row {P : Program} {ops : Array Oper} {rest : List Oper} {o : Oper} {a : Act} {W : World} {Q : Exit → Act → World → Prop} (hgd : o.guard = none) (s x : Operand) (t : TypeId)
    (ho : o.op = .call { callee := .builtin .append, args := #[s, x], argTypes := #[t, t] })
    (B : Nat) (e : TypeId) (i : TypeInfo) (z : Value) (size bytes : Nat) (ht : P.underlying t = some (.slice e)) (hi : P.info? e = some i) (hz : i.zero = some z)
    (hsize : i.size = size) (hby : i.bytes = bytes) (hzs : z.cells.size = size) (hsz : 0 < size) (hby2 : bytes ≤ 100)
    (v : Value) (n : Nat) (xs : List Value) (hs : a.eval s = v) (hown : W.ownsRow B e size v n xs) (news : Array Value) (hns : news.size = size) (h1 : ∀ u ∈ news, u.oneCell' = true)
    (H : Nat) (hx : a.eval x = .slice (some ⟨H, 0, none⟩) 1 1) (hn : n ≤ 1100000) (hB : B ≤ W.heap.size) (hH : W.heap.size = H) (E : TypeId)
    (h : ∀ v' w', w'.ownsRow B e size v' (n + 1) (xs ++ news.toList) → Grew v v' W w' → wpList P ops Q rest (a.put o.dst v') w') : wpList P ops Q (o :: rest) a (W.alloc (.cells news E)) := by
  subst hH
  refine wpList_append_lies _ hgd s x t ho B e i z size bytes ht hi hz hsize hby hzs hsz v n xs hs (hown.alloc _) ⟨W.heap.size, 0, none⟩ 1 1 news.toList hx (by simp [hns]) ?_ (fun u hu => h1 u (by simpa using hu)) (by decide) (Nat.le_trans (Nat.add_le_add_right hn 1) (by decide))
    (Nat.le_trans (Nat.mul_le_mul (Nat.add_le_add_right hn 1) hby2) (by decide)) (Nat.le_trans hB (by simp)) (W.heap.size + 1) (by simp) ?_
  · exact World.news_of_block (block_new1 W _ rfl)
  · intro g cap w' h2 h3 h4 h5
    refine h _ _ h2 ⟨?_, ?_, ?_, ?_⟩
    · intro B0 hB0 hB1
      exact ((Below.refl B0 W).alloc hB1 _).grown h3 (by simp; omega) hB0
    · intro b o hb hne
      have hlt : b < (W.alloc (.cells news E)).heap.size := by have := block_lt hb; simp; omega
      exact (h3.block b hlt (fun e => hne e.symm)).trans (block_alloc hb _)
    · intro g' hg'
      simp [Value.ownBlock] at hg'
      subst hg'
      rcases h4 with h4 | h4
      · exact .inl h4
      · right; omega
    · have := h3.size; simp at this; omega
theorem Grew.of_drew {v v' : Value} {W w' : World} (h : Grew v v' W.drew w') : Grew v v' W w' :=
  ⟨fun B0 h1 h2 => ((Below.refl B0 W).drew).trans (h.below B0 h1 h2), fun b o hb hne => h.block b o hb hne, h.own, h.size⟩
/-- The same behind a draw. -/
theorem wpList_append_rowD {P : Program} {ops : Array Oper} {rest : List Oper} {o : Oper} {a : Act} {W : World} {Q : Exit → Act → World → Prop} (hgd : o.guard = none) (s x : Operand) (t : TypeId)
    (ho : o.op = .call { callee := .builtin .append, args := #[s, x], argTypes := #[t, t] })
    (B : Nat) (e : TypeId) (i : TypeInfo) (z : Value) (size bytes : Nat) (ht : P.underlying t = some (.slice e)) (hi : P.info? e = some i) (hz : i.zero = some z)
    (hsize : i.size = size) (hby : i.bytes = bytes) (hzs : z.cells.size = size) (hsz : 0 < size) (hby2 : bytes ≤ 100)
    (v : Value) (n : Nat) (xs : List Value) (hs : a.eval s = v) (hown : W.ownsRow B e size v n xs) (news : Array Value) (hns : news.size = size) (h1 : ∀ u ∈ news, u.oneCell' = true)
    (H : Nat) (hx : a.eval x = .slice (some ⟨H, 0, none⟩) 1 1) (hn : n ≤ 1100000) (hB : B ≤ W.heap.size) (hH : W.heap.size = H) (E : TypeId)
    (h : ∀ v' w', w'.ownsRow B e size v' (n + 1) (xs ++ news.toList) → Grew v v' W w' → wpList P ops Q rest (a.put o.dst v') w') : wpList P ops Q (o :: rest) a (W.alloc (.cells news E)).drew :=
  wpList_append_row (W := W.drew) hgd s x t ho B e i z size bytes ht hi hz hsize hby hzs hsz hby2 v n xs hs hown news hns h1 H hx hn hB hH E fun v' w' g1 g2 => h v' w' g1 g2.of_drew
/-- One cell of such a row, replaced. -/
theorem owns_set {W : World} {B : Nat} {e : TypeId} {sz n : Nat} {v : Value} {xs : List Value} (h : W.ownsRow B e sz v n xs) {g : Nat} (hg : v.ownBlock = some g) (j : Nat) (hj : j < n * sz) (x : Value) :
    (W.setCell ⟨g, j, none⟩ x).ownsRow B e sz v n (xs.set j x) := by
  refine ⟨by simp [h.1], ?_⟩
  rcases h.2 with ⟨rfl, hn⟩ | ⟨g', cap, cur, rfl, hb, hgg, hc, hm, hs, ht⟩
  · simp [Value.ownBlock] at hg
  · simp [Value.ownBlock] at hg
    subst hg
    refine .inr ⟨g', cap, _, rfl, hb, heap_setCell_same W g' j cur e x hgg, hc, hm, by simp [hs], ?_⟩
    rw [← ht]
    simp [List.take_set]
theorem owns_set_other {W : World} {B : Nat} {e : TypeId} {sz n : Nat} {v : Value} {xs : List Value} (h : W.ownsRow B e sz v n xs) {g : Nat} (hg : v.ownBlock ≠ some g) (j : Nat) (x : Value) :
    (W.setCell ⟨g, j, none⟩ x).ownsRow B e sz v n xs := by
  refine ⟨h.1, ?_⟩
  rcases h.2 with hn | ⟨g', cap, cur, rfl, hb, hgg, rest⟩
  · exact .inl hn
  · exact .inr ⟨g', cap, cur, rfl, hb, block_set_other hgg (a := ⟨g, j, none⟩) x (by rintro rfl; exact hg rfl), rest⟩
theorem owns_below2 {w w' : World} {base B : Nat} {e : TypeId} {size : Nat} {v : Value} {n : Nat} {xs : List Value} (h : w.ownsRow base e size v n xs) (hb : Below B w w') (hB : w.heap.size ≤ B) : w'.ownsRow base e size v n xs := by
  refine ⟨h.1, ?_⟩
  rcases h.2 with hn | ⟨g, cap, cur, rfl, hb0, hg, rest⟩
  · exact .inl hn
  · exact .inr ⟨g, cap, cur, rfl, hb0, block_below hb hg (Nat.lt_of_lt_of_le (block_lt hg) hB), rest⟩
/-- A cell of such a row. -/
theorem owns_cell {W : World} {B : Nat} {e : TypeId} {sz n : Nat} {v : Value} {xs : List Value} (h : W.ownsRow B e sz v n xs) {j : Nat} {x : Value} (hx : xs[j]? = some x) :
    ∃ g c, v = .slice (some ⟨g, 0, none⟩) n c ∧ B ≤ g ∧ g < W.heap.size ∧ W.cell? ⟨g, j, none⟩ = some x ∧ W.frozen? ⟨g, j, none⟩ = false := by
  have hl := (List.getElem?_eq_some_iff.1 hx).1
  rw [h.1] at hl
  rcases h.2 with ⟨rfl, hn⟩ | ⟨g, cap, cur, rfl, hb, hgg, hc, hm, hs, ht⟩
  · subst hn; simp at hl
  · refine ⟨g, cap, rfl, hb, block_lt hgg, cell_block hgg ?_, frozen_of_row _ _ _ _ _ hgg⟩
    rw [← ht, List.getElem?_take, if_pos hl] at hx
    simpa using hx
end Go.Proofs.Ytpmadamaefbamaa

/- A stable sort by insertion and merging in place: exchanges and rotations of a row of numbers. -/
namespace Go.Proofs.Ytpmadamaefbamaa
open Go.RowKit
set_option linter.unusedSimpArgs false
set_option linter.unusedVariables false

def cellsF (f : Nat → Int) (n : Nat) : List Value := (List.range n).map fun k => .int .i64 (f k)
theorem cellsF_len (f : Nat → Int) (n : Nat) : (cellsF f n).length = n := by simp [cellsF]
theorem cellsF_get (f : Nat → Int) {n k : Nat} (h : k < n) : (cellsF f n)[k]? = some (.int .i64 (f k)) := by
  unfold cellsF
  rw [List.getElem?_map, List.getElem?_range h]; rfl
theorem cellsF_congr {f f' : Nat → Int} {n : Nat} (h : ∀ k, k < n → f k = f' k) : cellsF f n = cellsF f' n := by
  unfold cellsF
  refine List.map_congr_left fun k hk => ?_
  rw [h k (List.mem_range.1 hk)]
theorem cellsF_set (f : Nat → Int) {n k : Nat} (h : k < n) (v : Int) : (cellsF f n).set k (.int .i64 v) = cellsF (fun y => if y = k then v else f y) n := by
  apply List.ext_getElem?
  intro y
  rw [List.getElem?_set]
  by_cases e : k = y
  · subst e; rw [if_pos rfl, cellsF_len, if_pos h, cellsF_get _ h, if_pos rfl]
  · rw [if_neg e]
    by_cases hy : y < n
    · rw [cellsF_get _ hy, cellsF_get _ hy, if_neg (fun e' => e e'.symm)]
    · rw [List.getElem?_eq_none (by rw [cellsF_len]; omega), List.getElem?_eq_none (by rw [cellsF_len]; omega)]
/-- The block g starts with n numbers. -/
def IntB (B : Nat) (w : World) (g n c : Nat) (f : Nat → Int) : Prop := w.ownsRow B 3 1 (.slice (some ⟨g, 0, none⟩) n c) n (cellsF f n)
theorem IntB.lt {B : Nat} {w : World} {g n c : Nat} {f : Nat → Int} (h : IntB B w g n c f) : B ≤ g ∧ g < w.heap.size := World.ownsRow.lt h g rfl
theorem IntB.cell {B : Nat} {w : World} {g n c : Nat} {f : Nat → Int} (h : IntB B w g n c f) {k : Nat} (hk : k < n) : w.cell? ⟨g, k, none⟩ = some (.int .i64 (f k)) ∧ w.frozen? ⟨g, k, none⟩ = false := by
  obtain ⟨g', c', e, _, _, h1, h2⟩ := owns_cell h (cellsF_get f hk)
  obtain ⟨rfl, _⟩ : g = g' ∧ c = c' := by simpa using e
  exact ⟨h1, h2⟩
theorem IntB.set {B : Nat} {w : World} {g n c : Nat} {f : Nat → Int} (h : IntB B w g n c f) {k : Nat} (hk : k < n) (v : Int) : IntB B (w.setCell ⟨g, k, none⟩ (.int .i64 v)) g n c (fun y => if y = k then v else f y) := by
  have := owns_set h (g := g) rfl k (by omega) (.int .i64 v)
  rw [cellsF_set f hk v] at this
  exact this
theorem IntB.sw2 {B : Nat} {w : World} {g n c : Nat} {f : Nat → Int} (h : IntB B w g n c f) {i j : Nat} (hi : i < n) (hj : j < n) : IntB B ((w.setCell ⟨g, i, none⟩ (.int .i64 (f j))).setCell ⟨g, j, none⟩ (.int .i64 (f i))) g n c (sw2 i j f) :=
  (h.set hi (f j)).set hj (f i)
theorem IntB.below {B B' : Nat} {w w' : World} {g n c : Nat} {f : Nat → Int} (h : IntB B w g n c f) (hb : Below B' w w') (hB : w.heap.size ≤ B') : IntB B w' g n c f := owns_below2 h hb hB
theorem IntB.congr {B : Nat} {w : World} {g n c : Nat} {f f' : Nat → Int} (h : IntB B w g n c f) (he : ∀ k, k < n → f k = f' k) : IntB B w g n c f' := by
  unfold IntB at h ⊢
  rw [← cellsF_congr he]; exact h
theorem IntB.drew {B : Nat} {w : World} {g n c : Nat} {f : Nat → Int} (h : IntB B w g n c f) : IntB B w.drew g n c f := h.below ((Below.refl w.heap.size w).drew) (Nat.le_refl _)
theorem butt_sw2 (w : World) (g i j : Nat) (u v : Value) : Butt g w ((w.setCell ⟨g, i, none⟩ u).setCell ⟨g, j, none⟩ v).drew := ((Butt.set g w i u).trans (Butt.set g _ j v)).trans (Butt.of ((Below.refl _ _).drew))
theorem setcell_cell {w : World} {g i j : Nat} {u v : Value} (h : w.cell? ⟨g, j, none⟩ = some v) (hne : i ≠ j) : (w.setCell ⟨g, i, none⟩ u).cell? ⟨g, j, none⟩ = some v := by
  exact (World.cell?_setCell_other _ _ (a := ⟨g, i, none⟩) (b := ⟨g, j, none⟩) (fun e => hne (congrArg Addr.off e))).trans h
set_option maxRecDepth 100000 in
theorem c_swapRange (B g n c a b k : Nat) (hab : a + k ≤ b) (hb : b + k ≤ n) (hn : n ≤ 1000) (fv : Value) (f : Nat → Int) (w : World) (h : IntB B w g n c f) :
    Calls Try.prog 66 #[.slice (some ⟨g, 0, none⟩) n c, .int .i64 a, .int .i64 b, .int .i64 k, fv] w fun e w' => e = .returned (.tuple #[]) ∧ Butt g w w' ∧ IntB B w' g n c (swpF a b k f) := by
  have H := hid h
  have HZ : Hid (IntB B w g n c (swpF a b 0 f)) := by rw [swpF_zero]; exact H.out
  clear h H
  go_enter Try.func66, Try.ntmps66
  go_wp2_with fail
  go_loopw [10] (fun v wr => ∃ i : Nat, i ≤ k ∧ v = .int .i64 i ∧ Hid (Butt g w wr) ∧ Hid (IntB B wr g n c (swpF a b i f))) (fun v _ => k - (intOf v).toNat)
  case atStart => exact ⟨0, by omega, rfl, Butt.refl _ _, HZ.out⟩
  case round =>
    clear HZ
    obtain ⟨wo, rfl⟩ : ∃ W, W = wr := ⟨_, rfl⟩
    obtain ⟨i, hi, rfl, hb1, hr⟩ := hrel
    by_cases hlt : i < k
    · have hd : decide ((i : Int) < (k : Int)) = true := decide_eq_true (by omega)
      obtain ⟨x, hx⟩ : ∃ x, x = a + i := ⟨_, rfl⟩
      obtain ⟨y, hy⟩ : ∃ y, y = b + i := ⟨_, rfl⟩
      have e1 : IntKind.i64.wrap ((a : Int) + (i : Int)) = (x : Int) := by rw [IntWalk.i64_in _ (by omega)]; omega
      have e2 : IntKind.i64.wrap ((b : Int) + (i : Int)) = (y : Int) := by rw [IntWalk.i64_in _ (by omega)]; omega
      have x0 : (0 : Int) ≤ (x : Int) := by omega
      have x1 : (x : Int) < (n : Int) := by omega
      have y0 : (0 : Int) ≤ (y : Int) := by omega
      have y1 : (y : Int) < (n : Int) := by omega
      obtain ⟨c1, z1⟩ := hr.out.cell (k := x) (by omega)
      obtain ⟨c2, z2⟩ := hr.out.cell (k := y) (by omega)
      have HN := hid ((hr.out.sw2 (i := x) (j := y) (by omega) (by omega)).drew)
      obtain ⟨vx, hvx⟩ : ∃ v, v = swpF a b i f x := ⟨_, rfl⟩
      obtain ⟨vy, hvy⟩ : ∃ v, v = swpF a b i f y := ⟨_, rfl⟩
      rw [← hvx] at c1 HN
      rw [← hvy] at c2 HN
      have c3 : (wo.setCell ⟨g, x, none⟩ (.int .i64 vy)).cell? ⟨g, y, none⟩ = some (.int .i64 vy) := setcell_cell c2 (by omega)
      rw [hx, hy, swpF_succ (by omega)] at HN
      rw [← hx, ← hy] at HN
      have HLT := hid hlt
      have hi1 : (i : Int) ≤ 1000 := by omega
      clear hvx hvy hx hy hab hb hn hlt
      go_wp2_with fail
      go_big_region
      go_wp2_with fail
      refine ⟨⟨i + 1, by have := HLT.out; omega, by go_num, hb1.out.trans (butt_sw2 _ _ _ _ _ _), HN.out⟩, by have := HLT.out; simp [intOf]; omega⟩
    · obtain rfl : i = k := by omega
      have hd : decide ((i : Int) < (i : Int)) = false := decide_eq_false (by omega)
      go_wp2_with fail
      go_end0
      exact ⟨rfl, hb1.out, hr.out⟩
end Go.Proofs.Ytpmadamaefbamaa

/- A stable sort by insertion and merging in place: the insertion. -/
namespace Go.Proofs.Ytpmadamaefbamaa
open Go.RowKit
set_option linter.unusedSimpArgs false
set_option linter.unusedVariables false
/-- The function value compares the numbers below n by cz, as long as nothing ahead of block g is turned. -/
def CmpK (fn : Nat) (fst cap : Array Value) (cz : Int → Int → Int) (n g : Nat) (w0 : World) : Prop :=
  ∀ (W : World) (x y : Int), (0 ≤ x ∧ x < n) → (0 ≤ y ∧ y < n) → Below g w0 W → Calls Try.prog fn (fst ++ (#[.int .i64 x, .int .i64 y] ++ cap)) W fun e w' => e = .returned (.int .i64 (cz x y)) ∧ Below W.heap.size W w'
/-- What sorting a part leaves. -/
def SrtRet (B g n c a b : Nat) (ρ : Int → Int) (f : Nat → Int) (w : World) (e : Ending) (w' : World) : Prop := e = .returned (.tuple #[]) ∧ ∃ f', Butt g w w' ∧ IntB B w' g n c f' ∧ Same a b f f' ∧ Asc ρ a b f'
theorem butt_below {g B : Nat} {w0 w w' : World} (h : Below g w0 w) (hb : Butt g w w') (hg : g ≤ w.heap.size) : Below g w0 w' := h.trans (hb.below (Nat.le_refl _) hg)
theorem rotF_one (i : Nat) (f : Nat → Int) : rotF i i (i + 1) f = f := by
  funext k
  unfold rotF
  by_cases h : i ≤ k ∧ k < i + (i + 1 - i)
  · rw [if_pos h]; congr 1; omega
  · rw [if_neg h, if_neg (by omega)]
set_option maxHeartbeats 1600000 in
set_option maxRecDepth 100000 in
theorem c_insSort (B g n c : Nat) (hn : n ≤ 1000) (fn : Nat) (fst cap : Array Value) (eg : ∀ args w, (callFunc fn args).run Try.prog w = .ok (.enter fn args) w) (cz : Int → Int → Int) (ρ : Int → Int) (w0 : World) (hcmp : CmpK fn fst cap cz n g w0)
    (hlt : ∀ x y : Int, 0 ≤ y → y < x → x < n → (cz x y < 0 ∧ ρ x < ρ y) ∨ (¬ cz x y < 0 ∧ ρ y < ρ x)) (a b : Nat) (hab : a ≤ b) (hb : b ≤ n) (f : Nat → Int) (hf : ∀ k, a ≤ k → k < b → f k = (k : Int)) (w : World) (hw : Below g w0 w) (h : IntB B w g n c f) :
    Calls Try.prog 63 #[.slice (some ⟨g, 0, none⟩) n c, .int .i64 a, .int .i64 b, .func (.func fn) fst cap] w (SrtRet B g n c a b ρ f w) := by
  have H := hid h
  have HW := hid hw
  have HC := hid hcmp
  have HL := hid hlt
  have HF := hid hf
  have HN : Hid (a ≤ b ∧ b ≤ n ∧ n ≤ 1000) := ⟨hab, hb, hn⟩
  have e1 : IntKind.i64.wrap ((a : Int) + 1) = ((a + 1 : Nat) : Int) := by rw [IntWalk.i64_in _ (by omega)]; omega
  obtain ⟨a1, ha1⟩ : ∃ x, x = a + 1 := ⟨_, rfl⟩
  rw [← ha1] at e1
  have HA1 := hid ha1
  clear h hw hcmp hlt hf ha1 hab hb hn
  go_enter Try.func63, Try.ntmps63
  go_wp2_with fail
  go_loopw [8] (fun v wr => ∃ (i : Nat) (f' : Nat → Int), v = .int .i64 i ∧ Hid (a + 1 ≤ i ∧ (i ≤ b ∨ i = a + 1)) ∧ Hid (Butt g w wr) ∧ Hid (IntB B wr g n c f') ∧ Hid (Same a i f f') ∧ Hid (Asc ρ a i f')) (fun v _ => b - (intOf v).toNat)
  case atStart => exact ⟨a1, f, rfl, by have := HA1.out; exact ⟨by omega, .inr this⟩, Butt.refl _ _, H.out, Same.refl _ _ _, Asc.one _ _ _ _ (by have := HA1.out; omega)⟩
  case round =>
    clear e1
    obtain ⟨wo, rfl⟩ : ∃ W, W = wr := ⟨_, rfl⟩
    obtain ⟨i, f', rfl, hi, hb1, hr, hs, ha⟩ := hrel
    obtain ⟨i1, i2⟩ := hi.out
    have hN := HN.out
    have hgw := hid (hr.out.lt).2
    have HWo := hid (butt_below (B := B) HW.out hb1.out (Nat.le_of_lt H.out.lt.2))
    by_cases hib : i < b
    · have d1 : decide ((i : Int) < (b : Int)) = true := decide_eq_true (by omega)
      have d2 : decide (i < b) = true := decide_eq_true hib
      have HIB := hid hib
      have hib1 : (i : Int) ≤ 1000 := by omega
      have hfi : Hid (f' i = (i : Int)) := by show _ = _; rw [hs.out.out i (by omega)]; exact HF.out i (by omega) hib
      clear i1 i2 hN hib
      go_wp2_with fail
      go_loopw [9] (fun v wr => ∃ j : Nat, v = .int .i64 j ∧ Hid (a ≤ j ∧ j ≤ i) ∧ Hid (Butt g wo wr) ∧ Hid (IntB B wr g n c (rotF j i (i + 1) f')) ∧ Hid (∀ k, j ≤ k → k < i → ρ (f' i) < ρ (f' k))) (fun v _ => (intOf v).toNat)
      case atStart => exact ⟨i, rfl, ⟨by have := hi.out; omega, Nat.le_refl _⟩, Butt.refl _ _, by rw [rotF_one]; exact hr.out, fun k h1 h2 => by omega⟩
      case round =>
        obtain ⟨wm, rfl⟩ : ∃ W, W = wr := ⟨_, rfl⟩
        obtain ⟨j, rfl, hj, hbm, hrm, hal⟩ := hrel
        obtain ⟨j1, j2⟩ := hj.out
        have hN := HN.out
        have hIB := HIB.out
        have hii := hi.out
        have hdone : (j = a ∨ ρ (f' (j - 1)) < ρ (f' i)) → Hid (Same a (i + 1) f (rotF j i (i + 1) f') ∧ Asc ρ a (i + 1) (rotF j i (i + 1) f')) := fun hd =>
          ⟨(hs.out.mono (Nat.le_refl _) (Nat.le_succ _)).trans ((Same.rot j2 (Nat.le_succ _) f').mono j1 (Nat.le_refl _)),
           one_last j1 j2 ha.out (fun k k1 k2 => by
            rcases hd with hd | hd
            · omega
            · by_cases e : k = j - 1
              · rw [e]; exact hd
              · exact Int.lt_trans (ha.out k (j - 1) k1 (by omega) (by omega)) hd) hal.out⟩
        by_cases hja : j = a
        · subst hja
          have HD := hdone (.inl rfl)
          have d3 : decide ((j : Int) > (j : Int)) = false := decide_eq_false (by omega)
          have d4 : decide (j < j) = false := decide_eq_false (by omega)
          clear hdone j1 j2 hN hIB hii
          go_wp2_with fail
          refine wp_region_ext wm.heap.size (by kernel_rfl) (by kernel_rfl) ?_
          repeat (go_big_quiet_step (fail))
          refine wpQuiet_nil ?_
          intro xx
          go_wp2_with fail
          refine ⟨⟨i + 1, _, by go_num, ⟨by have := hi.out.1; omega, .inl (by have := HIB.out; omega)⟩, (hb1.out.trans hbm.out).trans (Butt.of (xx.below.mono (Nat.le_refl _))), hrm.out.below xx.below (Nat.le_refl _), HD.out.1, HD.out.2⟩, by have := HIB.out; simp [intOf]; omega⟩
        · have d3 : decide ((j : Int) > (a : Int)) = true := decide_eq_true (by omega)
          have d4 : decide (a < j) = true := decide_eq_true (by omega)
          obtain ⟨c1, z1⟩ := hrm.out.cell (k := j) (by omega)
          obtain ⟨c2, z2⟩ := hrm.out.cell (k := j - 1) (by omega)
          rw [rot_b f' (Nat.le_refl j) (by omega), show j - j + i = i by omega, hfi.out] at c1
          rw [rot_a (a := 0) f' (show j - 1 < j by omega)] at c2
          have e3 : IntKind.i64.wrap ((j : Int) - 1) = ((j - 1 : Nat) : Int) := by rw [IntWalk.i64_in _ (by omega)]; omega
          obtain ⟨yv, hyv⟩ : ∃ y, y = f' (j - 1) := ⟨_, rfl⟩
          have hyr : 0 ≤ yv ∧ yv < (i : Int) := by
            obtain ⟨k, k1, k2, e⟩ := hs.out.to (j - 1) (by omega) (by omega)
            rw [hyv, e, HF.out k k1 (by omega)]; omega
          have hc := HL.out (i : Int) yv hyr.1 hyr.2 (by omega)
          have HCC := fun W h => hid (HC.out W (i : Int) yv ⟨by omega, by omega⟩ ⟨hyr.1, by omega⟩ h)
          have HWm := hid (butt_below (B := B) HWo.out hbm.out (Nat.le_of_lt hgw.out))
          have HSW : ∀ W, IntB B W g n c (rotF j i (i + 1) f') → Hid (IntB B ((W.setCell ⟨g, j, none⟩ (.int .i64 yv)).setCell ⟨g, j - 1, none⟩ (.int .i64 (i : Int))).drew g n c (rotF (j - 1) i (i + 1) f')) := fun W hW => by
            have hsw := (hW.sw2 (i := j) (j := j - 1) (by omega) (by omega)).drew
            have hrd := rot_down (m := i) (k := j) (by omega) j2 f'
            rw [rot_b f' (Nat.le_refl j) (by omega), show j - j + i = i by omega, hfi.out, rot_a (a := 0) f' (show j - 1 < j by omega), hrd, ← hyv] at hsw
            exact hsw
          rw [← hyv] at c2 hdone
          have hgm := hid (hrm.out.lt).2
          have hg2 : g < wm.heap.size := hgm.out
          have hAl2 : cz (i : Int) yv < 0 → ρ (i : Int) < ρ yv → Hid (∀ k, j - 1 ≤ k → k < i → ρ (f' i) < ρ (f' k)) := fun _ h k k1 k2 => by
            by_cases e : k = j - 1
            · rw [e, hfi.out, ← hyv]; exact h
            · exact hal.out k (by omega) k2
          have HJ : Hid (a ≤ j - 1 ∧ j - 1 ≤ i ∧ j - 1 < j) := ⟨by omega, by omega, by omega⟩
          obtain ⟨j3, hj3⟩ : ∃ x, x = j - 1 := ⟨_, rfl⟩
          rw [← hj3] at c2 z2 e3 HSW hAl2 HJ
          obtain ⟨z, hz⟩ : ∃ z, z = cz (i : Int) yv := ⟨_, rfl⟩
          rw [← hz] at hc HCC hAl2
          have x0 : (0 : Int) ≤ (j : Int) := by omega
          have x1 : (j : Int) < (n : Int) := by omega
          have y0 : (0 : Int) ≤ (j3 : Int) := by omega
          have y1 : (j3 : Int) < (n : Int) := by omega
          have hne : Hid (j ≠ j3) := by show _ ≠ _; omega
          rcases hc with ⟨hz0, hρ⟩ | ⟨hz0, hρ⟩
          · have d5 : decide (z < 0) = true := decide_eq_true hz0
            have HAL := hAl2 hz0 hρ
            have c3 : ∀ xx : Ext wm.heap.size wm, (xx.out.setCell ⟨g, j, none⟩ (.int .i64 yv)).cell? ⟨g, j3, none⟩ = some (.int .i64 yv) := fun xx => setcell_cell ((xx.below.cell (p := ⟨g, j3, none⟩) hgm.out).trans c2) hne.out
            have HC3 := hid c3
            have C1 := hid c1
            have C2 := hid c2
            have Z1 := hid z1
            have Z2 := hid z2
            clear hdone hAl2 hz hz0 hρ hj3 hyv hyr j1 j2 hN hIB hii hja c3
            go_wp2_with fail
            refine wp_region_ext wm.heap.size (by kernel_rfl) (by kernel_rfl) ?_
            repeat (go_big_quiet_step ((go_at_fn fn; refine Calls.ext (Nat.le_refl _) (HCC _ ?_).out; exact HWm.out.trans ((Ext.below _).mono (Nat.le_of_lt hgm.out)))))
            refine wpQuiet_nil ?_
            intro xx
            clear c1 c2 z1 z2
            have b1 := (xx.below.cell (p := ⟨g, j, none⟩) hgm.out).trans C1.out
            have b2 := (xx.below.cell (p := ⟨g, j3, none⟩) hgm.out).trans C2.out
            have b3 := HC3.out xx
            have b4 := (xx.below.frozen (p := ⟨g, j, none⟩) hgm.out).trans Z1.out
            have b5 := (xx.below.frozen (p := ⟨g, j3, none⟩) hgm.out).trans Z2.out
            have HX := hid xx.below
            obtain ⟨W5, hW5⟩ : ∃ W, W = xx.out := ⟨_, rfl⟩
            rw [← hW5] at b1 b2 b3 b4 b5 HX ⊢
            have HR5 := HSW W5 (hrm.out.below HX.out (Nat.le_refl _))
            clear hW5
            go_wp2_with fail
            go_big_region
            go_wp2_with fail
            refine ⟨⟨j3, rfl, ⟨HJ.out.1, HJ.out.2.1⟩, (hbm.out.trans (Butt.of HX.out)).trans (butt_sw2 _ _ _ _ _ _), HR5.out, HAL.out⟩, by have := HJ.out; simp [intOf]; omega⟩
          · have d5 : decide (z < 0) = false := decide_eq_false (by omega)
            have HD := hdone (.inr (by rw [hfi.out]; exact hρ))
            clear hdone hAl2 hz hz0 hρ hj3 hyv hyr j1 j2 hN hIB hii hja
            go_wp2_with fail
            refine wp_region_ext wm.heap.size (by kernel_rfl) (by kernel_rfl) ?_
            repeat (go_big_quiet_step ((go_at_fn fn; refine Calls.ext (Nat.le_refl _) (HCC _ ?_).out; exact HWm.out.trans ((Ext.below _).mono (Nat.le_of_lt hgm.out)))))
            refine wpQuiet_nil ?_
            intro xx
            go_wp2_with fail
            refine ⟨⟨i + 1, _, by go_num, ⟨by have := hi.out.1; omega, .inl (by have := HIB.out; omega)⟩, (hb1.out.trans hbm.out).trans (Butt.of (xx.below.mono (Nat.le_refl _))), hrm.out.below xx.below (Nat.le_refl _), HD.out.1, HD.out.2⟩, by have := HIB.out; simp [intOf]; omega⟩
    · have d1 : decide ((i : Int) < (b : Int)) = false := decide_eq_false (by omega)
      have d2 : decide (i < b) = false := decide_eq_false hib
      have HFin : Hid (Same a b f f' ∧ Asc ρ a b f') := by
        rcases i2 with h | h
        · obtain rfl : i = b := by omega
          exact ⟨hs.out, ha.out⟩
        · by_cases e : a = b
          · subst e
            refine ⟨⟨fun k hk => ?_, fun k k1 k2 => by omega, fun k k1 k2 => by omega⟩, Asc.one _ _ _ _ (by omega)⟩
            by_cases hk2 : a ≤ k ∧ k < i
            · obtain rfl : k = a := by omega
              obtain ⟨j, j1, j2, e⟩ := hs.out.to k hk2.1 hk2.2
              obtain rfl : j = k := by omega
              exact e
            · exact hs.out.out k hk2
          · obtain rfl : i = b := by omega
            exact ⟨hs.out, ha.out⟩
      clear i1 i2 hN hib
      go_wp2_with fail
      go_end0
      exact ⟨rfl, f', hb1.out, hr.out, HFin.out.1, HFin.out.2⟩
end Go.Proofs.Ytpmadamaefbamaa

/- A stable sort by insertion and merging in place: the rotation. -/
namespace Go.Proofs.Ytpmadamaefbamaa
open Go.RowKit
set_option linter.unusedSimpArgs false
set_option linter.unusedVariables false
set_option maxRecDepth 100000 in
theorem c_rotate (B g n c a m b : Nat) (ham : a < m) (hmb : m < b) (hb : b ≤ n) (hn : n ≤ 1000) (fv : Value) (f : Nat → Int) (w : World) (h : IntB B w g n c f) :
    Calls Try.prog 65 #[.slice (some ⟨g, 0, none⟩) n c, .int .i64 a, .int .i64 m, .int .i64 b, fv] w fun e w' => e = .returned (.tuple #[]) ∧ Butt g w w' ∧ IntB B w' g n c (rotF a m b f) := by
  have H := hid h
  have e1 : IntKind.i64.wrap ((m : Int) - (a : Int)) = ((m - a : Nat) : Int) := by rw [IntWalk.i64_in _ (by omega)]; omega
  have e2 : IntKind.i64.wrap ((b : Int) - (m : Int)) = ((b - m : Nat) : Int) := by rw [IntWalk.i64_in _ (by omega)]; omega
  obtain ⟨i0, hi0⟩ : ∃ i, i = m - a := ⟨_, rfl⟩
  obtain ⟨j0, hj0⟩ : ∃ i, i = b - m := ⟨_, rfl⟩
  rw [← hi0] at e1
  rw [← hj0] at e2
  have HIJ : Hid (1 ≤ i0 ∧ i0 ≤ m ∧ 1 ≤ j0 ∧ m + j0 ≤ n ∧ m - i0 = a ∧ m + j0 = b) := ⟨by omega, by omega, by omega, by omega, by omega, by omega⟩
  have HN := hid hn
  have HMN : Hid (m ≤ n) := by show _ ≤ _; omega
  clear h hi0 hj0 ham hmb hb hn
  go_enter Try.func65, Try.ntmps65
  go_wp2_with fail
  go_loopw [10, 11] (fun u v wr => ∃ (i j : Nat) (hh : Nat → Int), u = .int .i64 i ∧ v = .int .i64 j ∧ Hid (1 ≤ i ∧ i ≤ m ∧ 1 ≤ j ∧ m + j ≤ n) ∧ Hid (Butt g w wr) ∧ Hid (IntB B wr g n c hh) ∧ Hid (rotF (m - i) m (m + j) hh = rotF a m b f)) (fun u v _ => (intOf u).toNat + (intOf v).toNat)
  case atStart => exact ⟨i0, j0, f, rfl, rfl, ⟨HIJ.out.1, HIJ.out.2.1, HIJ.out.2.2.1, HIJ.out.2.2.2.1⟩, Butt.refl _ _, H.out, by rw [HIJ.out.2.2.2.2.1, HIJ.out.2.2.2.2.2]; rfl⟩
  case round =>
    clear e1 e2
    obtain ⟨wo, rfl⟩ : ∃ W, W = wr := ⟨_, rfl⟩
    obtain ⟨i, j, hh, rfl, rfl, hij, hb1, hr, he⟩ := hrel
    obtain ⟨q1, q2, q3, q4⟩ := hij.out
    have hn := HN.out
    have hmn := HMN.out
    have m1 : (m : Int) ≤ 1000 := by omega
    rcases Nat.lt_trichotomy i j with hlt | hlt | hlt
    · have d1 : ((i : Int) != (j : Int)) = true := by rw [bne_iff_ne]; omega
      have d2 : ((i : Int) == (j : Int)) = false := by rw [beq_eq_false_iff_ne]; omega
      have d3 : decide ((i : Int) > (j : Int)) = false := decide_eq_false (by omega)
      have d5 : decide (j < i) = false := decide_eq_false (by omega)
      have w1 : IntKind.i64.wrap ((m : Int) - (i : Int)) = ((m - i : Nat) : Int) := by rw [IntWalk.i64_in _ (by omega)]; omega
      have w2 : IntKind.i64.wrap ((m : Int) + (j : Int)) = (m : Int) + (j : Int) := IntWalk.i64_in _ (by omega)
      have w3 : IntKind.i64.wrap ((m : Int) + (j : Int) - (i : Int)) = ((m + j - i : Nat) : Int) := by rw [IntWalk.i64_in _ (by omega)]; omega
      have w4 : IntKind.i64.wrap ((j : Int) - (i : Int)) = ((j - i : Nat) : Int) := by rw [IntWalk.i64_in _ (by omega)]; omega
      have HS := hid (c_swapRange B g n c (m - i) (m + j - i) i (by omega) (by omega) hn fv hh wo hr.out)
      have HE := hid (rot_lt hlt q2 hh)
      have HQ : Hid (1 ≤ i ∧ i ≤ m ∧ 1 ≤ j - i ∧ m + (j - i) ≤ n) := ⟨q1, q2, by omega, by omega⟩
      obtain ⟨s1, hs1⟩ : ∃ s, s = m - i := ⟨_, rfl⟩
      obtain ⟨s2, hs2⟩ : ∃ s, s = m + j - i := ⟨_, rfl⟩
      obtain ⟨s3, hs3⟩ : ∃ s, s = j - i := ⟨_, rfl⟩
      rw [← hs1] at w1 HS HE
      rw [← hs2] at w3 HS HE
      rw [← hs3] at w4 HQ HE
      have HM : Hid (s3 < j) := by show _ < _; omega
      have HS1 := hid hs1
      clear hs1 hs2 hs3 hlt q1 q2 q3 q4 hn hmn
      go_wp2_with (go_at_call 66; ((with_reducible refine HS.out.mono ?_); rintro e w5 ⟨rfl, hb5, hr5⟩); have HB5 := hid hb5; have HR5 := hid hr5; clear hb5 hr5)
      refine ⟨⟨i, s3, _, rfl, rfl, HQ.out, hb1.out.trans HB5.out, HR5.out, ?_⟩, by have := HM.out; simp [intOf]; omega⟩
      show _ = _
      rw [← HS1.out, HE.out, HS1.out]; exact he.out
    · subst hlt
      have d1 : ((i : Int) != (i : Int)) = false := by simp
      have w1 : IntKind.i64.wrap ((m : Int) - (i : Int)) = ((m - i : Nat) : Int) := by rw [IntWalk.i64_in _ (by omega)]; omega
      have HS := hid (c_swapRange B g n c (m - i) m i (by omega) q4 hn fv hh wo hr.out)
      have hs := HS.out
      rw [rot_eq q2, he.out] at hs
      have HS := hid hs
      obtain ⟨s1, hs1⟩ : ∃ s, s = m - i := ⟨_, rfl⟩
      rw [← hs1] at w1 HS
      clear hs1 q1 q2 q3 q4 hn hmn hs he
      go_wp2_with (go_at_call 66; ((with_reducible refine HS.out.mono ?_); rintro e w5 ⟨rfl, hb5, hr5⟩); have HB5 := hid hb5; have HR5 := hid hr5; clear hb5 hr5)
      go_end0
      exact ⟨rfl, hb1.out.trans HB5.out, HR5.out⟩
    · have d1 : ((i : Int) != (j : Int)) = true := by rw [bne_iff_ne]; omega
      have d2 : ((i : Int) == (j : Int)) = false := by rw [beq_eq_false_iff_ne]; omega
      have d3 : decide ((i : Int) > (j : Int)) = true := decide_eq_true (by omega)
      have d5 : decide (j < i) = true := decide_eq_true (by omega)
      have w1 : IntKind.i64.wrap ((m : Int) - (i : Int)) = ((m - i : Nat) : Int) := by rw [IntWalk.i64_in _ (by omega)]; omega
      have w4 : IntKind.i64.wrap ((i : Int) - (j : Int)) = ((i - j : Nat) : Int) := by rw [IntWalk.i64_in _ (by omega)]; omega
      have HS := hid (c_swapRange B g n c (m - i) m j (by omega) (by omega) hn fv hh wo hr.out)
      have HE := hid (rot_gt hlt q2 hh)
      have HQ : Hid (1 ≤ i - j ∧ i - j ≤ m ∧ 1 ≤ j ∧ m + j ≤ n) := ⟨by omega, by omega, by omega, by omega⟩
      obtain ⟨s1, hs1⟩ : ∃ s, s = m - i := ⟨_, rfl⟩
      obtain ⟨s3, hs3⟩ : ∃ s, s = i - j := ⟨_, rfl⟩
      rw [← hs1] at w1 HS HE
      rw [← hs3] at w4 HQ HE
      have HM : Hid (s3 < i) := by show _ < _; omega
      have HS1 := hid hs1
      clear hs1 hs3 hlt q1 q2 q3 q4 hn hmn
      go_wp2_with (go_at_call 66; ((with_reducible refine HS.out.mono ?_); rintro e w5 ⟨rfl, hb5, hr5⟩); have HB5 := hid hb5; have HR5 := hid hr5; clear hb5 hr5)
      refine ⟨⟨s3, j, _, rfl, rfl, HQ.out, hb1.out.trans HB5.out, HR5.out, ?_⟩, by have := HM.out; simp [intOf]; omega⟩
      show _ = _
      rw [HE.out, HS1.out]; exact he.out
end Go.Proofs.Ytpmadamaefbamaa

/- A stable sort by insertion and merging in place: the merge, one number against many. -/
namespace Go.Proofs.Ytpmadamaefbamaa
open Go.RowKit
set_option linter.unusedSimpArgs false
set_option linter.unusedVariables false
/-- What of the two parts is compared: the second one's number first. -/
structure CmpOk (cz : Int → Int → Int) (ρ : Int → Int) (lo hi : Int → Prop) (n : Nat) : Prop where
  lt : ∀ x y, lo x → hi y → (cz y x < 0 ∧ ρ y < ρ x) ∨ (¬ cz y x < 0 ∧ ρ x < ρ y)
  rlo : ∀ x, lo x → 0 ≤ x ∧ x < n
  rhi : ∀ x, hi x → 0 ≤ x ∧ x < n
set_option maxHeartbeats 3200000 in
set_option maxRecDepth 100000 in
theorem c_symA (B g n c : Nat) (hn : n ≤ 1000) (fn : Nat) (fst cap : Array Value) (eg : ∀ args w, (callFunc fn args).run Try.prog w = .ok (.enter fn args) w) (cz : Int → Int → Int) (ρ : Int → Int) (lo hi : Int → Prop) (w0 : World) (hcmp : CmpK fn fst cap cz n g w0) (hok : CmpOk cz ρ lo hi n)
    (a b : Nat) (hab : a + 1 < b) (hb : b ≤ n) (f : Nat → Int) (s2 : Asc ρ (a + 1) b f) (l1 : lo (f a)) (l2 : AllF hi (a + 1) b f) (w : World) (hw : Below g w0 w) (h : IntB B w g n c f) :
    Calls Try.prog 64 #[.slice (some ⟨g, 0, none⟩) n c, .int .i64 a, .int .i64 ((a + 1 : Nat) : Int), .int .i64 b, .func (.func fn) fst cap] w (SrtRet B g n c a b ρ f w) := by
  have H := hid h
  have HW := hid hw
  have HC := hid hcmp
  have HK := hid hok
  have S2 := hid s2
  have L1 := hid l1
  have L2 := hid l2
  have HN : Hid (a + 1 < b ∧ b ≤ n ∧ n ≤ 1000) := ⟨hab, hb, hn⟩
  obtain ⟨m, hm⟩ : ∃ x, x = a + 1 := ⟨_, rfl⟩
  have e1 : IntKind.i64.wrap ((m : Int) - (a : Int)) = 1 := by rw [IntWalk.i64_in _ (by omega)]; omega
  rw [← hm]
  have HM := hid hm
  clear h hw hcmp hok s2 l1 l2 hab hb hn hm
  go_enter Try.func64, Try.ntmps64
  go_wp2_with fail
  go_loopw [10, 11] (fun u v wr => ∃ (i j : Nat), u = .int .i64 i ∧ v = .int .i64 j ∧ Hid (m ≤ i ∧ i ≤ j ∧ j ≤ b) ∧ Hid (Butt g w wr) ∧ Hid (IntB B wr g n c f) ∧ Hid (∀ k, m ≤ k → k < i → ρ (f k) < ρ (f a)) ∧ Hid (∀ k, j ≤ k → k < b → ρ (f a) < ρ (f k))) (fun u v _ => (intOf v).toNat - (intOf u).toNat)
  case atStart => exact ⟨m, b, rfl, rfl, ⟨Nat.le_refl _, by have := HN.out; have := HM.out; omega, Nat.le_refl _⟩, Butt.refl _ _, H.out, fun k h1 h2 => by omega, fun k h1 h2 => by omega⟩
  case round =>
    clear e1
    obtain ⟨wo, rfl⟩ : ∃ W, W = wr := ⟨_, rfl⟩
    obtain ⟨i, j, rfl, rfl, hij, hb1, hr, hi1, hj1⟩ := hrel
    obtain ⟨q1, q2, q3⟩ := hij.out
    have hN := HN.out
    have hM := HM.out
    by_cases hlt : i < j
    · have d1 : decide ((i : Int) < (j : Int)) = true := decide_eq_true (by omega)
      have d2 : decide (i < j) = true := decide_eq_true hlt
      have w1 : IntKind.i64.wrap ((i : Int) + (j : Int)) = (i : Int) + (j : Int) := IntWalk.i64_in _ (by omega)
      have i1 : (i : Int) ≤ 1000 := by omega
      have j1 : (j : Int) ≤ 1000 := by omega
      obtain ⟨h, hh⟩ : ∃ h, h = (i + j) / 2 := ⟨_, rfl⟩
      have eh : ((i : Int) + (j : Int)) / 2 = (h : Int) := by omega
      have h0 : (0 : Int) ≤ (h : Int) := by omega
      have h1 : (h : Int) < (n : Int) := by omega
      have a0 : (0 : Int) ≤ (a : Int) := by omega
      have a1 : (a : Int) < (n : Int) := by omega
      have HH : Hid (i ≤ h ∧ h < j) := ⟨by omega, by omega⟩
      have hhi := L2.out h (by omega) (by omega)
      have hc := HK.out.lt (f a) (f h) L1.out hhi
      have HCC := fun W hW => hid (HC.out W (f h) (f a) (HK.out.rhi _ hhi) (HK.out.rlo _ L1.out) hW)
      obtain ⟨c1, z1⟩ := hr.out.cell (k := h) (by omega)
      obtain ⟨c2, z2⟩ := hr.out.cell (k := a) (by omega)
      have hgm := hid (hr.out.lt).2
      have hg2 : g < wo.heap.size := hgm.out
      have HWm := hid (butt_below (B := B) HW.out hb1.out (Nat.le_of_lt H.out.lt.2))
      have HYes : ρ (f h) < ρ (f a) → Hid (∀ k, m ≤ k → k < h + 1 → ρ (f k) < ρ (f a)) := fun hρ k k1 k2 => by
        by_cases e : k = h
        · rw [e]; exact hρ
        · exact Int.lt_trans (S2.out k h (by omega) (by omega) (by omega)) hρ
      have HNo : ρ (f a) < ρ (f h) → Hid (∀ k, h ≤ k → k < b → ρ (f a) < ρ (f k)) := fun hρ k k1 k2 => by
        by_cases e : h = k
        · rw [← e]; exact hρ
        · exact Int.lt_trans hρ (S2.out h k (by omega) (by omega) k2)
      obtain ⟨z, hz⟩ : ∃ z, z = cz (f h) (f a) := ⟨_, rfl⟩
      rw [← hz] at hc HCC
      obtain ⟨vh, hvh⟩ : ∃ v, v = f h := ⟨_, rfl⟩
      obtain ⟨va, hva⟩ : ∃ v, v = f a := ⟨_, rfl⟩
      rw [← hvh] at c1 HCC
      rw [← hva] at c2 HCC
      have h1b : (h : Int) ≤ 1000 := by omega
      rcases hc with ⟨hz0, hρ⟩ | ⟨hz0, hρ⟩
      · have d5 : decide (z < 0) = true := decide_eq_true hz0
        have HYN := HYes hρ
        clear HYes HNo hz hz0 hρ hvh hva hhi q1 q2 q3 hN hM hlt hh
        go_wp2_with fail
        refine wp_region_ext wo.heap.size (by kernel_rfl) (by kernel_rfl) ?_
        repeat (go_big_quiet_step ((go_at_fn fn; refine Calls.ext (Nat.le_refl _) (HCC _ ?_).out; exact HWm.out.trans ((Ext.below _).mono (Nat.le_of_lt hgm.out)))))
        refine wpQuiet_nil ?_
        intro xx
        go_wp2_with fail
        refine ⟨⟨h + 1, j, by go_num, rfl, ⟨by have := hij.out; have := HH.out; omega, by have := HH.out; omega, hij.out.2.2⟩, hb1.out.trans (Butt.of xx.below), hr.out.below xx.below (Nat.le_refl _), HYN.out, hj1.out⟩, by have := HH.out; simp [intOf]; omega⟩
      · have d5 : decide (z < 0) = false := decide_eq_false hz0
        have HYN := HNo hρ
        clear HYes HNo hz hz0 hρ hvh hva hhi q1 q2 q3 hN hM hlt hh
        go_wp2_with fail
        refine wp_region_ext wo.heap.size (by kernel_rfl) (by kernel_rfl) ?_
        repeat (go_big_quiet_step ((go_at_fn fn; refine Calls.ext (Nat.le_refl _) (HCC _ ?_).out; exact HWm.out.trans ((Ext.below _).mono (Nat.le_of_lt hgm.out)))))
        refine wpQuiet_nil ?_
        intro xx
        go_wp2_with fail
        refine ⟨⟨i, h, rfl, rfl, ⟨hij.out.1, HH.out.1, by have := hij.out; have := HH.out; omega⟩, hb1.out.trans (Butt.of xx.below), hr.out.below xx.below (Nat.le_refl _), hi1.out, HYN.out⟩, by have := HH.out; simp [intOf]; omega⟩
    · have hji : j = i := by omega
      subst hji
      have d1 : decide ((j : Int) < (j : Int)) = false := decide_eq_false (by omega)
      have d2 : decide (j < j) = false := decide_eq_false (by omega)
      have e3 : IntKind.i64.wrap ((j : Int) - 1) = ((j - 1 : Nat) : Int) := by rw [IntWalk.i64_in _ (by omega)]; omega
      obtain ⟨j1, hj1'⟩ : ∃ x, x = j - 1 := ⟨_, rfl⟩
      rw [← hj1'] at e3
      have HJ : Hid (j = j1 + 1 ∧ a ≤ j1) := ⟨by omega, by omega⟩
      have HQ := hid q3
      clear q1 q2 q3 hN hM hlt hj1'
      go_wp2_with fail
      go_loopw [13] (fun v wr => ∃ k : Nat, v = .int .i64 k ∧ Hid (a ≤ k ∧ k ≤ j1) ∧ Hid (Butt g w wr) ∧ Hid (IntB B wr g n c (rotF a (a + 1) (k + 1) f))) (fun v _ => j1 - (intOf v).toNat)
      case atStart => exact ⟨a, rfl, ⟨Nat.le_refl _, HJ.out.2⟩, hb1.out, by rw [rotF_self _ _ _ (Nat.le_succ a)]; exact hr.out⟩
      case round =>
        obtain ⟨wm, rfl⟩ : ∃ W, W = wr := ⟨_, rfl⟩
        obtain ⟨k, rfl, hk, hbm, hrm⟩ := hrel
        obtain ⟨k1, k2⟩ := hk.out
        have hN := HN.out
        have hJ := HJ.out
        have hQ := HQ.out
        by_cases hkl : k < j1
        · have d3 : decide ((k : Int) < (j1 : Int)) = true := decide_eq_true (by omega)
          have d4 : decide (k < j1) = true := decide_eq_true hkl
          have e4 : IntKind.i64.wrap ((k : Int) + 1) = ((k + 1 : Nat) : Int) := by rw [IntWalk.i64_in _ (by omega)]; omega
          obtain ⟨c1, z1⟩ := hrm.out.cell (k := k) (by omega)
          obtain ⟨c2, z2⟩ := hrm.out.cell (k := k + 1) (by omega)
          have HSW := hid ((hrm.out.sw2 (i := k) (j := k + 1) (by omega) (by omega)).drew)
          rw [rot_up k1 f] at HSW
          obtain ⟨vx, hvx⟩ : ∃ v, v = rotF a (a + 1) (k + 1) f k := ⟨_, rfl⟩
          obtain ⟨vy, hvy⟩ : ∃ v, v = rotF a (a + 1) (k + 1) f (k + 1) := ⟨_, rfl⟩
          rw [← hvx] at c1 HSW
          rw [← hvy] at c2 HSW
          have c3 : (wm.setCell ⟨g, k, none⟩ (.int .i64 vy)).cell? ⟨g, k + 1, none⟩ = some (.int .i64 vy) := setcell_cell c2 (by omega)
          obtain ⟨k', hk'⟩ : ∃ x, x = k + 1 := ⟨_, rfl⟩
          rw [show k + 2 = k' + 1 by omega] at HSW
          rw [← hk'] at c2 z2 e4 HSW c3
          have x0 : (0 : Int) ≤ (k : Int) := by omega
          have x1 : (k : Int) < (n : Int) := by omega
          have y0 : (0 : Int) ≤ (k' : Int) := by omega
          have y1 : (k' : Int) < (n : Int) := by omega
          have HKK : Hid (k' = k + 1 ∧ k < j1) := ⟨hk', hkl⟩
          clear hvx hvy hk' hkl k1 k2 hN hJ hQ
          go_wp2_with fail
          go_big_region
          go_wp2_with fail
          refine ⟨⟨k', rfl, ⟨by have := HKK.out; have := hk.out; omega, by have := HKK.out; omega⟩, hbm.out.trans (butt_sw2 _ _ _ _ _ _), HSW.out⟩, by have := HKK.out; simp [intOf]; omega⟩
        · obtain rfl : k = j1 := by omega
          have d3 : decide ((k : Int) < (k : Int)) = false := decide_eq_false (by omega)
          have d4 : decide (k < k) = false := decide_eq_false (by omega)
          have hM := HM.out
          have hFin : Hid (Same a b f (rotF a (a + 1) j f) ∧ Asc ρ a b (rotF a (a + 1) j f)) :=
            ⟨(Same.rot (Nat.le_succ a) (by have := hij.out; omega) f).mono (Nat.le_refl _) hQ, one_first (by have := hij.out; omega) hQ S2.out (fun k k1 k2 => hi1.out k (by omega) k2) hj1.out⟩
          rw [← hJ.1] at hrm
          clear hkl k1 k2 hN hJ hQ hM
          go_wp2_with fail
          go_end0
          exact ⟨rfl, _, hbm.out, hrm.out, hFin.out.1, hFin.out.2⟩
end Go.Proofs.Ytpmadamaefbamaa

/- A stable sort by insertion and merging in place: the merge, many numbers against one. -/
namespace Go.Proofs.Ytpmadamaefbamaa
open Go.RowKit
set_option linter.unusedSimpArgs false
set_option linter.unusedVariables false
set_option maxHeartbeats 3200000 in
set_option maxRecDepth 100000 in
theorem c_symB (B g n c : Nat) (hn : n ≤ 1000) (fn : Nat) (fst cap : Array Value) (eg : ∀ args w, (callFunc fn args).run Try.prog w = .ok (.enter fn args) w) (cz : Int → Int → Int) (ρ : Int → Int) (lo hi : Int → Prop) (w0 : World) (hcmp : CmpK fn fst cap cz n g w0) (hok : CmpOk cz ρ lo hi n)
    (a m : Nat) (ham : a + 1 < m) (hb : m + 1 ≤ n) (f : Nat → Int) (s1 : Asc ρ a m f) (l1 : AllF lo a m f) (l2 : hi (f m)) (w : World) (hw : Below g w0 w) (h : IntB B w g n c f) :
    Calls Try.prog 64 #[.slice (some ⟨g, 0, none⟩) n c, .int .i64 a, .int .i64 m, .int .i64 ((m + 1 : Nat) : Int), .func (.func fn) fst cap] w (SrtRet B g n c a (m + 1) ρ f w) := by
  have H := hid h
  have HW := hid hw
  have HC := hid hcmp
  have HK := hid hok
  have S1 := hid s1
  have L1 := hid l1
  have L2 := hid l2
  have HN : Hid (a + 1 < m ∧ m + 1 ≤ n ∧ n ≤ 1000) := ⟨ham, hb, hn⟩
  obtain ⟨b, hbb⟩ : ∃ x, x = m + 1 := ⟨_, rfl⟩
  have e1 : IntKind.i64.wrap ((m : Int) - (a : Int)) = ((m - a : Nat) : Int) := by rw [IntWalk.i64_in _ (by omega)]; omega
  have e2 : IntKind.i64.wrap ((b : Int) - (m : Int)) = 1 := by rw [IntWalk.i64_in _ (by omega)]; omega
  obtain ⟨ma, hma⟩ : ∃ x, x = m - a := ⟨_, rfl⟩
  have e3 : ((ma : Int) == 1) = false := by rw [beq_eq_false_iff_ne]; omega
  rw [← hma] at e1
  rw [← hbb]
  have HB := hid hbb
  clear h hw hcmp hok s1 l1 l2 ham hb hn hbb hma
  go_enter Try.func64, Try.ntmps64
  go_wp2_with fail
  go_loopw [14, 15] (fun u v wr => ∃ (i j : Nat), u = .int .i64 i ∧ v = .int .i64 j ∧ Hid (a ≤ i ∧ i ≤ j ∧ j ≤ m) ∧ Hid (Butt g w wr) ∧ Hid (IntB B wr g n c f) ∧ Hid (∀ k, a ≤ k → k < i → ρ (f k) < ρ (f m)) ∧ Hid (∀ k, j ≤ k → k < m → ρ (f m) < ρ (f k))) (fun u v _ => (intOf v).toNat - (intOf u).toNat)
  case atStart => exact ⟨a, m, rfl, rfl, ⟨Nat.le_refl _, by have := HN.out; omega, Nat.le_refl _⟩, Butt.refl _ _, H.out, fun k h1 h2 => by omega, fun k h1 h2 => by omega⟩
  case round =>
    clear e1 e2 e3
    obtain ⟨wo, rfl⟩ : ∃ W, W = wr := ⟨_, rfl⟩
    obtain ⟨i, j, rfl, rfl, hij, hb1, hr, hi1, hj1⟩ := hrel
    obtain ⟨q1, q2, q3⟩ := hij.out
    have hN := HN.out
    have hB := HB.out
    by_cases hlt : i < j
    · have d1 : decide ((i : Int) < (j : Int)) = true := decide_eq_true (by omega)
      have d2 : decide (i < j) = true := decide_eq_true hlt
      have w1 : IntKind.i64.wrap ((i : Int) + (j : Int)) = (i : Int) + (j : Int) := IntWalk.i64_in _ (by omega)
      have i1 : (i : Int) ≤ 1000 := by omega
      have j1 : (j : Int) ≤ 1000 := by omega
      obtain ⟨h, hh⟩ : ∃ h, h = (i + j) / 2 := ⟨_, rfl⟩
      have eh : ((i : Int) + (j : Int)) / 2 = (h : Int) := by omega
      have h0 : (0 : Int) ≤ (h : Int) := by omega
      have h1 : (h : Int) < (n : Int) := by omega
      have a0 : (0 : Int) ≤ (m : Int) := by omega
      have a1 : (m : Int) < (n : Int) := by omega
      have HH : Hid (i ≤ h ∧ h < j) := ⟨by omega, by omega⟩
      have hlo := L1.out h (by omega) (by omega)
      have hc := HK.out.lt (f h) (f m) hlo L2.out
      have HCC := fun W hW => hid (HC.out W (f m) (f h) (HK.out.rhi _ L2.out) (HK.out.rlo _ hlo) hW)
      obtain ⟨c1, z1⟩ := hr.out.cell (k := h) (by omega)
      obtain ⟨c2, z2⟩ := hr.out.cell (k := m) (by omega)
      have hgm := hid (hr.out.lt).2
      have hg2 : g < wo.heap.size := hgm.out
      have HWm := hid (butt_below (B := B) HW.out hb1.out (Nat.le_of_lt H.out.lt.2))
      have HYes : ρ (f h) < ρ (f m) → Hid (∀ k, a ≤ k → k < h + 1 → ρ (f k) < ρ (f m)) := fun hρ k k1 k2 => by
        by_cases e : k = h
        · rw [e]; exact hρ
        · exact Int.lt_trans (S1.out k h (by omega) (by omega) (by omega)) hρ
      have HNo : ρ (f m) < ρ (f h) → Hid (∀ k, h ≤ k → k < m → ρ (f m) < ρ (f k)) := fun hρ k k1 k2 => by
        by_cases e : h = k
        · rw [← e]; exact hρ
        · exact Int.lt_trans hρ (S1.out h k (by omega) (by omega) k2)
      obtain ⟨z, hz⟩ : ∃ z, z = cz (f m) (f h) := ⟨_, rfl⟩
      rw [← hz] at hc HCC
      obtain ⟨vh, hvh⟩ : ∃ v, v = f h := ⟨_, rfl⟩
      obtain ⟨va, hva⟩ : ∃ v, v = f m := ⟨_, rfl⟩
      rw [← hvh] at c1 HCC
      rw [← hva] at c2 HCC
      have h1b : (h : Int) ≤ 1000 := by omega
      rcases hc with ⟨hz0, hρ⟩ | ⟨hz0, hρ⟩
      · have d5 : decide (z < 0) = true := decide_eq_true hz0
        have HYN := HNo hρ
        clear HYes HNo hz hz0 hρ hvh hva hlo q1 q2 q3 hN hB hlt hh
        go_wp2_with fail
        refine wp_region_ext wo.heap.size (by kernel_rfl) (by kernel_rfl) ?_
        repeat (go_big_quiet_step ((go_at_fn fn; refine Calls.ext (Nat.le_refl _) (HCC _ ?_).out; exact HWm.out.trans ((Ext.below _).mono (Nat.le_of_lt hgm.out)))))
        refine wpQuiet_nil ?_
        intro xx
        go_wp2_with fail
        refine ⟨⟨i, h, rfl, rfl, ⟨hij.out.1, HH.out.1, by have := hij.out; have := HH.out; omega⟩, hb1.out.trans (Butt.of xx.below), hr.out.below xx.below (Nat.le_refl _), hi1.out, HYN.out⟩, by have := HH.out; simp [intOf]; omega⟩
      · have d5 : decide (z < 0) = false := decide_eq_false hz0
        have HYN := HYes hρ
        clear HYes HNo hz hz0 hρ hvh hva hlo q1 q2 q3 hN hB hlt hh
        go_wp2_with fail
        refine wp_region_ext wo.heap.size (by kernel_rfl) (by kernel_rfl) ?_
        repeat (go_big_quiet_step ((go_at_fn fn; refine Calls.ext (Nat.le_refl _) (HCC _ ?_).out; exact HWm.out.trans ((Ext.below _).mono (Nat.le_of_lt hgm.out)))))
        refine wpQuiet_nil ?_
        intro xx
        go_wp2_with fail
        refine ⟨⟨h + 1, j, by go_num, rfl, ⟨by have := hij.out; have := HH.out; omega, by have := HH.out; omega, hij.out.2.2⟩, hb1.out.trans (Butt.of xx.below), hr.out.below xx.below (Nat.le_refl _), HYN.out, hj1.out⟩, by have := HH.out; simp [intOf]; omega⟩
    · have hji : j = i := by omega
      subst hji
      have d1 : decide ((j : Int) < (j : Int)) = false := decide_eq_false (by omega)
      have d2 : decide (j < j) = false := decide_eq_false (by omega)
      have HQ := hid q3
      clear q1 q2 q3 hN hB hlt
      go_wp2_with fail
      go_loopw [17] (fun v wr => ∃ k : Nat, v = .int .i64 k ∧ Hid (j ≤ k ∧ k ≤ m) ∧ Hid (Butt g w wr) ∧ Hid (IntB B wr g n c (rotF k m (m + 1) f))) (fun v _ => (intOf v).toNat)
      case atStart => exact ⟨m, rfl, ⟨HQ.out, Nat.le_refl _⟩, hb1.out, by rw [rotF_one]; exact hr.out⟩
      case round =>
        obtain ⟨wm, rfl⟩ : ∃ W, W = wr := ⟨_, rfl⟩
        obtain ⟨k, rfl, hk, hbm, hrm⟩ := hrel
        obtain ⟨k1, k2⟩ := hk.out
        have hN := HN.out
        by_cases hkl : j < k
        · have d3 : decide ((k : Int) > (j : Int)) = true := decide_eq_true (by omega)
          have d4 : decide (j < k) = true := decide_eq_true hkl
          have e4 : IntKind.i64.wrap ((k : Int) - 1) = ((k - 1 : Nat) : Int) := by rw [IntWalk.i64_in _ (by omega)]; omega
          obtain ⟨c1, z1⟩ := hrm.out.cell (k := k) (by omega)
          obtain ⟨c2, z2⟩ := hrm.out.cell (k := k - 1) (by omega)
          have HSW := hid ((hrm.out.sw2 (i := k) (j := k - 1) (by omega) (by omega)).drew)
          rw [rot_down (by omega) k2 f] at HSW
          obtain ⟨vx, hvx⟩ : ∃ v, v = rotF k m (m + 1) f k := ⟨_, rfl⟩
          obtain ⟨vy, hvy⟩ : ∃ v, v = rotF k m (m + 1) f (k - 1) := ⟨_, rfl⟩
          rw [← hvx] at c1 HSW
          rw [← hvy] at c2 HSW
          have c3 : (wm.setCell ⟨g, k, none⟩ (.int .i64 vy)).cell? ⟨g, k - 1, none⟩ = some (.int .i64 vy) := setcell_cell c2 (by omega)
          obtain ⟨k', hk'⟩ : ∃ x, x = k - 1 := ⟨_, rfl⟩
          rw [← hk'] at c2 z2 e4 HSW c3
          have x0 : (0 : Int) ≤ (k : Int) := by omega
          have x1 : (k : Int) < (n : Int) := by omega
          have y0 : (0 : Int) ≤ (k' : Int) := by omega
          have y1 : (k' : Int) < (n : Int) := by omega
          have HKK : Hid (k = k' + 1 ∧ j < k) := ⟨by omega, hkl⟩
          clear hvx hvy hk' hkl k1 k2 hN
          go_wp2_with fail
          go_big_region
          go_wp2_with fail
          refine ⟨⟨k', rfl, ⟨by have := HKK.out; omega, by have := HKK.out; have := hk.out; omega⟩, hbm.out.trans (butt_sw2 _ _ _ _ _ _), HSW.out⟩, by have := HKK.out; simp [intOf]; omega⟩
        · obtain rfl : k = j := by omega
          have d3 : decide ((k : Int) > (k : Int)) = false := decide_eq_false (by omega)
          have d4 : decide (k < k) = false := decide_eq_false (by omega)
          have hFin : Hid (Same a (m + 1) f (rotF k m (m + 1) f) ∧ Asc ρ a (m + 1) (rotF k m (m + 1) f)) :=
            ⟨(Same.rot k2 (Nat.le_succ m) f).mono hij.out.1 (Nat.le_refl _), one_last hij.out.1 k2 S1.out hi1.out hj1.out⟩
          clear hkl k1 k2 hN
          go_wp2_with fail
          go_end0
          exact ⟨rfl, _, hbm.out, hrm.out, by rw [HB.out]; exact hFin.out.1, by rw [HB.out]; exact hFin.out.2⟩
end Go.Proofs.Ytpmadamaefbamaa
