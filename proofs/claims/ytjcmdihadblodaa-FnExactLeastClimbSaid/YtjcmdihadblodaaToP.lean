/- Slices of places: copied out of the law's arguments, marked, their sizes asked. -/
import Derived.Test.YtjcmdihadblodaaLawP
import Derived.Test.YtjcmdihadblodaaOut
import Derived.Laws.AppendOwn
import Derived.WalkSmall
import Derived.Deep.Onto
namespace Go.Proofs.Ytjcmdihadblodaa
open Go.RowKit
set_option linter.unusedSimpArgs false
set_option linter.unusedVariables false

theorem OwP.pairs {lo hi : Nat} {w : World} {A : Option Addr} {n c : Nat} {l : List (Int × Int)} (h : OwP lo hi w (.slice A n c) l) : PairsAt .i8 .i8 w A l := fun j p hj => by
  obtain ⟨b, c', e, _, _, h1, h2, h3⟩ := h.cells hj
  obtain ⟨rfl, _, _⟩ : A = some ⟨b, 0, none⟩ ∧ n = l.length ∧ c = c' := by simpa using e
  exact ⟨b, 0, rfl, h1, by rw [Nat.zero_add]; exact h2, by rw [Nat.zero_add]; exact h3⟩
theorem OwQ.pairs {lo hi : Nat} {w : World} {A : Option Addr} {n c : Nat} {l : List (Int × Int)} (h : OwQ lo hi w (.slice A n c) l) : PairsAt .i8 .i8 w A l := h.1.pairs
theorem OwQ.lo {lo lo' hi : Nat} {w : World} {v : Value} {l : List (Int × Int)} (h : OwQ lo hi w v l) (hl : lo' ≤ lo) : OwQ lo' hi w v l := by
  obtain ⟨⟨A, c, rfl, h⟩, h2, h3⟩ := h
  exact ⟨⟨A, c, rfl, fun hl => by obtain ⟨b, cs, h1, h2, h3, h4⟩ := h hl; exact ⟨b, cs, h1, by omega, by omega, h4⟩⟩, by omega, h3⟩
theorem OwQ.outS {lo hi lo' hi' : Nat} {w w' : World} {v : Value} {l : List (Int × Int)} (h : OwQ lo hi w v l) (hO : OutS lo' hi' w w') (hd : hi ≤ lo' ∨ hi' ≤ lo) : OwQ lo hi w' v l := by
  obtain ⟨⟨A, c, rfl, h⟩, h2, h3⟩ := h
  refine ⟨⟨A, c, rfl, fun hl => ?_⟩, h2, Nat.le_trans h3 hO.size⟩
  obtain ⟨b, cs, r1, r2, r3, r4, r5⟩ := h hl
  exact ⟨b, cs, r1, r2, r3, hO.keep r4 (by omega), r5⟩
theorem OwP.hi {lo hi lo' hi' : Nat} {w : World} {v : Value} {l : List (Int × Int)} (h : OwP lo hi w v l) (hl : lo' ≤ lo) (hh : hi ≤ hi') : OwP lo' hi' w v l := by
  obtain ⟨A, c, rfl, h⟩ := h
  exact ⟨A, c, rfl, fun hl => by obtain ⟨b, cs, h1, h2, h3, h4⟩ := h hl; exact ⟨b, cs, h1, by omega, by omega, h4⟩⟩
/-- The first k pairs of a list, zeros behind. -/
def padQ (l : List (Int × Int)) (k : Nat) : List (Int × Int) := l.take k ++ List.replicate (l.length - k) (0, 0)
theorem padQ_len (l : List (Int × Int)) (k : Nat) (hk : k ≤ l.length) : (padQ l k).length = l.length := by simp [padQ]; omega
theorem padQ_zero (l : List (Int × Int)) : padQ l 0 = List.replicate l.length (0, 0) := by simp [padQ]
theorem padQ_all (l : List (Int × Int)) : padQ l l.length = l := by simp [padQ]
theorem padQ_step (l : List (Int × Int)) (k : Nat) (hk : k < l.length) (p : Int × Int) (hp : p = l[k]) : (padQ l k).set k (p.1, p.2) = padQ l (k + 1) := by
  apply List.ext_getElem?
  intro j
  unfold padQ
  have e : l.length - k = (l.length - (k + 1)) + 1 := by omega
  have h1 : (l.take k).length = k := by simp; omega
  have h2 : (l.take k ++ List.replicate (l.length - k) ((0, 0) : Int × Int)).set k (p.1, p.2) = l.take k ++ (List.replicate (l.length - k) ((0, 0) : Int × Int)).set 0 (p.1, p.2) := by
    rw [List.set_append_right _ _ (by omega)]; rw [h1, Nat.sub_self]
  rw [h2, e, List.replicate_succ, List.set_cons_zero, List.take_succ_eq_append_getElem hk, List.append_assoc, ← hp]
  rfl
theorem owQ_free {lo hi : Nat} {w : World} {b n c : Nat} {l : List (Int × Int)} (h : OwP lo hi w (.slice (some ⟨b, 0, none⟩) n c) l) {k : Nat} (hk : k < l.length) :
    (∃ v, w.cell? ⟨b, k * 2, none⟩ = some v) ∧ (∃ v, w.cell? ⟨b, k * 2 + 1, none⟩ = some v) ∧ w.frozen? ⟨b, k * 2, none⟩ = false ∧ w.frozen? ⟨b, k * 2 + 1, none⟩ = false ∧ lo ≤ b := by
  have hne : l ≠ [] := by rintro rfl; simp at hk
  obtain ⟨b', c', e, h1, h2, h3, h4, h5⟩ := h.cells (List.getElem?_eq_getElem hk)
  obtain ⟨A, c2, e2, h⟩ := h
  obtain ⟨b2, cs, rfl, q2, q3, q4, _⟩ := h hne
  obtain ⟨rfl, _⟩ : b = b' ∧ n = l.length ∧ c = c' := by simpa using e
  obtain ⟨rfl, _⟩ : b = b2 ∧ n = l.length ∧ c = c2 := by simpa using e2
  exact ⟨⟨_, h4⟩, ⟨_, h5⟩, frozen_of_row _ _ _ _ _ q4, frozen_of_row _ _ _ _ _ q4, q2⟩
theorem made_twoQ (x : Value) (m : Nat) : (madeCells #[x, x] m).toList = List.replicate m x := by
  apply List.ext_getElem
  · simp [madeCells]
  · intro j h1 h2
    have h3 : j % 2 = 0 ∨ j % 2 = 1 := by omega
    rcases h3 with h3 | h3 <;> simp [madeCells, h3]
theorem pcells_rep (n : Nat) : pcells (List.replicate n (0, 0)) = List.replicate (n * 2) (.int .i8 0) := by
  induction n with
  | zero => rfl
  | succ n ih =>
    rw [List.replicate_succ', pcells_snoc, ih, show (n + 1) * 2 = n * 2 + 1 + 1 by omega, List.replicate_succ', List.replicate_succ', List.append_assoc]
    rfl
theorem made_Q (n : Nat) {w : World} {base cap : Nat} {A : Option Addr} (h : w.ownsRow base 58 2 (.slice A n cap) n (madeCells (Value.agg #[.int .i8 0, .int .i8 0]).cells (n * 2)).toList) : OwP base w.heap.size w (.slice A n cap) (List.replicate n (0, 0)) := by
  have e : (madeCells (Value.agg #[.int .i8 0, .int .i8 0]).cells (n * 2)).toList = pcells (List.replicate n (0, 0)) := by
    rw [pcells_rep]
    exact made_twoQ (.int .i8 0) (n * 2)
  rw [e] at h
  have h2 : w.ownsRow base 58 2 (.slice A n cap) (List.replicate n ((0, 0) : Int × Int)).length (pcells (List.replicate n (0, 0))) := by rw [List.length_replicate]; exact h
  exact OwP.of_owns h2
theorem Try.infoToPlace : (Try.prog.info? 58).map (fun i => (i.zero, i.size, i.bytes)) = some (some (.agg #[.int .i8 0, .int .i8 0]), 2, 2) := by kernel_rfl
theorem toPlace_parts : ∃ i, Try.prog.info? 58 = some i ∧ i.zero = some (.agg #[.int .i8 0, .int .i8 0]) ∧ i.size = 2 ∧ i.bytes = 2 := by
  have h := Try.infoToPlace
  cases hi : Try.prog.info? 58 with
  | none => rw [hi] at h; cases h
  | some i => rw [hi] at h; simp at h; exact ⟨i, rfl, h.1, h.2.1, h.2.2⟩
set_option maxHeartbeats 800000 in
set_option maxRecDepth 100000 in
theorem c_toPlaceS (A : Option Addr) (c : Nat) (l : List (Int × Int)) (hlen : l.length ≤ 1048576) (w : World) (hA : PairsAt .i8 .i8 w A l) :
    Calls Try.prog 18 #[.slice A l.length c] w fun e w' => ∃ (A' : Option Addr) (c' : Nat), e = .returned (.slice A' l.length c') ∧ Below w.heap.size w w' ∧ OwQ w.heap.size w'.heap.size w' (.slice A' l.length c') l := by
  obtain ⟨i0, hi, hz0, hz1, hz2⟩ := toPlace_parts
  have HA := hid hA; clear hA
  go_enter Try.func18, Try.ntmps18
  go_wp2_with ((with_reducible refine gate (N := 7) rfl ?_); refine wpList_make_full _ rfl (.tmp 6) (.tmp 6) 40 rfl w.heap.size 58 i0 (.agg #[.int .i8 0, .int .i8 0]) 2 Try.underlying40 hi hz0 hz1 .i64 .i64 (l.length : Int) (l.length : Int) l.length rfl rfl rfl rfl (by rw [hz2]; omega) (Nat.le_trans hlen (by decide)) (Nat.le_refl _) ?_; intro w1 hown hgrow)
  have HB1 : Hid (Below w.heap.size w w1) := (Below.refl _ w).grown hgrow (Nat.le_refl _) (fun k hk => by cases hk)
  have HO1 : Hid (OwP w.heap.size w1.heap.size w1 (.slice (some ⟨w.heap.size, 0, none⟩) l.length l.length) (padQ l 0)) := by
    rw [padQ_zero]
    have := made_Q l.length hown
    simpa [Hid] using this
  have hS1 : Hid (w.heap.size ≤ w1.heap.size) := HB1.out.size
  clear hown hgrow
  go_loopw [4] (fun i wr => ∃ k : Nat, k ≤ l.length ∧ i = .int .i64 k ∧ Hid (Below w.heap.size w wr) ∧ Hid (w1.heap.size ≤ wr.heap.size) ∧ Hid (OwP w.heap.size w1.heap.size wr (.slice (some ⟨w.heap.size, 0, none⟩) l.length l.length) (padQ l k))) (fun i _ => l.length - (intOf i).toNat)
  case atStart => exact ⟨0, by omega, rfl, HB1, Nat.le_refl _, HO1⟩
  case round =>
    obtain ⟨k, hk, rfl, hb, hS, hO⟩ := hrel
    by_cases hkl : k < l.length
    · have hd : decide ((k : Int) < (l.length : Int)) = true := decide_eq_true (by omega)
      have hkI : (k : Int) < (l.length : Int) := by omega
      have hk0 : (0 : Int) ≤ (k : Int) := by omega
      have hp := List.getElem?_eq_getElem hkl
      obtain ⟨⟨p1, p2⟩, hpp⟩ : ∃ p, p = l[k] := ⟨_, rfl⟩
      rw [← hpp] at hp
      have HST : Hid ((padQ l k).set k (p1, p2) = padQ l (k + 1)) := padQ_step l k hkl _ hpp
      have HL := hid (padQ_len l k hk)
      obtain ⟨b, off, rfl, r1, r2, r3⟩ := HA.out k _ hp
      dsimp only at r2 r3
      have c0 := (hb.out.cell (p := ⟨b, _, none⟩) r1).trans r2
      have c1 := (hb.out.cell (p := ⟨b, _, none⟩) r1).trans r3
      clear hp hpp r2 r3
      go_wp2_with (go_at_call 33; refine (c_toPlace p1 p2 _).mono ?_; rintro e w2 ⟨rfl, hb2⟩; have O2 := hid (hO.out.below hb2 hS.out); have hb := hid (hb.out.trans (hb2.mono hb.out.size)); have hS := hid (Nat.le_trans hS.out hb2.size); clear hb2; obtain ⟨⟨v0, m0⟩, ⟨v1, m1⟩, m2, m3, m4⟩ := owQ_free O2.out (k := k) (by rw [HL.out]; exact hkl))
      refine ⟨⟨k + 1, by omega, by go_num, Below.setCell (Below.setCell hb.out (p := ⟨w.heap.size, k * 2, none⟩) (Nat.le_refl _) _) (p := ⟨w.heap.size, k * 2 + 1, none⟩) (Nat.le_refl _) _, ?_, ?_⟩, by simp [intOf]; omega⟩
      · have := hS.out; simpa [Hid] using this
      · have h1 := O2.out
        rw [← HL.out] at h1
        have h2 := OwP.put h1 (by rw [HL.out]; exact hkl) p1 p2
        rw [HST.out, HL.out] at h2
        exact h2
    · obtain rfl : k = l.length := by omega
      have hd : decide ((l.length : Int) < (l.length : Int)) = false := decide_eq_false (by omega)
      rw [padQ_all] at hO
      go_wp2_with fail
      go_ret
      exact ⟨_, _, rfl, hb.out, ⟨hO.out.hi (Nat.le_refl _) hS.out, hb.out.size, Nat.le_refl _⟩⟩
set_option maxRecDepth 100000 in
theorem c_szPlaceS (A : Option Addr) (c : Nat) (n : Nat) (hn : n ≤ 9223372036854775807) (m : Int) (hm : 0 ≤ m ∧ m ≤ 1048576) (w : World) :
    Calls Try.prog 15 #[.slice A n c, .int .i64 m] w fun e w' => e = .returned (.int .i64 (if (n : Int) ≤ m then (m - n : Int) else -1)) ∧ w = w' := by
  by_cases h : (n : Int) ≤ m
  · have h1 : ¬ ((m : Int) - n < 0) := by omega
    have hd : decide ((m : Int) - n < 0) = false := decide_eq_false h1
    rw [if_pos h]
    go_enter Try.func15, Try.ntmps15
    go_wp2_with fail
    go_ret
    exact ⟨rfl, rfl⟩
  · have h1 : ((m : Int) - n < 0) := by omega
    have hd : decide ((m : Int) - n < 0) = true := decide_eq_true h1
    rw [if_neg h]
    go_enter Try.func15, Try.ntmps15
    go_wp2_with fail
    go_ret
    exact ⟨rfl, rfl⟩
theorem e_PlaceS {lo hi lo' hi' : Nat} {v v' : Value} {l : List (Int × Int)} (hlen : l.length ≤ 1048576) {w : World} (h : OwQ lo hi w v l) (h' : OwQ lo' hi' w v' l) :
    Calls Try.prog 20 #[v, v'] w fun e w' => e = .returned (.bool true) ∧ Below w.heap.size w w' :=
  c_eqPlaceS lo hi lo' hi' v v' l (Nat.le_trans hlen (by decide)) w h.1 h'.1 h.2.2 h'.2.2
end Go.Proofs.Ytjcmdihadblodaa
