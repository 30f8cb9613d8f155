/- Shapes: turned into the program's type, compared, marked, held. -/
import Derived.Test.YtgbihaliiogboaaSls
import Derived.Test.YtgbihaliiogboaaOpenL
namespace Go.Proofs.Ytgbihaliiogboaa
open Go.RowKit
set_option linter.unusedSimpArgs false
set_option linter.unusedVariables false

theorem OwS.pairs {lo hi : Nat} {w : World} {A : Option Addr} {n c : Nat} {l : List (Int × Int)} (h : OwS lo hi w (.slice A n c) l) : PairsAt .i16 .i16 w A l := fun j p hj => by
  obtain ⟨b, c', e, _, _, h1, h2, h3⟩ := h.cells hj
  obtain ⟨rfl, _, _⟩ : A = some ⟨b, 0, none⟩ ∧ n = l.length ∧ c = c' := by simpa using e
  exact ⟨b, 0, rfl, h1, by rw [Nat.zero_add]; exact h2, by rw [Nat.zero_add]; exact h3⟩
/-- A slice of spans whose array lies in the blocks lo .. hi, all of them laid. -/
def OwT (lo hi : Nat) (w : World) (v : Value) (l : List (Int × Int)) : Prop := OwS lo hi w v l ∧ lo ≤ hi ∧ hi ≤ w.heap.size
theorem OwT.below {lo hi : Nat} {w w' : World} {v : Value} {l : List (Int × Int)} (h : OwT lo hi w v l) (hb : Below w.heap.size w w') : OwT lo hi w' v l := ⟨h.1.below hb h.2.2, h.2.1, Nat.le_trans h.2.2 hb.size⟩
theorem OwT.below' {lo hi B : Nat} {w w' : World} {v : Value} {l : List (Int × Int)} (h : OwT lo hi w v l) (hb : Below B w w') (hB : hi ≤ B) : OwT lo hi w' v l := ⟨h.1.below hb hB, h.2.1, Nat.le_trans h.2.2 hb.size⟩
theorem OwT.alloc {lo hi : Nat} {w : World} {v : Value} {l : List (Int × Int)} (h : OwT lo hi w v l) (o : Obj) : OwT lo hi (w.alloc o) v l := h.below ((Below.refl _ w).alloc (Nat.le_refl _) o)
theorem OwT.of {w w' : World} {v : Value} {l : List (Int × Int)} (h : w'.ownsRow w.heap.size 82 2 v l.length (scells l)) (hb : Below w.heap.size w w') : OwT w.heap.size w'.heap.size w' v l := ⟨OwS.of_owns h, hb.size, Nat.le_refl _⟩
theorem OwT.pairs {lo hi : Nat} {w : World} {A : Option Addr} {n c : Nat} {l : List (Int × Int)} (h : OwT lo hi w (.slice A n c) l) : PairsAt .i16 .i16 w A l := h.1.pairs
theorem OwT.outS {lo hi lo' hi' : Nat} {w w' : World} {v : Value} {l : List (Int × Int)} (h : OwT lo hi w v l) (hO : OutS lo' hi' w w') (hd : hi ≤ lo' ∨ hi' ≤ lo) : OwT lo hi w' v l := by
  obtain ⟨⟨A, c, rfl, h⟩, h2, h3⟩ := h
  refine ⟨⟨A, c, rfl, fun hl => ?_⟩, h2, Nat.le_trans h3 hO.size⟩
  obtain ⟨b, cs, r1, r2, r3, r4, r5⟩ := h hl
  exact ⟨b, cs, r1, r2, r3, hO.keep r4 (by omega), r5⟩
set_option maxRecDepth 100000 in
theorem c_toSpan (c t : Int) (w : World) : Calls Try.prog 57 #[.agg #[.int .i16 c, .int .i16 t]] w fun e w' => e = .returned (.agg #[.int .i16 c, .int .i16 t]) ∧ Below w.heap.size w w' := by
  go_enter Try.func57, Try.ntmps57
  go_wp2_with fail
  refine bodyPost_ret (v := .agg #[.int .i16 c, .int .i16 t]) (by simp [results, Try.results57, go_sem]) rfl ⟨rfl, ?_⟩
  exact (((Below.refl _ w).alloc (Nat.le_refl _) _).alloc (by simp) _).alloc (by simp; omega) _
/-- The first k pairs of a list, zeros behind. -/
def padL (l : List (Int × Int)) (k : Nat) : List (Int × Int) := l.take k ++ List.replicate (l.length - k) (0, 0)
theorem padL_len (l : List (Int × Int)) (k : Nat) (hk : k ≤ l.length) : (padL l k).length = l.length := by simp [padL]; omega
theorem padL_zero (l : List (Int × Int)) : padL l 0 = List.replicate l.length (0, 0) := by simp [padL]
theorem padL_all (l : List (Int × Int)) : padL l l.length = l := by simp [padL]
theorem padL_step (l : List (Int × Int)) (k : Nat) (hk : k < l.length) (p : Int × Int) (hp : p = l[k]) : (padL l k).set k (p.1, p.2) = padL l (k + 1) := by
  apply List.ext_getElem?
  intro j
  unfold padL
  have e : l.length - k = (l.length - (k + 1)) + 1 := by omega
  have h1 : (l.take k).length = k := by simp; omega
  have h2 : (l.take k ++ List.replicate (l.length - k) ((0, 0) : Int × Int)).set k (p.1, p.2) = l.take k ++ (List.replicate (l.length - k) ((0, 0) : Int × Int)).set 0 (p.1, p.2) := by
    rw [List.set_append_right _ _ (by omega)]; rw [h1, Nat.sub_self]
  rw [h2, e, List.replicate_succ, List.set_cons_zero, List.take_succ_eq_append_getElem hk, List.append_assoc, ← hp]
  rfl
theorem OwS.hi {lo hi lo' hi' : Nat} {w : World} {v : Value} {l : List (Int × Int)} (h : OwS lo hi w v l) (hl : lo' ≤ lo) (hh : hi ≤ hi') : OwS lo' hi' w v l := by
  obtain ⟨A, c, rfl, h⟩ := h
  exact ⟨A, c, rfl, fun hl => by obtain ⟨b, cs, h1, h2, h3, h4⟩ := h hl; exact ⟨b, cs, h1, by omega, by omega, h4⟩⟩
theorem ows_free {lo hi : Nat} {w : World} {b n c : Nat} {l : List (Int × Int)} (h : OwS lo hi w (.slice (some ⟨b, 0, none⟩) n c) l) {k : Nat} (hk : k < l.length) :
    (∃ v, w.cell? ⟨b, k * 2, none⟩ = some v) ∧ (∃ v, w.cell? ⟨b, k * 2 + 1, none⟩ = some v) ∧ w.frozen? ⟨b, k * 2, none⟩ = false ∧ w.frozen? ⟨b, k * 2 + 1, none⟩ = false ∧ lo ≤ b := by
  have hne : l ≠ [] := by rintro rfl; simp at hk
  obtain ⟨b', c', e, h1, h2, h3, h4, h5⟩ := h.cells (List.getElem?_eq_getElem hk)
  obtain ⟨A, c2, e2, h⟩ := h
  obtain ⟨b2, cs, rfl, q2, q3, q4, _⟩ := h hne
  obtain ⟨rfl, _⟩ : b = b' ∧ n = l.length ∧ c = c' := by simpa using e
  obtain ⟨rfl, _⟩ : b = b2 ∧ n = l.length ∧ c = c2 := by simpa using e2
  exact ⟨⟨_, h4⟩, ⟨_, h5⟩, frozen_of_row _ _ _ _ _ q4, frozen_of_row _ _ _ _ _ q4, q2⟩
theorem made_two (x : Value) (m : Nat) : (madeCells #[x, x] m).toList = List.replicate m x := by
  apply List.ext_getElem
  · simp [madeCells]
  · intro j h1 h2
    have h3 : j % 2 = 0 ∨ j % 2 = 1 := by omega
    rcases h3 with h3 | h3 <;> simp [madeCells, h3]
theorem scells_rep (n : Nat) : scells (List.replicate n (0, 0)) = List.replicate (n * 2) (.int .i16 0) := by
  induction n with
  | zero => rfl
  | succ n ih =>
    rw [List.replicate_succ', scells_snoc, ih, show (n + 1) * 2 = n * 2 + 1 + 1 by omega, List.replicate_succ', List.replicate_succ', List.append_assoc]
    rfl
theorem made_spans (n : Nat) {w : World} {base cap : Nat} {A : Option Addr} (h : w.ownsRow base 82 2 (.slice A n cap) n (madeCells (Value.agg #[.int .i16 0, .int .i16 0]).cells (n * 2)).toList) : OwS base w.heap.size w (.slice A n cap) (List.replicate n (0, 0)) := by
  have e : (madeCells (Value.agg #[.int .i16 0, .int .i16 0]).cells (n * 2)).toList = scells (List.replicate n (0, 0)) := by
    rw [scells_rep]
    exact made_two (.int .i16 0) (n * 2)
  rw [e] at h
  have h2 : w.ownsRow base 82 2 (.slice A n cap) (List.replicate n ((0, 0) : Int × Int)).length (scells (List.replicate n (0, 0))) := by rw [List.length_replicate]; exact h
  exact OwS.of_owns h2
theorem Try.infoSpan : (Try.prog.info? 82).map (fun i => (i.zero, i.size, i.bytes)) = some (some (.agg #[.int .i16 0, .int .i16 0]), 2, 4) := by kernel_rfl
theorem span_parts : ∃ i, Try.prog.info? 82 = some i ∧ i.zero = some (.agg #[.int .i16 0, .int .i16 0]) ∧ i.size = 2 ∧ i.bytes = 4 := by
  have h := Try.infoSpan
  cases hi : Try.prog.info? 82 with
  | none => rw [hi] at h; cases h
  | some i => rw [hi] at h; simp at h; exact ⟨i, rfl, h.1, h.2.1, h.2.2⟩
set_option maxHeartbeats 800000 in
set_option maxRecDepth 100000 in
theorem c_toSpanS (A : Option Addr) (c : Nat) (l : List (Int × Int)) (hlen : l.length ≤ 1048576) (w : World) (hA : PairsAt .i16 .i16 w A l) :
    Calls Try.prog 34 #[.slice A l.length c] w fun e w' => ∃ (A' : Option Addr) (c' : Nat), e = .returned (.slice A' l.length c') ∧ Below w.heap.size w w' ∧ OwT w.heap.size w'.heap.size w' (.slice A' l.length c') l := by
  obtain ⟨i0, hi, hz0, hz1, hz2⟩ := span_parts
  have HA := hid hA; clear hA
  go_enter Try.func34, Try.ntmps34
  go_wp2_with ((with_reducible refine gate (N := 7) rfl ?_); refine wpList_make_full _ rfl (.tmp 6) (.tmp 6) 29 rfl w.heap.size 82 i0 (.agg #[.int .i16 0, .int .i16 0]) 2 Try.underlying29 hi hz0 hz1 .i64 .i64 (l.length : Int) (l.length : Int) l.length rfl rfl rfl rfl (by rw [hz2]; omega) (Nat.le_trans hlen (by decide)) (Nat.le_refl _) ?_; intro w1 hown hgrow)
  have HB1 : Hid (Below w.heap.size w w1) := (Below.refl _ w).grown hgrow (Nat.le_refl _) (fun k hk => by cases hk)
  have HO1 : Hid (OwS w.heap.size w1.heap.size w1 (.slice (some ⟨w.heap.size, 0, none⟩) l.length l.length) (padL l 0)) := by
    rw [padL_zero]
    have := made_spans l.length hown
    simpa [Hid] using this
  have hS1 : Hid (w.heap.size ≤ w1.heap.size) := HB1.out.size
  clear hown hgrow
  go_loopw [4] (fun i wr => ∃ k : Nat, k ≤ l.length ∧ i = .int .i64 k ∧ Hid (Below w.heap.size w wr) ∧ Hid (w1.heap.size ≤ wr.heap.size) ∧ Hid (OwS w.heap.size w1.heap.size wr (.slice (some ⟨w.heap.size, 0, none⟩) l.length l.length) (padL l k))) (fun i _ => l.length - (intOf i).toNat)
  case atStart => exact ⟨0, by omega, rfl, HB1, Nat.le_refl _, HO1⟩
  case round =>
    obtain ⟨k, hk, rfl, hb, hS, hO⟩ := hrel
    by_cases hkl : k < l.length
    · have hd : decide ((k : Int) < (l.length : Int)) = true := decide_eq_true (by omega)
      have hkI : (k : Int) < (l.length : Int) := by omega
      have hk0 : (0 : Int) ≤ (k : Int) := by omega
      have hp := List.getElem?_eq_getElem hkl
      obtain ⟨⟨p1, p2⟩, hpp⟩ : ∃ p, p = l[k] := ⟨_, rfl⟩
      rw [← hpp] at hp
      have HST : Hid ((padL l k).set k (p1, p2) = padL l (k + 1)) := padL_step l k hkl _ hpp
      have HL := hid (padL_len l k hk)
      obtain ⟨b, off, rfl, r1, r2, r3⟩ := HA.out k _ hp
      dsimp only at r2 r3
      have c0 := (hb.out.cell (p := ⟨b, _, none⟩) r1).trans r2
      have c1 := (hb.out.cell (p := ⟨b, _, none⟩) r1).trans r3
      clear hp hpp r2 r3
      go_wp2_with (go_at_call 57; refine (c_toSpan p1 p2 _).mono ?_; rintro e w2 ⟨rfl, hb2⟩; have O2 := hid (hO.out.below hb2 hS.out); have hb := hid (hb.out.trans (hb2.mono hb.out.size)); have hS := hid (Nat.le_trans hS.out hb2.size); clear hb2; obtain ⟨⟨v0, m0⟩, ⟨v1, m1⟩, m2, m3, m4⟩ := ows_free O2.out (k := k) (by rw [HL.out]; exact hkl))
      refine ⟨⟨k + 1, by omega, by go_num, Below.setCell (Below.setCell hb.out (p := ⟨w.heap.size, k * 2, none⟩) (Nat.le_refl _) _) (p := ⟨w.heap.size, k * 2 + 1, none⟩) (Nat.le_refl _) _, ?_, ?_⟩, by simp [intOf]; omega⟩
      · have := hS.out; simpa [Hid] using this
      · have h1 := O2.out
        rw [← HL.out] at h1
        have h2 := OwS.put h1 (by rw [HL.out]; exact hkl) p1 p2
        rw [HST.out, HL.out] at h2
        exact h2
    · obtain rfl : k = l.length := by omega
      have hd : decide ((l.length : Int) < (l.length : Int)) = false := decide_eq_false (by omega)
      rw [padL_all] at hO
      go_wp2_with fail
      go_ret
      exact ⟨_, _, rfl, hb.out, ⟨hO.out.hi (Nat.le_refl _) hS.out, hb.out.size, Nat.le_refl _⟩⟩
/-- A shape's cells. -/
def shV (s : Int) (A : Option Addr) (n c : Nat) : Array Value := #[.int .u8 s, .slice A n c]
theorem OwT.set {lo hi : Nat} {w : World} {v : Value} {l : List (Int × Int)} (h : OwT lo hi w v l) {a : Addr} (u : Value) (ha : a.block < lo) : OwT lo hi (w.setCell a u) v l := by
  obtain ⟨⟨A, c, rfl, h⟩, h2, h3⟩ := h
  refine ⟨⟨A, c, rfl, fun hl => ?_⟩, h2, by simpa using h3⟩
  obtain ⟨b, cs, r1, r2, r3, r4, r5⟩ := h hl
  exact ⟨b, cs, r1, r2, r3, block_set_other r4 u (by omega), r5⟩
set_option maxHeartbeats 800000 in
set_option maxRecDepth 100000 in
theorem c_toShape (s : Int) (A : Option Addr) (c : Nat) (l : List (Int × Int)) (hlen : l.length ≤ 1048576) (w : World) (hA : PairsAt .i16 .i16 w A l) :
    Calls Try.prog 10 #[.agg #[.int .u8 s, .slice A l.length c]] w fun e w' => ∃ (A' : Option Addr) (c' : Nat), e = .returned (.agg #[.int .u8 s, .slice A' l.length c']) ∧ Below w.heap.size w w' ∧ OwT w.heap.size w'.heap.size w' (.slice A' l.length c') l := by
  have HA := hid hA; clear hA
  go_enter Try.func10, Try.ntmps10
  obtain ⟨w0, hw0⟩ : ∃ w0, w0 = ((w.alloc (.cells #[.int .u8 s, .slice A l.length c] 24)).alloc (.cells #[.int .u8 0, .slice none 0 0] 31)).alloc (.cells #[.int .u8 s, .slice none 0 0] 31) := ⟨_, rfl⟩
  have B0 : Hid (Below w.heap.size w w0) := by rw [hw0]; exact (((Below.refl _ w).alloc (Nat.le_refl _) _).alloc (by simp) _).alloc (by simp; omega) _
  have k1 : w0.heap[w.heap.size + 1]? = some (.cells #[.int .u8 0, .slice none 0 0] 31 (0, 0)) := by rw [hw0]; exact block_alloc (block_new1 _ _ (by simp)) _
  have k2 : w0.heap[w.heap.size + 1 + 1]? = some (.cells #[.int .u8 s, .slice none 0 0] 31 (0, 0)) := by rw [hw0]; exact block_new1 _ _ (by simp)
  have HA0 := hid (HA.out.below B0.out (Nat.le_refl _))
  have K1 := hid k1; have K2 := hid k2; clear k1 k2
  go_wp2_with ((try rw [← hw0]); go_at_call 34; refine (c_toSpanS A c l hlen _ HA0.out).mono ?_; rintro e w2 ⟨A', c', rfl, hb2, ho2⟩; have k1 := hid (block_below hb2 K1.out (block_lt K1.out)); have k2 := hid (block_below hb2 K2.out (block_lt K2.out)); have q0 := cell_block k2.out (j := 0) rfl; have q1 := cell_block k2.out (j := 1) rfl; have q2 := frozen_of_row _ _ 0 _ _ k2.out; have q3 := frozen_of_row _ _ 1 _ _ k2.out; have q4 := cell_block k1.out (j := 0) rfl; have q5 := cell_block k1.out (j := 1) rfl; have q6 := frozen_of_row _ _ 0 _ _ k1.out; have q7 := frozen_of_row _ _ 1 _ _ k1.out)
  have S0 : w.heap.size + 1 + 1 < w0.heap.size := block_lt K2.out
  clear hw0 K1 K2 k1 k2
  have E : ((((w2.setCell ⟨w.heap.size + 1 + 1, 1, none⟩ (.slice A' l.length c')).setCell ⟨w.heap.size + 1, 0, none⟩ (.int .u8 s)).setCell ⟨w.heap.size + 1, 1, none⟩ (.slice A' l.length c'))).heap.size = w2.heap.size := by simp
  refine bodyPost_ret (v := .agg #[.int .u8 s, .slice A' l.length c']) (by simp [results, Try.results10, go_sem, q4, q5]) rfl ⟨A', c', rfl, ?_, ?_⟩
  · exact Below.setCell (Below.setCell (Below.setCell (B0.out.trans (hb2.mono B0.out.size)) (p := ⟨w.heap.size + 1 + 1, 1, none⟩) (show w.heap.size ≤ w.heap.size + 1 + 1 by omega) _) (p := ⟨w.heap.size + 1, 0, none⟩) (Nat.le_succ _) _) (p := ⟨w.heap.size + 1, 1, none⟩) (Nat.le_succ _) _
  · have h1 := ((ho2.set (a := ⟨w.heap.size + 1 + 1, 1, none⟩) (.slice A' l.length c') S0).set (a := ⟨w.heap.size + 1, 0, none⟩) (.int .u8 s) (show w.heap.size + 1 < w0.heap.size by omega)).set (a := ⟨w.heap.size + 1, 1, none⟩) (.slice A' l.length c') (show w.heap.size + 1 < w0.heap.size by omega)
    have := B0.out.size
    have := hb2.size
    exact ⟨h1.1.hi (by omega) (by rw [E]; exact Nat.le_refl _), by rw [E]; omega, Nat.le_refl _⟩
set_option maxRecDepth 100000 in
theorem c_szSpanS (A : Option Addr) (c : Nat) (n : Nat) (hn : n ≤ 9223372036854775807) (w : World) :
    Calls Try.prog 30 #[.slice A n c, .int .i64 1048576] w fun e w' => e = .returned (.int .i64 (if n ≤ 1048576 then (1048576 - n : Int) else -1)) ∧ Below w.heap.size w w' := by
  by_cases h : n ≤ 1048576
  · have h1 : ¬ ((1048576 : Int) - n < 0) := by omega
    have hd : decide ((1048576 : Int) - n < 0) = false := decide_eq_false h1
    rw [if_pos h]
    go_enter Try.func30, Try.ntmps30
    go_wp2_with fail
    go_ret
    exact ⟨rfl, Below.refl _ _⟩
  · have h1 : ((1048576 : Int) - n < 0) := by omega
    have hd : decide ((1048576 : Int) - n < 0) = true := decide_eq_true h1
    rw [if_neg h]
    go_enter Try.func30, Try.ntmps30
    go_wp2_with fail
    go_ret
    exact ⟨rfl, Below.refl _ _⟩
set_option maxRecDepth 100000 in
theorem c_szShape (s : Int) (A : Option Addr) (c : Nat) (n : Nat) (hn : n ≤ 9223372036854775807) (w : World) :
    Calls Try.prog 8 #[.agg #[.int .u8 s, .slice A n c], .int .i64 1048576] w fun e w' => e = .returned (.int .i64 (if n ≤ 1048576 then (1048576 - n : Int) else -1)) ∧ Below w.heap.size w w' := by
  obtain ⟨r, hr⟩ : ∃ r : Int, r = if n ≤ 1048576 then (1048576 - n : Int) else -1 := ⟨_, rfl⟩
  have HC := hid (c_szSpanS A c n hn)
  rw [← hr] at HC ⊢
  have hc : (r < 0 ∧ r = -1) ∨ (¬ r < 0) := by
    by_cases h : n ≤ 1048576
    · rw [if_pos h] at hr; omega
    · rw [if_neg h] at hr; omega
  clear hr
  rcases hc with ⟨h1, rfl⟩ | h1
  · go_enter Try.func8, Try.ntmps8
    go_wp2_with (go_at_call 30; refine (HC.out _).mono ?_; rintro e w2 ⟨rfl, hb2⟩)
    go_ret
    exact ⟨rfl, ((Below.refl _ w).alloc (Nat.le_refl _) _).trans (hb2.mono (by simp))⟩
  · have hd : decide (r < 0) = false := decide_eq_false h1
    go_enter Try.func8, Try.ntmps8
    go_wp2_with (go_at_call 30; refine (HC.out _).mono ?_; rintro e w2 ⟨rfl, hb2⟩)
    go_ret
    exact ⟨rfl, ((Below.refl _ w).alloc (Nat.le_refl _) _).trans (hb2.mono (by simp))⟩
set_option maxRecDepth 100000 in
theorem c_eqShape (lo hi lo' hi' : Nat) (s : Int) (A A' : Option Addr) (c c' : Nat) (l : List (Int × Int)) (hlen : l.length ≤ 70368744177664) (w : World) (h : OwT lo hi w (.slice A l.length c) l) (h' : OwT lo' hi' w (.slice A' l.length c') l) :
    Calls Try.prog 13 #[.agg #[.int .u8 s, .slice A l.length c], .agg #[.int .u8 s, .slice A' l.length c']] w fun e w' => e = .returned (.bool true) ∧ Below w.heap.size w w' := by
  have H := hid h; have H' := hid h'; clear h h'
  have hne : (s != s) = false := by simp
  go_enter Try.func13, Try.ntmps13
  go_wp2_with (go_at_call 39; refine (c_eqSpanS lo hi lo' hi' _ _ l hlen _ ((H.out.alloc _).alloc _).1 ((H'.out.alloc _).alloc _).1 ((H.out.alloc _).alloc _).2.2 ((H'.out.alloc _).alloc _).2.2).mono ?_; rintro e w2 ⟨rfl, hb2⟩)
  go_ret
  exact ⟨rfl, (((Below.refl _ w).alloc (Nat.le_refl _) _).alloc (by simp) _).trans (hb2.mono (by simp; omega))⟩
set_option maxRecDepth 100000 in
theorem c_markShape (lo hi : Nat) (s : Int) (A : Option Addr) (c : Nat) (l : List (Int × Int)) (hlen : l.length ≤ 1048576) (w : World) (h : OwT lo hi w (.slice A l.length c) l) :
    Calls Try.prog 14 #[.agg #[.int .u8 s, .slice A l.length c], .int .i64 1] w fun e w' => e = .returned (.int .i64 (1 + 2 * l.length)) ∧ Below lo w w' ∧ OutS lo hi w w' ∧ OwT lo hi w' (.slice A l.length c) (mkS l 1 l.length) := by
  have H := hid h; clear h
  go_enter Try.func14, Try.ntmps14
  go_wp2_with (go_at_call 40; go_loud (refine (c_markSpanS lo hi _ l 1 (by decide) hlen _ (H.out.alloc _).1 (H.out.alloc _).2.2 (Nat.le_trans H.out.2.1 (H.out.alloc _).2.2)).mono ?_; rintro e w2 ⟨rfl, hb2, hq2, ho2⟩))
  go_ret
  have h0 := H.out.2
  exact ⟨rfl, ((Below.refl _ w).alloc (by omega) _).trans hb2, (OutS.alloc w _).trans hq2, ho2, h0.1, by have := hb2.size; simp at this; omega⟩
end Go.Proofs.Ytgbihaliiogboaa
