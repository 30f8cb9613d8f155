/- SlideShape: the program's and the reference's. -/
import Derived.Test.YtohdfnbjfhiacaaMirS
namespace Go.Proofs.Ytohdfnbjfhiacaa
open Go.RowKit
set_option linter.unusedSimpArgs false
set_option linter.unusedVariables false

theorem owns_set' {w : World} {base : Nat} {T : TypeId} {s n : Nat} {v : Value} {xs : List Value} (h : w.ownsRow base T s v n xs) {a : Addr} (u : Value) (ha : a.block < base) : (w.setCell a u).ownsRow base T s v n xs := by
  rcases h.2 with ⟨rfl, hn⟩ | ⟨g, cap, cur, rfl, hb, hg, hc, hm, hs, ht⟩
  · exact ⟨h.1, .inl ⟨rfl, hn⟩⟩
  · exact ⟨h.1, .inr ⟨g, cap, cur, rfl, hb, block_set_other hg u (by omega), hc, hm, hs, ht⟩⟩
def slidP (by' : Int) (p : Int × Int) : Int × Int := (p.1 + by', p.2 + by')
set_option maxRecDepth 100000 in
theorem c_slidClo (n : Int) (hn : -200 ≤ n ∧ n ≤ 200) (p : Int × Int) (hp : 0 ≤ p.1 ∧ p.1 < p.2 ∧ p.2 ≤ 200) (bx : Nat) (w : World) (hb : w.heap[bx]? = some (.cells #[.int .i16 n] 33 (0, 0))) :
    Calls Try.prog 52 #[.agg #[.int .i16 p.1, .int .i16 p.2], .pointer (some ⟨bx, 0, none⟩)] w fun e w' => e = .returned (.agg #[.int .i16 (slidP n p).1, .int .i16 (slidP n p).2]) ∧ Below w.heap.size w w' := by
  obtain ⟨p1, p2⟩ := p
  dsimp only at hp
  unfold slidP
  dsimp only
  have hlt := block_lt hb
  have k0 : ((w.alloc (.cells #[.int .i16 p1, .int .i16 p2] 38)).alloc (.cells #[.int .i16 0, .int .i16 0] 38)).cell? ⟨bx, 0, none⟩ = some (.int .i16 n) := cell_block (block_alloc (block_alloc hb _) _) rfl
  have hlt' : bx < w.heap.size + 1 := by omega
  clear hb
  have h1 : IntKind.i16.wrap (p1 + n) = p1 + n := by simp [IntKind.wrap, IntKind.bits, IntKind.signed]; omega
  have h2 : IntKind.i16.wrap (p2 + n) = p2 + n := by simp [IntKind.wrap, IntKind.bits, IntKind.signed]; omega
  go_enter Try.func52, Try.ntmps52
  go_wp2_with fail
  refine bodyPost_ret (v := .agg #[.int .i16 (p1 + n), .int .i16 (p2 + n)]) (by simp [results, Try.results52, go_sem, h1, h2]) rfl ⟨rfl, ?_⟩
  exact ((Below.refl _ w).alloc (Nat.le_refl _) _).alloc (by simp) _
set_option maxHeartbeats 1600000 in
set_option maxRecDepth 100000 in
theorem c_slid (n : Int) (hn : -200 ≤ n ∧ n ≤ 200) (s : Int) (A : Option Addr) (c : Nat) (l : List (Int × Int)) (hB : ∀ p ∈ l, 0 ≤ p.1 ∧ p.1 < p.2 ∧ p.2 ≤ 200) (hlen : l.length ≤ 1048576) (w : World) (hA : PairsAt .i16 .i16 w A l) :
    Calls Try.prog 43 #[.agg #[.int .u8 s, .slice A l.length c], .int .i16 n] w fun e w' => ∃ (A' : Option Addr) (c' : Nat), e = .returned (.agg #[.int .u8 s, .slice A' l.length c']) ∧ Below w.heap.size w w' ∧ OwT w.heap.size w'.heap.size w' (.slice A' l.length c') (l.map (slidP n)) := by
  obtain ⟨w0, hw0⟩ : ∃ w0, w0 = ((w.alloc (.cells #[.int .u8 s, .slice A l.length c] 29)).alloc (.cells #[.int .i16 n] 33)).alloc (.cells #[.int .u8 0, .slice none 0 0] 29) := ⟨_, rfl⟩
  have B0 : Below w.heap.size w w0 := by rw [hw0]; exact (((Below.refl _ w).alloc (Nat.le_refl _) _).alloc (by simp) _).alloc (by simp; omega) _
  have HX : Hid (w0.heap[w.heap.size]? = some (.cells #[.int .u8 s, .slice A l.length c] 29 (0, 0))) := by rw [hw0]; exact block_alloc (block_alloc (block_new1 _ _ rfl) _) _
  have HN : Hid (w0.heap[w.heap.size + 1]? = some (.cells #[.int .i16 n] 33 (0, 0))) := by rw [hw0]; exact block_alloc (block_new1 _ _ (by simp)) _
  have HR : Hid (w0.heap[w.heap.size + 1 + 1]? = some (.cells #[.int .u8 0, .slice none 0 0] 29 (0, 0))) := by rw [hw0]; exact block_new1 _ _ (by simp)
  have HA := hid (hA.below B0 (Nat.le_refl _))
  have HE := fun w' h (hw' : w'.heap[w.heap.size + 1]? = some (.cells #[.int .i16 n] 33 (0, 0))) => hid (c_eachSS 52 #[] #[.pointer (some ⟨w.heap.size + 1, 0, none⟩)] (enters_of Try.func52 (by kernel_rfl) rfl) (slidP n) A c l hlen w' h (fun W p hp hb => c_slidClo n hn p (hB p hp) _ W (block_below hb hw' (block_lt hw'))))
  clear hA hB
  go_enter Try.func43, Try.ntmps43
  go_wp2_with fail
  rw [← hw0]
  clear hw0
  have k0 := cell_block HX.out (j := 0) rfl
  have k1 := cell_block HX.out (j := 1) rfl
  have l0 := block_lt HX.out
  have l1 := block_lt HR.out
  have HB0 := hid B0
  go_region_held3 (fun w' => w'.cell? ⟨w.heap.size, 0, none⟩ = some (.int .u8 s) ∧ w'.cell? ⟨w.heap.size, 1, none⟩ = some (.slice A l.length c))
    (first
      | go_keep
      | exact ⟨(World.cell?_setCell_far _ _ _ _ (by show w.heap.size + 1 + 1 ≠ w.heap.size; omega)).trans ((World.cell?_setCell_far _ _ _ _ (by show w.heap.size + 1 + 1 ≠ w.heap.size; omega)).trans ((b2.out.cell (p := ⟨w.heap.size, 0, none⟩) (by simp; omega)).trans k0)), (World.cell?_setCell_far _ _ _ _ (by show w.heap.size + 1 + 1 ≠ w.heap.size; omega)).trans ((World.cell?_setCell_far _ _ _ _ (by show w.heap.size + 1 + 1 ≠ w.heap.size; omega)).trans ((b2.out.cell (p := ⟨w.heap.size, 1, none⟩) (by simp; omega)).trans k1))⟩
      | exact ⟨(b2.out.cell (p := ⟨w.heap.size, 0, none⟩) (by simp; omega)).trans k0, (b2.out.cell (p := ⟨w.heap.size, 1, none⟩) (by simp; omega)).trans k1⟩)
    ((go_at_call 40; ((refine (HE _ (by exact HA.out) (by exact HN.out)).out.mono ?_); rintro e w2 ⟨v, rfl, hb2, ho2⟩); have b2 := hid hb2; obtain ⟨A2, c2, rfl, hO2⟩ := owT_own ho2 hb2; have HR2 : Hid (w2.heap[w.heap.size + 1 + 1]? = some (.cells #[.int .u8 0, .slice none 0 0] 29 (0, 0))) := block_below hb2 (by exact HR.out) l1; have q0 := cell_block HR2.out (j := 0) rfl; have q1 := cell_block HR2.out (j := 1) rfl; have g0 := frozen_of_row _ _ 0 _ _ HR2.out; have g1 := frozen_of_row _ _ 1 _ _ HR2.out; clear ho2 hb2))
  go_wp2_with fail
  have b1 := HB0.out.drew.trans (b2.out.mono (by have := HB0.out.size; exact this))
  have hll : (l.map (slidP n)).length = l.length := List.length_map _
  rw [hll] at hO2
  refine bodyPost_ret (v := .agg #[.int .u8 s, .slice A2 l.length c2]) (by simp [results, Try.results43, go_sem, q0, q1]) rfl ⟨A2, c2, rfl, ?_, ?_⟩
  · exact Below.setCell (Below.setCell b1 (p := ⟨w.heap.size + 1 + 1, 0, none⟩) (show w.heap.size ≤ w.heap.size + 1 + 1 by omega) _) (p := ⟨w.heap.size + 1 + 1, 1, none⟩) (show w.heap.size ≤ w.heap.size + 1 + 1 by omega) _
  · have h1 := (hO2.set (a := ⟨w.heap.size + 1 + 1, 0, none⟩) (.int .u8 s) (by exact l1)).set (a := ⟨w.heap.size + 1 + 1, 1, none⟩) (.slice A2 l.length c2) (by exact l1)
    have h2 := h1.lo (lo' := w.heap.size) (by exact HB0.out.size)
    simpa using h2
def slideC (s : Int) (l : List (Int × Int)) (n : Int) : Int := if shOk s l = true then (if inB n (-200) 200 = true then (if shOk s (l.map (slidP n)) = true then 0 else 4) else 2) else 1
def slideS (s : Int) (l : List (Int × Int)) (n : Int) : Int := if slideC s l n = 0 then s else 0
def slideL (s : Int) (l : List (Int × Int)) (n : Int) : List (Int × Int) := if slideC s l n = 0 then l.map (slidP n) else []
theorem slide_cases (s : Int) (l : List (Int × Int)) (n : Int) : (shOk s l = false ∧ slideC s l n = 1) ∨ (shOk s l = true ∧ inB n (-200) 200 = false ∧ slideC s l n = 2) ∨ (shOk s l = true ∧ inB n (-200) 200 = true ∧ shOk s (l.map (slidP n)) = false ∧ slideC s l n = 4) ∨ (shOk s l = true ∧ inB n (-200) 200 = true ∧ shOk s (l.map (slidP n)) = true ∧ slideC s l n = 0) := by
  unfold slideC
  cases shOk s l <;> cases inB n (-200) 200 <;> cases shOk s (l.map (slidP n)) <;> simp
theorem slide_no {s : Int} {l : List (Int × Int)} {n : Int} (h : slideC s l n ≠ 0) : slideS s l n = 0 ∧ slideL s l n = [] := ⟨if_neg h, if_neg h⟩
theorem slide_yes {s : Int} {l : List (Int × Int)} {n : Int} (h : slideC s l n = 0) : slideS s l n = s ∧ slideL s l n = l.map (slidP n) := ⟨if_pos h, if_pos h⟩
theorem i16_in {n : Int} (h : -200 ≤ n ∧ n ≤ 200) : IntKind.i16.wrap n = n := by simp [IntKind.wrap, IntKind.bits, IntKind.signed]; omega
set_option maxHeartbeats 1600000 in
set_option maxRecDepth 100000 in
theorem c_SlideShape (s : Int) (A : Option Addr) (c : Nat) (l : List (Int × Int)) (hlen : l.length ≤ 1048576) (n : Int) (w : World) (hA : PairsAt .i16 .i16 w A l) :
    Calls Try.prog 24 #[.agg #[.int .u8 s, .slice A l.length c], .int .i64 n] w (RetH w (slideS s l n) (slideL s l n) (slideC s l n)) := by
  have B0 : Below w.heap.size w ((w.alloc (.cells #[.int .u8 s, .slice A l.length c] 29)).alloc (.cells #[.int .u8 0, .slice none 0 0] 29)) := ((Below.refl _ w).alloc (Nat.le_refl _) _).alloc (by simp) _
  have HX := hid (block_alloc (block_new1 w (.cells #[.int .u8 s, .slice A l.length c] 29) rfl) (.cells #[.int .u8 0, .slice none 0 0] 29))
  have HR := hid (block_new1 (w.alloc (.cells #[.int .u8 s, .slice A l.length c] 29)) (.cells #[.int .u8 0, .slice none 0 0] 29) (n := w.heap.size + 1) (by simp))
  have HV := fun w' h => hid (c_ValidShape s A c l hlen w' h)
  have HA := hid (hA.below B0 (Nat.le_refl _))
  have HB1 := hid B0
  clear hA B0
  rcases slide_cases s l n with ⟨g1, g0⟩ | ⟨g1, g2, g0⟩ | ⟨g1, g2, g3, g0⟩ | ⟨g1, g2, g3, g0⟩
  · rw [(slide_no (by rw [g0]; decide)).1, (slide_no (by rw [g0]; decide)).2, g0]
    rw [g1] at HV
    clear g0 g1
    go_enter Try.func24, Try.ntmps24
    go_wp2_with (go_at_call 12; ((with_reducible refine (HV _ HA.out).out.mono ?_); rintro e w1 ⟨rfl, hb1⟩); have HX := hid (block_below hb1 HX.out (block_lt HX.out)); have HR := hid (block_below hb1 HR.out (block_lt HR.out)); have HA := hid (HA.out.below hb1 (Nat.le_refl _)); have HB1 := hid (HB1.out.trans (hb1.mono HB1.out.size)); have k0 := cell_block HX.out (j := 0) rfl; have k1 := cell_block HX.out (j := 1) rfl; have z0 := cell_block HR.out (j := 0) rfl; have z1 := cell_block HR.out (j := 1) rfl; have z2 := frozen_of_row _ _ 0 _ _ HR.out; have z3 := frozen_of_row _ _ 1 _ _ HR.out)
    refine bodyPost_ret (v := .tuple #[.agg #[.int .u8 0, .slice none 0 0], .int .i64 1]) (by simp [results, Try.results24, go_sem, z0, z1]) rfl ⟨none, 0, rfl, ?_, ?_⟩
    · exact Below.setCell (Below.setCell HB1.out (p := ⟨w.heap.size + 1, 0, none⟩) (Nat.le_succ _) _) (p := ⟨w.heap.size + 1, 1, none⟩) (Nat.le_succ _) _
    · have := HB1.out.size
      exact OwT.nil _ _ (by simp; omega)
  · rw [(slide_no (by rw [g0]; decide)).1, (slide_no (by rw [g0]; decide)).2, g0]
    rw [g1] at HV
    have G2 := hid g2
    clear g0 g1 g2
    go_enter Try.func24, Try.ntmps24
    go_wp2_with (first
      | (go_at_call 12; ((with_reducible refine (HV _ HA.out).out.mono ?_); rintro e w1 ⟨rfl, hb1⟩); have HX := hid (block_below hb1 HX.out (block_lt HX.out)); have HR := hid (block_below hb1 HR.out (block_lt HR.out)); have HA := hid (HA.out.below hb1 (Nat.le_refl _)); have HB1 := hid (HB1.out.trans (hb1.mono HB1.out.size)); have k0 := cell_block HX.out (j := 0) rfl; have k1 := cell_block HX.out (j := 1) rfl; have z0 := cell_block HR.out (j := 0) rfl; have z1 := cell_block HR.out (j := 1) rfl; have z2 := frozen_of_row _ _ 0 _ _ HR.out; have z3 := frozen_of_row _ _ 1 _ _ HR.out)
      | (go_at_call 35; (with_reducible refine (c_within64 _ _ _ _ _ G2.out).mono ?_); rintro e w9 ⟨rfl, rfl⟩))
    refine bodyPost_ret (v := .tuple #[.agg #[.int .u8 0, .slice none 0 0], .int .i64 2]) (by simp [results, Try.results24, go_sem, z0, z1]) rfl ⟨none, 0, rfl, ?_, ?_⟩
    · exact Below.setCell (Below.setCell HB1.out (p := ⟨w.heap.size + 1, 0, none⟩) (Nat.le_succ _) _) (p := ⟨w.heap.size + 1, 1, none⟩) (Nat.le_succ _) _
    · have := HB1.out.size
      exact OwT.nil _ _ (by simp; omega)
  · rw [(slide_no (by rw [g0]; decide)).1, (slide_no (by rw [g0]; decide)).2, g0]
    have hin := inB_iff.1 g2
    have HU := hid (i16_in hin)
    have HS := fun w' h => hid (c_slid n hin s A c l (shOk_all g1).1 hlen w' h)
    have HV2 : ∀ (A' : Option Addr) (c' : Nat) (w' : World), PairsAt .i16 .i16 w' A' (l.map (slidP n)) → Hid (Calls Try.prog 12 #[.agg #[.int .u8 s, .slice A' l.length c']] w' fun e w2 => e = .returned (.bool false) ∧ Below w'.heap.size w' w2) := fun A' c' w' h => by
      have h1 := c_ValidShape s A' c' (l.map (slidP n)) (by rw [List.length_map]; exact hlen) w' h
      rw [List.length_map, g3] at h1
      exact h1
    have G2 := hid g2
    rw [g1] at HV
    clear g0 g1 g2 g3
    have T0 : Hid True := trivial
    have hu := HU.out
    go_enter Try.func24, Try.ntmps24
    go_wp2_with (first
      | (go_at_call 12; clear T0; ((with_reducible refine (HV _ HA.out).out.mono ?_); rintro e w1 ⟨rfl, hb1⟩); have HX := hid (block_below hb1 HX.out (block_lt HX.out)); have HR := hid (block_below hb1 HR.out (block_lt HR.out)); have HA := hid (HA.out.below hb1 (Nat.le_refl _)); have HB1 := hid (HB1.out.trans (hb1.mono HB1.out.size)); have k0 := cell_block HX.out (j := 0) rfl; have k1 := cell_block HX.out (j := 1) rfl; have z0 := cell_block HR.out (j := 0) rfl; have z1 := cell_block HR.out (j := 1) rfl; have z2 := frozen_of_row _ _ 0 _ _ HR.out; have z3 := frozen_of_row _ _ 1 _ _ HR.out)
      | (go_at_call 35; (with_reducible refine (c_within64 _ _ _ _ _ G2.out).mono ?_); rintro e w9 ⟨rfl, rfl⟩)
      | (go_at_call 43; ((with_reducible refine (HS _ HA.out).out.mono ?_); rintro e w2 ⟨A2, c2, rfl, hb1, ho2⟩); have HX := hid (block_below hb1 HX.out (block_lt HX.out)); have HR := hid (block_below hb1 HR.out (block_lt HR.out)); have HA := hid (HA.out.below hb1 (Nat.le_refl _)); have HB1 := hid (HB1.out.trans (hb1.mono HB1.out.size)); have k0 := cell_block HX.out (j := 0) rfl; have k1 := cell_block HX.out (j := 1) rfl; have z0 := cell_block HR.out (j := 0) rfl; have z1 := cell_block HR.out (j := 1) rfl; have z2 := frozen_of_row _ _ 0 _ _ HR.out; have z3 := frozen_of_row _ _ 1 _ _ HR.out; have O2 := hid ho2)
      | (go_at_call 12; ((with_reducible refine (HV2 _ _ _ (O2.out.alloc _).pairs).out.mono ?_); rintro e w3 ⟨rfl, hb3⟩); have hb1 := ((Below.refl _ w2).alloc (Nat.le_refl _) (.cells #[.int .u8 s, .slice A2 l.length c2] 29)).trans (hb3.mono (by simp)); have HX := hid (block_below hb1 HX.out (block_lt HX.out)); have HR := hid (block_below hb1 HR.out (block_lt HR.out)); have HA := hid (HA.out.below hb1 (Nat.le_refl _)); have HB1 := hid (HB1.out.trans (hb1.mono HB1.out.size)); have k0 := cell_block HX.out (j := 0) rfl; have k1 := cell_block HX.out (j := 1) rfl; have z0 := cell_block HR.out (j := 0) rfl; have z1 := cell_block HR.out (j := 1) rfl; have z2 := frozen_of_row _ _ 0 _ _ HR.out; have z3 := frozen_of_row _ _ 1 _ _ HR.out))
    refine bodyPost_ret (v := .tuple #[.agg #[.int .u8 0, .slice none 0 0], .int .i64 4]) (by simp [results, Try.results24, go_sem, z0, z1]) rfl ⟨none, 0, rfl, ?_, ?_⟩
    · exact Below.setCell (Below.setCell HB1.out (p := ⟨w.heap.size + 1, 0, none⟩) (Nat.le_succ _) _) (p := ⟨w.heap.size + 1, 1, none⟩) (Nat.le_succ _) _
    · have := HB1.out.size
      exact OwT.nil _ _ (by simp; omega)
  · rw [(slide_yes g0).1, (slide_yes g0).2, g0]
    have hin := inB_iff.1 g2
    have HU := hid (i16_in hin)
    have HS := fun w' h => hid (c_slid n hin s A c l (shOk_all g1).1 hlen w' h)
    have HV2 : ∀ (A' : Option Addr) (c' : Nat) (w' : World), PairsAt .i16 .i16 w' A' (l.map (slidP n)) → Hid (Calls Try.prog 12 #[.agg #[.int .u8 s, .slice A' l.length c']] w' fun e w2 => e = .returned (.bool true) ∧ Below w'.heap.size w' w2) := fun A' c' w' h => by
      have h1 := c_ValidShape s A' c' (l.map (slidP n)) (by rw [List.length_map]; exact hlen) w' h
      rw [List.length_map, g3] at h1
      exact h1
    have G2 := hid g2
    rw [g1] at HV
    clear g0 g1 g2 g3
    have T0 : Hid True := trivial
    have hu := HU.out
    have HBw := HB1
    go_enter Try.func24, Try.ntmps24
    go_wp2_with (first
      | (go_at_call 12; clear T0; ((with_reducible refine (HV _ HA.out).out.mono ?_); rintro e w1 ⟨rfl, hb1⟩); have HX := hid (block_below hb1 HX.out (block_lt HX.out)); have HR := hid (block_below hb1 HR.out (block_lt HR.out)); have HA := hid (HA.out.below hb1 (Nat.le_refl _)); have HB1 := hid (HB1.out.trans (hb1.mono HB1.out.size)); have k0 := cell_block HX.out (j := 0) rfl; have k1 := cell_block HX.out (j := 1) rfl; have z0 := cell_block HR.out (j := 0) rfl; have z1 := cell_block HR.out (j := 1) rfl; have z2 := frozen_of_row _ _ 0 _ _ HR.out; have z3 := frozen_of_row _ _ 1 _ _ HR.out; have HLw := hid (block_lt HR.out))
      | (go_at_call 35; (with_reducible refine (c_within64 _ _ _ _ _ G2.out).mono ?_); rintro e w9 ⟨rfl, rfl⟩)
      | (go_at_call 43; ((with_reducible refine (HS _ HA.out).out.mono ?_); rintro e w2 ⟨A2, c2, rfl, hb1, ho2⟩); have HX := hid (block_below hb1 HX.out (block_lt HX.out)); have HR := hid (block_below hb1 HR.out (block_lt HR.out)); have HA := hid (HA.out.below hb1 (Nat.le_refl _)); have HB1 := hid (HB1.out.trans (hb1.mono HB1.out.size)); have k0 := cell_block HX.out (j := 0) rfl; have k1 := cell_block HX.out (j := 1) rfl; have z0 := cell_block HR.out (j := 0) rfl; have z1 := cell_block HR.out (j := 1) rfl; have z2 := frozen_of_row _ _ 0 _ _ HR.out; have z3 := frozen_of_row _ _ 1 _ _ HR.out; have O2 := hid ho2)
      | (go_at_call 12; ((with_reducible refine (HV2 _ _ _ (O2.out.alloc _).pairs).out.mono ?_); rintro e w3 ⟨rfl, hb3⟩); have HG := hid (block_below hb3 (block_new1 w2 (.cells #[.int .u8 s, .slice A2 l.length c2] 29) rfl) (by simp)); have hb1 := ((Below.refl _ w2).alloc (Nat.le_refl _) (.cells #[.int .u8 s, .slice A2 l.length c2] 29)).trans (hb3.mono (by simp)); have HX := hid (block_below hb1 HX.out (block_lt HX.out)); have HR := hid (block_below hb1 HR.out (block_lt HR.out)); have HA := hid (HA.out.below hb1 (Nat.le_refl _)); have HB1 := hid (HB1.out.trans (hb1.mono HB1.out.size)); have k0 := cell_block HX.out (j := 0) rfl; have k1 := cell_block HX.out (j := 1) rfl; have z0 := cell_block HR.out (j := 0) rfl; have z1 := cell_block HR.out (j := 1) rfl; have z2 := frozen_of_row _ _ 0 _ _ HR.out; have z3 := frozen_of_row _ _ 1 _ _ HR.out; have O3 := hid (O2.out.below hb1); have q0 := cell_block HG.out (j := 0) rfl; have q1 := cell_block HG.out (j := 1) rfl))
    have hll : (l.map (slidP n)).length = l.length := List.length_map _
    have hL := HLw.out
    refine bodyPost_ret (v := .tuple #[.agg #[.int .u8 s, .slice A2 l.length c2], .int .i64 0]) (by simp [results, Try.results24, go_sem, z0, z1]) rfl ⟨A2, c2, by rw [hll], ?_, ?_⟩
    · exact Below.setCell (Below.setCell HB1.out (p := ⟨w.heap.size + 1, 0, none⟩) (Nat.le_succ _) _) (p := ⟨w.heap.size + 1, 1, none⟩) (Nat.le_succ _) _
    · have h1 := (O3.out.set (a := ⟨w.heap.size + 1, 0, none⟩) (.int .u8 s) (by exact hL)).set (a := ⟨w.heap.size + 1, 1, none⟩) (.slice A2 l.length c2) (by exact hL)
      have h2 := h1.lo (lo' := w.heap.size) (by omega)
      rw [hll]
      exact ⟨h2.1.hi (Nat.le_refl _) h2.2.2, Nat.le_trans h2.2.1 h2.2.2, Nat.le_refl _⟩
theorem shOk_slid {s : Int} {l : List (Int × Int)} (h : shOk s l = true) (n : Int) (h2 : ∀ p ∈ l, 0 ≤ p.1 + n ∧ p.2 + n ≤ 200) : shOk s (l.map (slidP n)) = true := by
  have h3 := shOk_all h
  unfold shOk
  rw [List.length_map]
  simp only [Bool.and_eq_true, decide_eq_true_eq]
  refine ⟨h3.2.2.2, inB_iff.2 (by omega), List.all_eq_true.2 fun p hp => ?_⟩
  obtain ⟨q, hq, rfl⟩ := List.mem_map.1 hp
  have := h3.1 q hq
  have := h2 q hq
  rw [spOk_iff]
  unfold slidP
  dsimp only
  omega
theorem shOk_slid_no {s : Int} {l : List (Int × Int)} (n : Int) {p : Int × Int} (hp : p ∈ l) (h2 : ¬ (0 ≤ p.1 + n ∧ p.2 + n ≤ 200)) : shOk s (l.map (slidP n)) = false := by
  cases h : shOk s (l.map (slidP n)) with
  | false => rfl
  | true =>
    have := (shOk_all h).1 (slidP n p) (List.mem_map.2 ⟨p, hp, rfl⟩)
    unfold slidP at this
    dsimp only at this
    omega
/-- What l05Slide returns. -/
def RetL (w : World) (s : Int) (l : List (Int × Int)) (n : Int) (e : Ending) (w' : World) : Prop :=
  ∃ (A : Option Addr) (c : Nat), e = .returned (.tuple #[.agg #[.int .u8 (if shOk s (l.map (slidP n)) = true then s else 0), .slice A (if shOk s (l.map (slidP n)) = true then l.map (slidP n) else []).length c], .bool (shOk s (l.map (slidP n)))]) ∧ Below w.heap.size w w' ∧ OwT w.heap.size w'.heap.size w' (.slice A (if shOk s (l.map (slidP n)) = true then l.map (slidP n) else []).length c) (if shOk s (l.map (slidP n)) = true then l.map (slidP n) else [])
set_option maxHeartbeats 1600000 in
set_option maxRecDepth 100000 in
theorem c_l05Slide (s : Int) (A : Option Addr) (c : Nat) (l : List (Int × Int)) (hlen : l.length ≤ 1048576) (hok : shOk s l = true) (n : Int) (hn : -200 ≤ n ∧ n ≤ 200) (bs : Nat) (w : World) (hx : w.heap[bs]? = some (.cells #[.int .u8 s, .slice A l.length c] 29 (0, 0))) (hA : PairsAt .i16 .i16 w A l) :
    Calls Try.prog 42 #[.pointer (some ⟨bs, 0, none⟩), .int .i64 n] w (RetL w s l n) := by
  obtain ⟨i0, hi, hz0, hz1, hz2⟩ := span_parts
  have HB := hid (shOk_all hok).1
  have HK := hid hok
  have HX := hid hx
  have LX := hid (block_lt hx)
  have HA := hid hA
  have k0 : (w.alloc (.cells #[.int .u8 0, .slice none 0 0] 29)).cell? ⟨bs, 0, none⟩ = some (.int .u8 s) := cell_block (block_alloc hx _) rfl
  clear hok hx hA
  obtain ⟨w0, hw0⟩ : ∃ w0, w0 = (w.alloc (.cells #[.int .u8 0, .slice none 0 0] 29)).alloc (.cells #[.int .u8 s, .slice none 0 0] 29) := ⟨_, rfl⟩
  have HB0 : Hid (Below w.heap.size w w0) := by rw [hw0]; exact ((Below.refl _ w).alloc (Nat.le_refl _) _).alloc (by simp) _
  have HR : Hid (w0.heap[w.heap.size]? = some (.cells #[.int .u8 0, .slice none 0 0] 29 (0, 0))) := by rw [hw0]; exact block_alloc (block_new1 _ _ rfl) _
  have HO : Hid (w0.heap[w.heap.size + 1]? = some (.cells #[.int .u8 s, .slice none 0 0] 29 (0, 0))) := by rw [hw0]; exact block_new1 _ _ (by simp)
  have hlx := LX.out
  go_enter Try.func42, Try.ntmps42
  go_wp2_with fail
  rw [← hw0]
  clear hw0 k0
  go_loopw [7] (fun i wr => ∃ (k : Nat) (v : Value), k ≤ l.length ∧ i = .int .i64 k ∧ Hid (Below w.heap.size w wr) ∧ Hid (wr.heap[w.heap.size]? = some (.cells #[.int .u8 0, .slice none 0 0] 29 (0, 0))) ∧ Hid (wr.heap[w.heap.size + 1]? = some (.cells #[.int .u8 s, v] 29 (0, 0))) ∧ Hid (wr.ownsRow (w.heap.size + 2) 38 2 v ((l.take k).map (slidP n)).length (scells ((l.take k).map (slidP n)))) ∧ Hid (∀ p ∈ l.take k, 0 ≤ p.1 + n ∧ p.2 + n ≤ 200)) (fun i _ => l.length - (intOf i).toNat)
  case atStart => exact ⟨0, _, by omega, rfl, HB0, HR, HO, World.ownsRow_nil _ _ _ _, fun p hp => by simp at hp⟩
  case round =>
    obtain ⟨k, v, hk, rfl, hb, hR, hC, hO, hall⟩ := hrel
    have HXw := hid (block_below hb.out HX.out LX.out)
    have m0 := cell_block HXw.out (j := 0) rfl
    have m1 := cell_block HXw.out (j := 1) rfl
    have n0 := cell_block hC.out (j := 0) rfl
    have n1 := cell_block hC.out (j := 1) rfl
    have z0 := cell_block hR.out (j := 0) rfl
    have z1 := cell_block hR.out (j := 1) rfl
    have z2 := frozen_of_row _ _ 0 _ _ hR.out
    have z3 := frozen_of_row _ _ 1 _ _ hR.out
    have lc := block_lt hC.out
    by_cases hkl : k < l.length
    · have hd : decide ((k : Int) < (l.length : Int)) = true := decide_eq_true (by omega)
      have hkI : (k : Int) < (l.length : Int) := by omega
      have hk0 : (0 : Int) ≤ (k : Int) := by omega
      have hp := List.getElem?_eq_getElem hkl
      have hpB := HB.out _ (List.getElem_mem hkl)
      have HM := hid (List.getElem_mem hkl)
      obtain ⟨⟨p1, p2⟩, hnn⟩ : ∃ q, q = l[k] := ⟨_, rfl⟩
      rw [← hnn] at hp hpB HM
      obtain ⟨b, off, rfl, r1, r2, r3⟩ := HA.out k _ hp
      have c0 := (hb.out.cell (p := ⟨b, _, none⟩) r1).trans r2
      have c1 := (hb.out.cell (p := ⟨b, _, none⟩) r1).trans r3
      dsimp only at c0 c1 hpB
      have lb : b < wr.heap.size := Nat.lt_of_lt_of_le r1 hb.out.size
      by_cases hin : 0 ≤ p1 + n ∧ p2 + n ≤ 200
      · have HY : Hid ((l.take (k + 1)).map (slidP n) = (l.take k).map (slidP n) ++ [(p1 + n, p2 + n)]) := by
          show _ = _
          rw [List.take_succ_eq_append_getElem hkl, List.map_append, ← hnn]; rfl
        have HAll : Hid (∀ p ∈ l.take (k + 1), 0 ≤ p.1 + n ∧ p.2 + n ≤ 200) := by
          intro p hpm
          rw [List.take_succ_eq_append_getElem hkl, ← hnn] at hpm
          rcases List.mem_append.1 hpm with h | h
          · exact hall.out p h
          · obtain rfl : p = (p1, p2) := by simpa using h
            exact hin
        have hle : ((l.take k).map (slidP n)).length ≤ 1048576 := by rw [List.length_map, List.length_take]; omega
        have HLE := hid hle
        have e1 : IntKind.i16.wrap (p1 + n) = p1 + n := by simp [IntKind.wrap, IntKind.bits, IntKind.signed]; omega
        have e2 : IntKind.i16.wrap (p2 + n) = p2 + n := by simp [IntKind.wrap, IntKind.bits, IntKind.signed]; omega
        have d1 : decide (p1 + n < 0) = false := decide_eq_false (by omega)
        have d2 : decide (p2 + n > 200) = false := decide_eq_false (by omega)
        have e9 : ((l.take k).map (slidP n)).length = k := by rw [List.length_map, List.length_take]; omega
        have HE9 := hid e9
        clear hp hnn r2 r3 hle e9
        go_wp2_with ((with_reducible refine gate (N := 61) rfl ?_); refine wpList_append_own _ rfl (.tmp 54) (.tmp 60) 27 rfl (w.heap.size + 2) 38 i0 (.agg #[.int .i16 0, .int .i16 0]) 2 4 Try.underlying27 hi hz0 hz1 hz2 rfl (by decide) _ _ _ rfl (hO.out.alloc _) ⟨wr.heap.size, 0, none⟩ 1 1 [.int .i16 (p1 + n), .int .i16 (p2 + n)] rfl rfl (cell_two_new' wr _ _ _) (by simp [Value.oneCell']) (Nat.le_trans (Nat.add_le_add_right HLE.out 1) (by decide)) (by have := HLE.out; omega) (by simp; omega) ?_; intro v' w3 hown1 hgrow _; have HC3 : Hid (w3.heap[w.heap.size + 1]? = some (.cells #[.int .u8 s, v] 29 (0, 0))) := (hgrow.block (w.heap.size + 1) (by simp; omega) (fun e => by have := (hO.out.lt _ e.symm).1; omega)).trans (block_alloc hC.out (.cells #[.int .i16 (p1 + n), .int .i16 (p2 + n)] 38)); have HR3 : Hid (w3.heap[w.heap.size]? = some (.cells #[.int .u8 0, .slice none 0 0] 29 (0, 0))) := (hgrow.block w.heap.size (by simp; omega) (fun e => by have := (hO.out.lt _ e.symm).1; omega)).trans (block_alloc hR.out (.cells #[.int .i16 (p1 + n), .int .i16 (p2 + n)] 38)); have q0 := cell_block HC3.out (j := 0) rfl; have q1 := cell_block HC3.out (j := 1) rfl; have q3 := frozen_of_row _ _ 1 _ _ HC3.out; obtain ⟨A5, c5, rfl⟩ := owns_slice' hown1)
        have b3 := ((hb.out.alloc hb.out.size (.cells #[.int .i16 (p1 + n), .int .i16 (p2 + n)] 38))).grown hgrow (by have := hb.out.size; simp; omega) (fun k hk => by have := (hO.out.lt k hk).1; omega)
        refine ⟨⟨k + 1, _, by omega, by go_num, Below.setCell b3 (p := ⟨w.heap.size + 1, 1, none⟩) (Nat.le_succ _) _, block_set_other HR3.out _ (by simp), heap_setCell_same w3 (w.heap.size + 1) 1 _ _ _ HC3.out, ?_, HAll⟩, by simp [intOf]; omega⟩
        show World.ownsRow _ _ _ _ _ _ _
        rw [HY.out, List.length_append]
        unfold scells
        rw [List.flatMap_append]
        have h9 := owns_set' hown1 (a := ⟨w.heap.size + 1, 1, none⟩) (.slice A5 (((l.take k).map (slidP n)).length + 1) c5) (by show w.heap.size + 1 < w.heap.size + 2; omega)
        rw [HE9.out] at h9 ⊢
        exact h9
      · have HF := hid (shOk_slid_no (s := s) n HM.out hin)
        clear hp hnn r2 r3
        rcases (by omega : (p1 + n < 0) ∨ (¬ p1 + n < 0 ∧ p2 + n > 200)) with h1 | ⟨h1, h2⟩
        · have d1 : decide (p1 + n < 0) = true := decide_eq_true h1
          go_wp2_with fail
          unfold RetL
          rw [HF.out]
          refine bodyPost_ret (v := .tuple #[.agg #[.int .u8 0, .slice none 0 0], .bool false]) (by simp [results, Try.results42, go_sem, z0, z1]) rfl ⟨none, 0, rfl, ?_, ?_⟩
          · exact Below.setCell (Below.setCell hb.out (p := ⟨w.heap.size, 0, none⟩) (Nat.le_refl _) _) (p := ⟨w.heap.size, 1, none⟩) (Nat.le_refl _) _
          · have := hb.out.size
            exact OwT.nil _ _ (by simp; omega)
        · have d1 : decide (p1 + n < 0) = false := decide_eq_false h1
          have d2 : decide (p2 + n > 200) = true := decide_eq_true h2
          go_wp2_with fail
          unfold RetL
          rw [HF.out]
          refine bodyPost_ret (v := .tuple #[.agg #[.int .u8 0, .slice none 0 0], .bool false]) (by simp [results, Try.results42, go_sem, z0, z1]) rfl ⟨none, 0, rfl, ?_, ?_⟩
          · exact Below.setCell (Below.setCell hb.out (p := ⟨w.heap.size, 0, none⟩) (Nat.le_refl _) _) (p := ⟨w.heap.size, 1, none⟩) (Nat.le_refl _) _
          · have := hb.out.size
            exact OwT.nil _ _ (by simp; omega)
    · obtain rfl : k = l.length := by omega
      have hd : decide ((l.length : Int) < (l.length : Int)) = false := decide_eq_false (by omega)
      rw [List.take_length] at hO hall
      have HF := hid (shOk_slid HK.out n hall.out)
      obtain ⟨A5, c5, rfl⟩ := owns_slice' hO.out
      go_wp2_with fail
      unfold RetL
      rw [HF.out, if_pos rfl, if_pos rfl]
      have hll : (l.map (slidP n)).length = l.length := List.length_map _
      have h0 : OwT (w.heap.size + 2) wr.heap.size wr (.slice A5 (l.map (slidP n)).length c5) (l.map (slidP n)) := ⟨OwS.of_owns hO.out, by omega, Nat.le_refl _⟩
      rw [hll] at h0
      refine bodyPost_ret (v := .tuple #[.agg #[.int .u8 s, .slice A5 l.length c5], .bool true]) (by simp [results, Try.results42, go_sem, z0, z1]) rfl ⟨A5, c5, by rw [hll], ?_, ?_⟩
      · exact Below.setCell (Below.setCell hb.out (p := ⟨w.heap.size, 0, none⟩) (Nat.le_refl _) _) (p := ⟨w.heap.size, 1, none⟩) (Nat.le_refl _) _
      · have h1 := (h0.set (a := ⟨w.heap.size, 0, none⟩) (.int .u8 s) (by show w.heap.size < w.heap.size + 2; omega)).set (a := ⟨w.heap.size, 1, none⟩) (.slice A5 l.length c5) (by show w.heap.size < w.heap.size + 2; omega)
        have h2 := h1.lo (lo' := w.heap.size) (by omega)
        rw [hll]
        exact ⟨h2.1.hi (Nat.le_refl _) h2.2.2, Nat.le_trans h2.2.1 h2.2.2, Nat.le_refl _⟩
set_option maxHeartbeats 1600000 in
set_option maxRecDepth 100000 in
theorem c_sSlideShape (s : Int) (A : Option Addr) (c : Nat) (l : List (Int × Int)) (hlen : l.length ≤ 1048576) (n : Int) (w : World) (hA : PairsAt .i16 .i16 w A l) :
    Calls Try.prog 23 #[.agg #[.int .u8 s, .slice A l.length c], .int .i64 n] w (RetH w (slideS s l n) (slideL s l n) (slideC s l n)) := by
  have B0 : Below w.heap.size w ((w.alloc (.cells #[.int .u8 s, .slice A l.length c] 29)).alloc (.cells #[.int .u8 0, .slice none 0 0] 29)) := ((Below.refl _ w).alloc (Nat.le_refl _) _).alloc (by simp) _
  have HX := hid (block_alloc (block_new1 w (.cells #[.int .u8 s, .slice A l.length c] 29) rfl) (.cells #[.int .u8 0, .slice none 0 0] 29))
  have HR := hid (block_new1 (w.alloc (.cells #[.int .u8 s, .slice A l.length c] 29)) (.cells #[.int .u8 0, .slice none 0 0] 29) (n := w.heap.size + 1) (by simp))
  have HV := fun w' h1 h => hid (c_l05Ok s A c l hlen w.heap.size w' h1 h)
  have HA := hid (hA.below B0 (Nat.le_refl _))
  have HB1 := hid B0
  clear hA B0
  rcases slide_cases s l n with ⟨g1, g0⟩ | ⟨g1, g2, g0⟩ | ⟨g1, g2, g3, g0⟩ | ⟨g1, g2, g3, g0⟩
  · rw [(slide_no (by rw [g0]; decide)).1, (slide_no (by rw [g0]; decide)).2, g0]
    rw [g1] at HV
    clear g0 g1
    go_enter Try.func23, Try.ntmps23
    go_wp2_with (go_at_call 28; ((with_reducible refine (HV _ HX.out HA.out).out.mono ?_); rintro e w1 ⟨rfl, hb1⟩); have HX := hid (block_below hb1 HX.out (block_lt HX.out)); have HR := hid (block_below hb1 HR.out (block_lt HR.out)); have HA := hid (HA.out.below hb1 (Nat.le_refl _)); have HB1 := hid (HB1.out.trans (hb1.mono HB1.out.size)); have k0 := cell_block HX.out (j := 0) rfl; have k1 := cell_block HX.out (j := 1) rfl; have z0 := cell_block HR.out (j := 0) rfl; have z1 := cell_block HR.out (j := 1) rfl; have z2 := frozen_of_row _ _ 0 _ _ HR.out; have z3 := frozen_of_row _ _ 1 _ _ HR.out)
    refine bodyPost_ret (v := .tuple #[.agg #[.int .u8 0, .slice none 0 0], .int .i64 1]) (by simp [results, Try.results23, go_sem, z0, z1]) rfl ⟨none, 0, rfl, ?_, ?_⟩
    · exact Below.setCell (Below.setCell HB1.out (p := ⟨w.heap.size + 1, 0, none⟩) (Nat.le_succ _) _) (p := ⟨w.heap.size + 1, 1, none⟩) (Nat.le_succ _) _
    · have := HB1.out.size
      exact OwT.nil _ _ (by simp; omega)
  · rw [(slide_no (by rw [g0]; decide)).1, (slide_no (by rw [g0]; decide)).2, g0]
    rw [g1] at HV
    have G2 := hid g2
    clear g0 g1 g2
    go_enter Try.func23, Try.ntmps23
    go_wp2_with (first
      | (go_at_call 28; ((with_reducible refine (HV _ HX.out HA.out).out.mono ?_); rintro e w1 ⟨rfl, hb1⟩); have HX := hid (block_below hb1 HX.out (block_lt HX.out)); have HR := hid (block_below hb1 HR.out (block_lt HR.out)); have HA := hid (HA.out.below hb1 (Nat.le_refl _)); have HB1 := hid (HB1.out.trans (hb1.mono HB1.out.size)); have k0 := cell_block HX.out (j := 0) rfl; have k1 := cell_block HX.out (j := 1) rfl; have z0 := cell_block HR.out (j := 0) rfl; have z1 := cell_block HR.out (j := 1) rfl; have z2 := frozen_of_row _ _ 0 _ _ HR.out; have z3 := frozen_of_row _ _ 1 _ _ HR.out)
      | (go_at_call 34; (with_reducible refine (c_l00In _ _ _ _ _ G2.out).mono ?_); rintro e w9 ⟨rfl, rfl⟩))
    refine bodyPost_ret (v := .tuple #[.agg #[.int .u8 0, .slice none 0 0], .int .i64 2]) (by simp [results, Try.results23, go_sem, z0, z1]) rfl ⟨none, 0, rfl, ?_, ?_⟩
    · exact Below.setCell (Below.setCell HB1.out (p := ⟨w.heap.size + 1, 0, none⟩) (Nat.le_succ _) _) (p := ⟨w.heap.size + 1, 1, none⟩) (Nat.le_succ _) _
    · have := HB1.out.size
      exact OwT.nil _ _ (by simp; omega)
  · rw [(slide_no (by rw [g0]; decide)).1, (slide_no (by rw [g0]; decide)).2, g0]
    have hin := inB_iff.1 g2
    have HS : ∀ w' : World, w'.heap[w.heap.size]? = some (.cells #[.int .u8 s, .slice A l.length c] 29 (0, 0)) → PairsAt .i16 .i16 w' A l → Hid (Calls Try.prog 42 #[.pointer (some ⟨w.heap.size, 0, none⟩), .int .i64 n] w' fun e w2 => ∃ (A2 : Option Addr) (c2 : Nat), e = .returned (.tuple #[.agg #[.int .u8 0, .slice A2 0 c2], .bool false]) ∧ Below w'.heap.size w' w2) := fun w' h1 h2 => (c_l05Slide s A c l hlen g1 n hin w.heap.size w' h1 h2).mono fun e w2 ⟨A2, c2, he, hb, ho⟩ => by
      rw [g3, if_neg (by decide), if_neg (by decide)] at he
      exact ⟨A2, c2, he, hb⟩
    have G2 := hid g2
    rw [g1] at HV
    clear g0 g1 g2 g3
    go_enter Try.func23, Try.ntmps23
    go_wp2_with (first
      | (go_at_call 28; ((with_reducible refine (HV _ HX.out HA.out).out.mono ?_); rintro e w1 ⟨rfl, hb1⟩); have HX := hid (block_below hb1 HX.out (block_lt HX.out)); have HR := hid (block_below hb1 HR.out (block_lt HR.out)); have HA := hid (HA.out.below hb1 (Nat.le_refl _)); have HB1 := hid (HB1.out.trans (hb1.mono HB1.out.size)); have k0 := cell_block HX.out (j := 0) rfl; have k1 := cell_block HX.out (j := 1) rfl; have z0 := cell_block HR.out (j := 0) rfl; have z1 := cell_block HR.out (j := 1) rfl; have z2 := frozen_of_row _ _ 0 _ _ HR.out; have z3 := frozen_of_row _ _ 1 _ _ HR.out)
      | (go_at_call 34; (with_reducible refine (c_l00In _ _ _ _ _ G2.out).mono ?_); rintro e w9 ⟨rfl, rfl⟩)
      | (go_at_call 42; ((with_reducible refine (HS _ HX.out HA.out).out.mono ?_); rintro e w2 ⟨A2, c2, rfl, hb1⟩); have lz := Nat.lt_of_lt_of_le (block_lt HR.out) hb1.size; have HX := hid (block_below hb1 HX.out (block_lt HX.out)); have HR := hid (block_below hb1 HR.out (block_lt HR.out)); have HA := hid (HA.out.below hb1 (Nat.le_refl _)); have HB1 := hid (HB1.out.trans (hb1.mono HB1.out.size)); have k0 := cell_block HX.out (j := 0) rfl; have k1 := cell_block HX.out (j := 1) rfl; have z0 := cell_block HR.out (j := 0) rfl; have z1 := cell_block HR.out (j := 1) rfl; have z2 := frozen_of_row _ _ 0 _ _ HR.out; have z3 := frozen_of_row _ _ 1 _ _ HR.out))
    refine bodyPost_ret (v := .tuple #[.agg #[.int .u8 0, .slice none 0 0], .int .i64 4]) (by simp [results, Try.results23, go_sem, z0, z1, lz]) rfl ⟨none, 0, rfl, ?_, ?_⟩
    · exact (Below.setCell (Below.setCell HB1.out (p := ⟨w.heap.size + 1, 0, none⟩) (Nat.le_succ _) _) (p := ⟨w.heap.size + 1, 1, none⟩) (Nat.le_succ _) _).alloc (by have := HB1.out.size; simpa using this) _
    · have := HB1.out.size
      exact OwT.nil _ _ (by simp; omega)
  · rw [(slide_yes g0).1, (slide_yes g0).2, g0]
    have hin := inB_iff.1 g2
    have HS : ∀ w' : World, w'.heap[w.heap.size]? = some (.cells #[.int .u8 s, .slice A l.length c] 29 (0, 0)) → PairsAt .i16 .i16 w' A l → Hid (Calls Try.prog 42 #[.pointer (some ⟨w.heap.size, 0, none⟩), .int .i64 n] w' fun e w2 => ∃ (A2 : Option Addr) (c2 : Nat), e = .returned (.tuple #[.agg #[.int .u8 s, .slice A2 l.length c2], .bool true]) ∧ Below w'.heap.size w' w2 ∧ OwT w'.heap.size w2.heap.size w2 (.slice A2 l.length c2) (l.map (slidP n))) := fun w' h1 h2 => (c_l05Slide s A c l hlen g1 n hin w.heap.size w' h1 h2).mono fun e w2 ⟨A2, c2, he, hb, ho⟩ => by
      rw [g3, if_pos rfl, if_pos rfl, List.length_map] at he
      rw [g3, if_pos rfl, List.length_map] at ho
      exact ⟨A2, c2, he, hb, ho⟩
    have G2 := hid g2
    rw [g1] at HV
    clear g0 g1 g2 g3
    go_enter Try.func23, Try.ntmps23
    go_wp2_with (first
      | (go_at_call 28; ((with_reducible refine (HV _ HX.out HA.out).out.mono ?_); rintro e w1 ⟨rfl, hb1⟩); have HX := hid (block_below hb1 HX.out (block_lt HX.out)); have HR := hid (block_below hb1 HR.out (block_lt HR.out)); have HA := hid (HA.out.below hb1 (Nat.le_refl _)); have HB1 := hid (HB1.out.trans (hb1.mono HB1.out.size)); have k0 := cell_block HX.out (j := 0) rfl; have k1 := cell_block HX.out (j := 1) rfl; have z0 := cell_block HR.out (j := 0) rfl; have z1 := cell_block HR.out (j := 1) rfl; have z2 := frozen_of_row _ _ 0 _ _ HR.out; have z3 := frozen_of_row _ _ 1 _ _ HR.out; have HLw := hid (block_lt HR.out))
      | (go_at_call 34; (with_reducible refine (c_l00In _ _ _ _ _ G2.out).mono ?_); rintro e w9 ⟨rfl, rfl⟩)
      | (go_at_call 42; ((with_reducible refine (HS _ HX.out HA.out).out.mono ?_); rintro e w2 ⟨A2, c2, rfl, hb1, ho2⟩); have HX := hid (block_below hb1 HX.out (block_lt HX.out)); have HR := hid (block_below hb1 HR.out (block_lt HR.out)); have HA := hid (HA.out.below hb1 (Nat.le_refl _)); have HB1 := hid (HB1.out.trans (hb1.mono HB1.out.size)); have k0 := cell_block HX.out (j := 0) rfl; have k1 := cell_block HX.out (j := 1) rfl; have z0 := cell_block HR.out (j := 0) rfl; have z1 := cell_block HR.out (j := 1) rfl; have z2 := frozen_of_row _ _ 0 _ _ HR.out; have z3 := frozen_of_row _ _ 1 _ _ HR.out; have lz := block_lt HR.out; have O3 := hid ho2))
    have hll : (l.map (slidP n)).length = l.length := List.length_map _
    have hL := HLw.out
    refine bodyPost_ret (v := .tuple #[.agg #[.int .u8 s, .slice A2 l.length c2], .int .i64 0]) (by simp [results, Try.results23, go_sem, z0, z1, lz]) rfl ⟨A2, c2, by rw [hll], ?_, ?_⟩
    · exact (Below.setCell (Below.setCell HB1.out (p := ⟨w.heap.size + 1, 0, none⟩) (Nat.le_succ _) _) (p := ⟨w.heap.size + 1, 1, none⟩) (Nat.le_succ _) _).alloc (by have := HB1.out.size; simpa using this) _
    · have h1 := (O3.out.set (a := ⟨w.heap.size + 1, 0, none⟩) (.int .u8 s) (by exact hL)).set (a := ⟨w.heap.size + 1, 1, none⟩) (.slice A2 l.length c2) (by exact hL)
      have h2 := (h1.lo (lo' := w.heap.size) (by omega)).alloc (.cells #[.int .u8 s, .slice A2 l.length c2] 29)
      rw [hll]
      exact ⟨h2.1.hi (Nat.le_refl _) h2.2.2, Nat.le_trans h2.2.1 h2.2.2, Nat.le_refl _⟩
end Go.Proofs.Ytohdfnbjfhiacaa
