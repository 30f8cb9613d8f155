/- HipShape: the program's and the reference's. -/
import Derived.Test.YtohdfnbjfhiacaaSlideS
namespace Go.Proofs.Ytohdfnbjfhiacaa
open Go.RowKit
set_option linter.unusedSimpArgs false
set_option linter.unusedVariables false

/-- The first k spans of a hip. -/
def hipL (L R a b : Int) (k : Nat) : List (Int × Int) := (List.range k).map fun i : Nat => (L - (i : Int) * a, R + (i : Int) * b)
theorem hipL_len (L R a b : Int) (k : Nat) : (hipL L R a b k).length = k := by simp [hipL]
theorem hipL_succ (L R a b : Int) (k : Nat) : hipL L R a b (k + 1) = hipL L R a b k ++ [(L - (k : Int) * a, R + (k : Int) * b)] := by simp [hipL, List.range_succ]
def hipG (a b n s : Int) : Bool := inB a 0 40 && (inB b 0 40 && (inB n 1 12 && inB s 0 1))
def hipC (L R a b n s : Int) : Int := if hipG a b n s = true then (if (hipL L R a b n.toNat).all spOk = true then 0 else 4) else 2
def hipS (L R a b n s : Int) : Int := if hipC L R a b n s = 0 then s else 0
def hipR (L R a b n s : Int) : List (Int × Int) := if hipC L R a b n s = 0 then hipL L R a b n.toNat else []
theorem hip_cases (L R a b n s : Int) : (hipG a b n s = false ∧ hipC L R a b n s = 2) ∨ (hipG a b n s = true ∧ (hipL L R a b n.toNat).all spOk = false ∧ hipC L R a b n s = 4) ∨ (hipG a b n s = true ∧ (hipL L R a b n.toNat).all spOk = true ∧ hipC L R a b n s = 0) := by
  unfold hipC
  cases hipG a b n s <;> cases (hipL L R a b n.toNat).all spOk <;> simp
theorem hip_no {L R a b n s : Int} (h : hipC L R a b n s ≠ 0) : hipS L R a b n s = 0 ∧ hipR L R a b n s = [] := ⟨if_neg h, if_neg h⟩
theorem hip_yes {L R a b n s : Int} (h : hipC L R a b n s = 0) : hipS L R a b n s = s ∧ hipR L R a b n s = hipL L R a b n.toNat := ⟨if_pos h, if_pos h⟩
theorem hipG_yes {a b n s : Int} (h : hipG a b n s = true) : inB a 0 40 = true ∧ inB b 0 40 = true ∧ inB n 1 12 = true ∧ inB s 0 1 = true := by
  unfold hipG at h; simp only [Bool.and_eq_true] at h; exact ⟨h.1, h.2.1, h.2.2.1, h.2.2.2⟩
theorem hipG_no {a b n s : Int} (h : hipG a b n s = false) : inB a 0 40 = false ∨ (inB a 0 40 = true ∧ inB b 0 40 = false) ∨ (inB a 0 40 = true ∧ inB b 0 40 = true ∧ inB n 1 12 = false) ∨ (inB a 0 40 = true ∧ inB b 0 40 = true ∧ inB n 1 12 = true ∧ inB s 0 1 = false) := by
  unfold hipG at h
  cases h1 : inB a 0 40 <;> cases h2 : inB b 0 40 <;> cases h3 : inB n 1 12 <;> cases h4 : inB s 0 1 <;> simp_all
theorem hip_mul {a : Int} (h : 0 ≤ a ∧ a ≤ 40) {k : Nat} (hk : k ≤ 12) : 0 ≤ (k : Int) * a ∧ (k : Int) * a ≤ 480 := by
  refine ⟨Int.mul_nonneg (by omega) h.1, ?_⟩
  have := Int.mul_le_mul (by omega : (k : Int) ≤ 12) h.2 h.1 (by omega : (0 : Int) ≤ 12)
  omega
theorem hip_bad {L R a b : Int} {n k : Nat} (hk : k < n) (h : spOk (L - (k : Int) * a, R + (k : Int) * b) = false) : (hipL L R a b n).all spOk = false := by
  rw [← Bool.not_eq_true, List.all_eq_true]
  intro h2
  have := h2 (L - (k : Int) * a, R + (k : Int) * b) (List.mem_map.2 ⟨k, List.mem_range.2 hk, rfl⟩)
  rw [h] at this; cases this
theorem shOk_hip {L R a b s : Int} {n : Nat} (hs : 0 ≤ s ∧ s ≤ 1) (hn : 1 ≤ n ∧ n ≤ 12) : shOk s (hipL L R a b n) = (hipL L R a b n).all spOk := by
  unfold shOk
  rw [hipL_len]
  have h1 : inB (n : Int) 1 12 = true := inB_iff.2 (by omega)
  have h2 : decide (s ≤ 1) = true := decide_eq_true hs.2
  rw [h1, h2]; simp
set_option maxHeartbeats 3200000 in
set_option maxRecDepth 100000 in
theorem c_sHipShape (L R : Int) (hL : -32768 ≤ L ∧ L ≤ 32767) (hR : -32768 ≤ R ∧ R ≤ 32767) (a b n s : Int) (w : World) :
    Calls Try.prog 14 #[.agg #[.int .i16 L, .int .i16 R], .int .i64 a, .int .i64 b, .int .i64 n, .int .i64 s] w (RetH w (hipS L R a b n s) (hipR L R a b n s) (hipC L R a b n s)) := by
  obtain ⟨i0, hi, hz0, hz1, hz2⟩ := span_parts
  obtain ⟨w0, hw0⟩ : ∃ w0, w0 = (w.alloc (.cells #[.int .i16 L, .int .i16 R] 38)).alloc (.cells #[.int .u8 0, .slice none 0 0] 29) := ⟨_, rfl⟩
  have HB0 : Hid (Below w.heap.size w w0) := by rw [hw0]; exact ((Below.refl _ w).alloc (Nat.le_refl _) _).alloc (by simp) _
  have HT : Hid (w0.heap[w.heap.size]? = some (.cells #[.int .i16 L, .int .i16 R] 38 (0, 0))) := by rw [hw0]; exact block_alloc (block_new1 _ _ rfl) _
  have HR : Hid (w0.heap[w.heap.size + 1]? = some (.cells #[.int .u8 0, .slice none 0 0] 29 (0, 0))) := by rw [hw0]; exact block_new1 _ _ (by simp)
  rcases hip_cases L R a b n s with ⟨g1, g0⟩ | ⟨g1, g2, g0⟩ | ⟨g1, g2, g0⟩
  · rw [(hip_no (by rw [g0]; decide)).1, (hip_no (by rw [g0]; decide)).2, g0]
    rcases hipG_no g1 with h | ⟨h, h2⟩ | ⟨h, h2, h3⟩ | ⟨h, h2, h3, h4⟩
    all_goals
      have H1 := hid h
      try have H2 := hid h2
      try have H3 := hid h3
      try have H4 := hid h4
      clear g0 g1 h
      try clear h2
      try clear h3
      try clear h4
      go_enter Try.func14, Try.ntmps14
      go_wp2_with (first
        | (go_at_call 34; (with_reducible refine (c_l00In _ _ _ _ _ H1.out).mono ?_); rintro e w9 ⟨rfl, rfl⟩)
        | (go_at_call 34; (with_reducible refine (c_l00In _ _ _ _ _ H2.out).mono ?_); rintro e w9 ⟨rfl, rfl⟩)
        | (go_at_call 34; (with_reducible refine (c_l00In _ _ _ _ _ H3.out).mono ?_); rintro e w9 ⟨rfl, rfl⟩)
        | (go_at_call 34; (with_reducible refine (c_l00In _ _ _ _ _ H4.out).mono ?_); rintro e w9 ⟨rfl, rfl⟩))
      refine bodyPost_ret (v := .tuple #[.agg #[.int .u8 0, .slice none 0 0], .int .i64 2]) (by simp [results, Try.results14, go_sem]) rfl ⟨none, 0, rfl, ?_, ?_⟩
      · rw [← hw0]; exact HB0.out
      · rw [← hw0]; exact OwT.nil _ _ HB0.out.size
  all_goals
    first
      | rw [(hip_no (by rw [g0]; decide)).1, (hip_no (by rw [g0]; decide)).2, g0]
      | rw [(hip_yes g0).1, (hip_yes g0).2, g0]
    obtain ⟨h1, h2, h3, h4⟩ := hipG_yes g1
    have ha := inB_iff.1 h1
    have hb0 := inB_iff.1 h2
    have hn0 := inB_iff.1 h3
    have hs0 := inB_iff.1 h4
    obtain ⟨N, rfl⟩ := Int.eq_ofNat_of_zero_le (by omega : 0 ≤ n)
    rw [Int.toNat_natCast] at g2
    try rw [Int.toNat_natCast]
    have G2 := hid g2
    have H1 := hid h1
    have H2 := hid h2
    have H3 := hid h3
    have H4 := hid h4
    have HA := hid ha
    have HBb := hid hb0
    have hN12 : N ≤ 12 := by omega
    have hu : IntKind.u8.wrap s = s := by simp [IntKind.wrap, IntKind.bits, IntKind.signed]; omega
    have HU := hid hu
    clear g0 g1 g2 h1 h2 h3 h4 ha hb0
    go_enter Try.func14, Try.ntmps14
    go_wp2_with (first
      | (go_at_call 34; (with_reducible refine (c_l00In _ _ _ _ _ H1.out).mono ?_); rintro e w9 ⟨rfl, rfl⟩)
      | (go_at_call 34; (with_reducible refine (c_l00In _ _ _ _ _ H2.out).mono ?_); rintro e w9 ⟨rfl, rfl⟩)
      | (go_at_call 34; (with_reducible refine (c_l00In _ _ _ _ _ H3.out).mono ?_); rintro e w9 ⟨rfl, rfl⟩)
      | (go_at_call 34; (with_reducible refine (c_l00In _ _ _ _ _ H4.out).mono ?_); rintro e w9 ⟨rfl, rfl⟩))
    have hsz : w0.heap.size = w.heap.size + 1 + 1 := by rw [hw0]; simp
    rw [← hw0, ← hsz]
    have L0 : w.heap.size + 1 < w0.heap.size := block_lt HR.out
    have HL0 := hid L0
    have HO0 := hid (block_new1 w0 (.cells #[.int .u8 s, .slice none 0 0] 29) rfl)
    have HW0 : Hid (Below w0.heap.size w0 (w0.alloc (.cells #[.int .u8 s, .slice none 0 0] 29))) := (Below.refl _ w0).alloc (Nat.le_refl _) _
    clear hw0 L0 hsz
    go_loopw [13] (fun i wr => ∃ (k : Nat) (v : Value), k ≤ N ∧ i = .int .i64 k ∧ Hid (Below w0.heap.size w0 wr) ∧ Hid (wr.heap[w0.heap.size]? = some (.cells #[.int .u8 s, v] 29 (0, 0))) ∧ Hid (wr.ownsRow (w0.heap.size + 1) 38 2 v (hipL L R a b k).length (scells (hipL L R a b k))) ∧ Hid ((hipL L R a b k).all spOk = true)) (fun i _ => N - (intOf i).toNat)
    case atStart => exact ⟨0, _, by omega, rfl, HW0, HO0, World.ownsRow_nil _ _ _ _, rfl⟩
    case round =>
      obtain ⟨k, v, hk, rfl, hb, hC, hO, hall⟩ := hrel
      have HTw := hid (block_below hb.out HT.out (Nat.lt_of_succ_lt HL0.out))
      have HRw := hid (block_below hb.out HR.out HL0.out)
      have m0 := cell_block HTw.out (j := 0) rfl
      have m1 := cell_block HTw.out (j := 1) rfl
      have n0 := cell_block hC.out (j := 0) rfl
      have n1 := cell_block hC.out (j := 1) rfl
      have z0 := cell_block HRw.out (j := 0) rfl
      have z1 := cell_block HRw.out (j := 1) rfl
      have z2 := frozen_of_row _ _ 0 _ _ HRw.out
      have z3 := frozen_of_row _ _ 1 _ _ HRw.out
      have lc := block_lt hC.out
      by_cases hkl : k < N
      · have hd : decide ((k : Int) < (N : Int)) = true := decide_eq_true (by omega)
        have hma := hip_mul HA.out (k := k) (by omega)
        have hmb := hip_mul HBb.out (k := k) (by omega)
        have HSC := hid (hipL_succ L R a b k)
        have HBD := hid (fun h => hip_bad (L := L) (R := R) (a := a) (b := b) hkl h)
        by_cases hin : spOk (L - (k : Int) * a, R + (k : Int) * b) = true
        · have hin2 := (spOk_iff _).1 hin
          dsimp only at hin2
          have HAll : Hid ((hipL L R a b (k + 1)).all spOk = true) := by
            show _ = _
            rw [HSC.out, List.all_append, hall.out]
            simp [hin]
          have HLE : Hid ((hipL L R a b k).length ≤ 1048576) := by rw [hipL_len]; show _ ≤ _; omega
          have HE9 := hid (hipL_len L R a b k)
          have e1 : IntKind.i16.wrap (L - (k : Int) * a) = L - (k : Int) * a := by simp [IntKind.wrap, IntKind.bits, IntKind.signed]; omega
          have e2 : IntKind.i16.wrap (R + (k : Int) * b) = R + (k : Int) * b := by simp [IntKind.wrap, IntKind.bits, IntKind.signed]; omega
          have d1 : decide (L - (k : Int) * a < 0) = false := decide_eq_false (by omega)
          have d2 : decide (R + (k : Int) * b > 200) = false := decide_eq_false (by omega)
          have d3 : decide (L - (k : Int) * a ≥ R + (k : Int) * b) = false := decide_eq_false (by omega)
          clear hin
          go_wp2_with ((with_reducible refine gate (N := 77) rfl ?_); refine wpList_append_own _ rfl (.tmp 70) (.tmp 76) 27 rfl (w0.heap.size + 1) 38 i0 (.agg #[.int .i16 0, .int .i16 0]) 2 4 Try.underlying27 hi hz0 hz1 hz2 rfl (by decide) _ _ _ rfl (hO.out.alloc _) ⟨wr.heap.size, 0, none⟩ 1 1 [.int .i16 (L - (k : Int) * a), .int .i16 (R + (k : Int) * b)] rfl rfl (cell_two_new' wr _ _ _) (by simp [Value.oneCell']) (Nat.le_trans (Nat.add_le_add_right HLE.out 1) (by decide)) (by have := HLE.out; omega) (by simp; omega) ?_; intro v' w3 hown1 hgrow _; have HC3 : Hid (w3.heap[w0.heap.size]? = some (.cells #[.int .u8 s, v] 29 (0, 0))) := (hgrow.block w0.heap.size (by simp; omega) (fun e => by have := (hO.out.lt _ e.symm).1; omega)).trans (block_alloc hC.out (.cells #[.int .i16 (L - (k : Int) * a), .int .i16 (R + (k : Int) * b)] 38)); have q0 := cell_block HC3.out (j := 0) rfl; have q1 := cell_block HC3.out (j := 1) rfl; have q3 := frozen_of_row _ _ 1 _ _ HC3.out; obtain ⟨A5, c5, rfl⟩ := owns_slice' hown1)
          have b3 := ((hb.out.alloc hb.out.size (.cells #[.int .i16 (L - (k : Int) * a), .int .i16 (R + (k : Int) * b)] 38))).grown hgrow (by have := hb.out.size; simp; omega) (fun k hk => by have := (hO.out.lt k hk).1; omega)
          refine ⟨⟨k + 1, _, by omega, by go_num, Below.setCell b3 (p := ⟨w0.heap.size, 1, none⟩) (Nat.le_refl _) _, heap_setCell_same w3 w0.heap.size 1 _ _ _ HC3.out, ?_, HAll⟩, by simp [intOf]; omega⟩
          show World.ownsRow _ _ _ _ _ _ _
          rw [HSC.out, List.length_append]
          unfold scells
          rw [List.flatMap_append]
          have h9 := owns_set' hown1 (a := ⟨w0.heap.size, 1, none⟩) (.slice A5 ((hipL L R a b k).length + 1) c5) (by show w0.heap.size < w0.heap.size + 1; omega)
          rw [HE9.out] at h9 ⊢
          exact h9
        · have hF : spOk (L - (k : Int) * a, R + (k : Int) * b) = false := by simpa using hin
          have HNo := hid (HBD.out hF)
          have hno : ¬ (0 ≤ L - (k : Int) * a ∧ L - (k : Int) * a < R + (k : Int) * b ∧ R + (k : Int) * b ≤ 200) := fun h => hin ((spOk_iff _).2 h)
          clear hin hF
          have hcs : (L - (k : Int) * a < 0) ∨ (¬ L - (k : Int) * a < 0 ∧ R + (k : Int) * b > 200) ∨ (¬ L - (k : Int) * a < 0 ∧ ¬ R + (k : Int) * b > 200 ∧ L - (k : Int) * a ≥ R + (k : Int) * b) := by omega
          clear hno
          first
            | (exact absurd (G2.out.symm.trans HNo.out) (by decide))
            | (
               rcases hcs with d | ⟨d, d'⟩ | ⟨d, d', d''⟩
               all_goals
                 first | (have e1 : decide (L - (k : Int) * a < 0) = true := decide_eq_true d) | (have e1 : decide (L - (k : Int) * a < 0) = false := decide_eq_false d)
                 try first | (have e2 : decide (R + (k : Int) * b > 200) = true := decide_eq_true d') | (have e2 : decide (R + (k : Int) * b > 200) = false := decide_eq_false d')
                 try (have e3 : decide (L - (k : Int) * a ≥ R + (k : Int) * b) = true := decide_eq_true d'')
                 go_wp2_with fail
                 refine bodyPost_ret (v := .tuple #[.agg #[.int .u8 0, .slice none 0 0], .int .i64 4]) (by simp [results, Try.results14, go_sem, z0, z1]) rfl ⟨none, 0, rfl, ?_, ?_⟩
                 · exact Below.setCell (Below.setCell (HB0.out.trans (hb.out.mono HB0.out.size)) (p := ⟨w.heap.size + 1, 0, none⟩) (Nat.le_succ _) _) (p := ⟨w.heap.size + 1, 1, none⟩) (Nat.le_succ _) _
                 · have := HB0.out.size
                   have := hb.out.size
                   exact OwT.nil _ _ (by simp; omega))
      · obtain rfl : k = N := by omega
        have hd : decide ((k : Int) < (k : Int)) = false := decide_eq_false (by omega)
        first
          | (exact absurd (G2.out.symm.trans hall.out) (by decide))
          | (
             obtain ⟨A5, c5, rfl⟩ := owns_slice' hO.out
             have HE9 := hid (hipL_len L R a b k)
             rw [HE9.out] at n1
             go_wp2_with fail
             have h0 : OwT (w0.heap.size + 1) wr.heap.size wr (.slice A5 (hipL L R a b k).length c5) (hipL L R a b k) := ⟨OwS.of_owns hO.out, by omega, Nat.le_refl _⟩
             have hL0 := HL0.out
             have b9 := HB0.out.trans (hb.out.mono HB0.out.size)
             rw [HE9.out] at h0
             refine bodyPost_ret (v := .tuple #[.agg #[.int .u8 s, .slice A5 k c5], .int .i64 0]) (by simp [results, Try.results14, go_sem, z0, z1]) rfl ⟨A5, c5, by rw [HE9.out], ?_, ?_⟩
             · exact Below.setCell (Below.setCell b9 (p := ⟨w.heap.size + 1, 0, none⟩) (Nat.le_succ _) _) (p := ⟨w.heap.size + 1, 1, none⟩) (Nat.le_succ _) _
             · have h1 := (h0.set (a := ⟨w.heap.size + 1, 0, none⟩) (.int .u8 s) (by show w.heap.size + 1 < w0.heap.size + 1; omega)).set (a := ⟨w.heap.size + 1, 1, none⟩) (.slice A5 k c5) (by show w.heap.size + 1 < w0.heap.size + 1; omega)
               have h2 := h1.lo (lo' := w.heap.size) (by omega)
               rw [HE9.out]
               exact ⟨h2.1.hi (Nat.le_refl _) h2.2.2, Nat.le_trans h2.2.1 h2.2.2, Nat.le_refl _⟩)
theorem shOk_one (p : Int × Int) : shOk 0 [p] = spOk p := by
  unfold shOk
  have h1 : inB (([p] : List (Int × Int)).length : Int) 1 12 = true := inB_iff.2 (by simp)
  rw [h1]; simp
theorem hip_first {L R a b : Int} {n : Nat} (hn : 1 ≤ n) (h : spOk (L, R) = false) : (hipL L R a b n).all spOk = false := hip_bad (k := 0) (by omega) (by simpa using h)
set_option maxHeartbeats 3200000 in
set_option maxRecDepth 100000 in
theorem c_HipShape (L R : Int) (hL : -32768 ≤ L ∧ L ≤ 32767) (hR : -32768 ≤ R ∧ R ≤ 32767) (a b n s : Int) (w : World) :
    Calls Try.prog 16 #[.agg #[.int .i16 L, .int .i16 R], .int .i64 a, .int .i64 b, .int .i64 n, .int .i64 s] w (RetH w (hipS L R a b n s) (hipR L R a b n s) (hipC L R a b n s)) := by
  obtain ⟨i0, hi, hz0, hz1, hz2⟩ := span_parts
  obtain ⟨w0, hw0⟩ : ∃ w0, w0 = (w.alloc (.cells #[.int .i16 L, .int .i16 R] 38)).alloc (.cells #[.int .u8 0, .slice none 0 0] 29) := ⟨_, rfl⟩
  have HB0 : Hid (Below w.heap.size w w0) := by rw [hw0]; exact ((Below.refl _ w).alloc (Nat.le_refl _) _).alloc (by simp) _
  have HT : Hid (w0.heap[w.heap.size]? = some (.cells #[.int .i16 L, .int .i16 R] 38 (0, 0))) := by rw [hw0]; exact block_alloc (block_new1 _ _ rfl) _
  have HR : Hid (w0.heap[w.heap.size + 1]? = some (.cells #[.int .u8 0, .slice none 0 0] 29 (0, 0))) := by rw [hw0]; exact block_new1 _ _ (by simp)
  rcases hip_cases L R a b n s with ⟨g1, g0⟩ | ⟨g1, g2, g0⟩ | ⟨g1, g2, g0⟩
  · rw [(hip_no (by rw [g0]; decide)).1, (hip_no (by rw [g0]; decide)).2, g0]
    rcases hipG_no g1 with h | ⟨h, h2⟩ | ⟨h, h2, h3⟩ | ⟨h, h2, h3, h4⟩
    all_goals
      have H1 := hid h
      try have H2 := hid h2
      try have H3 := hid h3
      try have H4 := hid h4
      clear g0 g1 h
      try clear h2
      try clear h3
      try clear h4
      go_enter Try.func16, Try.ntmps16
      go_wp2_with (first
        | (go_at_call 35; (with_reducible refine (c_within64 _ _ _ _ _ H1.out).mono ?_); rintro e w9 ⟨rfl, rfl⟩)
        | (go_at_call 35; (with_reducible refine (c_within64 _ _ _ _ _ H2.out).mono ?_); rintro e w9 ⟨rfl, rfl⟩)
        | (go_at_call 35; (with_reducible refine (c_within64 _ _ _ _ _ H3.out).mono ?_); rintro e w9 ⟨rfl, rfl⟩)
        | (go_at_call 35; (with_reducible refine (c_within64 _ _ _ _ _ H4.out).mono ?_); rintro e w9 ⟨rfl, rfl⟩))
      refine bodyPost_ret (v := .tuple #[.agg #[.int .u8 0, .slice none 0 0], .int .i64 2]) (by simp [results, Try.results16, go_sem]) rfl ⟨none, 0, rfl, ?_, ?_⟩
      · rw [← hw0]; exact HB0.out
      · rw [← hw0]; exact OwT.nil _ _ HB0.out.size
  all_goals
    first
      | rw [(hip_no (by rw [g0]; decide)).1, (hip_no (by rw [g0]; decide)).2, g0]
      | rw [(hip_yes g0).1, (hip_yes g0).2, g0]
    obtain ⟨h1, h2, h3, h4⟩ := hipG_yes g1
    have ha := inB_iff.1 h1
    have hb0 := inB_iff.1 h2
    have hn0 := inB_iff.1 h3
    have hs0 := inB_iff.1 h4
    obtain ⟨N, rfl⟩ := Int.eq_ofNat_of_zero_le (by omega : 0 ≤ n)
    rw [Int.toNat_natCast] at g2
    try rw [Int.toNat_natCast]
    have G2 := hid g2
    have H1 := hid h1
    have H2 := hid h2
    have H3 := hid h3
    have H4 := hid h4
    have HA := hid ha
    have HBb := hid hb0
    have hN12 : N ≤ 12 := by omega
    have HN1 : Hid (1 ≤ N) := by show 1 ≤ N; omega
    have hu : IntKind.u8.wrap s = s := by simp [IntKind.wrap, IntKind.bits, IntKind.signed]; omega
    have hwa : IntKind.i16.wrap a = a := by simp [IntKind.wrap, IntKind.bits, IntKind.signed]; omega
    have hwb : IntKind.i16.wrap b = b := by simp [IntKind.wrap, IntKind.bits, IntKind.signed]; omega
    have hwn : IntKind.i16.wrap (N : Int) = N := by simp [IntKind.wrap, IntKind.bits, IntKind.signed]; omega
    have L0 : w.heap.size + 1 < w0.heap.size := block_lt HR.out
    have HL0 := hid L0
    have HAt := hid (block_new1 w0 (.cells #[.int .i16 L, .int .i16 R] 38) rfl)
    have HP1 : Hid (PairsAt .i16 .i16 (w0.alloc (.cells #[.int .i16 L, .int .i16 R] 38)) (some ⟨w0.heap.size, 0, none⟩) [(L, R)]) := by
      intro j p hj
      match j, hj with
      | 0, hj =>
        obtain rfl : (L, R) = p := by simpa using hj
        exact ⟨w0.heap.size, 0, rfl, block_lt HAt.out, cell_block HAt.out rfl, cell_block HAt.out rfl⟩
    have HVt : Hid (Calls Try.prog 12 #[.agg #[.int .u8 0, .slice (some ⟨w0.heap.size, 0, none⟩) 1 1]] (w0.alloc (.cells #[.int .i16 L, .int .i16 R] 38)) fun e w' => e = .returned (.bool (spOk (L, R))) ∧ Below (w0.alloc (.cells #[.int .i16 L, .int .i16 R] 38)).heap.size (w0.alloc (.cells #[.int .i16 L, .int .i16 R] 38)) w') := by
      have h := c_ValidShape 0 (some ⟨w0.heap.size, 0, none⟩) 1 [(L, R)] (by simp) _ HP1.out
      rw [shOk_one] at h
      exact h
    have HVo : ∀ (A' : Option Addr) (c' : Nat) (w' : World), PairsAt .i16 .i16 w' A' (hipL L R a b N) → Hid (Calls Try.prog 12 #[.agg #[.int .u8 s, .slice A' N c']] w' fun e w2 => e = .returned (.bool ((hipL L R a b N).all spOk)) ∧ Below w'.heap.size w' w2) := fun A' c' w' h => by
      have h9 := c_ValidShape s A' c' (hipL L R a b N) (by rw [hipL_len]; omega) w' h
      rw [hipL_len, shOk_hip hs0 (by omega)] at h9
      exact h9
    rw [g2] at HVo
    have HFst := hid (fun h => hip_first (L := L) (R := R) (a := a) (b := b) (n := N) (by omega) h)
    have hB1 : Below w0.heap.size w0 (w0.alloc (.cells #[.int .i16 L, .int .i16 R] 38)) := (Below.refl _ w0).alloc (Nat.le_refl _) _
    have HB1 := hid hB1
    clear g0 g1 g2 h1 h2 h3 h4 ha hb0 HP1 HAt hB1 L0
    have hsz : w0.heap.size = w.heap.size + 1 + 1 := by rw [hw0]; simp
    rw [hsz, hw0] at HVt
    clear hsz
    obtain ⟨ok, hok⟩ : ∃ ok, ok = spOk (L, R) := ⟨_, rfl⟩
    rw [← hok] at HVt HFst
    have HOK := hid hok
    clear hok
    cases ok with
    | false =>
      first
        | (exact absurd (G2.out.symm.trans (HFst.out rfl)) (by decide))
        | (
           go_enter Try.func16, Try.ntmps16
           go_wp2_with (first
             | (go_at_call 35; (with_reducible refine (c_within64 _ _ _ _ _ H1.out).mono ?_); rintro e w9 ⟨rfl, rfl⟩)
             | (go_at_call 35; (with_reducible refine (c_within64 _ _ _ _ _ H2.out).mono ?_); rintro e w9 ⟨rfl, rfl⟩)
             | (go_at_call 35; (with_reducible refine (c_within64 _ _ _ _ _ H3.out).mono ?_); rintro e w9 ⟨rfl, rfl⟩)
             | (go_at_call 35; (with_reducible refine (c_within64 _ _ _ _ _ H4.out).mono ?_); rintro e w9 ⟨rfl, rfl⟩)
             | (go_at_call 12; ((with_reducible refine HVt.out.mono ?_); rintro e w1 ⟨rfl, hb1⟩); have hb1 := hid hb1; rw [← hw0] at hb1; have hb2 := HB1.out.trans (hb1.out.mono (by simp)); have HR1 := hid (block_below hb2 HR.out HL0.out); have z0 := cell_block HR1.out (j := 0) rfl; have z1 := cell_block HR1.out (j := 1) rfl; have z2 := frozen_of_row _ _ 0 _ _ HR1.out; have z3 := frozen_of_row _ _ 1 _ _ HR1.out))
           have b9 := HB0.out.trans (hb2.mono HB0.out.size)
           refine bodyPost_ret (v := .tuple #[.agg #[.int .u8 0, .slice none 0 0], .int .i64 4]) (by simp [results, Try.results16, go_sem, z0, z1]) rfl ⟨none, 0, rfl, ?_, ?_⟩
           · exact Below.setCell (Below.setCell b9 (p := ⟨w.heap.size + 1, 0, none⟩) (Nat.le_succ _) _) (p := ⟨w.heap.size + 1, 1, none⟩) (Nat.le_succ _) _
           · have := b9.size
             exact OwT.nil _ _ (by simp; omega))
    | true =>
      have hLR := (spOk_iff _).1 HOK.out.symm
      dsimp only at hLR
      clear HFst
      go_enter Try.func16, Try.ntmps16
      go_wp2_with (first
        | (go_at_call 35; (with_reducible refine (c_within64 _ _ _ _ _ H1.out).mono ?_); rintro e w9 ⟨rfl, rfl⟩)
        | (go_at_call 35; (with_reducible refine (c_within64 _ _ _ _ _ H2.out).mono ?_); rintro e w9 ⟨rfl, rfl⟩)
        | (go_at_call 35; (with_reducible refine (c_within64 _ _ _ _ _ H3.out).mono ?_); rintro e w9 ⟨rfl, rfl⟩)
        | (go_at_call 35; (with_reducible refine (c_within64 _ _ _ _ _ H4.out).mono ?_); rintro e w9 ⟨rfl, rfl⟩)
        | (go_at_call 12; ((with_reducible refine HVt.out.mono ?_); rintro e w1 ⟨rfl, hb1⟩); have hb1 := hid hb1; rw [← hw0] at hb1; have hb2 := hid (HB1.out.trans (hb1.out.mono (by simp))); have HR1 := hid (block_below hb2.out HR.out HL0.out); have HT1 := hid (block_below hb2.out HT.out (Nat.lt_of_succ_lt HL0.out)); clear hb1))
      have L1 : w.heap.size + 1 < w1.heap.size := block_lt HR1.out
      have HL1 := hid L1
      have HO0 := hid (block_new1 w1 (.cells #[.int .u8 s, .slice none 0 0] 29) rfl)
      have HW0 : Hid (Below w1.heap.size w1 (w1.alloc (.cells #[.int .u8 s, .slice none 0 0] 29))) := (Below.refl _ w1).alloc (Nat.le_refl _) _
      have HB9 := hid (HB0.out.trans (hb2.out.mono HB0.out.size))
      clear hw0 L1
      go_loopw [44] (fun i wr => ∃ (k : Nat) (v : Value), k ≤ N ∧ i = .int .i16 k ∧ Hid (Below w1.heap.size w1 wr) ∧ Hid (wr.heap[w1.heap.size]? = some (.cells #[.int .u8 s, v] 29 (0, 0))) ∧ Hid (wr.ownsRow (w1.heap.size + 1) 38 2 v (hipL L R a b k).length (scells (hipL L R a b k)))) (fun i _ => N - (intOf i).toNat)
      case atStart => exact ⟨0, _, by omega, rfl, HW0, HO0, World.ownsRow_nil _ _ _ _⟩
      case round =>
        obtain ⟨k, v, hk, rfl, hb, hC, hO⟩ := hrel
        have HTw := hid (block_below hb.out HT1.out (Nat.lt_of_succ_lt HL1.out))
        have HRw := hid (block_below hb.out HR1.out HL1.out)
        have m0 := cell_block HTw.out (j := 0) rfl
        have m1 := cell_block HTw.out (j := 1) rfl
        have n0 := cell_block hC.out (j := 0) rfl
        have n1 := cell_block hC.out (j := 1) rfl
        have lc := block_lt hC.out
        by_cases hkl : k < N
        · have hd : decide ((k : Int) < (N : Int)) = true := decide_eq_true (by omega)
          have hma := hip_mul HA.out (k := k) (by omega)
          have hmb := hip_mul HBb.out (k := k) (by omega)
          have HSC := hid (hipL_succ L R a b k)
          have e1 : IntKind.i16.wrap (L - (k : Int) * a) = L - (k : Int) * a := by simp [IntKind.wrap, IntKind.bits, IntKind.signed]; omega
          have e2 : IntKind.i16.wrap (R + (k : Int) * b) = R + (k : Int) * b := by simp [IntKind.wrap, IntKind.bits, IntKind.signed]; omega
          have HLE : Hid ((hipL L R a b k).length ≤ 1048576) := by rw [hipL_len]; show _ ≤ _; omega
          have HE9 := hid (hipL_len L R a b k)
          go_wp2_with ((with_reducible refine gate (N := 65) rfl ?_); refine wpList_append_own _ rfl (.tmp 48) (.tmp 64) 27 rfl (w1.heap.size + 1) 38 i0 (.agg #[.int .i16 0, .int .i16 0]) 2 4 Try.underlying27 hi hz0 hz1 hz2 rfl (by decide) _ _ _ rfl (hO.out.alloc _) ⟨wr.heap.size, 0, none⟩ 1 1 [.int .i16 (L - (k : Int) * a), .int .i16 (R + (k : Int) * b)] rfl rfl (cell_two_new' wr _ _ _) (by simp [Value.oneCell']) (Nat.le_trans (Nat.add_le_add_right HLE.out 1) (by decide)) (by have := HLE.out; omega) (by simp; omega) ?_; intro v' w3 hown1 hgrow _; have HC3 : Hid (w3.heap[w1.heap.size]? = some (.cells #[.int .u8 s, v] 29 (0, 0))) := (hgrow.block w1.heap.size (by simp; omega) (fun e => by have := (hO.out.lt _ e.symm).1; omega)).trans (block_alloc hC.out (.cells #[.int .i16 (L - (k : Int) * a), .int .i16 (R + (k : Int) * b)] 38)); have q0 := cell_block HC3.out (j := 0) rfl; have q1 := cell_block HC3.out (j := 1) rfl; have q3 := frozen_of_row _ _ 1 _ _ HC3.out; obtain ⟨A5, c5, rfl⟩ := owns_slice' hown1)
          have b3 := ((hb.out.alloc hb.out.size (.cells #[.int .i16 (L - (k : Int) * a), .int .i16 (R + (k : Int) * b)] 38))).grown hgrow (by have := hb.out.size; simp; omega) (fun k hk => by have := (hO.out.lt k hk).1; omega)
          refine ⟨⟨k + 1, _, by omega, by go_num, Below.setCell b3 (p := ⟨w1.heap.size, 1, none⟩) (Nat.le_refl _) _, heap_setCell_same w3 w1.heap.size 1 _ _ _ HC3.out, ?_⟩, by simp [intOf]; omega⟩
          show World.ownsRow _ _ _ _ _ _ _
          rw [HSC.out, List.length_append]
          unfold scells
          rw [List.flatMap_append]
          have h9 := owns_set' hown1 (a := ⟨w1.heap.size, 1, none⟩) (.slice A5 ((hipL L R a b k).length + 1) c5) (by show w1.heap.size < w1.heap.size + 1; omega)
          rw [HE9.out] at h9 ⊢
          exact h9
        · obtain rfl : k = N := by omega
          have hd : decide ((k : Int) < (k : Int)) = false := decide_eq_false (by omega)
          obtain ⟨A5, c5, rfl⟩ := owns_slice' hO.out
          have HE9 := hid (hipL_len L R a b k)
          have h0 : OwT (w1.heap.size + 1) wr.heap.size wr (.slice A5 (hipL L R a b k).length c5) (hipL L R a b k) := ⟨OwS.of_owns hO.out, by omega, Nat.le_refl _⟩
          rw [HE9.out] at h0 n1
          have O5 := hid h0
          have HC := hC
          rw [HE9.out] at HC
          clear h0
          go_wp2_with (go_at_call 12; ((with_reducible refine (HVo _ _ _ O5.out.pairs).out.mono ?_); rintro e w5 ⟨rfl, hb5⟩); have hb5 := hid hb5; have HR5 := hid (block_below hb5.out HRw.out (block_lt HRw.out)); have HC5 := hid (block_below hb5.out HC.out (block_lt HC.out)); have O6 := hid (O5.out.below hb5.out); have z0 := cell_block HR5.out (j := 0) rfl; have z1 := cell_block HR5.out (j := 1) rfl; have z2 := frozen_of_row _ _ 0 _ _ HR5.out; have z3 := frozen_of_row _ _ 1 _ _ HR5.out; have y0 := cell_block HC5.out (j := 0) rfl; have y1 := cell_block HC5.out (j := 1) rfl)
          have hL1 := HL1.out
          have b9 := (HB9.out.trans (hb.out.mono HB9.out.size))
          have b10 := b9.trans (hb5.out.mono b9.size)
          first
            | (refine bodyPost_ret (v := .tuple #[.agg #[.int .u8 0, .slice none 0 0], .int .i64 4]) (by simp [results, Try.results16, go_sem, z0, z1]) rfl ⟨none, 0, rfl, ?_, ?_⟩
               · exact Below.setCell (Below.setCell b10 (p := ⟨w.heap.size + 1, 0, none⟩) (Nat.le_succ _) _) (p := ⟨w.heap.size + 1, 1, none⟩) (Nat.le_succ _) _
               · have := b10.size
                 exact OwT.nil _ _ (by simp; omega))
            | (refine bodyPost_ret (v := .tuple #[.agg #[.int .u8 s, .slice A5 k c5], .int .i64 0]) (by simp [results, Try.results16, go_sem, z0, z1]) rfl ⟨A5, c5, by rw [HE9.out], ?_, ?_⟩
               · exact Below.setCell (Below.setCell b10 (p := ⟨w.heap.size + 1, 0, none⟩) (Nat.le_succ _) _) (p := ⟨w.heap.size + 1, 1, none⟩) (Nat.le_succ _) _
               · have h1 := (O6.out.set (a := ⟨w.heap.size + 1, 0, none⟩) (.int .u8 s) (by show w.heap.size + 1 < w1.heap.size + 1; omega)).set (a := ⟨w.heap.size + 1, 1, none⟩) (.slice A5 k c5) (by show w.heap.size + 1 < w1.heap.size + 1; omega)
                 have h2 := h1.lo (lo' := w.heap.size) (by omega)
                 rw [HE9.out]
                 exact ⟨h2.1.hi (Nat.le_refl _) h2.2.2, Nat.le_trans h2.2.1 h2.2.2, Nat.le_refl _⟩)
end Go.Proofs.Ytohdfnbjfhiacaa
