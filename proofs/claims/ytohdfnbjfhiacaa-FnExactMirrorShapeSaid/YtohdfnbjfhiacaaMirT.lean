/- spec.MirrorShape. -/
import Derived.Test.YtohdfnbjfhiacaaMirS
import Derived.BigRegion
import Derived.Deep.RegionLaw
namespace Go.Proofs.Ytohdfnbjfhiacaa
open Go.RowKit
set_option linter.unusedSimpArgs false
set_option linter.unusedVariables false
theorem owns_set {w : World} {base : Nat} {T : TypeId} {s n : Nat} {v : Value} {xs : List Value} (h : w.ownsRow base T s v n xs) {a : Addr} (u : Value) (ha : a.block < base) : (w.setCell a u).ownsRow base T s v n xs := by
  rcases h.2 with ⟨rfl, hn⟩ | ⟨g, cap, cur, rfl, hb, hg, hc, hm, hs, ht⟩
  · exact ⟨h.1, .inl ⟨rfl, hn⟩⟩
  · exact ⟨h.1, .inr ⟨g, cap, cur, rfl, hb, block_set_other hg u (by omega), hc, hm, hs, ht⟩⟩
set_option maxHeartbeats 3200000 in
set_option maxRecDepth 100000 in
theorem c_sMirrorShape (s : Int) (A : Option Addr) (c : Nat) (l : List (Int × Int)) (hlen : l.length ≤ 1048576) (w : World) (hA : PairsAt .i16 .i16 w A l) :
    Calls Try.prog 21 #[.agg #[.int .u8 s, .slice A l.length c]] w (RetH w (if shOk s l = true then s else 0) (if shOk s l = true then l.map mirS else []) (unitsC s l)) := by
  obtain ⟨i0, hi, hz0, hz1, hz2⟩ := span_parts
  have B0 : Below w.heap.size w ((w.alloc (.cells #[.int .u8 s, .slice A l.length c] 29)).alloc (.cells #[.int .u8 0, .slice none 0 0] 29)) := ((Below.refl _ w).alloc (Nat.le_refl _) _).alloc (by simp) _
  have HX := hid (block_alloc (block_new1 w (.cells #[.int .u8 s, .slice A l.length c] 29) rfl) (.cells #[.int .u8 0, .slice none 0 0] 29))
  have HR := hid (block_new1 (w.alloc (.cells #[.int .u8 s, .slice A l.length c] 29)) (.cells #[.int .u8 0, .slice none 0 0] 29) (n := w.heap.size + 1) (by simp))
  have HV := hid (c_l05Ok s A c l hlen w.heap.size _ HX.out (hA.below B0 (Nat.le_refl _)))
  unfold unitsC
  cases hg : shOk s l with
  | false =>
    rw [hg] at HV
    have hA := hid hA
    clear hg
    rw [if_neg (by decide), if_neg (by decide), if_neg (by decide)]
    go_enter Try.func21, Try.ntmps21
    go_wp2_with (go_at_call 28; ((with_reducible refine HV.out.mono ?_); rintro e w1 ⟨rfl, hb1⟩); have HR := hid (block_below hb1 HR.out (by simp)); have k0 := cell_block HR.out (j := 0) rfl; have k1 := cell_block HR.out (j := 1) rfl; have f0 := frozen_of_row _ _ 0 _ _ HR.out; have f1 := frozen_of_row _ _ 1 _ _ HR.out)
    refine bodyPost_ret (v := .tuple #[.agg #[.int .u8 0, .slice none 0 0], .int .i64 1]) (by simp [results, Try.results21, go_sem, k0, k1]) rfl ⟨none, 0, rfl, ?_, ?_⟩
    · have b1 := B0.trans (hb1.mono (by simp; omega))
      exact Below.setCell (Below.setCell b1 (p := ⟨w.heap.size + 1, 0, none⟩) (Nat.le_succ _) _) (p := ⟨w.heap.size + 1, 1, none⟩) (Nat.le_succ _) _
    · have := hb1.size
      exact OwT.nil _ _ (by simp at this ⊢; omega)
  | true =>
    rw [hg] at HV
    rw [if_pos rfl, if_pos rfl, if_pos rfl]
    have HB := hid (shOk_all hg).1
    have HA := hid (hA.below B0 (Nat.le_refl _))
    clear hg hA
    go_enter Try.func21, Try.ntmps21
    go_wp2_with (go_at_call 28; ((with_reducible refine HV.out.mono ?_); rintro e w1 ⟨rfl, hb1⟩); have HX := hid (block_below hb1 HX.out (by simp; omega)); have HR := hid (block_below hb1 HR.out (by simp)); have HA := hid (HA.out.below hb1 (Nat.le_refl _)); have HB1 := hid (B0.trans (hb1.mono (by simp; omega))); have k0 := cell_block HX.out (j := 0) rfl; have k1 := cell_block HX.out (j := 1) rfl; clear hb1)
    have l0 := block_lt HX.out
    have l1 := block_lt HR.out
    have HL0 : Hid (w.heap.size < w1.heap.size) := l0
    have HO0 := hid (block_new1 w1 (.cells #[.int .u8 s, .slice none 0 0] 29) rfl)
    have HS1 : Hid (w1.heap.size + 1 ≤ (w1.alloc (.cells #[.int .u8 s, .slice none 0 0] 29)).heap.size) := by simp [Hid]
    have HW0 : Hid (Below w1.heap.size w1 (w1.alloc (.cells #[.int .u8 s, .slice none 0 0] 29))) := (Below.refl _ w1).alloc (Nat.le_refl _) _
    clear k0 k1
    go_loopw [5] (fun i wr => ∃ (k : Nat) (v : Value), k ≤ l.length ∧ i = .int .i64 k ∧ Hid (Below w1.heap.size w1 wr) ∧ Hid (wr.heap[w1.heap.size]? = some (.cells #[.int .u8 s, v] 29 (0, 0))) ∧ Hid (wr.ownsRow (w1.heap.size + 1) 38 2 v ((l.take k).map mirS).length (scells ((l.take k).map mirS)))) (fun i _ => l.length - (intOf i).toNat)
    case atStart => exact ⟨0, _, by omega, rfl, HW0, HO0, World.ownsRow_nil _ _ _ _⟩
    case round =>
      obtain ⟨k, v, hk, rfl, hb, hC, hO⟩ := hrel
      have HXw := hid (block_below hb.out HX.out HL0.out)
      have m0 := cell_block HXw.out (j := 0) rfl
      have m1 := cell_block HXw.out (j := 1) rfl
      have n0 := cell_block hC.out (j := 0) rfl
      have n1 := cell_block hC.out (j := 1) rfl
      have f1 := frozen_of_row _ _ 1 _ _ hC.out
      have lx := block_lt HXw.out
      have lc := block_lt hC.out
      by_cases hkl : k < l.length
      · have hd : decide ((k : Int) < (l.length : Int)) = true := decide_eq_true (by omega)
        have hkI : (k : Int) < (l.length : Int) := by omega
        have hk0 : (0 : Int) ≤ (k : Int) := by omega
        have hp := List.getElem?_eq_getElem hkl
        have hpB := HB.out _ (List.getElem_mem hkl)
        obtain ⟨⟨p1, p2⟩, hn⟩ : ∃ n, n = l[k] := ⟨_, rfl⟩
        rw [← hn] at hp hpB
        obtain ⟨b, off, rfl, r1, r2, r3⟩ := HA.out k _ hp
        have c0 := (hb.out.cell (p := ⟨b, _, none⟩) r1).trans r2
        have c1 := (hb.out.cell (p := ⟨b, _, none⟩) r1).trans r3
        dsimp only at c0 c1 hpB
        have HY : Hid ((l.take (k + 1)).map mirS = (l.take k).map mirS ++ [(200 - p2, 200 - p1)]) := by
          show _ = _
          rw [List.take_succ_eq_append_getElem hkl, List.map_append, ← hn]; rfl
        have hle : ((l.take k).map mirS).length ≤ 1048576 := by rw [List.length_map, List.length_take]; omega
        have HLE := hid hle
        have lb : b < wr.heap.size := Nat.lt_of_lt_of_le r1 hb.out.size
        have e1 : IntKind.i16.wrap (200 - p1) = 200 - p1 := by simp [IntKind.wrap, IntKind.bits, IntKind.signed]; omega
        have e2 : IntKind.i16.wrap (200 - p2) = 200 - p2 := by simp [IntKind.wrap, IntKind.bits, IntKind.signed]; omega
        clear hp hn r2 r3 hle
        go_wp2_with fail
        go_region_law (first | (refine step_append_lies _ (by rfl) _ _ _ (by rfl) (w1.heap.size + 1) 38 i0 (.agg #[.int .i16 0, .int .i16 0]) 2 4 Try.underlying27 hi hz0 hz1 hz2 rfl (by decide) v _ _ (by rfl) ((hO.out.alloc _).drew) ⟨wr.heap.size, 0, none⟩ 1 1 [.int .i16 (200 - p2), .int .i16 (200 - p1)] (by rfl) (by rfl) (World.news_of_block (cs := #[.int .i16 (200 - p2), .int .i16 (200 - p1)]) (t := 38) (fr := (0, 0)) (heap_alloc_new wr _)) (by simp [Value.oneCell']) (by decide) (Nat.le_trans (Nat.add_le_add_right HLE.out 1) (by decide)) (by have := HLE.out; omega) (by simp; omega) (wr.heap.size + 1) (by simp) ?_; intro gg cap w3 hown1 hgrow hat hlt; have HC3 : Hid (w3.heap[w1.heap.size]? = some (.cells #[.int .u8 s, v] 29 (0, 0))) := (hgrow.block w1.heap.size (by simp; omega) (fun e => by have := (hO.out.lt _ e.symm).1; omega)).trans (by have := block_alloc hC.out (.cells #[.int .i16 (200 - p2), .int .i16 (200 - p1)] 38); exact this); have q0 := cell_block HC3.out (j := 0) rfl; have q1 := cell_block HC3.out (j := 1) rfl; have q3 := frozen_of_row _ _ 1 _ _ HC3.out))
        all_goals
          go_wp2_with fail
          have b3 := ((hb.out.alloc hb.out.size (.cells #[.int .i16 (200 - p2), .int .i16 (200 - p1)] 38)).drew).grown hgrow (by have := hb.out.size; simp; omega) (fun k hk => by have := (hO.out.lt k hk).1; omega)
          refine ⟨⟨k + 1, .slice (some ⟨gg, 0, none⟩) (k + 1) cap, by omega, by go_num, Below.setCell b3 (p := ⟨w1.heap.size, 1, none⟩) (Nat.le_refl _) _, heap_setCell_same w3 w1.heap.size 1 _ _ _ HC3.out, ?_⟩, by simp [intOf]; omega⟩
          show World.ownsRow _ _ _ _ _ _ _
          rw [HY.out, List.length_append]
          unfold scells
          rw [List.flatMap_append]
          have h9 := owns_set hown1 (a := ⟨w1.heap.size, 1, none⟩) (.slice (some ⟨gg, 0, none⟩) (k + 1) cap) (by show w1.heap.size < w1.heap.size + 1; omega)
          have e9 : ((l.take k).map mirS).length = k := by rw [List.length_map, List.length_take]; omega
          rw [e9] at h9 ⊢
          exact h9
      · obtain rfl : k = l.length := by omega
        have hd : decide ((l.length : Int) < (l.length : Int)) = false := decide_eq_false (by omega)
        rw [List.take_length] at hO
        have HRw := hid (block_below hb.out HR.out (by exact l1))
        have z0 := cell_block HRw.out (j := 0) rfl
        have z1 := cell_block HRw.out (j := 1) rfl
        have z2 := frozen_of_row _ _ 0 _ _ HRw.out
        have z3 := frozen_of_row _ _ 1 _ _ HRw.out
        obtain ⟨A2, c2, rfl⟩ := owns_slice' hO.out
        go_wp2_with fail
        have hll : (l.map mirS).length = l.length := List.length_map _
        have b9 := HB1.out.trans (hb.out.mono (by have := HB1.out.size; exact this))
        have h0 : OwT (w1.heap.size + 1) wr.heap.size wr (.slice A2 (l.map mirS).length c2) (l.map mirS) := ⟨OwS.of_owns hO.out, by omega, Nat.le_refl _⟩
        rw [hll] at h0
        refine bodyPost_ret (v := .tuple #[.agg #[.int .u8 s, .slice A2 l.length c2], .int .i64 0]) (by simp [results, Try.results21, go_sem, z0, z1]) rfl ⟨A2, c2, by rw [hll], ?_, ?_⟩
        · exact Below.setCell (Below.setCell b9 (p := ⟨w.heap.size + 1, 0, none⟩) (Nat.le_succ _) _) (p := ⟨w.heap.size + 1, 1, none⟩) (Nat.le_succ _) _
        · have h1 := (h0.set (a := ⟨w.heap.size + 1, 0, none⟩) (.int .u8 s) (by show w.heap.size + 1 < w1.heap.size + 1; omega)).set (a := ⟨w.heap.size + 1, 1, none⟩) (.slice A2 l.length c2) (by show w.heap.size + 1 < w1.heap.size + 1; omega)
          have h2 := h1.lo (lo' := w.heap.size) (by omega)
          rw [hll]
          exact ⟨h2.1.hi (Nat.le_refl _) h2.2.2, Nat.le_trans h2.2.1 h2.2.2, Nat.le_refl _⟩
end Go.Proofs.Ytohdfnbjfhiacaa
