/- The walk of FnExactWholeIn. -/
import Derived.Test.YtohdfnbjfhiacaaWhole
import Derived.Test.YtohdfnbjfhiacaaWildF
namespace Go.Proofs.Ytohdfnbjfhiacaa
open Go.RowKit
set_option linter.unusedSimpArgs false
set_option linter.unusedVariables false
set_option maxHeartbeats 3200000 in
set_option maxRecDepth 100000 in
theorem w_FnExactWholeIn (s : Int) (A : Option Addr) (c : Nat) (l : List (Int × Int)) (bs : 0 ≤ s ∧ s ≤ 255) (lc : l.length ≤ c) (cm : c ≤ maxLen) (bz : SpB l) {w : World} (rd : PairsAt .i16 .i16 w A l) (_w : World) :
    Calls Try.prog 8 #[.agg #[.int .u8 s, .slice A l.length c]] w fun e w' => e = .returned (.bool true) ∧ Below w.heap.size w w' := by
  unfold maxLen at cm
  obtain ⟨n, hg⟩ : ∃ n, n = wholeN s l := ⟨_, rfl⟩
  obtain ⟨k, hg2⟩ : ∃ k, k = unitsC s l := ⟨_, rfl⟩
  have hne : (n != n) = false := by simp
  have hne2 : (k != k) = false := by simp
  by_cases hn : l.length ≤ 1048576
  · have HZ := hid (c_szShape s A c l.length (by omega))
    rw [if_pos hn] at HZ
    obtain ⟨q, hq⟩ : ∃ q : Int, q = 1048576 - (l.length : Int) := ⟨_, rfl⟩
    rw [← hq] at HZ
    have hq0 : decide (q < 0) = false := decide_eq_false (by omega)
    have HT := fun (w' : World) hA => hid (c_toShape s A c l hn w' hA)
    have HV1 := fun (A' : Option Addr) (c' : Nat) (w' : World) hA => hid (c_sWholeIn s A' c' l bs hn w' hA)
    have HV2 := fun (A' : Option Addr) (c' : Nat) (w' : World) hA => hid (c_WholeIn s A' c' l bs hn w' hA)
    have hE : ∀ (lo hi lo' hi' : Nat) (A1 A2 : Option Addr) (c1 c2 : Nat) (w' : World), OwT lo hi w' (.slice A1 l.length c1) l → OwT lo' hi' w' (.slice A2 l.length c2) l → Hid (Calls Try.prog 13 #[.agg #[.int .u8 s, .slice A1 l.length c1], .agg #[.int .u8 s, .slice A2 l.length c2]] w' fun e w2 => e = .returned (.bool true) ∧ Below w'.heap.size w' w2) := fun lo hi lo' hi' A1 A2 c1 c2 w' h1 h2 => c_eqShape lo hi lo' hi' s A1 A2 c1 c2 l (by omega) w' h1 h2
    rw [← hg, ← hg2] at HV1 HV2
    have B0 : Below w.heap.size w (w.alloc (.cells #[.int .u8 s, .slice A l.length c] 24)) := (Below.refl _ w).alloc (Nat.le_refl _) _
    have HX := hid (block_new1 w (.cells #[.int .u8 s, .slice A l.length c] 24) rfl)
    have HA := hid (rd.below B0 (Nat.le_refl _))
    have HW := hid B0
    clear hg hg2 hq hn rd B0 bz
    have T0 : Hid True := trivial
    go_enter Try.func8, Try.ntmps8
    go_wp2_with (first
      | (go_at_call 9; ((with_reducible refine (HZ.out _).mono ?_); rintro e w1 ⟨rfl, hb1⟩); have HX := hid (block_below hb1 HX.out (block_lt HX.out)); have HA := hid (HA.out.below hb1 (Nat.le_refl _)); have HW := hid (HW.out.trans (hb1.mono HW.out.size)); have k0 := cell_block HX.out (j := 0) rfl; have k1 := cell_block HX.out (j := 1) rfl; clear hb1)
      | (go_at_call 11; clear T0; ((with_reducible refine (HT _ HA.out).out.mono ?_); rintro e w2 ⟨A1, c1, rfl, hb1, ho1⟩); have HX := hid (block_below hb1 HX.out (block_lt HX.out)); have HA := hid (HA.out.below hb1 (Nat.le_refl _)); have HW := hid (HW.out.trans (hb1.mono HW.out.size)); have k0 := cell_block HX.out (j := 0) rfl; have k1 := cell_block HX.out (j := 1) rfl; have O0 := hid ho1; clear hb1 ho1)
      | (go_at_call 25; ((with_reducible refine (HV1 _ _ _ O0.out.pairs).out.mono ?_); rintro e w3 ⟨rfl, hb1⟩); have HX := hid (block_below hb1 HX.out (block_lt HX.out)); have HA := hid (HA.out.below hb1 (Nat.le_refl _)); have HW := hid (HW.out.trans (hb1.mono HW.out.size)); have k0 := cell_block HX.out (j := 0) rfl; have k1 := cell_block HX.out (j := 1) rfl; clear hb1)
      | (go_at_call 11; ((with_reducible refine (HT _ HA.out).out.mono ?_); rintro e w4 ⟨A2, c2, rfl, hb1, ho1⟩); have HX := hid (block_below hb1 HX.out (block_lt HX.out)); have HA := hid (HA.out.below hb1 (Nat.le_refl _)); have HW := hid (HW.out.trans (hb1.mono HW.out.size)); have k0 := cell_block HX.out (j := 0) rfl; have k1 := cell_block HX.out (j := 1) rfl; have O1 := hid ho1; clear hb1 ho1)
      | (go_at_call 26; ((with_reducible refine (HV2 _ _ _ (O1.out.alloc _).pairs).out.mono ?_); rintro e w5 ⟨rfl, hb1⟩); have HG := hid (block_below hb1 (block_new1 w4 (.cells #[.int .u8 s, .slice A2 l.length c2] 29) rfl) (by simp)); have hb1 := ((Below.refl _ w4).alloc (Nat.le_refl _) (.cells #[.int .u8 s, .slice A2 l.length c2] 29)).trans (hb1.mono (by simp)); have HX := hid (block_below hb1 HX.out (block_lt HX.out)); have HA := hid (HA.out.below hb1 (Nat.le_refl _)); have HW := hid (HW.out.trans (hb1.mono HW.out.size)); have k0 := cell_block HX.out (j := 0) rfl; have k1 := cell_block HX.out (j := 1) rfl; have O1 := hid (O1.out.below hb1); have q0 := cell_block HG.out (j := 0) rfl; have q1 := cell_block HG.out (j := 1) rfl; clear hb1))
    have l0 := block_lt HX.out
    have l1 := block_lt HG.out
    refine wp_region_wildG w5.heap.size 2 ?s1 _ 11 #[.agg #[.int .u8 s, .slice A l.length c]] (fun v w' => ∃ (A' : Option Addr) (c' : Nat) (x : Ext w5.heap.size w5), v = .agg #[.int .u8 s, .slice A' l.length c'] ∧ OwT x.out.heap.size w'.heap.size w' (.slice A' l.length c') l) (by kernel_rfl) (by kernel_rfl) (by kernel_rfl) (by kernel_rfl) rfl (Nat.le_refl _) ?pre1 ?ent1 ?call1 ?post1
    case pre1 =>
      intro B' W' hb hB hS
      have HXb := hid (block_below hb HX.out l0)
      have HGb := hid (block_below hb HG.out l1)
      have l0 := Nat.lt_of_lt_of_le l0 hB
      have l1 := Nat.lt_of_lt_of_le l1 hB
      have k0 := cell_block HXb.out (j := 0) rfl
      have k1 := cell_block HXb.out (j := 1) rfl
      have q0 := cell_block HGb.out (j := 0) rfl
      have q1 := cell_block HGb.out (j := 1) rfl
      simp only [List.take_succ_cons, List.take_zero]
      repeat (go_big_quiet_step (fail))
      refine wpQuiet_nil ?_
      exact rfl
    case ent1 => intro w; unfold execOp; go_simp
    case call1 =>
      intro x
      exact (HT x.out (HA.out.below x.below (Nat.le_refl _))).out.mono fun e w' ⟨A', c', he, hb, ho⟩ => ⟨_, he, ⟨A', c', x, rfl, ho⟩, x.below.trans (hb.mono x.below.size)⟩
    rintro _ w6 ⟨A3, c3, x, rfl, ho6⟩ b6
    have O1w := hid (O1.out.below b6)
    have O3 := hid ho6
    have HW6 := hid (HW.out.trans (b6.mono HW.out.size))
    clear ho6 b6
    simp only [List.drop_succ_cons, List.drop_zero, Act.put, List.setIfInBounds_toArray, List.set_cons_zero, List.set_cons_succ]
    repeat (go_big_quiet_step ((go_at_call 13; with_reducible exact Calls.ext (Nat.le_refl _) (hE _ _ _ _ _ _ _ _ _ (O1w.out.below (Ext.below _)) (O3.out.below (Ext.below _))).out)))
    refine wpQuiet_nil ?_
    rintro _ ⟨y, rfl⟩
    go_wp2_with fail
    go_ret
    exact ⟨rfl, HW6.out.trans (y.below.mono HW6.out.size)⟩
  · have HZ := hid (c_szShape s A c l.length (by omega))
    rw [if_neg hn] at HZ
    clear rd hn bz hg hg2 hne hne2
    have B0 : Below w.heap.size w (w.alloc (.cells #[.int .u8 s, .slice A l.length c] 24)) := (Below.refl _ w).alloc (Nat.le_refl _) _
    go_enter Try.func8, Try.ntmps8
    go_wp2_with (go_at_call 9; ((with_reducible refine (HZ.out _).mono ?_); rintro e w1 ⟨rfl, hb1⟩))
    go_ret
    exact ⟨rfl, B0.trans (hb1.mono (by simp))⟩
end Go.Proofs.Ytohdfnbjfhiacaa
