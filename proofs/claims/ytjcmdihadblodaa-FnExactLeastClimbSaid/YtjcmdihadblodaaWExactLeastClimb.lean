/- The walk of FnExactLeastClimb. -/
import Derived.Test.YtjcmdihadblodaaLeast
import Derived.Test.YtjcmdihadblodaaToP
namespace Go.Proofs.Ytjcmdihadblodaa
open Go.RowKit
set_option linter.unusedSimpArgs false
set_option linter.unusedVariables false
set_option maxHeartbeats 6400000 in
set_option maxRecDepth 100000 in
theorem w_FnExactLeastClimb {w : World} (r0 : Rf) (ok0 : r0.Ok) (A1 : Option Addr) (c1 : Nat) (l1 : List (Int × Int)) (lc1 : l1.length ≤ c1) (cm1 : c1 ≤ maxLen) (bz1 : ∀ p ∈ l1, (-128 ≤ p.1 ∧ p.1 ≤ 127) ∧ (-128 ≤ p.2 ∧ p.2 ≤ 127)) (rd1 : PairsAt .i8 .i8 w A1 l1) (n2 : Int) (wn2 : -9223372036854775808 ≤ n2 ∧ n2 ≤ 9223372036854775807) (_w : World) :
    Calls Try.prog 6 #[.agg (rcells r0), .slice A1 l1.length c1, .int .i64 n2] w fun e w' => e = .returned (.bool true) ∧ Below w.heap.size w w' := by
  unfold maxLen at cm1
  by_cases hn1 : l1.length ≤ 1048576
  rotate_left
  · -- the law answers true at once
    have HZ0 := hid (c_szPlaceS A1 c1 l1.length (by omega) 1048576 (by omega))
    rw [if_neg (by omega)] at HZ0
    have T0 : Hid True := trivial
    clear rd1 bz1
    go_enter Try.func6, Try.ntmps6
    go_wp2_with (first
      | (go_at_call 15; clear T0; ((with_reducible refine (HZ0.out _).mono ?_); rintro e w1 ⟨rfl, rfl⟩)))
    go_ret
    exact ⟨rfl, (Below.refl _ w).alloc (Nat.le_refl _) _⟩
  have hlen1 : l1.length ≤ 1048576 := by omega
  obtain ⟨R0, hR0⟩ : ∃ x, x = leastV r0 l1 n2 := ⟨_, rfl⟩
  obtain ⟨R1, hR1⟩ : ∃ x, x = climbK r0 l1 n2 := ⟨_, rfl⟩
  have Hs := fun (A1' : Option Addr) (c1' : Nat)  (w' : World) (h1 : PairsAt .i8 .i8 w' A1' l1) => hid (c_sLeastClimb r0 ok0 A1' c1' l1 bz1 hlen1 n2 w' h1)
  rw [← hR0] at Hs
  rw [← hR1] at Hs
  have Hi := fun (A1' : Option Addr) (c1' : Nat)  (w' : World) (h1 : PairsAt .i8 .i8 w' A1' l1) => hid (c_LeastClimb r0 ok0 A1' c1' l1 bz1 hlen1 n2 w' h1)
  rw [← hR0] at Hi
  rw [← hR1] at Hi
  have HT1 := fun (w' : World) h => hid (c_toPlaceS A1 c1 l1 hlen1 w' h)
  have HZ0 := hid (c_szPlaceS A1 c1 l1.length (by omega) 1048576 (by omega))
  rw [if_pos (by omega)] at HZ0
  obtain ⟨q0, hq0⟩ : ∃ q : Int, q = 1048576 - (l1.length : Int) := ⟨_, rfl⟩
  rw [← hq0] at HZ0
  have hz0 : decide (q0 < 0) = false := decide_eq_false (by omega)
  have hne0 : (R0 != R0) = false := by simp
  have hne1 : (R1 != R1) = false := by simp
  have RD1 := hid rd1
  have LE1 := hid hlen1
  have HX0 := hid (block_new1 w (.cells (rcells r0) 33) rfl)
  have HW : Hid (Below w.heap.size w (w.alloc (.cells (rcells r0) 33))) := (Below.refl _ w).alloc (Nat.le_refl _) _
  clear rd1 bz1 hn1 hlen1 hR0 hR1 hq0
  have K1 : Hid True := trivial
  have K2 : Hid True := trivial
  have K3 : Hid True := trivial
  have K4 : Hid True := trivial
  have K5 : Hid True := trivial
  have K6 : Hid True := trivial
  have K7 : Hid True := trivial
  have K8 : Hid True := trivial
  have K9 : Hid True := trivial
  go_enter Try.func6, Try.ntmps6
  go_wp2_with (first
    | ((with_reducible refine gate (N := 19) rfl ?_); refine wp_roof 33 Try.underlying33 rfl Try.infoLRoof rfl (.tmp 3) rfl w.heap.size rfl r0 ok0 HX0.out ?_)
    | ((with_reducible refine gate (N := 30) rfl ?_); refine wp_roof 33 Try.underlying33 rfl Try.infoLRoof rfl (.tmp 3) rfl w.heap.size rfl r0 ok0 HX0.out ?_)
    | (go_at_call 15; clear K1; ((with_reducible refine (HZ0.out _).mono ?_); rintro e w1 ⟨rfl, rfl⟩))
    | (go_at_call 17; clear K2; ((with_reducible refine (c_toRoof r0 ok0 _).mono ?_); rintro e w1 ⟨rfl, hb1⟩); replace HX0 := hid (block_below hb1 HX0.out (block_lt HX0.out)); replace HW := hid (HW.out.trans (hb1.mono HW.out.size)); clear hb1)
    | (go_at_call 18; clear K3; (have HRD := hid (RD1.out.below HW.out (Nat.le_refl _))); ((with_reducible refine (HT1 _ HRD.out).out.mono ?_); rintro e w1 ⟨Ax2, cx2, rfl, hb1, ho1⟩); have HLox2 := hid HW.out.size; have LX0_x2 := hid (block_lt HX0.out); replace HX0 := hid (block_below hb1 HX0.out (block_lt HX0.out)); replace HW := hid (HW.out.trans (hb1.mono HW.out.size)); have Ox2 := hid ho1; clear hb1 ho1)
    | (go_at_call 21; clear K4; ((with_reducible refine (Hs _ _ _ Ox2.out.pairs).out.mono ?_); rintro e w1 ⟨rfl, hb1⟩); replace Ox2 := hid (Ox2.out.below hb1); replace HX0 := hid (block_below hb1 HX0.out (block_lt HX0.out)); replace HW := hid (HW.out.trans (hb1.mono HW.out.size)); clear hb1)
    | (go_at_call 18; clear K5; (have HRD := hid (RD1.out.below HW.out (Nat.le_refl _))); ((with_reducible refine (HT1 _ HRD.out).out.mono ?_); rintro e w1 ⟨Ax4, cx4, rfl, hb1, ho1⟩); have Sx2_x4 := hid Ox2.out.2.2; have HLox4 := hid HW.out.size; have LX0_x4 := hid (block_lt HX0.out); replace Ox2 := hid (Ox2.out.below hb1); replace HX0 := hid (block_below hb1 HX0.out (block_lt HX0.out)); replace HW := hid (HW.out.trans (hb1.mono HW.out.size)); have Ox4 := hid ho1; clear hb1 ho1)
    | (go_at_call 17; clear K6; ((with_reducible refine (c_toRoof r0 ok0 _).mono ?_); rintro e w1 ⟨rfl, hb1⟩); replace Ox2 := hid (Ox2.out.below hb1); replace Ox4 := hid (Ox4.out.below hb1); replace HX0 := hid (block_below hb1 HX0.out (block_lt HX0.out)); replace HW := hid (HW.out.trans (hb1.mono HW.out.size)); clear hb1)
    | (go_at_call 22; clear K7; ((with_reducible refine (Hi _ _ _ Ox4.out.pairs).out.mono ?_); rintro e w1 ⟨rfl, hb1⟩); replace Ox2 := hid (Ox2.out.below hb1); replace Ox4 := hid (Ox4.out.below hb1); replace HX0 := hid (block_below hb1 HX0.out (block_lt HX0.out)); replace HW := hid (HW.out.trans (hb1.mono HW.out.size)); clear hb1)
    | (go_at_call 18; clear K8; (have HRD := hid (RD1.out.below HW.out (Nat.le_refl _))); ((with_reducible refine (HT1 _ HRD.out).out.mono ?_); rintro e w1 ⟨Ax7, cx7, rfl, hb1, ho1⟩); have Sx2_x7 := hid Ox2.out.2.2; have Sx4_x7 := hid Ox4.out.2.2; have HLox7 := hid HW.out.size; have LX0_x7 := hid (block_lt HX0.out); replace Ox2 := hid (Ox2.out.below hb1); replace Ox4 := hid (Ox4.out.below hb1); replace HX0 := hid (block_below hb1 HX0.out (block_lt HX0.out)); replace HW := hid (HW.out.trans (hb1.mono HW.out.size)); have Ox7 := hid ho1; clear hb1 ho1)
    | (go_at_call 20; clear K9; ((with_reducible refine (e_PlaceS LE1.out Ox4.out Ox7.out).mono ?_); rintro e w1 ⟨rfl, hb1⟩); replace Ox2 := hid (Ox2.out.below hb1); replace Ox4 := hid (Ox4.out.below hb1); replace Ox7 := hid (Ox7.out.below hb1); replace HX0 := hid (block_below hb1 HX0.out (block_lt HX0.out)); replace HW := hid (HW.out.trans (hb1.mono HW.out.size)); clear hb1))
  go_ret
  exact ⟨rfl, HW.out⟩
end Go.Proofs.Ytjcmdihadblodaa
