/- The walk of FnExactHipShape. -/
import Derived.Test.YtohdfnbjfhiacaaHip
namespace Go.Proofs.Ytohdfnbjfhiacaa
open Go.RowKit
set_option linter.unusedSimpArgs false
set_option linter.unusedVariables false
theorem lenR_HipShape (L R a b n s : Int) : (hipR L R a b n s).length ≤ 1048576 := by
  rcases hip_cases L R a b n s with ⟨_, h⟩ | ⟨_, _, h⟩ | ⟨h1, _, h⟩
  · rw [(hip_no (by rw [h]; decide)).2]; simp
  · rw [(hip_no (by rw [h]; decide)).2]; simp
  · rw [(hip_yes h).2, hipL_len]
    have := inB_iff.1 (hipG_yes h1).2.2.1
    omega
set_option maxHeartbeats 6400000 in
set_option maxRecDepth 100000 in
theorem w_FnExactHipShape (L R : Int) (hL : -32768 ≤ L ∧ L ≤ 32767) (hR : -32768 ≤ R ∧ R ≤ 32767) (a : Int) (ha : -9223372036854775808 ≤ a ∧ a ≤ 9223372036854775807) (b : Int) (hb : -9223372036854775808 ≤ b ∧ b ≤ 9223372036854775807) (n : Int) (hn : -9223372036854775808 ≤ n ∧ n ≤ 9223372036854775807) (s : Int) (hs : -9223372036854775808 ≤ s ∧ s ≤ 9223372036854775807) (w : World) :
    Calls Try.prog 4 #[.agg #[.int .i16 L, .int .i16 R], .int .i64 a, .int .i64 b, .int .i64 n, .int .i64 s] w fun e w' => e = .returned (.bool true) ∧ Below w.heap.size w w' := by
  obtain ⟨sR, hsR⟩ : ∃ x, x = hipS L R a b n s := ⟨_, rfl⟩
  obtain ⟨lR, hlR⟩ : ∃ x, x = hipR L R a b n s := ⟨_, rfl⟩
  obtain ⟨kR, hkR⟩ : ∃ x, x = hipC L R a b n s := ⟨_, rfl⟩
  have hRl : lR.length ≤ 1048576 := by rw [hlR]; exact lenR_HipShape L R a b n s
  have HV1 := fun (w' : World) => hid (c_sHipShape L R hL hR a b n s w')
  have HV2 := fun (w' : World) => hid (c_HipShape L R hL hR a b n s w')
  rw [← hsR, ← hlR, ← hkR] at HV1 HV2
  have HT := fun (w' : World) => hid (c_toSpan L R w')
  have hER : ∀ (lo hi lo' hi' : Nat) (A1 A2 : Option Addr) (c1 c2 : Nat) (w' : World), OwT lo hi w' (.slice A1 lR.length c1) lR → OwT lo' hi' w' (.slice A2 lR.length c2) lR → Hid (Calls Try.prog 13 #[.agg #[.int .u8 sR, .slice A1 lR.length c1], .agg #[.int .u8 sR, .slice A2 lR.length c2]] w' fun e w2 => e = .returned (.bool true) ∧ Below w'.heap.size w' w2) := fun lo hi lo' hi' A1 A2 c1 c2 w' h1 h2 => c_eqShape lo hi lo' hi' sR A1 A2 c1 c2 lR (by omega) w' h1 h2
  have HMR := fun (lo hi : Nat) (A1 : Option Addr) (c1 : Nat) (w' : World) h => hid (c_markShape lo hi sR A1 c1 lR hRl w' h)
  have HHR := fun (lo hi : Nat) (A1 : Option Addr) (c1 : Nat) (w' : World) h => hid (c_heldShape lo hi sR A1 c1 lR hRl w' h)
  obtain ⟨mR, hmR⟩ : ∃ m : Int, m = 1 + 2 * (lR.length : Int) := ⟨_, rfl⟩
  rw [← hmR] at HMR HHR
  have hmR0 : decide (mR < 0) = false := decide_eq_false (by omega)
  have hne1 : (kR != kR) = false := by simp
  have hne2 : (mR != mR) = false := by simp
  have HX := hid (block_new1 w (.cells #[.int .i16 L, .int .i16 R] 35) rfl)
  have HW : Hid (Below w.heap.size w (w.alloc (.cells #[.int .i16 L, .int .i16 R] 35))) := (Below.refl _ w).alloc (Nat.le_refl _) _
  clear hsR hlR hkR hmR hRl
  have T0 : Hid True := trivial
  have T1 : Hid True := trivial
  have T2 : Hid True := trivial
  have T3 : Hid True := trivial
  have T4 : Hid True := trivial
  go_enter Try.func4, Try.ntmps4
  go_wp2_with (first
    | (go_at_call 15; clear T0; ((with_reducible refine (HT _).out.mono ?_); rintro e w2 ⟨rfl, hb1⟩); have HX := hid (block_below hb1 HX.out (block_lt HX.out)); have HW := hid (HW.out.trans (hb1.mono HW.out.size)); have k0 := cell_block HX.out (j := 0) rfl; have k1 := cell_block HX.out (j := 1) rfl; have kl := block_lt HX.out; clear hb1)
    | (go_at_call 14; ((with_reducible refine (HV1 _).out.mono ?_); rintro e w3 ⟨AS, cS, rfl, hb1, ho1⟩); have HX := hid (block_below hb1 HX.out (block_lt HX.out)); have HW := hid (HW.out.trans (hb1.mono HW.out.size)); have k0 := cell_block HX.out (j := 0) rfl; have k1 := cell_block HX.out (j := 1) rfl; have kl := block_lt HX.out; have OS := hid ho1; have HLa := hid (block_lt HX.out); clear hb1 ho1)
    | (go_at_call 15; clear T1; ((with_reducible refine (HT _).out.mono ?_); rintro e w4 ⟨rfl, hb1⟩); have HS := hid (block_below hb1 (block_new1 w3 (.cells #[.int .u8 sR, .slice AS lR.length cS] 29) rfl) (by simp)); have hb1 := ((Below.refl _ w3).alloc (Nat.le_refl _) (.cells #[.int .u8 sR, .slice AS lR.length cS] 29)).trans (hb1.mono (by simp)); have HX := hid (block_below hb1 HX.out (block_lt HX.out)); have OS := hid (OS.out.below hb1); have HW := hid (HW.out.trans (hb1.mono HW.out.size)); have k0 := cell_block HX.out (j := 0) rfl; have k1 := cell_block HX.out (j := 1) rfl; have kl := block_lt HX.out; have t0 := cell_block HS.out (j := 0) rfl; have t1 := cell_block HS.out (j := 1) rfl; have tl := block_lt HS.out; have HL4 := hid (block_lt HS.out); clear hb1)
    | (go_at_call 16; clear T2; ((with_reducible refine (HV2 _).out.mono ?_); rintro e w5 ⟨AG, cG, rfl, hb1, ho1⟩); have HX := hid (block_below hb1 HX.out (block_lt HX.out)); have HS := hid (block_below hb1 HS.out (block_lt HS.out)); have OS := hid (OS.out.below hb1); have HW := hid (HW.out.trans (hb1.mono HW.out.size)); have k0 := cell_block HX.out (j := 0) rfl; have k1 := cell_block HX.out (j := 1) rfl; have kl := block_lt HX.out; have t0 := cell_block HS.out (j := 0) rfl; have t1 := cell_block HS.out (j := 1) rfl; have tl := block_lt HS.out; have OG := hid ho1; have HL5 : Hid (w4.heap.size ≤ w5.heap.size) := hb1.size; clear hb1 ho1)
    | (go_at_call 13; clear T3; ((with_reducible refine (hER _ _ _ _ _ _ _ _ _ (OG.out.alloc (.cells #[.int .u8 sR, .slice AG lR.length cG] 29)) (OS.out.alloc (.cells #[.int .u8 sR, .slice AG lR.length cG] 29))).out.mono ?_); rintro e w6 ⟨rfl, hb1⟩); have HG := hid (block_below hb1 (block_new1 w5 (.cells #[.int .u8 sR, .slice AG lR.length cG] 29) rfl) (by simp)); have hb1 := ((Below.refl _ w5).alloc (Nat.le_refl _) (.cells #[.int .u8 sR, .slice AG lR.length cG] 29)).trans (hb1.mono (by simp)); have HX := hid (block_below hb1 HX.out (block_lt HX.out)); have HS := hid (block_below hb1 HS.out (block_lt HS.out)); have OS := hid (OS.out.below hb1); have OG := hid (OG.out.below hb1); have HW := hid (HW.out.trans (hb1.mono HW.out.size)); have k0 := cell_block HX.out (j := 0) rfl; have k1 := cell_block HX.out (j := 1) rfl; have kl := block_lt HX.out; have t0 := cell_block HS.out (j := 0) rfl; have t1 := cell_block HS.out (j := 1) rfl; have tl := block_lt HS.out; have g0 := cell_block HG.out (j := 0) rfl; have g1 := cell_block HG.out (j := 1) rfl; have gl := block_lt HG.out; clear hb1)
    | (go_at_call 17; ((with_reducible refine (HMR _ _ _ _ _ OG.out).out.mono ?_); rintro e w7 ⟨rfl, hb1, hq1, ho1⟩); have HX := hid (block_below hb1 HX.out (Nat.lt_trans HLa.out HL4.out)); have HS := hid (block_below hb1 HS.out HL4.out); have HG := hid (hq1.keep HG.out (.inr (Nat.le_refl _))); have OS := hid (OS.out.below' hb1 (Nat.le_of_lt HL4.out)); have OM := hid ho1; have HW := hid (HW.out.trans (hb1.mono (Nat.le_of_lt (Nat.lt_trans HLa.out HL4.out)))); have k0 := cell_block HX.out (j := 0) rfl; have k1 := cell_block HX.out (j := 1) rfl; have kl := block_lt HX.out; have t0 := cell_block HS.out (j := 0) rfl; have t1 := cell_block HS.out (j := 1) rfl; have tl := block_lt HS.out; have g0 := cell_block HG.out (j := 0) rfl; have g1 := cell_block HG.out (j := 1) rfl; have gl := block_lt HG.out; clear hb1 hq1 ho1)
    | (go_at_call 18; clear T4; ((with_reducible refine (HHR _ _ _ _ _ OM.out).out.mono ?_); rintro e w8 ⟨rfl, hb1⟩); have HX := hid (block_below hb1 HX.out (block_lt HX.out)); have HS := hid (block_below hb1 HS.out (block_lt HS.out)); have HG := hid (block_below hb1 HG.out (block_lt HG.out)); have OS := hid (OS.out.below hb1); have OM := hid (OM.out.below hb1); have HW := hid (HW.out.trans (hb1.mono HW.out.size)); have k0 := cell_block HX.out (j := 0) rfl; have k1 := cell_block HX.out (j := 1) rfl; have kl := block_lt HX.out; have t0 := cell_block HS.out (j := 0) rfl; have t1 := cell_block HS.out (j := 1) rfl; have tl := block_lt HS.out; have g0 := cell_block HG.out (j := 0) rfl; have g1 := cell_block HG.out (j := 1) rfl; have gl := block_lt HG.out; clear hb1)
    | (go_at_call 15; ((with_reducible refine (HT _).out.mono ?_); rintro e w9 ⟨rfl, hb1⟩); have HX := hid (block_below hb1 HX.out (block_lt HX.out)); have HS := hid (block_below hb1 HS.out (block_lt HS.out)); have HG := hid (block_below hb1 HG.out (block_lt HG.out)); have OS := hid (OS.out.below hb1); have OM := hid (OM.out.below hb1); have HW := hid (HW.out.trans (hb1.mono HW.out.size)); have k0 := cell_block HX.out (j := 0) rfl; have k1 := cell_block HX.out (j := 1) rfl; have kl := block_lt HX.out; have t0 := cell_block HS.out (j := 0) rfl; have t1 := cell_block HS.out (j := 1) rfl; have tl := block_lt HS.out; have g0 := cell_block HG.out (j := 0) rfl; have g1 := cell_block HG.out (j := 1) rfl; have gl := block_lt HG.out; clear hb1)
    | (go_at_call 16; ((with_reducible refine (HV2 _).out.mono ?_); rintro e w10 ⟨AH, cH, rfl, hb1, ho1⟩); have HX := hid (block_below hb1 HX.out (block_lt HX.out)); have HS := hid (block_below hb1 HS.out (block_lt HS.out)); have HG := hid (block_below hb1 HG.out (block_lt HG.out)); have OS := hid (OS.out.below hb1); have OM := hid (OM.out.below hb1); have HW := hid (HW.out.trans (hb1.mono HW.out.size)); have k0 := cell_block HX.out (j := 0) rfl; have k1 := cell_block HX.out (j := 1) rfl; have kl := block_lt HX.out; have t0 := cell_block HS.out (j := 0) rfl; have t1 := cell_block HS.out (j := 1) rfl; have tl := block_lt HS.out; have g0 := cell_block HG.out (j := 0) rfl; have g1 := cell_block HG.out (j := 1) rfl; have gl := block_lt HG.out; have OH := hid ho1; clear hb1 ho1)
    | (go_at_call 13; ((with_reducible refine (hER _ _ _ _ _ _ _ _ _ (OH.out.alloc (.cells #[.int .u8 sR, .slice AH lR.length cH] 29)) (OS.out.alloc (.cells #[.int .u8 sR, .slice AH lR.length cH] 29))).out.mono ?_); rintro e w11 ⟨rfl, hb1⟩); have hb1 := ((Below.refl _ w10).alloc (Nat.le_refl _) (.cells #[.int .u8 sR, .slice AH lR.length cH] 29)).trans (hb1.mono (by simp)); have HX := hid (block_below hb1 HX.out (block_lt HX.out)); have HS := hid (block_below hb1 HS.out (block_lt HS.out)); have HG := hid (block_below hb1 HG.out (block_lt HG.out)); have OS := hid (OS.out.below hb1); have OM := hid (OM.out.below hb1); have HW := hid (HW.out.trans (hb1.mono HW.out.size)); have k0 := cell_block HX.out (j := 0) rfl; have k1 := cell_block HX.out (j := 1) rfl; have kl := block_lt HX.out; have t0 := cell_block HS.out (j := 0) rfl; have t1 := cell_block HS.out (j := 1) rfl; have tl := block_lt HS.out; have g0 := cell_block HG.out (j := 0) rfl; have g1 := cell_block HG.out (j := 1) rfl; have gl := block_lt HG.out; clear hb1)
    | (go_at_call 18; ((with_reducible refine (HHR _ _ _ _ _ OM.out).out.mono ?_); rintro e w12 ⟨rfl, hb1⟩); have HW := hid (HW.out.trans (hb1.mono HW.out.size)); clear hb1))
  go_ret
  exact ⟨rfl, HW.out⟩
end Go.Proofs.Ytohdfnbjfhiacaa
