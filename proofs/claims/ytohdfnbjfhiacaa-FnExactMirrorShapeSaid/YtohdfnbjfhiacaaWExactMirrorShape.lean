/- The walk of FnExactMirrorShape. -/
import Derived.Test.YtohdfnbjfhiacaaMirT
import Derived.Test.YtohdfnbjfhiacaaWildF
namespace Go.Proofs.Ytohdfnbjfhiacaa
open Go.RowKit
set_option linter.unusedSimpArgs false
set_option linter.unusedVariables false
theorem lenR_MirrorShape (s : Int) (l : List (Int × Int)) (h : l.length ≤ 1048576) : (if shOk s l = true then l.map mirS else []).length ≤ 1048576 := by
  split
  · rw [List.length_map]; exact h
  · simp
set_option maxHeartbeats 6400000 in
set_option maxRecDepth 100000 in
theorem w_FnExactMirrorShape (s : Int) (A : Option Addr) (c : Nat) (l : List (Int × Int)) (bs : 0 ≤ s ∧ s ≤ 255) (lc : l.length ≤ c) (cm : c ≤ maxLen) (bz : SpB l) {w : World} (rd : PairsAt .i16 .i16 w A l) (_w : World) :
    Calls Try.prog 6 #[.agg #[.int .u8 s, .slice A l.length c]] w fun e w' => e = .returned (.bool true) ∧ Below w.heap.size w w' := by
  unfold maxLen at cm
  by_cases hn : l.length ≤ 1048576
  · have HZ := hid (c_szShape s A c l.length (by omega))
    rw [if_pos hn] at HZ
    obtain ⟨q, hq⟩ : ∃ q : Int, q = 1048576 - (l.length : Int) := ⟨_, rfl⟩
    rw [← hq] at HZ
    have hq0 : decide (q < 0) = false := decide_eq_false (by omega)
    have HT := fun (w' : World) hA => hid (c_toShape s A c l hn w' hA)
    obtain ⟨sR, hsR⟩ : ∃ x, x = (if shOk s l = true then s else 0) := ⟨_, rfl⟩
    obtain ⟨lR, hlR⟩ : ∃ x, x = (if shOk s l = true then l.map mirS else []) := ⟨_, rfl⟩
    obtain ⟨kR, hkR⟩ : ∃ x, x = unitsC s l := ⟨_, rfl⟩
    have hRl : lR.length ≤ 1048576 := by rw [hlR]; exact lenR_MirrorShape _ _ hn
    have HV1 := fun (A' : Option Addr) (c' : Nat) (w' : World) hA => hid (c_sMirrorShape s A' c' l hn w' hA)
    have HV2 := fun (A' : Option Addr) (c' : Nat) (w' : World) hA => hid (c_MirrorShape s A' c' l hn w' hA)
    rw [← hsR, ← hlR, ← hkR] at HV1 HV2
    have hEs : ∀ (lo hi lo' hi' : Nat) (A1 A2 : Option Addr) (c1 c2 : Nat) (w' : World), OwT lo hi w' (.slice A1 l.length c1) l → OwT lo' hi' w' (.slice A2 l.length c2) l → Hid (Calls Try.prog 13 #[.agg #[.int .u8 s, .slice A1 l.length c1], .agg #[.int .u8 s, .slice A2 l.length c2]] w' fun e w2 => e = .returned (.bool true) ∧ Below w'.heap.size w' w2) := fun lo hi lo' hi' A1 A2 c1 c2 w' h1 h2 => c_eqShape lo hi lo' hi' s A1 A2 c1 c2 l (by omega) w' h1 h2
    have hER : ∀ (lo hi lo' hi' : Nat) (A1 A2 : Option Addr) (c1 c2 : Nat) (w' : World), OwT lo hi w' (.slice A1 lR.length c1) lR → OwT lo' hi' w' (.slice A2 lR.length c2) lR → Hid (Calls Try.prog 13 #[.agg #[.int .u8 sR, .slice A1 lR.length c1], .agg #[.int .u8 sR, .slice A2 lR.length c2]] w' fun e w2 => e = .returned (.bool true) ∧ Below w'.heap.size w' w2) := fun lo hi lo' hi' A1 A2 c1 c2 w' h1 h2 => c_eqShape lo hi lo' hi' sR A1 A2 c1 c2 lR (by omega) w' h1 h2
    have HMs := fun (lo hi : Nat) (A1 : Option Addr) (c1 : Nat) (w' : World) h => hid (c_markShape lo hi s A1 c1 l hn w' h)
    have HMR := fun (lo hi : Nat) (A1 : Option Addr) (c1 : Nat) (w' : World) h => hid (c_markShape lo hi sR A1 c1 lR hRl w' h)
    have HHR := fun (lo hi : Nat) (A1 : Option Addr) (c1 : Nat) (w' : World) h => hid (c_heldShape lo hi sR A1 c1 lR hRl w' h)
    obtain ⟨mS, hmS⟩ : ∃ m : Int, m = 1 + 2 * (l.length : Int) := ⟨_, rfl⟩
    obtain ⟨mR, hmR⟩ : ∃ m : Int, m = 1 + 2 * (lR.length : Int) := ⟨_, rfl⟩
    rw [← hmS] at HMs
    rw [← hmR] at HMR HHR
    have hmS0 : decide (mS < 0) = false := decide_eq_false (by omega)
    have hmR0 : decide (mR < 0) = false := decide_eq_false (by omega)
    have hne1 : (kR != kR) = false := by simp
    have hne2 : (mR != mR) = false := by simp
    have B0 : Below w.heap.size w (w.alloc (.cells #[.int .u8 s, .slice A l.length c] 24)) := (Below.refl _ w).alloc (Nat.le_refl _) _
    have HX := hid (block_new1 w (.cells #[.int .u8 s, .slice A l.length c] 24) rfl)
    have HA := hid (rd.below B0 (Nat.le_refl _))
    have HW := hid B0
    have RD := hid rd
    clear hq hn rd B0 bz hsR hlR hkR hmS hmR hRl
    have T0 : Hid True := trivial
    have T1 : Hid True := trivial
    go_enter Try.func6, Try.ntmps6
    go_wp2_with (first
      | (go_at_call 9; ((with_reducible refine (HZ.out _).mono ?_); rintro e w1 ⟨rfl, hb1⟩); have HX := hid (block_below hb1 HX.out (block_lt HX.out)); have HW := hid (HW.out.trans (hb1.mono HW.out.size)); have HA := hid (RD.out.below HW.out (Nat.le_refl _)); have k0 := cell_block HX.out (j := 0) rfl; have k1 := cell_block HX.out (j := 1) rfl; have kl := block_lt HX.out; clear hb1)
      | (go_at_call 11; clear T0; ((with_reducible refine (HT _ HA.out).out.mono ?_); rintro e w2 ⟨A0, c0, rfl, hb1, ho1⟩); have HX := hid (block_below hb1 HX.out (block_lt HX.out)); have HW := hid (HW.out.trans (hb1.mono HW.out.size)); have HA := hid (RD.out.below HW.out (Nat.le_refl _)); have k0 := cell_block HX.out (j := 0) rfl; have k1 := cell_block HX.out (j := 1) rfl; have kl := block_lt HX.out; have O0 := hid ho1; clear hb1 ho1)
      | (go_at_call 21; ((with_reducible refine (HV1 _ _ _ O0.out.pairs).out.mono ?_); rintro e w3 ⟨AS, cS, rfl, hb1, ho1⟩); have HX := hid (block_below hb1 HX.out (block_lt HX.out)); have HW := hid (HW.out.trans (hb1.mono HW.out.size)); have HA := hid (RD.out.below HW.out (Nat.le_refl _)); have k0 := cell_block HX.out (j := 0) rfl; have k1 := cell_block HX.out (j := 1) rfl; have kl := block_lt HX.out; have OS := hid ho1; have HLa := hid (block_lt HX.out); clear hb1 ho1)
      | (go_at_call 11; clear T1; (have HAa := hid (HA.out.below ((Below.refl _ w3).alloc (Nat.le_refl _) (.cells #[.int .u8 sR, .slice AS lR.length cS] 29)) (Nat.le_refl _))); ((with_reducible refine (HT _ HAa.out).out.mono ?_); rintro e w4 ⟨AX, cX, rfl, hb1, ho1⟩); have HS := hid (block_below hb1 (block_new1 w3 (.cells #[.int .u8 sR, .slice AS lR.length cS] 29) rfl) (by simp)); have OX := hid (ho1.lo (lo' := w3.heap.size + 1) (by simp)); have hb1 := ((Below.refl _ w3).alloc (Nat.le_refl _) (.cells #[.int .u8 sR, .slice AS lR.length cS] 29)).trans (hb1.mono (by simp)); have HX := hid (block_below hb1 HX.out (block_lt HX.out)); have OS := hid (OS.out.below hb1); have HW := hid (HW.out.trans (hb1.mono HW.out.size)); have HA := hid (RD.out.below HW.out (Nat.le_refl _)); have k0 := cell_block HX.out (j := 0) rfl; have k1 := cell_block HX.out (j := 1) rfl; have kl := block_lt HX.out; have t0 := cell_block HS.out (j := 0) rfl; have t1 := cell_block HS.out (j := 1) rfl; have HL4 : Hid (w3.heap.size + 1 ≤ w4.heap.size) := (by have := block_lt HS.out; exact this); clear hb1 ho1)
      | (go_at_call 22; ((with_reducible refine (HV2 _ _ _ (OX.out.alloc (.cells #[.int .u8 s, .slice AX l.length cX] 29)).pairs).out.mono ?_); rintro e w5 ⟨AG, cG, rfl, hb1, ho1⟩); have HXx := hid (block_below hb1 (block_new1 w4 (.cells #[.int .u8 s, .slice AX l.length cX] 29) rfl) (by simp)); have OG := hid (ho1.lo (lo' := w4.heap.size + 1) (by simp)); have hb1 := ((Below.refl _ w4).alloc (Nat.le_refl _) (.cells #[.int .u8 s, .slice AX l.length cX] 29)).trans (hb1.mono (by simp)); have HX := hid (block_below hb1 HX.out (block_lt HX.out)); have HS := hid (block_below hb1 HS.out (block_lt HS.out)); have OS := hid (OS.out.below hb1); have OX := hid (OX.out.below hb1); have HW := hid (HW.out.trans (hb1.mono HW.out.size)); have HA := hid (RD.out.below HW.out (Nat.le_refl _)); have k0 := cell_block HX.out (j := 0) rfl; have k1 := cell_block HX.out (j := 1) rfl; have kl := block_lt HX.out; have t0 := cell_block HS.out (j := 0) rfl; have t1 := cell_block HS.out (j := 1) rfl; have tl := block_lt HS.out; have x0 := cell_block HXx.out (j := 0) rfl; have x1 := cell_block HXx.out (j := 1) rfl; have HL5 : Hid (w4.heap.size + 1 ≤ w5.heap.size) := (by have := block_lt HXx.out; exact this); clear hb1 ho1)
      | (go_at_call 13; ((with_reducible refine (hER _ _ _ _ _ _ _ _ _ (OG.out.alloc (.cells #[.int .u8 sR, .slice AG lR.length cG] 29)) (OS.out.alloc (.cells #[.int .u8 sR, .slice AG lR.length cG] 29))).out.mono ?_); rintro e w6 ⟨rfl, hb1⟩); have HG := hid (block_below hb1 (block_new1 w5 (.cells #[.int .u8 sR, .slice AG lR.length cG] 29) rfl) (by simp)); have hb1 := ((Below.refl _ w5).alloc (Nat.le_refl _) (.cells #[.int .u8 sR, .slice AG lR.length cG] 29)).trans (hb1.mono (by simp)); have HX := hid (block_below hb1 HX.out (block_lt HX.out)); have HS := hid (block_below hb1 HS.out (block_lt HS.out)); have HXx := hid (block_below hb1 HXx.out (block_lt HXx.out)); have OS := hid (OS.out.below hb1); have OX := hid (OX.out.below hb1); have OG := hid (OG.out.below hb1); have HW := hid (HW.out.trans (hb1.mono HW.out.size)); have HA := hid (RD.out.below HW.out (Nat.le_refl _)); have k0 := cell_block HX.out (j := 0) rfl; have k1 := cell_block HX.out (j := 1) rfl; have kl := block_lt HX.out; have t0 := cell_block HS.out (j := 0) rfl; have t1 := cell_block HS.out (j := 1) rfl; have tl := block_lt HS.out; have x0 := cell_block HXx.out (j := 0) rfl; have x1 := cell_block HXx.out (j := 1) rfl; have xl := block_lt HXx.out; have g0 := cell_block HG.out (j := 0) rfl; have g1 := cell_block HG.out (j := 1) rfl; clear hb1))
    have l0 := block_lt HX.out
    have l1 := block_lt HXx.out
    refine wp_region_wildG w6.heap.size 2 ?s1 _ 11 #[.agg #[.int .u8 s, .slice A l.length c]] (fun v w' => ∃ (A' : Option Addr) (c' : Nat) (x : Ext w6.heap.size w6), v = .agg #[.int .u8 s, .slice A' l.length c'] ∧ OwT x.out.heap.size w'.heap.size w' (.slice A' l.length c') l) (by kernel_rfl) (by kernel_rfl) (by kernel_rfl) (by kernel_rfl) rfl (Nat.le_refl _) ?pre1 ?ent1 ?call1 ?post1
    case pre1 =>
      intro B' W' hb hB hSz
      have HXb := hid (block_below hb HX.out l0)
      have HGb := hid (block_below hb HXx.out l1)
      have l0 := Nat.lt_of_lt_of_le l0 hB
      have l1 := Nat.lt_of_lt_of_le l1 hB
      have k0 := cell_block HXb.out (j := 0) rfl
      have k1 := cell_block HXb.out (j := 1) rfl
      have q0 := cell_block HGb.out (j := 0) rfl
      have q1 := cell_block HGb.out (j := 1) rfl
      simp only [List.take_succ_cons, List.take_zero]
      repeat (go_big_quiet_step (fail))
      refine wpQuiet_nil ?_
      exact rfl
    case ent1 => intro w; unfold execOp; go_simp
    case call1 =>
      intro x
      exact (HT x.out (HA.out.below x.below (Nat.le_refl _))).out.mono fun e w' ⟨A', c', he, hb, ho⟩ => ⟨_, he, ⟨A', c', x, rfl, ho⟩, x.below.trans (hb.mono x.below.size)⟩
    rintro _ w7 ⟨A3, c3, x, rfl, ho7⟩ b7
    have O1w := hid (OX.out.below b7)
    have O3 := hid ho7
    simp only [List.drop_succ_cons, List.drop_zero, Act.put, List.setIfInBounds_toArray, List.set_cons_zero, List.set_cons_succ]
    repeat (go_big_quiet_step ((go_at_call 13; with_reducible exact Calls.ext (Nat.le_refl _) (hEs _ _ _ _ _ _ _ _ _ (O1w.out.below (Ext.below _)) (O3.out.below (Ext.below _))).out)))
    refine wpQuiet_nil ?_
    rintro _ ⟨y, rfl⟩
    have hb1 : Below w6.heap.size w6 y.out := b7.trans (y.below.mono b7.size)
    clear O1w O3 ho7 b7
    have HX := hid (block_below hb1 HX.out (block_lt HX.out))
    have HS := hid (block_below hb1 HS.out (block_lt HS.out))
    have HXx := hid (block_below hb1 HXx.out (block_lt HXx.out))
    have HG := hid (block_below hb1 HG.out (block_lt HG.out))
    have OS := hid (OS.out.below hb1)
    have OX := hid (OX.out.below hb1)
    have OG := hid (OG.out.below hb1)
    have HW := hid (HW.out.trans (hb1.mono HW.out.size))
    have HA := hid (RD.out.below HW.out (Nat.le_refl _))
    obtain ⟨w8, hw8⟩ : ∃ w8, w8 = y.out := ⟨_, rfl⟩
    rw [← hw8] at HX HS HXx HG OS OX OG HA HW ⊢
    clear hw8 hb1
    have k0 := cell_block HX.out (j := 0) rfl
    have k1 := cell_block HX.out (j := 1) rfl
    have kl := block_lt HX.out
    have t0 := cell_block HS.out (j := 0) rfl
    have t1 := cell_block HS.out (j := 1) rfl
    have tl := block_lt HS.out
    have x0 := cell_block HXx.out (j := 0) rfl
    have x1 := cell_block HXx.out (j := 1) rfl
    have xl := block_lt HXx.out
    have g0 := cell_block HG.out (j := 0) rfl
    have g1 := cell_block HG.out (j := 1) rfl
    have gl := block_lt HG.out
    have T2 : Hid True := trivial
    have T3 : Hid True := trivial
    have T4 : Hid True := trivial
    go_wp2_with (first
      | (go_at_call 17; clear T2; ((with_reducible refine (HMs _ _ _ _ _ OX.out).out.mono ?_); rintro e w9 ⟨rfl, hb1, hq1, ho1⟩); have HX := hid (block_below hb1 HX.out (Nat.lt_succ_of_lt HLa.out)); have HS := hid (block_below hb1 HS.out (Nat.lt_succ_self _)); have HXx := hid (hq1.keep HXx.out (.inr (Nat.le_refl _))); have HG := hid (hq1.keep HG.out (.inr (Nat.le_of_succ_le HL5.out))); have OS := hid (OS.out.below' hb1 (Nat.le_succ _)); have OG := hid (OG.out.outS hq1 (.inr (Nat.le_succ _))); have HW := hid (HW.out.trans (hb1.mono (Nat.le_succ_of_le (Nat.le_of_lt HLa.out)))); have HA := hid (RD.out.below HW.out (Nat.le_refl _)); have k0 := cell_block HX.out (j := 0) rfl; have k1 := cell_block HX.out (j := 1) rfl; have kl := block_lt HX.out; have t0 := cell_block HS.out (j := 0) rfl; have t1 := cell_block HS.out (j := 1) rfl; have tl := block_lt HS.out; have x0 := cell_block HXx.out (j := 0) rfl; have x1 := cell_block HXx.out (j := 1) rfl; have xl := block_lt HXx.out; have g0 := cell_block HG.out (j := 0) rfl; have g1 := cell_block HG.out (j := 1) rfl; have gl := block_lt HG.out; clear hb1 hq1 ho1)
      | (go_at_call 13; clear T3; ((with_reducible refine (hER _ _ _ _ _ _ _ _ _ OG.out OS.out).out.mono ?_); rintro e w10 ⟨rfl, hb1⟩); have HX := hid (block_below hb1 HX.out (block_lt HX.out)); have HS := hid (block_below hb1 HS.out (block_lt HS.out)); have HXx := hid (block_below hb1 HXx.out (block_lt HXx.out)); have HG := hid (block_below hb1 HG.out (block_lt HG.out)); have OS := hid (OS.out.below hb1); have OG := hid (OG.out.below hb1); have HW := hid (HW.out.trans (hb1.mono HW.out.size)); have HA := hid (RD.out.below HW.out (Nat.le_refl _)); have k0 := cell_block HX.out (j := 0) rfl; have k1 := cell_block HX.out (j := 1) rfl; have kl := block_lt HX.out; have t0 := cell_block HS.out (j := 0) rfl; have t1 := cell_block HS.out (j := 1) rfl; have tl := block_lt HS.out; have x0 := cell_block HXx.out (j := 0) rfl; have x1 := cell_block HXx.out (j := 1) rfl; have xl := block_lt HXx.out; have g0 := cell_block HG.out (j := 0) rfl; have g1 := cell_block HG.out (j := 1) rfl; have gl := block_lt HG.out; clear hb1)
      | (go_at_call 17; ((with_reducible refine (HMR _ _ _ _ _ OG.out).out.mono ?_); rintro e w11 ⟨rfl, hb1, hq1, ho1⟩); have HX := hid (block_below hb1 HX.out (Nat.lt_succ_of_lt (Nat.lt_of_lt_of_le HLa.out (Nat.le_of_succ_le HL4.out)))); have HS := hid (block_below hb1 HS.out (Nat.lt_succ_of_lt HL4.out)); have HXx := hid (block_below hb1 HXx.out (Nat.lt_succ_self _)); have HG := hid (hq1.keep HG.out (.inr (Nat.le_refl _))); have OS := hid (OS.out.below' hb1 (Nat.le_succ_of_le (Nat.le_of_succ_le HL4.out))); have OM := hid ho1; have HW := hid (HW.out.trans (hb1.mono (Nat.le_succ_of_le (Nat.le_trans (Nat.le_of_lt HLa.out) (Nat.le_of_succ_le HL4.out))))); have HA := hid (RD.out.below HW.out (Nat.le_refl _)); have k0 := cell_block HX.out (j := 0) rfl; have k1 := cell_block HX.out (j := 1) rfl; have kl := block_lt HX.out; have t0 := cell_block HS.out (j := 0) rfl; have t1 := cell_block HS.out (j := 1) rfl; have tl := block_lt HS.out; have x0 := cell_block HXx.out (j := 0) rfl; have x1 := cell_block HXx.out (j := 1) rfl; have xl := block_lt HXx.out; have g0 := cell_block HG.out (j := 0) rfl; have g1 := cell_block HG.out (j := 1) rfl; have gl := block_lt HG.out; clear hb1 hq1 ho1)
      | (go_at_call 18; clear T4; ((with_reducible refine (HHR _ _ _ _ _ OM.out).out.mono ?_); rintro e w12 ⟨rfl, hb1⟩); have HX := hid (block_below hb1 HX.out (block_lt HX.out)); have HS := hid (block_below hb1 HS.out (block_lt HS.out)); have HXx := hid (block_below hb1 HXx.out (block_lt HXx.out)); have HG := hid (block_below hb1 HG.out (block_lt HG.out)); have OS := hid (OS.out.below hb1); have OM := hid (OM.out.below hb1); have HW := hid (HW.out.trans (hb1.mono HW.out.size)); have HA := hid (RD.out.below HW.out (Nat.le_refl _)); have k0 := cell_block HX.out (j := 0) rfl; have k1 := cell_block HX.out (j := 1) rfl; have kl := block_lt HX.out; have t0 := cell_block HS.out (j := 0) rfl; have t1 := cell_block HS.out (j := 1) rfl; have tl := block_lt HS.out; have x0 := cell_block HXx.out (j := 0) rfl; have x1 := cell_block HXx.out (j := 1) rfl; have xl := block_lt HXx.out; have g0 := cell_block HG.out (j := 0) rfl; have g1 := cell_block HG.out (j := 1) rfl; have gl := block_lt HG.out; clear hb1)
      | (go_at_call 11; ((with_reducible refine (HT _ HA.out).out.mono ?_); rintro e w13 ⟨A7, c7, rfl, hb1, ho1⟩); have HX := hid (block_below hb1 HX.out (block_lt HX.out)); have HS := hid (block_below hb1 HS.out (block_lt HS.out)); have HXx := hid (block_below hb1 HXx.out (block_lt HXx.out)); have HG := hid (block_below hb1 HG.out (block_lt HG.out)); have OS := hid (OS.out.below hb1); have OM := hid (OM.out.below hb1); have HW := hid (HW.out.trans (hb1.mono HW.out.size)); have HA := hid (RD.out.below HW.out (Nat.le_refl _)); have k0 := cell_block HX.out (j := 0) rfl; have k1 := cell_block HX.out (j := 1) rfl; have kl := block_lt HX.out; have t0 := cell_block HS.out (j := 0) rfl; have t1 := cell_block HS.out (j := 1) rfl; have tl := block_lt HS.out; have x0 := cell_block HXx.out (j := 0) rfl; have x1 := cell_block HXx.out (j := 1) rfl; have xl := block_lt HXx.out; have g0 := cell_block HG.out (j := 0) rfl; have g1 := cell_block HG.out (j := 1) rfl; have gl := block_lt HG.out; have O7 := hid ho1; clear hb1 ho1)
      | (go_at_call 22; ((with_reducible refine (HV2 _ _ _ O7.out.pairs).out.mono ?_); rintro e w14 ⟨AH, cH, rfl, hb1, ho1⟩); have HX := hid (block_below hb1 HX.out (block_lt HX.out)); have HS := hid (block_below hb1 HS.out (block_lt HS.out)); have HXx := hid (block_below hb1 HXx.out (block_lt HXx.out)); have HG := hid (block_below hb1 HG.out (block_lt HG.out)); have OS := hid (OS.out.below hb1); have OM := hid (OM.out.below hb1); have HW := hid (HW.out.trans (hb1.mono HW.out.size)); have HA := hid (RD.out.below HW.out (Nat.le_refl _)); have k0 := cell_block HX.out (j := 0) rfl; have k1 := cell_block HX.out (j := 1) rfl; have kl := block_lt HX.out; have t0 := cell_block HS.out (j := 0) rfl; have t1 := cell_block HS.out (j := 1) rfl; have tl := block_lt HS.out; have x0 := cell_block HXx.out (j := 0) rfl; have x1 := cell_block HXx.out (j := 1) rfl; have xl := block_lt HXx.out; have g0 := cell_block HG.out (j := 0) rfl; have g1 := cell_block HG.out (j := 1) rfl; have gl := block_lt HG.out; have OH := hid ho1; clear hb1 ho1; have lS := block_lt HS.out; have lG := block_lt HG.out)
      | (go_at_call 13; ((with_reducible refine (hER _ _ _ _ _ _ _ _ _ (OH.out.alloc (.cells #[.int .u8 sR, .slice AH lR.length cH] 29)) (OS.out.alloc (.cells #[.int .u8 sR, .slice AH lR.length cH] 29))).out.mono ?_); rintro e w15 ⟨rfl, hb1⟩); have hb1 := ((Below.refl _ w14).alloc (Nat.le_refl _) (.cells #[.int .u8 sR, .slice AH lR.length cH] 29)).trans (hb1.mono (by simp)); have HX := hid (block_below hb1 HX.out (block_lt HX.out)); have HS := hid (block_below hb1 HS.out (block_lt HS.out)); have HXx := hid (block_below hb1 HXx.out (block_lt HXx.out)); have HG := hid (block_below hb1 HG.out (block_lt HG.out)); have OS := hid (OS.out.below hb1); have OM := hid (OM.out.below hb1); have HW := hid (HW.out.trans (hb1.mono HW.out.size)); have HA := hid (RD.out.below HW.out (Nat.le_refl _)); have k0 := cell_block HX.out (j := 0) rfl; have k1 := cell_block HX.out (j := 1) rfl; have kl := block_lt HX.out; have t0 := cell_block HS.out (j := 0) rfl; have t1 := cell_block HS.out (j := 1) rfl; have tl := block_lt HS.out; have x0 := cell_block HXx.out (j := 0) rfl; have x1 := cell_block HXx.out (j := 1) rfl; have xl := block_lt HXx.out; have g0 := cell_block HG.out (j := 0) rfl; have g1 := cell_block HG.out (j := 1) rfl; have gl := block_lt HG.out; clear hb1)
      | (go_at_call 18; ((with_reducible refine (HHR _ _ _ _ _ OM.out).out.mono ?_); rintro e w16 ⟨rfl, hb1⟩); have HW := hid (HW.out.trans (hb1.mono HW.out.size)); clear hb1))
    go_ret
    exact ⟨rfl, HW.out⟩
  · have HZ := hid (c_szShape s A c l.length (by omega))
    rw [if_neg hn] at HZ
    clear rd hn bz
    have B0 : Below w.heap.size w (w.alloc (.cells #[.int .u8 s, .slice A l.length c] 24)) := (Below.refl _ w).alloc (Nat.le_refl _) _
    go_enter Try.func6, Try.ntmps6
    go_wp2_with (go_at_call 9; ((with_reducible refine (HZ.out _).mono ?_); rintro e w1 ⟨rfl, hb1⟩))
    go_ret
    exact ⟨rfl, B0.trans (hb1.mono (by simp))⟩
end Go.Proofs.Ytohdfnbjfhiacaa
