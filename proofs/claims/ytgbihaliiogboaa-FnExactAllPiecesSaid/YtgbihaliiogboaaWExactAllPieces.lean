/- The walk of FnExactAllPieces. -/
import Derived.Test.YtgbihaliiogboaaAllPcs
import Derived.Test.YtgbihaliiogboaaWildF
import Derived.Test.YtgbihaliiogboaaRow
namespace Go.Proofs.Ytgbihaliiogboaa
open Go.RowKit
set_option linter.unusedSimpArgs false
set_option linter.unusedVariables false
set_option maxHeartbeats 6400000 in
set_option maxRecDepth 100000 in
theorem w_FnExactAllPieces (s : Int) (A : Option Addr) (c : Nat) (l : List (Int × Int)) (bs : 0 ≤ s ∧ s ≤ 255) (lc : l.length ≤ c) (cm : c ≤ maxLen) (bz : SpB l) {w : World} (rd : PairsAt .i16 .i16 w A l) (_w : World) :
    Calls Try.prog 4 #[.agg #[.int .u8 s, .slice A l.length c]] w fun e w' => e = .returned (.bool true) ∧ Below w.heap.size w w' := by
  unfold maxLen at cm
  by_cases hn : l.length ≤ 1048576
  · have HZ := hid (c_szShape s A c l.length (by omega))
    rw [if_pos hn] at HZ
    obtain ⟨q, hq⟩ : ∃ q : Int, q = 1048576 - (l.length : Int) := ⟨_, rfl⟩
    rw [← hq] at HZ
    have hq0 : decide (q < 0) = false := decide_eq_false (by omega)
    have HT := fun (w' : World) hA => hid (c_toShape s A c l hn w' hA)
    obtain ⟨lR, hlR⟩ : ∃ x, x = allPc s l := ⟨_, rfl⟩
    obtain ⟨kR, hkR⟩ : ∃ x, x = unitsC s l := ⟨_, rfl⟩
    have hRl : lR.length ≤ 1048576 := by rw [hlR]; exact allPc_len s l
    have HV1 := fun (A' : Option Addr) (c' : Nat) (w' : World) hA => hid (c_sAllPieces s A' c' l bs hn w' hA)
    have HV2 := fun (A' : Option Addr) (c' : Nat) (w' : World) hA => hid (c_AllPieces s A' c' l bs hn w' hA)
    rw [← hlR, ← hkR] at HV1 HV2
    have hEs : ∀ (lo hi lo' hi' : Nat) (A1 A2 : Option Addr) (c1 c2 : Nat) (w' : World), OwT lo hi w' (.slice A1 l.length c1) l → OwT lo' hi' w' (.slice A2 l.length c2) l → Hid (Calls Try.prog 13 #[.agg #[.int .u8 s, .slice A1 l.length c1], .agg #[.int .u8 s, .slice A2 l.length c2]] w' fun e w2 => e = .returned (.bool true) ∧ Below w'.heap.size w' w2) := fun lo hi lo' hi' A1 A2 c1 c2 w' h1 h2 => c_eqShape lo hi lo' hi' s A1 A2 c1 c2 l (by omega) w' h1 h2
    have hER : ∀ (lo hi lo' hi' : Nat) (v1 v2 : Value) (w' : World), OwD lo hi w' v1 lR → OwD lo' hi' w' v2 lR → Hid (Calls Try.prog 12 #[v1, v2] w' fun e w2 => e = .returned (.bool true) ∧ Below w'.heap.size w' w2) := fun lo hi lo' hi' v1 v2 w' h1 h2 => e_PieceS hRl h1 h2
    have HMs := fun (lo hi : Nat) (A1 : Option Addr) (c1 : Nat) (w' : World) h => hid (c_markShape lo hi s A1 c1 l hn w' h)
    have HMR := fun (lo hi : Nat) (v : Value) (w' : World) (h : OwD lo hi w' v lR) => hid (m_PieceS (m := 1) (by decide) hRl h)
    have HHR := fun (lo hi : Nat) (v : Value) (w' : World) (h : OwD lo hi w' v (mkC lR 1 lR.length)) => hid (h_PieceS (m := 1) (by decide) hRl h)
    obtain ⟨mS, hmS⟩ : ∃ m : Int, m = 1 + 2 * (l.length : Int) := ⟨_, rfl⟩
    obtain ⟨mR, hmR⟩ : ∃ m : Int, m = 1 + 2 * (lR.length : Int) := ⟨_, rfl⟩
    rw [← hmS] at HMs
    rw [← hmR] at HMR HHR
    have hmS0 : decide (mS < 0) = false := decide_eq_false (by omega)
    have hmR0 : decide (mR < 0) = false := decide_eq_false (by omega)
    have hne1 : (kR != kR) = false := by simp
    have hne2 : (mR != mR) = false := by simp
    have B0 : Below w.heap.size w (w.alloc (.cells #[.int .u8 s, .slice A l.length c] 24)) := (Below.refl _ w).alloc (Nat.le_refl _) _
    have HX := hid (block_new1 w (.cells #[.int .u8 s, .slice A l.length c] 24) rfl)
    have HA := hid (rd.below B0 (Nat.le_refl _))
    have HW := hid B0
    have RD := hid rd
    clear hq hn rd B0 bz hlR hkR hmS hmR hRl
    have T0 : Hid True := trivial
    have T1 : Hid True := trivial
    go_enter Try.func4, Try.ntmps4
    go_wp2_with (first
      | (go_at_call 8; ((with_reducible refine (HZ.out _).mono ?_); rintro e w1 ⟨rfl, hb1⟩); have HX := hid (block_below hb1 HX.out (block_lt HX.out)); have HW := hid (HW.out.trans (hb1.mono HW.out.size)); have HA := hid (RD.out.below HW.out (Nat.le_refl _)); have k0 := cell_block HX.out (j := 0) rfl; have k1 := cell_block HX.out (j := 1) rfl; have kl := block_lt HX.out; clear hb1)
      | (go_at_call 10; clear T0; ((with_reducible refine (HT _ HA.out).out.mono ?_); rintro e w2 ⟨A0, c0, rfl, hb1, ho1⟩); have HX := hid (block_below hb1 HX.out (block_lt HX.out)); have HW := hid (HW.out.trans (hb1.mono HW.out.size)); have HA := hid (RD.out.below HW.out (Nat.le_refl _)); have k0 := cell_block HX.out (j := 0) rfl; have k1 := cell_block HX.out (j := 1) rfl; have kl := block_lt HX.out; have O0 := hid ho1; clear hb1 ho1)
      | (go_at_call 17; ((with_reducible refine (HV1 _ _ _ O0.out.pairs).out.mono ?_); rintro e w3 ⟨vS, rfl, hb1, ho1⟩); have OS := hid (OwD.of ho1 hb1); have HX := hid (block_below hb1 HX.out (block_lt HX.out)); have HW := hid (HW.out.trans (hb1.mono HW.out.size)); have HA := hid (RD.out.below HW.out (Nat.le_refl _)); have k0 := cell_block HX.out (j := 0) rfl; have k1 := cell_block HX.out (j := 1) rfl; have kl := block_lt HX.out; obtain ⟨AS, cS, rfl⟩ := owns_slc ho1; have HLa := hid (block_lt HX.out); clear hb1 ho1)
      | (go_at_call 10; clear T1; ((with_reducible refine (HT _ HA.out).out.mono ?_); rintro e w4 ⟨AX, cX, rfl, hb1, ho1⟩); have HX := hid (block_below hb1 HX.out (block_lt HX.out)); have OS := hid (OS.out.below hb1); have HW := hid (HW.out.trans (hb1.mono HW.out.size)); have HA := hid (RD.out.below HW.out (Nat.le_refl _)); have k0 := cell_block HX.out (j := 0) rfl; have k1 := cell_block HX.out (j := 1) rfl; have kl := block_lt HX.out; have OX := hid ho1; have HL4 := hid hb1.size; clear hb1 ho1)
      | (go_at_call 18; ((with_reducible refine (HV2 _ _ _ (OX.out.alloc (.cells #[.int .u8 s, .slice AX l.length cX] 31)).pairs).out.mono ?_); rintro e w5 ⟨vG, rfl, hb1, ho1⟩); have HXx := hid (block_below hb1 (block_new1 w4 (.cells #[.int .u8 s, .slice AX l.length cX] 31) rfl) (by simp)); have OG := hid ((OwD.of ho1 hb1).lo (lo' := w4.heap.size + 1) (by simp)); have hb1 := ((Below.refl _ w4).alloc (Nat.le_refl _) (.cells #[.int .u8 s, .slice AX l.length cX] 31)).trans (hb1.mono (by simp)); have HX := hid (block_below hb1 HX.out (block_lt HX.out)); have OS := hid (OS.out.below hb1); have OX := hid (OX.out.below hb1); have HW := hid (HW.out.trans (hb1.mono HW.out.size)); have HA := hid (RD.out.below HW.out (Nat.le_refl _)); have k0 := cell_block HX.out (j := 0) rfl; have k1 := cell_block HX.out (j := 1) rfl; have kl := block_lt HX.out; obtain ⟨AG, cG, rfl⟩ := owns_slc ho1; have x0 := cell_block HXx.out (j := 0) rfl; have x1 := cell_block HXx.out (j := 1) rfl; have HL5 : Hid (w4.heap.size + 1 ≤ w5.heap.size) := (by have := block_lt HXx.out; exact this); clear hb1 ho1)
      | (go_at_call 12; ((with_reducible refine (hER _ _ _ _ _ _ _ OG.out OS.out).out.mono ?_); rintro e w6 ⟨rfl, hb1⟩); have HX := hid (block_below hb1 HX.out (block_lt HX.out)); have HXx := hid (block_below hb1 HXx.out (block_lt HXx.out)); have OS := hid (OS.out.below hb1); have OX := hid (OX.out.below hb1); have OG := hid (OG.out.below hb1); have HW := hid (HW.out.trans (hb1.mono HW.out.size)); have HA := hid (RD.out.below HW.out (Nat.le_refl _)); have k0 := cell_block HX.out (j := 0) rfl; have k1 := cell_block HX.out (j := 1) rfl; have kl := block_lt HX.out; have x0 := cell_block HXx.out (j := 0) rfl; have x1 := cell_block HXx.out (j := 1) rfl; have xl := block_lt HXx.out; clear hb1))
    have l0 := block_lt HX.out
    have l1 := block_lt HXx.out
    refine wp_region_wildG w6.heap.size 2 ?s1 _ 10 #[.agg #[.int .u8 s, .slice A l.length c]] (fun v w' => ∃ (A' : Option Addr) (c' : Nat) (x : Ext w6.heap.size w6), v = .agg #[.int .u8 s, .slice A' l.length c'] ∧ OwT x.out.heap.size w'.heap.size w' (.slice A' l.length c') l) (by kernel_rfl) (by kernel_rfl) (by kernel_rfl) (by kernel_rfl) rfl (Nat.le_refl _) ?pre1 ?ent1 ?call1 ?post1
    case pre1 =>
      intro B' W' hb hB hSz
      have HXb := hid (block_below hb HX.out l0)
      have HGb := hid (block_below hb HXx.out l1)
      have l0 := Nat.lt_of_lt_of_le l0 hB
      have l1 := Nat.lt_of_lt_of_le l1 hB
      have k0 := cell_block HXb.out (j := 0) rfl
      have k1 := cell_block HXb.out (j := 1) rfl
      have q0 := cell_block HGb.out (j := 0) rfl
      have q1 := cell_block HGb.out (j := 1) rfl
      simp only [List.take_succ_cons, List.take_zero]
      repeat (go_big_quiet_step (fail))
      refine wpQuiet_nil ?_
      exact rfl
    case ent1 => intro w; unfold execOp; go_simp
    case call1 =>
      intro x
      exact (HT x.out (HA.out.below x.below (Nat.le_refl _))).out.mono fun e w' ⟨A', c', he, hb, ho⟩ => ⟨_, he, ⟨A', c', x, rfl, ho⟩, x.below.trans (hb.mono x.below.size)⟩
    rintro _ w7 ⟨A3, c3, x, rfl, ho7⟩ b7
    have O1w := hid (OX.out.below b7)
    have O3 := hid ho7
    simp only [List.drop_succ_cons, List.drop_zero, Act.put, List.setIfInBounds_toArray, List.set_cons_zero, List.set_cons_succ]
    repeat (go_big_quiet_step ((go_at_call 13; with_reducible exact Calls.ext (Nat.le_refl _) (hEs _ _ _ _ _ _ _ _ _ (O1w.out.below (Ext.below _)) (O3.out.below (Ext.below _))).out)))
    refine wpQuiet_nil ?_
    rintro _ ⟨y, rfl⟩
    have hb1 : Below w6.heap.size w6 y.out := b7.trans (y.below.mono b7.size)
    clear O1w O3 ho7 b7
    have HX := hid (block_below hb1 HX.out (block_lt HX.out))
    have HXx := hid (block_below hb1 HXx.out (block_lt HXx.out))
    have OS := hid (OS.out.below hb1)
    have OX := hid (OX.out.below hb1)
    have OG := hid (OG.out.below hb1)
    have HW := hid (HW.out.trans (hb1.mono HW.out.size))
    have HA := hid (RD.out.below HW.out (Nat.le_refl _))
    obtain ⟨w8, hw8⟩ : ∃ w8, w8 = y.out := ⟨_, rfl⟩
    rw [← hw8] at HX HXx OS OX OG HA HW ⊢
    clear hw8 hb1
    have k0 := cell_block HX.out (j := 0) rfl
    have k1 := cell_block HX.out (j := 1) rfl
    have kl := block_lt HX.out
    have x0 := cell_block HXx.out (j := 0) rfl
    have x1 := cell_block HXx.out (j := 1) rfl
    have xl := block_lt HXx.out
    have T2 : Hid True := trivial
    have T3 : Hid True := trivial
    have T4 : Hid True := trivial
    go_wp2_with (first
      | (go_at_call 14; clear T2; ((with_reducible refine (HMs _ _ _ _ _ OX.out).out.mono ?_); rintro e w9 ⟨rfl, hb1, hq1, ho1⟩); have HX := hid (hq1.keep HX.out (.inl HLa.out)); have HXx := hid (hq1.keep HXx.out (.inr (Nat.le_refl _))); have OS := hid (OS.out.below' hb1 (Nat.le_refl _)); have OG := hid (OG.out.outS hq1 (.inr (Nat.le_succ _))); have HW := hid (HW.out.trans (hb1.mono (Nat.le_of_lt HLa.out))); have HA := hid (RD.out.below HW.out (Nat.le_refl _)); have k0 := cell_block HX.out (j := 0) rfl; have k1 := cell_block HX.out (j := 1) rfl; have kl := block_lt HX.out; have x0 := cell_block HXx.out (j := 0) rfl; have x1 := cell_block HXx.out (j := 1) rfl; have xl := block_lt HXx.out; clear hb1 hq1 ho1)
      | (go_at_call 12; clear T3; ((with_reducible refine (hER _ _ _ _ _ _ _ OG.out OS.out).out.mono ?_); rintro e w10 ⟨rfl, hb1⟩); have HX := hid (block_below hb1 HX.out (block_lt HX.out)); have HXx := hid (block_below hb1 HXx.out (block_lt HXx.out)); have OS := hid (OS.out.below hb1); have OG := hid (OG.out.below hb1); have HW := hid (HW.out.trans (hb1.mono HW.out.size)); have HA := hid (RD.out.below HW.out (Nat.le_refl _)); have k0 := cell_block HX.out (j := 0) rfl; have k1 := cell_block HX.out (j := 1) rfl; have kl := block_lt HX.out; have x0 := cell_block HXx.out (j := 0) rfl; have x1 := cell_block HXx.out (j := 1) rfl; have xl := block_lt HXx.out; clear hb1)
      | (go_at_call 15; ((with_reducible refine (HMR _ _ _ _ OG.out).out.mono ?_); rintro e w11 ⟨rfl, hb1, hq1, ho1⟩); have HX := hid (hq1.keep HX.out (.inl (Nat.lt_succ_of_lt (Nat.lt_of_lt_of_le HLa.out HL4.out)))); have HXx := hid (hq1.keep HXx.out (.inl (Nat.lt_succ_self _))); have OS := hid (OS.out.below' hb1 (Nat.le_succ_of_le HL4.out)); have OM := hid ho1; have HW := hid (HW.out.trans (hb1.mono (Nat.le_succ_of_le (Nat.le_trans (Nat.le_of_lt HLa.out) HL4.out)))); have HA := hid (RD.out.below HW.out (Nat.le_refl _)); have k0 := cell_block HX.out (j := 0) rfl; have k1 := cell_block HX.out (j := 1) rfl; have kl := block_lt HX.out; have x0 := cell_block HXx.out (j := 0) rfl; have x1 := cell_block HXx.out (j := 1) rfl; have xl := block_lt HXx.out; clear hb1 hq1 ho1)
      | (go_at_call 16; clear T4; ((with_reducible refine (HHR _ _ _ _ OM.out).out.mono ?_); rintro e w12 ⟨rfl, hb1⟩); have HX := hid (block_below hb1 HX.out (block_lt HX.out)); have HXx := hid (block_below hb1 HXx.out (block_lt HXx.out)); have OS := hid (OS.out.below hb1); have OM := hid (OM.out.below hb1); have HW := hid (HW.out.trans (hb1.mono HW.out.size)); have HA := hid (RD.out.below HW.out (Nat.le_refl _)); have k0 := cell_block HX.out (j := 0) rfl; have k1 := cell_block HX.out (j := 1) rfl; have kl := block_lt HX.out; have x0 := cell_block HXx.out (j := 0) rfl; have x1 := cell_block HXx.out (j := 1) rfl; have xl := block_lt HXx.out; clear hb1)
      | (go_at_call 10; ((with_reducible refine (HT _ HA.out).out.mono ?_); rintro e w13 ⟨A7, c7, rfl, hb1, ho1⟩); have HX := hid (block_below hb1 HX.out (block_lt HX.out)); have HXx := hid (block_below hb1 HXx.out (block_lt HXx.out)); have OS := hid (OS.out.below hb1); have OM := hid (OM.out.below hb1); have HW := hid (HW.out.trans (hb1.mono HW.out.size)); have HA := hid (RD.out.below HW.out (Nat.le_refl _)); have k0 := cell_block HX.out (j := 0) rfl; have k1 := cell_block HX.out (j := 1) rfl; have kl := block_lt HX.out; have x0 := cell_block HXx.out (j := 0) rfl; have x1 := cell_block HXx.out (j := 1) rfl; have xl := block_lt HXx.out; have O7 := hid ho1; clear hb1 ho1)
      | (go_at_call 18; ((with_reducible refine (HV2 _ _ _ O7.out.pairs).out.mono ?_); rintro e w14 ⟨vH, rfl, hb1, ho1⟩); have OH := hid (OwD.of ho1 hb1); have HX := hid (block_below hb1 HX.out (block_lt HX.out)); have HXx := hid (block_below hb1 HXx.out (block_lt HXx.out)); have OS := hid (OS.out.below hb1); have OM := hid (OM.out.below hb1); have HW := hid (HW.out.trans (hb1.mono HW.out.size)); have HA := hid (RD.out.below HW.out (Nat.le_refl _)); have k0 := cell_block HX.out (j := 0) rfl; have k1 := cell_block HX.out (j := 1) rfl; have kl := block_lt HX.out; have x0 := cell_block HXx.out (j := 0) rfl; have x1 := cell_block HXx.out (j := 1) rfl; have xl := block_lt HXx.out; obtain ⟨AH, cH, rfl⟩ := owns_slc ho1; clear hb1 ho1)
      | (go_at_call 12; ((with_reducible refine (hER _ _ _ _ _ _ _ OH.out OS.out).out.mono ?_); rintro e w15 ⟨rfl, hb1⟩); have HX := hid (block_below hb1 HX.out (block_lt HX.out)); have HXx := hid (block_below hb1 HXx.out (block_lt HXx.out)); have OS := hid (OS.out.below hb1); have OM := hid (OM.out.below hb1); have HW := hid (HW.out.trans (hb1.mono HW.out.size)); have HA := hid (RD.out.below HW.out (Nat.le_refl _)); have k0 := cell_block HX.out (j := 0) rfl; have k1 := cell_block HX.out (j := 1) rfl; have kl := block_lt HX.out; have x0 := cell_block HXx.out (j := 0) rfl; have x1 := cell_block HXx.out (j := 1) rfl; have xl := block_lt HXx.out; clear hb1)
      | (go_at_call 16; ((with_reducible refine (HHR _ _ _ _ OM.out).out.mono ?_); rintro e w16 ⟨rfl, hb1⟩); have HW := hid (HW.out.trans (hb1.mono HW.out.size)); clear hb1))
    go_ret
    exact ⟨rfl, HW.out⟩
  · have HZ := hid (c_szShape s A c l.length (by omega))
    rw [if_neg hn] at HZ
    clear rd hn bz
    have B0 : Below w.heap.size w (w.alloc (.cells #[.int .u8 s, .slice A l.length c] 24)) := (Below.refl _ w).alloc (Nat.le_refl _) _
    go_enter Try.func4, Try.ntmps4
    go_wp2_with (go_at_call 8; ((with_reducible refine (HZ.out _).mono ?_); rintro e w1 ⟨rfl, hb1⟩))
    go_ret
    exact ⟨rfl, B0.trans (hb1.mono (by simp))⟩
end Go.Proofs.Ytgbihaliiogboaa
