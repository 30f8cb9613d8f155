/- The walk of FnExactFewestDays. -/
import Derived.Test.YtjcmdihadblodaaFewS
import Derived.Test.YtjcmdihadblodaaToF
namespace Go.Proofs.Ytjcmdihadblodaa
open Go.RowKit
set_option linter.unusedSimpArgs false
set_option linter.unusedVariables false
theorem fewL_len (ts : List Int) (s : Int) : (fewL ts s).length ≤ 1048576 := by
  by_cases h : timesC ts s = 0
  · obtain ⟨l, n, _, e1, _, _, e3, _⟩ := few_some h
    have h8 := (timesC_zero h).2.1
    rw [e1, daysF_len e3]; omega
  · unfold fewL; rw [if_neg h]; simp
set_option maxHeartbeats 6400000 in
set_option maxRecDepth 100000 in
theorem w_FnExactFewestDays {w : World} (A0 : Option Addr) (c0 : Nat) (l0 : List Int) (lc0 : l0.length ≤ c0) (cm0 : c0 ≤ maxLen) (bz0 : ∀ n ∈ l0, -9223372036854775808 ≤ n ∧ n ≤ 9223372036854775807) (rd0 : SlI w A0 l0) (n1 : Int) (wn1 : -9223372036854775808 ≤ n1 ∧ n1 ≤ 9223372036854775807) (_w : World) :
    Calls Try.prog 4 #[.slice A0 l0.length c0, .int .i64 n1] w fun e w' => e = .returned (.bool true) ∧ Below w.heap.size w w' := by
  unfold maxLen at cm0
  by_cases hn0 : l0.length ≤ 1048576
  rotate_left
  · -- the law answers true at once
    have hdl0 : decide ((l0.length : Int) > 1048576) = true := decide_eq_true (by omega)
    clear rd0 bz0
    go_enter Try.func4, Try.ntmps4
    go_wp2_with fail
    go_ret
    exact ⟨rfl, Below.refl _ _⟩
  have hdl : decide ((l0.length : Int) > 1048576) = false := decide_eq_false (by omega)
  have hlen0 : l0.length ≤ 1048576 := by omega
  obtain ⟨R0, hR0⟩ : ∃ x, x = fewL l0 n1 := ⟨_, rfl⟩
  have lenR0 : R0.length ≤ 1048576 := by rw [hR0]; exact fewL_len l0 n1
  obtain ⟨R1, hR1⟩ : ∃ x, x = fewN l0 n1 := ⟨_, rfl⟩
  obtain ⟨R2, hR2⟩ : ∃ x, x = timesC l0 n1 := ⟨_, rfl⟩
  have Hs := fun (A0' : Option Addr)  (w' : World) (h0 : SlI w' A0' l0) => hid (c_sFewestDays A0' l0.length l0 hlen0 n1 w' h0)
  rw [← hR0] at Hs
  rw [← hR1] at Hs
  rw [← hR2] at Hs
  have Hi := fun (A0' : Option Addr)  (w' : World) (h0 : SlI w' A0' l0) => hid (c_FewestDays A0' l0.length l0 hlen0 ⟨Nat.le_refl _, by omega⟩ n1 w' h0)
  rw [← hR0] at Hi
  rw [← hR1] at Hi
  rw [← hR2] at Hi
  have HT0 := fun (w' : World) h => hid (c_toInt64SF A0 c0 l0 hlen0 w' h)
  have hne1 : (R1 != R1) = false := by simp
  have hne2 : (R2 != R2) = false := by simp
  have RD0 := hid rd0
  have LE0 := hid hlen0
  have LER0 := hid lenR0
  obtain ⟨M0, hM0⟩ : ∃ m : Int, m = 1 + (l0.length : Int) := ⟨_, rfl⟩
  obtain ⟨M1, hM1⟩ : ∃ m : Int, m = 1 + (R0.length : Int) := ⟨_, rfl⟩
  have HMM0 : ∀ (lo hi : Nat) {v : Value} {w' : World}, OwJ lo hi w' v l0 → Calls Try.prog 11 #[v, .int .i64 1] w' fun e w2 => e = .returned (.int .i64 M0) ∧ Below lo w' w2 ∧ OutS lo hi w' w2 ∧ OwJ lo hi w2 v (mkI l0 1 l0.length) := fun lo hi v w' h => by rw [hM0]; exact m_Int64S (by omega) LE0.out h
  have HHM0 : ∀ (lo hi : Nat) {v : Value} {w' : World}, OwJ lo hi w' v (mkI l0 1 l0.length) → Calls Try.prog 12 #[v, .int .i64 1] w' fun e w2 => e = .returned (.int .i64 M0) ∧ Below w'.heap.size w' w2 := fun lo hi v w' h => by rw [hM0]; exact h_Int64S (by omega) LE0.out h
  have hmM00 : decide (M0 < 0) = false := decide_eq_false (by omega)
  have hmM01 : (M0 != M0) = false := by simp
  have HMM1 : ∀ (lo hi : Nat) {v : Value} {w' : World}, OwJ lo hi w' v R0 → Calls Try.prog 11 #[v, .int .i64 1] w' fun e w2 => e = .returned (.int .i64 M1) ∧ Below lo w' w2 ∧ OutS lo hi w' w2 ∧ OwJ lo hi w2 v (mkI R0 1 R0.length) := fun lo hi v w' h => by rw [hM1]; exact m_Int64S (by omega) LER0.out h
  have HHM1 : ∀ (lo hi : Nat) {v : Value} {w' : World}, OwJ lo hi w' v (mkI R0 1 R0.length) → Calls Try.prog 12 #[v, .int .i64 1] w' fun e w2 => e = .returned (.int .i64 M1) ∧ Below w'.heap.size w' w2 := fun lo hi v w' h => by rw [hM1]; exact h_Int64S (by omega) LER0.out h
  have hmM10 : decide (M1 < 0) = false := decide_eq_false (by omega)
  have hmM11 : (M1 != M1) = false := by simp
  have HHMM0 := hid HMM0; clear HMM0; have HHHM0 := hid HHM0; clear HHM0
  have HHMM1 := hid HMM1; clear HMM1; have HHHM1 := hid HHM1; clear HHM1
  have HW : Hid (Below w.heap.size w w) := Below.refl _ _
  clear rd0 bz0 hn0 hlen0 hR0 hR1 hR2 lenR0 hM0 hM1
  have K1 : Hid True := trivial
  have K2 : Hid True := trivial
  have K3 : Hid True := trivial
  have K4 : Hid True := trivial
  have K5 : Hid True := trivial
  have K6 : Hid True := trivial
  have K7 : Hid True := trivial
  have K8 : Hid True := trivial
  have K9 : Hid True := trivial
  have K10 : Hid True := trivial
  have K11 : Hid True := trivial
  have K12 : Hid True := trivial
  have K13 : Hid True := trivial
  have K14 : Hid True := trivial
  have K15 : Hid True := trivial
  go_enter Try.func4, Try.ntmps4
  go_wp2_with (first
    | (go_at_call 8; clear K1; (have HRD := hid (RD0.out.below HW.out (Nat.le_refl _))); ((with_reducible refine (HT0 _ HRD.out).out.mono ?_); rintro e w1 ⟨Ax0, rfl, hb1, ho1⟩); have HLox0 := hid HW.out.size; replace HW := hid (HW.out.trans (hb1.mono HW.out.size)); have Ox0 := hid ho1; clear hb1 ho1)
    | (go_at_call 13; clear K2; ((with_reducible refine (Hs _ _ Ox0.out.sli).out.mono ?_); rintro e w1 ⟨vg1_0, rfl, hb1, ho0⟩); have Sx0_g1 := hid Ox0.out.2.2; have HLog1 := hid HW.out.size; replace Ox0 := hid (Ox0.out.below hb1); replace HW := hid (HW.out.trans (hb1.mono HW.out.size)); have Og1 := hid (OwJ.of ho0 hb1); obtain ⟨Ag1, cg1, rfl⟩ := owns_slc ho0; clear hb1 ho0)
    | (go_at_call 8; clear K3; (have HRD := hid (RD0.out.below HW.out (Nat.le_refl _))); ((with_reducible refine (HT0 _ HRD.out).out.mono ?_); rintro e w1 ⟨Ax2, rfl, hb1, ho1⟩); have Sx0_x2 := hid Ox0.out.2.2; have Sg1_x2 := hid Og1.out.2.2; have HLox2 := hid HW.out.size; replace Ox0 := hid (Ox0.out.below hb1); replace Og1 := hid (Og1.out.below hb1); replace HW := hid (HW.out.trans (hb1.mono HW.out.size)); have Ox2 := hid ho1; clear hb1 ho1)
    | (go_at_call 14; clear K4; ((with_reducible refine (Hi _ _ Ox2.out.sli).out.mono ?_); rintro e w1 ⟨vg3_0, rfl, hb1, ho0⟩); have Sx0_g3 := hid Ox0.out.2.2; have Sg1_g3 := hid Og1.out.2.2; have Sx2_g3 := hid Ox2.out.2.2; have HLog3 := hid HW.out.size; replace Ox0 := hid (Ox0.out.below hb1); replace Og1 := hid (Og1.out.below hb1); replace Ox2 := hid (Ox2.out.below hb1); replace HW := hid (HW.out.trans (hb1.mono HW.out.size)); have Og3 := hid (OwJ.of ho0 hb1); obtain ⟨Ag3, cg3, rfl⟩ := owns_slc ho0; clear hb1 ho0)
    | (go_at_call 10; clear K5; ((with_reducible refine (e_Int64S LER0.out Og3.out Og1.out).mono ?_); rintro e w1 ⟨rfl, hb1⟩); replace Ox0 := hid (Ox0.out.below hb1); replace Og1 := hid (Og1.out.below hb1); replace Ox2 := hid (Ox2.out.below hb1); replace Og3 := hid (Og3.out.below hb1); replace HW := hid (HW.out.trans (hb1.mono HW.out.size)); clear hb1)
    | (go_at_call 8; clear K6; (have HRD := hid (RD0.out.below HW.out (Nat.le_refl _))); ((with_reducible refine (HT0 _ HRD.out).out.mono ?_); rintro e w1 ⟨Ax5, rfl, hb1, ho1⟩); have Sx0_x5 := hid Ox0.out.2.2; have Sg1_x5 := hid Og1.out.2.2; have Sx2_x5 := hid Ox2.out.2.2; have Sg3_x5 := hid Og3.out.2.2; have HLox5 := hid HW.out.size; replace Ox0 := hid (Ox0.out.below hb1); replace Og1 := hid (Og1.out.below hb1); replace Ox2 := hid (Ox2.out.below hb1); replace Og3 := hid (Og3.out.below hb1); replace HW := hid (HW.out.trans (hb1.mono HW.out.size)); have Ox5 := hid ho1; clear hb1 ho1)
    | (go_at_call 10; clear K7; ((with_reducible refine (e_Int64S LE0.out Ox2.out Ox5.out).mono ?_); rintro e w1 ⟨rfl, hb1⟩); replace Ox0 := hid (Ox0.out.below hb1); replace Og1 := hid (Og1.out.below hb1); replace Ox2 := hid (Ox2.out.below hb1); replace Og3 := hid (Og3.out.below hb1); replace Ox5 := hid (Ox5.out.below hb1); replace HW := hid (HW.out.trans (hb1.mono HW.out.size)); clear hb1)
    | (go_at_call 11; clear K8; ((with_reducible refine (HHMM0.out _ _ Ox2.out).mono ?_); rintro e w1 ⟨rfl, hb1, hq1, ho1⟩); replace Ox0 := hid (Ox0.out.outS hq1 (.inl Sx0_x2.out)); replace Og1 := hid (Og1.out.outS hq1 (.inl Sg1_x2.out)); replace Og3 := hid (Og3.out.outS hq1 (.inr Sx2_g3.out)); replace Ox5 := hid (Ox5.out.outS hq1 (.inr Sx2_x5.out)); replace HW := hid (HW.out.trans (hb1.mono HLox2.out)); replace Ox2 := hid ho1; clear hb1 hq1 ho1)
    | (go_at_call 10; clear K9; ((with_reducible refine (e_Int64S LER0.out Og3.out Og1.out).mono ?_); rintro e w1 ⟨rfl, hb1⟩); replace Ox0 := hid (Ox0.out.below hb1); replace Og1 := hid (Og1.out.below hb1); replace Ox2 := hid (Ox2.out.below hb1); replace Og3 := hid (Og3.out.below hb1); replace Ox5 := hid (Ox5.out.below hb1); replace HW := hid (HW.out.trans (hb1.mono HW.out.size)); clear hb1)
    | (go_at_call 11; clear K10; ((with_reducible refine (HHMM1.out _ _ Og3.out).mono ?_); rintro e w1 ⟨rfl, hb1, hq1, ho1⟩); replace Ox0 := hid (Ox0.out.outS hq1 (.inl Sx0_g3.out)); replace Og1 := hid (Og1.out.outS hq1 (.inl Sg1_g3.out)); replace Ox2 := hid (Ox2.out.outS hq1 (.inl Sx2_g3.out)); replace Ox5 := hid (Ox5.out.outS hq1 (.inr Sg3_x5.out)); replace HW := hid (HW.out.trans (hb1.mono HLog3.out)); replace Og3 := hid ho1; clear hb1 hq1 ho1)
    | (go_at_call 12; clear K11; ((with_reducible refine (HHHM1.out _ _ Og3.out).mono ?_); rintro e w1 ⟨rfl, hb1⟩); replace Ox0 := hid (Ox0.out.below hb1); replace Og1 := hid (Og1.out.below hb1); replace Ox2 := hid (Ox2.out.below hb1); replace Og3 := hid (Og3.out.below hb1); replace Ox5 := hid (Ox5.out.below hb1); replace HW := hid (HW.out.trans (hb1.mono HW.out.size)); clear hb1)
    | (go_at_call 8; clear K12; (have HRD := hid (RD0.out.below HW.out (Nat.le_refl _))); ((with_reducible refine (HT0 _ HRD.out).out.mono ?_); rintro e w1 ⟨Ax11, rfl, hb1, ho1⟩); have Sx0_x11 := hid Ox0.out.2.2; have Sg1_x11 := hid Og1.out.2.2; have Sx2_x11 := hid Ox2.out.2.2; have Sg3_x11 := hid Og3.out.2.2; have Sx5_x11 := hid Ox5.out.2.2; have HLox11 := hid HW.out.size; replace Ox0 := hid (Ox0.out.below hb1); replace Og1 := hid (Og1.out.below hb1); replace Ox2 := hid (Ox2.out.below hb1); replace Og3 := hid (Og3.out.below hb1); replace Ox5 := hid (Ox5.out.below hb1); replace HW := hid (HW.out.trans (hb1.mono HW.out.size)); have Ox11 := hid ho1; clear hb1 ho1)
    | (go_at_call 14; clear K13; ((with_reducible refine (Hi _ _ Ox11.out.sli).out.mono ?_); rintro e w1 ⟨vg12_0, rfl, hb1, ho0⟩); have Sx0_g12 := hid Ox0.out.2.2; have Sg1_g12 := hid Og1.out.2.2; have Sx2_g12 := hid Ox2.out.2.2; have Sg3_g12 := hid Og3.out.2.2; have Sx5_g12 := hid Ox5.out.2.2; have Sx11_g12 := hid Ox11.out.2.2; have HLog12 := hid HW.out.size; replace Ox0 := hid (Ox0.out.below hb1); replace Og1 := hid (Og1.out.below hb1); replace Ox2 := hid (Ox2.out.below hb1); replace Og3 := hid (Og3.out.below hb1); replace Ox5 := hid (Ox5.out.below hb1); replace Ox11 := hid (Ox11.out.below hb1); replace HW := hid (HW.out.trans (hb1.mono HW.out.size)); have Og12 := hid (OwJ.of ho0 hb1); obtain ⟨Ag12, cg12, rfl⟩ := owns_slc ho0; clear hb1 ho0)
    | (go_at_call 10; clear K14; ((with_reducible refine (e_Int64S LER0.out Og12.out Og1.out).mono ?_); rintro e w1 ⟨rfl, hb1⟩); replace Ox0 := hid (Ox0.out.below hb1); replace Og1 := hid (Og1.out.below hb1); replace Ox2 := hid (Ox2.out.below hb1); replace Og3 := hid (Og3.out.below hb1); replace Ox5 := hid (Ox5.out.below hb1); replace Ox11 := hid (Ox11.out.below hb1); replace Og12 := hid (Og12.out.below hb1); replace HW := hid (HW.out.trans (hb1.mono HW.out.size)); clear hb1)
    | (go_at_call 12; clear K15; ((with_reducible refine (HHHM1.out _ _ Og3.out).mono ?_); rintro e w1 ⟨rfl, hb1⟩); replace Ox0 := hid (Ox0.out.below hb1); replace Og1 := hid (Og1.out.below hb1); replace Ox2 := hid (Ox2.out.below hb1); replace Og3 := hid (Og3.out.below hb1); replace Ox5 := hid (Ox5.out.below hb1); replace Ox11 := hid (Ox11.out.below hb1); replace Og12 := hid (Og12.out.below hb1); replace HW := hid (HW.out.trans (hb1.mono HW.out.size)); clear hb1))
  go_ret
  exact ⟨rfl, HW.out⟩
end Go.Proofs.Ytjcmdihadblodaa
