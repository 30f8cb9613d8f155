/- LeastClimb: the program's and the reference's. -/
import Derived.Test.YtjcmdihadblodaaSortI
import Derived.Test.YtjcmdihadblodaaAsked
namespace Go.Proofs.Ytjcmdihadblodaa
open Go.RowKit
set_option linter.unusedSimpArgs false
set_option linter.unusedVariables false

def leastV (r : Rf) (l : List (Int × Int)) (n : Int) : Int := if climbK r l n = 0 then climbsL (upsL r (sortP l)) n.toNat else 0
set_option maxHeartbeats 1600000 in
set_option maxRecDepth 100000 in
theorem c_LeastClimb (r : Rf) (hr : r.Ok) (A : Option Addr) (c : Nat) (l : List (Int × Int)) (hB : PlB l) (hlen : l.length ≤ 1048576) (n : Int) (w : World) (hA : PairsAt .i8 .i8 w A l) :
    Calls Try.prog 22 #[.agg (rcells r), .slice A l.length c, .int .i64 n] w fun e w' => e = .returned (.tuple #[.int .i64 (leastV r l n), .int .i64 (climbK r l n)]) ∧ Below w.heap.size w w' := by
  have B0 : Below w.heap.size w (w.alloc (.cells (rcells r) 38)) := (Below.refl _ w).alloc (Nat.le_refl _) _
  have HX := hid (block_new1 w (.cells (rcells r) 38) rfl)
  have HC := fun w' h => hid (c_climbCode r hr A c l hB hlen n w' h)
  have hE : jobK (validB r) (l.all (hasP r) && inB n 1 20) (decide ((l.length : Int) ≤ 8)) = climbK r l n := rfl
  rw [hE] at HC
  have RD := hid hA
  unfold leastV
  by_cases h0 : climbK r l n = 0
  · rw [if_pos h0, h0]
    rw [h0] at HC
    obtain ⟨hv, hall, hn, h8⟩ := climbK_zero h0
    have hub := ups_b hv hall
    obtain ⟨m, rfl⟩ := Int.eq_ofNat_of_zero_le (by omega : 0 ≤ n)
    rw [Int.toNat_natCast]
    have HE := fun w' h => hid (c_eachPI 37 #[.agg (rcells r)] #[] (enters_of Try.func37 (by kernel_rfl) rfl) (fun p => r.h - p.1) A c l hlen w' h (fun W p hp _ => by
      have h1 := hasP_pl hv (List.all_eq_true.1 hall p hp)
      have := valid_head hv
      exact c_climb r hr p.1 p.2 (by omega) (by omega) W))
    have HM := fun (A1 : Option Addr) (c1 : Nat) (w' : World) (lc : l.length ≤ c1) (cm : c1 ≤ 9223372036854775807) h => hid (c_climbs A1 c1 (sortI (upsL r l)) (by rw [sortI_len]; simp [upsL]; omega) (by rw [sortI_len]; simpa [upsL] using lc) cm (fun x hx => by have := hub x ((ins_facts swo_ltD (upsL r l)).1.mem_iff.1 hx); omega) m (by omega) w' h)
    have hul : (upsL r l).length = l.length := by simp [upsL]
    rw [sortI_len, hul] at HM
    have HSD := fun (B : Nat) (A1 : Option Addr) (c1 : Nat) (w' : World) h => hid (c_sortDesc B A1 c1 (upsL r l) (by rw [hul]; omega) w' h)
    rw [hul] at HSD
    rw [sort_ups]
    have hue : l.map (fun p => r.h - p.1) = upsL r l := rfl
    rw [hue] at HE
    have HUL := hid hul
    clear h0 hv hall hub hn h8 hA hul hue
    go_enter Try.func22, Try.ntmps22
    go_wp2_with (first
      | ((with_reducible refine gate (N := 10) rfl ?_); refine wp_roof 38 Try.underlying38 rfl Try.infoRoof rfl (.tmp 3) rfl w.heap.size rfl r hr HX.out ?_)
      | (go_at_call 34; ((with_reducible refine (HC _ (RD.out.below B0 (Nat.le_refl _))).out.mono ?_); rintro e w1 ⟨rfl, hb1⟩); have HX1 := hid (block_below hb1 HX.out (by simp)); have HB1 := hid (B0.trans (hb1.mono (by simp))); clear hb1)
      | ((with_reducible refine gate (N := 18) rfl ?_); refine wp_roof 38 Try.underlying38 rfl Try.infoRoof rfl (.tmp 3) rfl w.heap.size rfl r hr HX1.out ?_)
      | (go_at_call 36; ((with_reducible refine (HE _ (RD.out.below HB1.out (Nat.le_refl _))).out.mono ?_); rintro e w2 ⟨v, rfl, hb2, ho2⟩); have HB2 := hid (HB1.out.trans (hb2.mono HB1.out.size)); have hcap := own_cap ho2; obtain ⟨A2, c2, rfl⟩ := owns_slc ho2; have HOw : Hid (RowI w1.heap.size w2 (.slice A2 (upsL r l).length c2) (upsL r l)) := ho2; rw [HUL.out] at HOw hcap ⊢; have HCap := hid (hcap _ _ rfl); have HSz := hid HB1.out.size; clear hb2 ho2 hcap)
      | (go_at_call 40; ((with_reducible refine (HSD _ _ _ _ HOw.out).out.mono ?_); rintro e w4 ⟨rfl, hb4, ho4⟩); have HB4 := hid (HB2.out.trans (hb4.mono HSz.out)); have HS2 := hid ho4.sli; clear hb4 ho4)
      | (go_at_call 35; ((with_reducible refine (HM _ _ _ HCap.out.1 HCap.out.2 HS2.out).out.mono ?_); rintro e w3 ⟨rfl, hb3⟩)))
    go_ret2
    exact ⟨rfl, HB4.out.trans (hb3.mono HB4.out.size)⟩
  · rw [if_neg h0]
    have hk := jobK_cases (validB r) (l.all (hasP r) && inB n 1 20) (decide ((l.length : Int) ≤ 8))
    rw [hE] at hk
    obtain ⟨k, hkk⟩ : ∃ k, k = climbK r l n := ⟨_, rfl⟩
    rw [← hkk] at HC hk h0 ⊢
    clear hkk hA hE
    rcases hk with rfl | rfl | rfl | rfl
    case inr.inr.inr => exact absurd rfl h0
    all_goals
      clear h0
      go_enter Try.func22, Try.ntmps22
      go_wp2_with (first
        | ((with_reducible refine gate (N := 10) rfl ?_); refine wp_roof 38 Try.underlying38 rfl Try.infoRoof rfl (.tmp 3) rfl w.heap.size rfl r hr HX.out ?_)
        | (go_at_call 34; ((with_reducible refine (HC _ (RD.out.below B0 (Nat.le_refl _))).out.mono ?_); rintro e w1 ⟨rfl, hb1⟩)))
      go_ret2
      exact ⟨rfl, B0.trans (hb1.mono (by simp))⟩
set_option maxHeartbeats 1600000 in
set_option maxRecDepth 100000 in
theorem c_sLeastClimb (r : Rf) (hr : r.Ok) (A : Option Addr) (c : Nat) (l : List (Int × Int)) (hB : PlB l) (hlen : l.length ≤ 1048576) (n : Int) (w : World) (hA : PairsAt .i8 .i8 w A l) :
    Calls Try.prog 21 #[.agg (rcells r), .slice A l.length c, .int .i64 n] w fun e w' => e = .returned (.tuple #[.int .i64 (leastV r l n), .int .i64 (climbK r l n)]) ∧ Below w.heap.size w w' := by
  have B0 : Below w.heap.size w ((w.alloc (.cells (rcells r) 38)).alloc (.cells #[] 2)) := ((Below.refl _ w).alloc (Nat.le_refl _) _).alloc (by simp) _
  have HX := hid (block_alloc (block_new1 w (.cells (rcells r) 38) rfl) (.cells #[] 2))
  have RD := hid hA
  have HC := fun (Ac : Option Addr) (cc : Nat) w' h1 h2 => hid (c_askedL r hr w.heap.size Ac cc A c l hB hlen (inB n 1 20) w' h1 h2)
  have hE : jobK (validB r) (l.all (hasP r) && inB n 1 20) (decide ((l.length : Int) ≤ 8)) = climbK r l n := rfl
  rw [hE] at HC
  unfold leastV
  by_cases h0 : climbK r l n = 0
  · rw [if_pos h0, h0]
    rw [h0] at HC
    obtain ⟨hv, hall, hn, h8⟩ := climbK_zero h0
    have vh := valid_head hv
    obtain ⟨m, rfl⟩ := Int.eq_ofNat_of_zero_le (by omega : 0 ≤ n)
    rw [Int.toNat_natCast]
    have HM := fun (A1 : Option Addr) (c1 : Nat) w' h1 h2 => hid (c_l04Climbs r hr (by omega) w.heap.size A1 c1 (sortP l) (by rw [sortP_len]; exact h8) (fun p hp => (hasP_pl hv (List.all_eq_true.1 hall p ((sortP_perm l).mem_iff.1 hp))).1) m (by omega) w' h1 h2)
    rw [sortP_len] at HM
    have HQ := fun w' h => hid (c_l04Sorted A c l (by omega) w' h)
    clear h0 hv hall hn h8 hA hE vh
    go_enter Try.func21, Try.ntmps21
    go_wp2_with (first
      | (go_at_call 30; ((with_reducible refine (c_l04Carry _ _).mono ?_); rintro e w9 ⟨rfl, rfl⟩))
      | (go_at_call 29; ((with_reducible refine (HC _ _ _ HX.out (RD.out.below B0 (Nat.le_refl _))).out.mono ?_); rintro e w1 ⟨rfl, hb1⟩); have HX1 := hid (block_below hb1 HX.out (by simp <;> omega)); have HB1 := hid (B0.trans (hb1.mono (by simp <;> omega))); clear hb1)
      | (go_at_call 39; ((with_reducible refine (HQ _ (RD.out.below HB1.out (Nat.le_refl _))).out.mono ?_); rintro e w3 ⟨v3, rfl, hb3, ho3⟩); obtain ⟨A3, c3, rfl⟩ := ho3.slc; have hp3 := ho3.pairs; rw [sortP_len] at ho3 ⊢; have HP3 := hid hp3; have HX3 := hid (block_below hb3 HX1.out (block_lt HX1.out)); have HB3 := hid (HB1.out.trans (hb3.mono HB1.out.size)); clear hb3 ho3 hp3)
      | (go_at_call 31; ((with_reducible refine (HM _ _ _ HX3.out HP3.out).out.mono ?_); rintro e w2 ⟨rfl, hb2⟩)))
    go_ret2
    exact ⟨rfl, HB3.out.trans (hb2.mono HB3.out.size)⟩
  · rw [if_neg h0]
    have hk := jobK_cases (validB r) (l.all (hasP r) && inB n 1 20) (decide ((l.length : Int) ≤ 8))
    rw [hE] at hk
    obtain ⟨k, hkk⟩ : ∃ k, k = climbK r l n := ⟨_, rfl⟩
    rw [← hkk] at HC hk h0 ⊢
    clear hkk hA hE
    rcases hk with rfl | rfl | rfl | rfl
    case inr.inr.inr => exact absurd rfl h0
    all_goals
      clear h0
      go_enter Try.func21, Try.ntmps21
      go_wp2_with (first
        | (go_at_call 30; ((with_reducible refine (c_l04Carry _ _).mono ?_); rintro e w9 ⟨rfl, rfl⟩))
        | (go_at_call 29; ((with_reducible refine (HC _ _ _ HX.out (RD.out.below B0 (Nat.le_refl _))).out.mono ?_); rintro e w1 ⟨rfl, hb1⟩)))
      go_ret2
      exact ⟨rfl, B0.trans (hb1.mono (by simp <;> omega))⟩
end Go.Proofs.Ytjcmdihadblodaa
