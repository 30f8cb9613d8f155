/- ClimbsFor, the program's. -/
import Derived.Test.YtjcmdihadblodaaClimbC
namespace Go.Proofs.Ytjcmdihadblodaa
open Go.RowKit
set_option linter.unusedSimpArgs false
set_option linter.unusedVariables false

def climbK (r : Rf) (l : List (Int × Int)) (n : Int) : Int := jobK (validB r) (l.all (hasP r) && inB n 1 20) (decide ((l.length : Int) ≤ 8))
/-- How many rungs there are up to each place. -/
def upsL (r : Rf) (l : List (Int × Int)) : List Int := l.map fun p => r.h - p.1
def climbsV (r : Rf) (l : List (Int × Int)) (n : Int) : Int := if climbK r l n = 0 then climbsL (upsL r l) n.toNat else 0
theorem climbK_zero {r : Rf} {l : List (Int × Int)} {n : Int} (h : climbK r l n = 0) : validB r = true ∧ l.all (hasP r) = true ∧ (1 ≤ n ∧ n ≤ 20) ∧ l.length ≤ 8 := by
  obtain ⟨h1, h2, h3⟩ := jobK_zero h
  rw [Bool.and_eq_true, inB_iff] at h2
  exact ⟨h1, h2.1, h2.2, by have := of_decide_eq_true h3; omega⟩
theorem hasP_pl {r : Rf} {p : Int × Int} (hv : validB r = true) (h : hasP r p = true) : (0 ≤ p.1 ∧ p.1 < r.h) ∧ (0 ≤ p.2 ∧ p.2 < r.w) := by
  have h1 := codeOf_has r p.1 p.2 true
  rw [Bool.and_true, Bool.and_true] at h1
  have h2 : codeOf (validB r) (isPl r p.1 p.2) = 0 := by
    rw [← h1]
    have : hasB r p.1 p.2 = true := h
    rw [this, hv]; rfl
  have := isPl_iff.1 (codeOf_zero h2).2
  omega
theorem ups_b {r : Rf} {l : List (Int × Int)} (hv : validB r = true) (h : l.all (hasP r) = true) : ∀ x ∈ upsL r l, 1 ≤ x ∧ x ≤ 8 := by
  intro x hx
  obtain ⟨p, hp, rfl⟩ := List.mem_map.1 hx
  have h1 := hasP_pl hv (List.all_eq_true.1 h p hp)
  have := valid_head hv
  omega
theorem own_cap {w : World} {base : Nat} {T : TypeId} {s n : Nat} {v : Value} {xs : List Value} (h : w.ownsRow base T s v n xs) : ∀ A c, v = .slice A n c → n ≤ c ∧ c ≤ 9223372036854775807 := by
  intro A c hv
  rcases h.2 with ⟨rfl, rfl⟩ | ⟨g, cap, cur, rfl, _, _, h1, h2, _⟩
  · obtain ⟨_, _, rfl⟩ := Value.slice.inj hv; exact ⟨Nat.le_refl _, by decide⟩
  · obtain ⟨_, _, rfl⟩ := Value.slice.inj hv; exact ⟨h1, Nat.le_trans h2 (by decide)⟩
set_option maxHeartbeats 1600000 in
set_option maxRecDepth 100000 in
theorem c_ClimbsFor (r : Rf) (hr : r.Ok) (A : Option Addr) (c : Nat) (l : List (Int × Int)) (hB : PlB l) (hlen : l.length ≤ 1048576) (n : Int) (w : World) (hA : PairsAt .i8 .i8 w A l) :
    Calls Try.prog 19 #[.agg (rcells r), .slice A l.length c, .int .i64 n] w fun e w' => e = .returned (.tuple #[.int .i64 (climbsV r l n), .int .i64 (climbK r l n)]) ∧ Below w.heap.size w w' := by
  have B0 : Below w.heap.size w (w.alloc (.cells (rcells r) 38)) := (Below.refl _ w).alloc (Nat.le_refl _) _
  have HX := hid (block_new1 w (.cells (rcells r) 38) rfl)
  have HC := fun w' h => hid (c_climbCode r hr A c l hB hlen n w' h)
  have hE : jobK (validB r) (l.all (hasP r) && inB n 1 20) (decide ((l.length : Int) ≤ 8)) = climbK r l n := rfl
  rw [hE] at HC
  have RD := hid hA
  unfold climbsV
  by_cases h0 : climbK r l n = 0
  · rw [if_pos h0, h0]
    rw [h0] at HC
    obtain ⟨hv, hall, hn, h8⟩ := climbK_zero h0
    have hub := ups_b hv hall
    obtain ⟨m, rfl⟩ := Int.eq_ofNat_of_zero_le (by omega : 0 ≤ n)
    rw [Int.toNat_natCast]
    have HE := fun w' h => hid (c_eachPI 37 #[.agg (rcells r)] #[] (enters_of Try.func37 (by kernel_rfl) rfl) (fun p => r.h - p.1) A c l hlen w' h (fun W p hp _ => by
      have h1 := hasP_pl hv (List.all_eq_true.1 hall p hp)
      have := valid_head hv
      exact c_climb r hr p.1 p.2 (by omega) (by omega) W))
    have HM := fun (A1 : Option Addr) (c1 : Nat) (w' : World) (lc : l.length ≤ c1) (cm : c1 ≤ 9223372036854775807) h => hid (c_climbs A1 c1 (upsL r l) (by simp [upsL]; omega) (by simpa [upsL] using lc) cm (fun x hx => by have := hub x hx; omega) m (by omega) w' h)
    have hul : (upsL r l).length = l.length := by simp [upsL]
    rw [hul] at HM
    have hue : l.map (fun p => r.h - p.1) = upsL r l := rfl
    rw [hue] at HE
    have HUL := hid hul
    clear h0 hv hall hub hn h8 hA hul hue
    go_enter Try.func19, Try.ntmps19
    go_wp2_with (first
      | ((with_reducible refine gate (N := 9) rfl ?_); refine wp_roof 38 Try.underlying38 rfl Try.infoRoof rfl (.tmp 3) rfl w.heap.size rfl r hr HX.out ?_)
      | (go_at_call 34; ((with_reducible refine (HC _ (RD.out.below B0 (Nat.le_refl _))).out.mono ?_); rintro e w1 ⟨rfl, hb1⟩); have HX1 := hid (block_below hb1 HX.out (by simp)); have HB1 := hid (B0.trans (hb1.mono (by simp))); clear hb1)
      | ((with_reducible refine gate (N := 17) rfl ?_); refine wp_roof 38 Try.underlying38 rfl Try.infoRoof rfl (.tmp 3) rfl w.heap.size rfl r hr HX1.out ?_)
      | (go_at_call 36; ((with_reducible refine (HE _ (RD.out.below HB1.out (Nat.le_refl _))).out.mono ?_); rintro e w2 ⟨v, rfl, hb2, ho2⟩); have HB2 := hid (HB1.out.trans (hb2.mono HB1.out.size)); have hcap := own_cap ho2; obtain ⟨A2, c2, rfl⟩ := owns_slc ho2; have hs2 := RowI.sli ho2; rw [HUL.out] at ho2 hcap ⊢; have HS2 := hid hs2; have HCap := hid (hcap _ _ rfl); clear hb2 ho2 hs2 hcap)
      | (go_at_call 35; ((with_reducible refine (HM _ _ _ HCap.out.1 HCap.out.2 HS2.out).out.mono ?_); rintro e w3 ⟨rfl, hb3⟩)))
    go_ret2
    exact ⟨rfl, HB2.out.trans (hb3.mono HB2.out.size)⟩
  · rw [if_neg h0]
    have hk := jobK_cases (validB r) (l.all (hasP r) && inB n 1 20) (decide ((l.length : Int) ≤ 8))
    rw [hE] at hk
    obtain ⟨k, hkk⟩ : ∃ k, k = climbK r l n := ⟨_, rfl⟩
    rw [← hkk] at HC hk h0 ⊢
    clear hkk hA hE
    rcases hk with rfl | rfl | rfl | rfl
    case inr.inr.inr => exact absurd rfl h0
    all_goals
      clear h0
      go_enter Try.func19, Try.ntmps19
      go_wp2_with (first
        | ((with_reducible refine gate (N := 9) rfl ?_); refine wp_roof 38 Try.underlying38 rfl Try.infoRoof rfl (.tmp 3) rfl w.heap.size rfl r hr HX.out ?_)
        | (go_at_call 34; ((with_reducible refine (HC _ (RD.out.below B0 (Nat.le_refl _))).out.mono ?_); rintro e w1 ⟨rfl, hb1⟩)))
      go_ret2
      exact ⟨rfl, B0.trans (hb1.mono (by simp))⟩
end Go.Proofs.Ytjcmdihadblodaa
