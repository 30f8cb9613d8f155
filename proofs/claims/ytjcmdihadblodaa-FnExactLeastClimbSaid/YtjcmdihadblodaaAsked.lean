/- ClimbsFor, the reference's. -/
import Derived.Test.YtjcmdihadblodaaClimbF
import Derived.Test.YtjcmdihadblodaaTimes
namespace Go.Proofs.Ytjcmdihadblodaa
open Go.RowKit
set_option linter.unusedSimpArgs false
set_option linter.unusedVariables false

theorem asked_eq (r : Rf) (l : List (Int × Int)) (g : Bool) : codeL (validB r) (g && allPl r l) l.length = jobK (validB r) (l.all (hasP r) && g) (decide ((l.length : Int) ≤ 8)) := by
  cases hv : validB r with
  | false =>
    have e1 : codeOf false (g && allPl r l) = 1 := rfl
    have e2 : codeOf false (l.all (hasP r) && g) = 1 := rfl
    unfold codeL jobK
    rw [e1, e2]
    rfl
  | true =>
    have e : l.all (hasP r) = allPl r l := by
      unfold allPl
      congr 1
      funext p
      exact hasB_valid hv p.1 p.2
    rw [e, Bool.and_comm]
    unfold codeL jobK
    by_cases h1 : codeOf true (allPl r l && g) = 0
    · rw [if_pos h1]
      by_cases h2 : l.length ≤ 8
      · rw [if_neg (by omega), h1, decide_eq_true (by omega)]; rfl
      · rw [if_pos ⟨h1, by omega⟩, decide_eq_false (by omega)]; rfl
    · rw [if_neg (fun h => h1 h.1), if_neg h1]
theorem c_askedL (r : Rf) (hr : r.Ok) (b : Nat) (Ac : Option Addr) (cc : Nat) (A : Option Addr) (c : Nat) (l : List (Int × Int)) (hB : PlB l) (hlen : l.length ≤ 1048576) (g : Bool) (w : World) (hb : w.heap[b]? = some (.cells (rcells r) 38 (0,0))) (hA : PairsAt .i8 .i8 w A l) :
    Calls Try.prog 29 #[.pointer (some ⟨b,0,none⟩), .slice Ac 0 cc, .slice A l.length c, .bool g] w fun e w' => e = .returned (.int .i64 (jobK (validB r) (l.all (hasP r) && g) (decide ((l.length : Int) ≤ 8)))) ∧ Below w.heap.size w w' := by
  have h := c_l04Asked r hr b Ac cc A c l hB (by omega) g w hb hA
  rw [asked_eq] at h
  exact h
set_option maxRecDepth 100000 in
theorem c_l04Carry (n : Int) (w : World) : Calls Try.prog 30 #[.int .i64 n] w fun e w' => e = .returned (.bool (inB n 1 20)) ∧ w = w' := by
  go_enter Try.func30, Try.ntmps30
  go_wp2_with (go_at_call 43; (with_reducible refine (c_l00In _ _ _ _ _ rfl).mono ?_); rintro e w9 ⟨rfl, rfl⟩)
  go_ret
  exact ⟨rfl, rfl⟩
set_option maxHeartbeats 1600000 in
set_option maxRecDepth 100000 in
theorem c_l04Climbs (r : Rf) (hr : r.Ok) (hh : 1 ≤ r.h ∧ r.h ≤ 8) (b : Nat) (A : Option Addr) (c : Nat) (l : List (Int × Int)) (hlen : l.length ≤ 8) (hc : ∀ p ∈ l, 0 ≤ p.1 ∧ p.1 < r.h) (m : Nat) (hm : 1 ≤ m ∧ m ≤ 20) (w : World) (hb : w.heap[b]? = some (.cells (rcells r) 38 (0,0))) (hA : PairsAt .i8 .i8 w A l) :
    Calls Try.prog 31 #[.pointer (some ⟨b,0,none⟩), .slice A l.length c, .int .i64 m] w fun e w' => e = .returned (.int .i64 (climbsL (upsL r l) m)) ∧ Below w.heap.size w w' := by
  have HX := hid hb
  have HA := hid hA
  have HC := hid hc
  have HU : Hid (∀ x ∈ upsL r l, 0 ≤ x ∧ x ≤ 8) := fun x hx => by
    obtain ⟨p, hp, rfl⟩ := List.mem_map.1 hx
    have := hc p hp; omega
  have hul : (upsL r l).length = l.length := by simp [upsL]
  have HUL := hid hul
  clear hb hA hc hul
  go_enter Try.func31, Try.ntmps31
  go_wp2_with fail
  go_loopw [7, 8, 9] (fun s q i wr => ∃ k : Nat, k ≤ l.length ∧ i = .int .i64 k ∧ s = .int .i64 (walkC m ((upsL r l).take k)).2.1 ∧ q = .int .i64 (walkC m ((upsL r l).take k)).2.2 ∧ Hid (Below w.heap.size w wr)) (fun _ _ i _ => l.length - (intOf i).toNat)
  case atStart => exact ⟨0, by omega, rfl, rfl, rfl, Below.refl _ _⟩
  case round =>
    obtain ⟨k, hk, rfl, rfl, rfl, hb⟩ := hrel
    have hwb := walkC_b (m := 8) (by decide) (l := (upsL r l).take k) (fun x hx => HU.out x (List.mem_of_mem_take hx)) m
    have htl : ((upsL r l).take k).length ≤ 8 := by rw [List.length_take]; omega
    by_cases hkl : k < l.length
    · have hd : decide ((k : Int) < (l.length : Int)) = true := decide_eq_true (by omega)
      have hkI : (k : Int) < (l.length : Int) := by omega
      have hk0 : (0 : Int) ≤ (k : Int) := by omega
      have hp := List.getElem?_eq_getElem hkl
      have hcp := HC.out _ (List.getElem_mem hkl)
      have hst : walkC m ((upsL r l).take (k + 1)) = stepC m (walkC m ((upsL r l).take k)) (r.h - l[k].1) := by
        have hk' : k < (upsL r l).length := by rw [HUL.out]; exact hkl
        rw [List.take_succ_eq_append_getElem hk', walkC_snoc]
        congr 1
        simp [upsL]
      have hl1 := walkC_len m ((upsL r l).take k)
      rw [List.length_take, HUL.out, Nat.min_eq_left hk] at hl1
      obtain ⟨⟨p1, p2⟩, hpp⟩ : ∃ p, p = l[k] := ⟨_, rfl⟩
      rw [← hpp] at hp hcp hst
      obtain ⟨ba, off, rfl, r1, r2, r3⟩ := HA.out.below hb.out (Nat.le_refl _) k _ hp
      dsimp only at r2 r3 hcp hst
      obtain ⟨s, hs⟩ : ∃ s, s = (walkC m ((upsL r l).take k)).2.1 := ⟨_, rfl⟩
      obtain ⟨q, hq⟩ : ∃ s, s = (walkC m ((upsL r l).take k)).2.2 := ⟨_, rfl⟩
      have hst2 : walkC m ((upsL r l).take k) = (k, s, q) := by rw [hs, hq]; exact Prod.ext hl1 rfl
      rw [← hs, ← hq] at hwb ⊢
      rw [hst2] at hst
      have HXw := hid (block_below hb.out HX.out (block_lt HX.out))
      have HQ := hid (c_l04Climb r hr b p1 p2 (by omega) hh wr HXw.out)
      obtain ⟨x, hx⟩ : ∃ x, x = r.h - p1 := ⟨_, rfl⟩
      rw [← hx] at hst HQ
      have hxb : 1 ≤ x ∧ x ≤ 8 := by omega
      have hsb : 0 ≤ s ∧ s ≤ 1000 := by omega
      have hqb : 0 ≤ q ∧ q ≤ 8 := by omega
      clear hp hpp hs hq hst2 hx hl1 hwb htl hcp
      by_cases hz : k % m = 0
      · have hst' : walkC m ((upsL r l).take (k + 1)) = (k + 1, s + 2 * q, if (0 : Int) > x then 0 else x) := by rw [hst]; unfold stepC; rw [if_pos hz]
        have HST := hid hst'
        have hzz : (((k : Int) % (m : Int)) == 0) = true := by rw [beq_iff_eq]; omega
        have m0 : (m : Int) ≠ 0 := by omega
        clear hst hst'
        go_wp2_with (first
          | (go_at_call 54; ((with_reducible refine HQ.out.mono ?_); rintro e w1 ⟨rfl, hb1⟩))
          | (go_at_call 45; (with_reducible refine (c_l00MaxT _ _ _).mono ?_); rintro e w8 ⟨rfl, rfl⟩))
        exact ⟨⟨k + 1, by omega, by go_num, congrArg (Value.int .i64) (by rw [HST.out]), congrArg (Value.int .i64) (by rw [HST.out]), hb.out.trans (hb1.mono hb.out.size)⟩, by simp [intOf]; omega⟩
      · have hst' : walkC m ((upsL r l).take (k + 1)) = (k + 1, s, if q > x then q else x) := by rw [hst]; unfold stepC; rw [if_neg hz]
        have HST := hid hst'
        have hzz : (((k : Int) % (m : Int)) == 0) = false := by rw [beq_eq_false_iff_ne]; omega
        have m0 : (m : Int) ≠ 0 := by omega
        clear hst hst'
        go_wp2_with (first
          | (go_at_call 54; ((with_reducible refine HQ.out.mono ?_); rintro e w1 ⟨rfl, hb1⟩))
          | (go_at_call 45; (with_reducible refine (c_l00MaxT _ _ _).mono ?_); rintro e w8 ⟨rfl, rfl⟩))
        exact ⟨⟨k + 1, by omega, by go_num, congrArg (Value.int .i64) (by rw [HST.out]), congrArg (Value.int .i64) (by rw [HST.out]), hb.out.trans (hb1.mono hb.out.size)⟩, by simp [intOf]; omega⟩
    · obtain rfl : k = l.length := by omega
      have hd : decide ((l.length : Int) < (l.length : Int)) = false := decide_eq_false (by omega)
      have hall := walkC_all (by omega : 0 < m) (upsL r l)
      have ht : (upsL r l).take l.length = upsL r l := List.take_of_length_le (by rw [HUL.out]; exact Nat.le_refl _)
      rw [ht] at hwb ⊢
      obtain ⟨s, hs⟩ : ∃ s, s = (walkC m (upsL r l)).2.1 := ⟨_, rfl⟩
      obtain ⟨q, hq⟩ : ∃ s, s = (walkC m (upsL r l)).2.2 := ⟨_, rfl⟩
      rw [← hs, ← hq] at hwb hall ⊢
      rw [HUL.out] at hwb
      have HALL := hid hall
      have hsb : 0 ≤ s ∧ s ≤ 1000 := by omega
      have hqb : 0 ≤ q ∧ q ≤ 8 := by omega
      clear hall ht hs hq hwb htl
      go_wp2_with fail
      go_ret
      exact ⟨ret_int HALL.out, hb.out⟩
set_option maxHeartbeats 1600000 in
set_option maxRecDepth 100000 in
theorem c_sClimbsFor (r : Rf) (hr : r.Ok) (A : Option Addr) (c : Nat) (l : List (Int × Int)) (hB : PlB l) (hlen : l.length ≤ 1048576) (n : Int) (w : World) (hA : PairsAt .i8 .i8 w A l) :
    Calls Try.prog 16 #[.agg (rcells r), .slice A l.length c, .int .i64 n] w fun e w' => e = .returned (.tuple #[.int .i64 (climbsV r l n), .int .i64 (climbK r l n)]) ∧ Below w.heap.size w w' := by
  have B0 : Below w.heap.size w ((w.alloc (.cells (rcells r) 38)).alloc (.cells #[] 2)) := ((Below.refl _ w).alloc (Nat.le_refl _) _).alloc (by simp) _
  have HX := hid (block_alloc (block_new1 w (.cells (rcells r) 38) rfl) (.cells #[] 2))
  have RD := hid hA
  have HC := fun (Ac : Option Addr) (cc : Nat) w' h1 h2 => hid (c_askedL r hr w.heap.size Ac cc A c l hB hlen (inB n 1 20) w' h1 h2)
  have hE : jobK (validB r) (l.all (hasP r) && inB n 1 20) (decide ((l.length : Int) ≤ 8)) = climbK r l n := rfl
  rw [hE] at HC
  unfold climbsV
  by_cases h0 : climbK r l n = 0
  · rw [if_pos h0, h0]
    rw [h0] at HC
    obtain ⟨hv, hall, hn, h8⟩ := climbK_zero h0
    have vh := valid_head hv
    obtain ⟨m, rfl⟩ := Int.eq_ofNat_of_zero_le (by omega : 0 ≤ n)
    rw [Int.toNat_natCast]
    have HM := fun w' h1 h2 => hid (c_l04Climbs r hr (by omega) w.heap.size A c l h8 (fun p hp => (hasP_pl hv (List.all_eq_true.1 hall p hp)).1) m (by omega) w' h1 h2)
    clear h0 hv hall hn h8 hA hE vh
    go_enter Try.func16, Try.ntmps16
    go_wp2_with (first
      | (go_at_call 30; ((with_reducible refine (c_l04Carry _ _).mono ?_); rintro e w9 ⟨rfl, rfl⟩))
      | (go_at_call 29; ((with_reducible refine (HC _ _ _ HX.out (RD.out.below B0 (Nat.le_refl _))).out.mono ?_); rintro e w1 ⟨rfl, hb1⟩); have HX1 := hid (block_below hb1 HX.out (by simp <;> omega)); have HB1 := hid (B0.trans (hb1.mono (by simp <;> omega))); clear hb1)
      | (go_at_call 31; ((with_reducible refine (HM _ HX1.out (RD.out.below HB1.out (Nat.le_refl _))).out.mono ?_); rintro e w2 ⟨rfl, hb2⟩)))
    go_ret2
    exact ⟨rfl, HB1.out.trans (hb2.mono HB1.out.size)⟩
  · rw [if_neg h0]
    have hk := jobK_cases (validB r) (l.all (hasP r) && inB n 1 20) (decide ((l.length : Int) ≤ 8))
    rw [hE] at hk
    obtain ⟨k, hkk⟩ : ∃ k, k = climbK r l n := ⟨_, rfl⟩
    rw [← hkk] at HC hk h0 ⊢
    clear hkk hA hE
    rcases hk with rfl | rfl | rfl | rfl
    case inr.inr.inr => exact absurd rfl h0
    all_goals
      clear h0
      go_enter Try.func16, Try.ntmps16
      go_wp2_with (first
        | (go_at_call 30; ((with_reducible refine (c_l04Carry _ _).mono ?_); rintro e w9 ⟨rfl, rfl⟩))
        | (go_at_call 29; ((with_reducible refine (HC _ _ _ HX.out (RD.out.below B0 (Nat.le_refl _))).out.mono ?_); rintro e w1 ⟨rfl, hb1⟩)))
      go_ret2
      exact ⟨rfl, B0.trans (hb1.mono (by simp <;> omega))⟩
end Go.Proofs.Ytjcmdihadblodaa
