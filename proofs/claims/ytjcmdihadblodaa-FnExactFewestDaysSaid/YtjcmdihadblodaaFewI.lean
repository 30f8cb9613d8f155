/- FewestDays: the program's, whole. -/
import Derived.Test.YtjcmdihadblodaaFew
namespace Go.Proofs.Ytjcmdihadblodaa
open Go.RowKit
set_option linter.unusedSimpArgs false
set_option linter.unusedVariables false

def fewL (ts : List Int) (s : Int) : List Int := if timesC ts s = 0 then ((fromF s ts [] [] none).map (·.1)).getD [] else []
def fewN (ts : List Int) (s : Int) : Int := if timesC ts s = 0 then ((((fromF s ts [] [] none).map (·.2)).getD 0 : Nat) : Int) else 0
theorem few_some {ts : List Int} {s : Int} (h : timesC ts s = 0) : ∃ (l : List Int) (n : Nat), n ≤ 8 ∧ fewL ts s = l ∧ fewN ts s = (n : Int) ∧ fromF s ts [] [] none = some (l, n) ∧ daysF s n ts [] = some l ∧ ∀ m : Nat, m < n → daysF s m ts [] = none := by
  obtain ⟨hs, h8, hts⟩ := timesC_zero h
  obtain ⟨l, n, h1, h2, h3, h4⟩ := few_eq s ts (fun t ht => (hts t ht).2)
  refine ⟨l, n, by omega, ?_, ?_, h2, h3, h4⟩
  · unfold fewL; rw [if_pos h, h2]; rfl
  · unfold fewN; rw [if_pos h, h2]; rfl
theorem timesC_cases {ts : List Int} {s : Int} (h0 : timesC ts s ≠ 0) : timesC ts s = 2 ∨ timesC ts s = 3 ∨ timesC ts s = 6 := by
  unfold timesC at h0 ⊢
  split <;> rename_i h1
  · rw [if_pos h1] at h0
    split <;> rename_i h2
    · exact .inr (.inl rfl)
    · rw [if_neg h2] at h0
      split <;> rename_i h3
      · rw [if_pos h3] at h0; exact absurd rfl h0
      · exact .inr (.inr rfl)
  · exact .inl rfl
set_option maxHeartbeats 3200000 in
set_option maxRecDepth 100000 in
theorem c_FewestDays (A : Option Addr) (c : Nat) (ts : List Int) (hlen : ts.length ≤ 1048576) (hc : ts.length ≤ c ∧ c ≤ 9223372036854775807) (s : Int) (w : World) (hA : SlI w A ts) :
    Calls Try.prog 14 #[.slice A ts.length c, .int .i64 s] w (RetI3 w (fewL ts s) (fewN ts s) (timesC ts s)) := by
  have HC := hid (c_timesCode A c ts hlen s w hA)
  by_cases h0 : timesC ts s = 0
  · obtain ⟨l, n, hn, e1, e2, -, e3, e4⟩ := few_some h0
    rw [e1, e2, h0]
    rw [h0] at HC
    obtain ⟨hs, hl8, hts⟩ := timesC_zero h0
    have HA := hid hA
    have HD : Hid (∀ (m : Nat), m ≤ n → ∀ W, SlI W A ts → Calls Try.prog 28 #[.slice A ts.length c, .slice none 0 0, .int .i64 s, .int .i64 m] W (DaysRet W (daysF s m ts []))) := fun m hm W h =>
      c_daysOf s hs m (by omega) ts [] (by simp; omega) hts (by simp) A none c 0 hc W h (by intro j x hj; simp at hj)
    have H3 := hid e3
    have H4 := hid e4
    have HN := hid hn
    clear h0 hA hts e1 e2 e3 e4 hc
    go_enter Try.func14, Try.ntmps14
    go_wp2_with (go_at_call 24; ((with_reducible refine HC.out.mono ?_); rintro e w1 ⟨rfl, hb1⟩); have HB1 := hid hb1; clear hb1)
    go_loopw [8] (fun i wr => ∃ k : Nat, k ≤ n ∧ i = .int .i64 k ∧ Hid (Below w.heap.size w wr)) (fun i _ => n + 1 - (intOf i).toNat)
    case atStart => exact ⟨0, by omega, rfl, HB1.out⟩
    case round =>
      clear HB1
      obtain ⟨k, hk, rfl, hb⟩ := hrel
      have HDk := hid (HD.out k hk wr (HA.out.below hb.out (Nat.le_refl _)))
      by_cases hkl : k < n
      · rw [H4.out k hkl] at HDk
        go_wp2_with (go_at_call 28; ((with_reducible refine HDk.out.mono ?_); rintro e w5 ⟨v5, rfl, hb5, ho5⟩); have HB5 := hid (hb.out.trans (hb5.mono hb.out.size)); clear hb5 ho5)
        exact ⟨⟨k + 1, by omega, by go_num, HB5.out⟩, by simp [intOf]; omega⟩
      · obtain rfl : k = n := by omega
        rw [H3.out] at HDk
        go_wp2_with (go_at_call 28; ((with_reducible refine HDk.out.mono ?_); rintro e w5 ⟨v5, rfl, hb5, ho5⟩); have HB5 := hid (hb.out.trans (hb5.mono hb.out.size)); have HO5 := hid (ho5.mono hb.out.size); clear hb5 ho5)
        go_ret3
        exact ⟨_, rfl, HB5.out, HO5.out⟩
  · have hk := timesC_cases h0
    unfold fewL fewN
    rw [if_neg h0, if_neg h0]
    clear h0
    rcases hk with hk | hk | hk
    all_goals
      rw [hk] at HC ⊢
      clear hk hA
      go_enter Try.func14, Try.ntmps14
      go_wp2_with (go_at_call 24; ((with_reducible refine HC.out.mono ?_); rintro e w1 ⟨rfl, hb1⟩); have HB1 := hid hb1; clear hb1)
      go_ret3
      exact ⟨_, rfl, HB1.out, RowI.nil _ _⟩
end Go.Proofs.Ytjcmdihadblodaa
