/- The code of jobs: the program's. -/
import Derived.Test.YtjcmdihadblodaaAllN
import Derived.Test.YtjcmdihadblodaaAllPl
import Derived.Test.YtjcmdihadblodaaWildO
import Derived.Test.YtjcmdihadblodaaKindAt
namespace Go.Proofs.Ytjcmdihadblodaa
open Go.RowKit
set_option linter.unusedSimpArgs false
set_option linter.unusedVariables false

/-- The code of a roof, of what has to be so, and of whether lists are short. -/
def jobK (v g ok : Bool) : Int := if codeOf v g = 0 then (if ok then 0 else 3) else codeOf v g
theorem jobK_zero {v g ok : Bool} (h : jobK v g ok = 0) : v = true ∧ g = true ∧ ok = true := by
  unfold jobK at h
  by_cases h1 : codeOf v g = 0
  · rw [if_pos h1] at h
    have := codeOf_zero h1
    cases ok with
    | true => exact ⟨this.1, this.2, rfl⟩
    | false => cases h
  · rw [if_neg h1] at h; exact absurd h h1
theorem jobK_cases (v g ok : Bool) : jobK v g ok = 1 ∨ jobK v g ok = 2 ∨ jobK v g ok = 3 ∨ jobK v g ok = 0 := by
  unfold jobK
  by_cases h1 : codeOf v g = 0
  · rw [if_pos h1]; cases ok <;> simp
  · rw [if_neg h1]
    rcases codeOf_012 v g with h | h | h
    · exact .inl h
    · exact .inr (.inl h)
    · exact absurd h h1
set_option maxRecDepth 100000 in
theorem c_jobClo (n : Int) (w : World) : Calls Try.prog 72 #[.int .i64 n] w fun e w' => e = .returned (.bool (decide (n ≤ 8))) ∧ Below w.heap.size w w' := by
  go_enter Try.func72, Try.ntmps72
  go_wp2_with fail
  go_ret
  exact ⟨rfl, Below.refl _ _⟩
set_option maxHeartbeats 800000 in
set_option maxRecDepth 100000 in
theorem c_jobCode (r : Rf) (hr : r.Ok) (g : Bool) (A : Option Addr) (c : Nat) (ns : List Int) (hlen : ns.length ≤ 1048576) (w : World) (hA : SlI w A ns) :
    Calls Try.prog 56 #[.agg (rcells r), .bool g, .slice A ns.length c] w fun e w' => e = .returned (.int .i64 (jobK (validB r) g (ns.all fun n => decide (n ≤ 8)))) ∧ Below w.heap.size w w' := by
  have B0 : Below w.heap.size w (w.alloc (.cells (rcells r) 38)) := (Below.refl _ w).alloc (Nat.le_refl _) _
  have HX := hid (block_new1 w (.cells (rcells r) 38) rfl)
  have HA := hid (hA.below B0 (Nat.le_refl _))
  have HR := hid (c_roofCode r hr g)
  have HE := fun w' h => hid (c_areAllN 72 #[] #[] (enters_of Try.func72 (by kernel_rfl) rfl) (fun n => decide (n ≤ 8)) A c ns hlen w' h (fun W p _ _ => c_jobClo p W))
  obtain ⟨ok, hok⟩ : ∃ ok, ok = ns.all fun n => decide (n ≤ 8) := ⟨_, rfl⟩
  rw [← hok] at HE ⊢
  have key : ∀ k : Int, codeOf (validB r) g = k → (k = 1 ∨ k = 2 ∨ k = 0) → Calls Try.prog 56 #[.agg (rcells r), .bool g, .slice A ns.length c] w fun e w' => e = .returned (.int .i64 (if k = 0 then (if ok then 0 else 3) else k)) ∧ Below w.heap.size w w' := by
    intro k hk hcs
    have HK := hid hk
    rw [hk] at HR
    clear hk hA hok
    rcases hcs with rfl | rfl | rfl
    · go_enter Try.func56, Try.ntmps56
      go_wp2_with (first
        | ((with_reducible refine gate (N := 8) rfl ?_); refine wp_roof 38 Try.underlying38 rfl Try.infoRoof rfl (.tmp 3) rfl w.heap.size rfl r hr HX.out ?_)
        | (go_at_call 70; ((with_reducible refine (HR.out _).mono ?_); rintro e w1 ⟨rfl, hb1⟩)))
      go_ret
      exact ⟨rfl, B0.trans (hb1.mono (by simp))⟩
    · go_enter Try.func56, Try.ntmps56
      go_wp2_with (first
        | ((with_reducible refine gate (N := 8) rfl ?_); refine wp_roof 38 Try.underlying38 rfl Try.infoRoof rfl (.tmp 3) rfl w.heap.size rfl r hr HX.out ?_)
        | (go_at_call 70; ((with_reducible refine (HR.out _).mono ?_); rintro e w1 ⟨rfl, hb1⟩)))
      go_ret
      exact ⟨rfl, B0.trans (hb1.mono (by simp))⟩
    · cases ok with
      | true =>
        go_enter Try.func56, Try.ntmps56
        go_wp2_with (first
          | ((with_reducible refine gate (N := 8) rfl ?_); refine wp_roof 38 Try.underlying38 rfl Try.infoRoof rfl (.tmp 3) rfl w.heap.size rfl r hr HX.out ?_)
          | (go_at_call 70; ((with_reducible refine (HR.out _).mono ?_); rintro e w1 ⟨rfl, hb1⟩))
          | (go_at_call 71; ((with_reducible refine (HE _ (HA.out.below hb1 (Nat.le_refl _))).out.mono ?_); rintro e w2 ⟨rfl, hb2⟩)))
        go_ret
        have b1 := B0.trans (hb1.mono (by simp))
        exact ⟨rfl, b1.trans (hb2.mono b1.size)⟩
      | false =>
        go_enter Try.func56, Try.ntmps56
        go_wp2_with (first
          | ((with_reducible refine gate (N := 8) rfl ?_); refine wp_roof 38 Try.underlying38 rfl Try.infoRoof rfl (.tmp 3) rfl w.heap.size rfl r hr HX.out ?_)
          | (go_at_call 70; ((with_reducible refine (HR.out _).mono ?_); rintro e w1 ⟨rfl, hb1⟩))
          | (go_at_call 71; ((with_reducible refine (HE _ (HA.out.below hb1 (Nat.le_refl _))).out.mono ?_); rintro e w2 ⟨rfl, hb2⟩)))
        go_ret
        have b1 := B0.trans (hb1.mono (by simp))
        exact ⟨rfl, b1.trans (hb2.mono b1.size)⟩
  exact key _ rfl (codeOf_012 _ _)
set_option maxRecDepth 100000 in
theorem c_isCarry (n : Int) (w : World) (g : Bool) (hg : inB n 1 20 = g) : Calls Try.prog 59 #[.int .i64 n] w fun e w' => e = .returned (.bool g) ∧ w = w' := by
  have HG := hid hg; clear hg
  go_enter Try.func59, Try.ntmps59
  go_wp2_with (go_at_call 46; (with_reducible refine (c_within64 _ _ _ _ _ HG.out).mono ?_); rintro e w9 ⟨rfl, rfl⟩)
  go_ret
  exact ⟨rfl, rfl⟩
end Go.Proofs.Ytjcmdihadblodaa
