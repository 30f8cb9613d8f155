/- cmp.Compare of numbers, and descending order. -/
import Derived.Test.YtjcmdihadblodaaRowI
namespace Go.Proofs.Ytjcmdihadblodaa
open Go.RowKit
set_option linter.unusedSimpArgs false
set_option linter.unusedVariables false

def cmpZ (x y : Int) : Int := if x < y then -1 else if y < x then 1 else 0
set_option maxRecDepth 100000 in
theorem c_isNaN (x : Int) (w : World) : Calls Try.prog 65 #[.int .i64 x] w fun e w' => e = .returned (.bool false) ∧ w = w' := by
  have hne : (x != x) = false := by simp
  go_enter Try.func65, Try.ntmps65
  go_wp2_with fail
  go_ret
  exact ⟨rfl, rfl⟩
set_option maxRecDepth 100000 in
theorem c_cmp (x y : Int) (w : World) : Calls Try.prog 42 #[.int .i64 x, .int .i64 y] w fun e w' => e = .returned (.int .i64 (cmpZ x y)) ∧ w = w' := by
  have h3 : (x < y ∧ cmpZ x y = -1) ∨ (¬ x < y ∧ y < x ∧ cmpZ x y = 1) ∨ (¬ x < y ∧ ¬ y < x ∧ cmpZ x y = 0) := by
    unfold cmpZ
    by_cases h1 : x < y
    · exact .inl ⟨h1, if_pos h1⟩
    · by_cases h2 : y < x
      · exact .inr (.inl ⟨h1, h2, by rw [if_neg h1, if_pos h2]⟩)
      · exact .inr (.inr ⟨h1, h2, by rw [if_neg h1, if_neg h2]⟩)
  rcases h3 with ⟨h1, h2⟩ | ⟨h1, h2, h3⟩ | ⟨h1, h2, h3⟩
  · rw [h2]
    have d1 : decide (x < y) = true := decide_eq_true h1
    clear h1 h2
    go_enter Try.func42, Try.ntmps42
    go_wp2_with (go_at_call 65; ((with_reducible refine (c_isNaN _ _).mono ?_); rintro e w1 ⟨rfl, rfl⟩))
    go_ret
    exact ⟨rfl, rfl⟩
  · rw [h3]
    have d1 : decide (x < y) = false := decide_eq_false h1
    have d2 : decide (x > y) = true := decide_eq_true h2
    clear h1 h2 h3
    go_enter Try.func42, Try.ntmps42
    go_wp2_with (go_at_call 65; ((with_reducible refine (c_isNaN _ _).mono ?_); rintro e w1 ⟨rfl, rfl⟩))
    go_ret
    exact ⟨rfl, rfl⟩
  · rw [h3]
    have d1 : decide (x < y) = false := decide_eq_false h1
    have d2 : decide (x > y) = false := decide_eq_false h2
    clear h1 h2 h3
    go_enter Try.func42, Try.ntmps42
    go_wp2_with (go_at_call 65; ((with_reducible refine (c_isNaN _ _).mono ?_); rintro e w1 ⟨rfl, rfl⟩))
    go_ret
    exact ⟨rfl, rfl⟩
set_option maxRecDepth 100000 in
theorem c_descClo (x y : Int) (w : World) : Calls Try.prog 41 #[.int .i64 x, .int .i64 y] w fun e w' => e = .returned (.int .i64 (cmpZ y x)) ∧ w = w' := by
  go_enter Try.func41, Try.ntmps41
  go_wp2_with (go_at_call 42; ((with_reducible refine (c_cmp _ _ _).mono ?_); rintro e w1 ⟨rfl, rfl⟩))
  go_ret
  exact ⟨rfl, rfl⟩
end Go.Proofs.Ytjcmdihadblodaa
