/- The calls of the functions on numbers alone. -/
import Derived.Test.YtecobdnpbkojmaaBase
namespace Go.Proofs.Ytecobdnpbkojmaa
open Go.RowKit
set_option linter.unusedVariables false
set_option linter.unusedSimpArgs false

/-- Whether a number lies in a range. -/
def inB (n a b : Int) : Bool := decide (a ≤ n) && decide (n ≤ b)
theorem inB_true {n a b : Int} (h : a ≤ n ∧ n ≤ b) : inB n a b = true := by simpa [inB] using h
theorem inB_false {n a b : Int} (h : ¬ (a ≤ n ∧ n ≤ b)) : inB n a b = false := by
  cases hb : inB n a b with
  | false => rfl
  | true => exact absurd (by simpa [inB] using hb) h
theorem inB_iff {n a b : Int} : inB n a b = true ↔ a ≤ n ∧ n ≤ b := by simp [inB]
theorem inB_elim {n a b : Int} (h : inB n a b = false) : n < a ∨ b < n := by
  have : ¬ (a ≤ n ∧ n ≤ b) := fun h' => by rw [inB_true h'] at h; cases h
  omega
theorem c_within8 (n a b : Int) (w : World) (g : Bool) (h : inB n a b = g) : Calls Try.prog 54 #[.int .i8 n, .int .i8 a, .int .i8 b] w fun e w' => e = .returned (.bool g) ∧ w = w' := by
  subst h
  go_enter Try.func54, Try.ntmps54
  go_wp2
  · go_ret
    exact ⟨ret_bool (by simp [inB, *]), rfl⟩
  · go_ret
    exact ⟨ret_bool (inB_false (by omega)).symm, rfl⟩
theorem c_within64 (n a b : Int) (w : World) (g : Bool) (h : inB n a b = g) : Calls Try.prog 60 #[.int .i64 n, .int .i64 a, .int .i64 b] w fun e w' => e = .returned (.bool g) ∧ w = w' := by
  subst h
  go_enter Try.func60, Try.ntmps60
  go_wp2
  · go_ret
    exact ⟨ret_bool (by simp [inB, *]), rfl⟩
  · go_ret
    exact ⟨ret_bool (inB_false (by omega)).symm, rfl⟩
theorem c_l00In (n a b : Int) (w : World) (g : Bool) (h : inB n a b = g) : Calls Try.prog 52 #[.int .i64 n, .int .i64 a, .int .i64 b] w fun e w' => e = .returned (.bool g) ∧ w = w' := by
  subst h
  go_enter Try.func52, Try.ntmps52
  go_wp2
  · go_ret
    exact ⟨ret_bool (by simp [inB, *]), rfl⟩
  · go_ret
    exact ⟨ret_bool (inB_false (by omega)).symm, rfl⟩
theorem c_l01Kind (n : Int) (w : World) (g : Bool) (h : inB n 0 3 = g) : Calls Try.prog 38 #[.int .i64 n] w fun e w' => e = .returned (.bool g) ∧ w = w' := by
  go_enter Try.func38, Try.ntmps38
  go_wp2_with (go_at_call 52; (with_reducible refine (c_l00In _ _ _ _ g h).mono ?_); rintro e w' ⟨rfl, rfl⟩)
  go_ret
  exact ⟨rfl, rfl⟩
theorem c_isKind (n : Int) (w : World) (g : Bool) (h : inB n 0 3 = g) : Calls Try.prog 41 #[.int .i64 n] w fun e w' => e = .returned (.bool g) ∧ w = w' := by
  go_enter Try.func41, Try.ntmps41
  go_wp2_with (go_at_call 60; (with_reducible refine (c_within64 _ _ _ _ g h).mono ?_); rintro e w' ⟨rfl, rfl⟩)
  go_ret
  exact ⟨rfl, rfl⟩
end Go.Proofs.Ytecobdnpbkojmaa
