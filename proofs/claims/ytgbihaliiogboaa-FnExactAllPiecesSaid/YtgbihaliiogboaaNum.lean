/- The calls of the functions on numbers alone. -/
import Derived.Test.YtgbihaliiogboaaBase
namespace Go.Proofs.Ytgbihaliiogboaa
open Go.RowKit
set_option linter.unusedVariables false
set_option linter.unusedSimpArgs false

/-- Whether a number lies in a range. -/
def inB (n a b : Int) : Bool := decide (a ≤ n) && decide (n ≤ b)
theorem inB_true {n a b : Int} (h : a ≤ n ∧ n ≤ b) : inB n a b = true := by simpa [inB] using h
theorem inB_false {n a b : Int} (h : ¬ (a ≤ n ∧ n ≤ b)) : inB n a b = false := by
  cases hb : inB n a b with
  | false => rfl
  | true => exact absurd (by simpa [inB] using hb) h
theorem inB_iff {n a b : Int} : inB n a b = true ↔ a ≤ n ∧ n ≤ b := by simp [inB]
theorem inB_elim {n a b : Int} (h : inB n a b = false) : n < a ∨ b < n := by
  have : ¬ (a ≤ n ∧ n ≤ b) := fun h' => by rw [inB_true h'] at h; cases h
  omega
theorem c_within8 (n a b : Int) (w : World) (g : Bool) (h : inB n a b = g) : Calls Try.prog 85 #[.int .i8 n, .int .i8 a, .int .i8 b] w fun e w' => e = .returned (.bool g) ∧ w = w' := by
  subst h
  go_enter Try.func85, Try.ntmps85
  go_wp2
  · go_ret
    exact ⟨ret_bool (by simp [inB, *]), rfl⟩
  · go_ret
    exact ⟨ret_bool (inB_false (by omega)).symm, rfl⟩
theorem c_within64 (n a b : Int) (w : World) (g : Bool) (h : inB n a b = g) : Calls Try.prog 36 #[.int .i64 n, .int .i64 a, .int .i64 b] w fun e w' => e = .returned (.bool g) ∧ w = w' := by
  subst h
  go_enter Try.func36, Try.ntmps36
  go_wp2
  · go_ret
    exact ⟨ret_bool (by simp [inB, *]), rfl⟩
  · go_ret
    exact ⟨ret_bool (inB_false (by omega)).symm, rfl⟩
theorem c_withinI (n a b : Int) (w : World) (g : Bool) (h : inB n a b = g) : Calls Try.prog 58 #[.int .i64 n, .int .i64 a, .int .i64 b] w fun e w' => e = .returned (.bool g) ∧ w = w' := by
  subst h
  go_enter Try.func58, Try.ntmps58
  go_wp2
  · go_ret
    exact ⟨ret_bool (by simp [inB, *]), rfl⟩
  · go_ret
    exact ⟨ret_bool (inB_false (by omega)).symm, rfl⟩
theorem c_l00In (n a b : Int) (w : World) (g : Bool) (h : inB n a b = g) : Calls Try.prog 32 #[.int .i64 n, .int .i64 a, .int .i64 b] w fun e w' => e = .returned (.bool g) ∧ w = w' := by
  subst h
  go_enter Try.func32, Try.ntmps32
  go_wp2
  · go_ret
    exact ⟨ret_bool (by simp [inB, *]), rfl⟩
  · go_ret
    exact ⟨ret_bool (inB_false (by omega)).symm, rfl⟩
end Go.Proofs.Ytgbihaliiogboaa
