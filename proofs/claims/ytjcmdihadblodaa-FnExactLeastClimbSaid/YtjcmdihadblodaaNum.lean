/- The calls of the functions on numbers alone. -/
import Derived.Test.YtjcmdihadblodaaBase
namespace Go.Proofs.Ytjcmdihadblodaa
open Go.RowKit
set_option linter.unusedVariables false
set_option linter.unusedSimpArgs false

/-- Whether a number lies in a range. -/
def inB (n a b : Int) : Bool := decide (a ≤ n) && decide (n ≤ b)
theorem inB_true {n a b : Int} (h : a ≤ n ∧ n ≤ b) : inB n a b = true := by simpa [inB] using h
theorem inB_false {n a b : Int} (h : ¬ (a ≤ n ∧ n ≤ b)) : inB n a b = false := by
  cases hb : inB n a b with
  | false => rfl
  | true => exact absurd (by simpa [inB] using hb) h
theorem inB_iff {n a b : Int} : inB n a b = true ↔ a ≤ n ∧ n ≤ b := by simp [inB]
theorem inB_elim {n a b : Int} (h : inB n a b = false) : n < a ∨ b < n := by
  have : ¬ (a ≤ n ∧ n ≤ b) := fun h' => by rw [inB_true h'] at h; cases h
  omega
theorem c_within8 (n a b : Int) (w : World) (g : Bool) (h : inB n a b = g) : Calls Try.prog 75 #[.int .i8 n, .int .i8 a, .int .i8 b] w fun e w' => e = .returned (.bool g) ∧ w = w' := by
  subst h
  go_enter Try.func75, Try.ntmps75
  go_wp2
  · go_ret
    exact ⟨ret_bool (by simp [inB, *]), rfl⟩
  · go_ret
    exact ⟨ret_bool (inB_false (by omega)).symm, rfl⟩
theorem c_within64 (n a b : Int) (w : World) (g : Bool) (h : inB n a b = g) : Calls Try.prog 46 #[.int .i64 n, .int .i64 a, .int .i64 b] w fun e w' => e = .returned (.bool g) ∧ w = w' := by
  subst h
  go_enter Try.func46, Try.ntmps46
  go_wp2
  · go_ret
    exact ⟨ret_bool (by simp [inB, *]), rfl⟩
  · go_ret
    exact ⟨ret_bool (inB_false (by omega)).symm, rfl⟩
theorem c_l00In (n a b : Int) (w : World) (g : Bool) (h : inB n a b = g) : Calls Try.prog 43 #[.int .i64 n, .int .i64 a, .int .i64 b] w fun e w' => e = .returned (.bool g) ∧ w = w' := by
  subst h
  go_enter Try.func43, Try.ntmps43
  go_wp2
  · go_ret
    exact ⟨ret_bool (by simp [inB, *]), rfl⟩
  · go_ret
    exact ⟨ret_bool (inB_false (by omega)).symm, rfl⟩
theorem c_l01Kind (n : Int) (w : World) (g : Bool) (h : inB n 0 3 = g) : Calls Try.prog 87 #[.int .i64 n] w fun e w' => e = .returned (.bool g) ∧ w = w' := by
  go_enter Try.func87, Try.ntmps87
  go_wp2_with (go_at_call 43; (with_reducible refine (c_l00In _ _ _ _ g h).mono ?_); rintro e w' ⟨rfl, rfl⟩)
  go_ret
  exact ⟨rfl, rfl⟩
end Go.Proofs.Ytjcmdihadblodaa
