/- Codes of roofs; places, courses, shifts: the program's and the reference's small functions. -/
import Derived.Test.YtgbihaliiogboaaVal
namespace Go.Proofs.Ytgbihaliiogboaa
open Go.RowKit
set_option linter.unusedSimpArgs false
set_option linter.unusedVariables false

/-- The code of a roof and of what has to be so. -/
def codeOf (v g : Bool) : Int := if v = true then (if g = true then 0 else 2) else 1
theorem codeOf_cases (v g : Bool) : (v = false ∧ codeOf v g = 1) ∨ (v = true ∧ g = false ∧ codeOf v g = 2) ∨ (v = true ∧ g = true ∧ codeOf v g = 0) := by cases v <;> cases g <;> simp [codeOf]
theorem codeOf_012 (v g : Bool) : codeOf v g = 1 ∨ codeOf v g = 2 ∨ codeOf v g = 0 := by cases v <;> cases g <;> simp [codeOf]
theorem codeOf_zero {v g : Bool} (h : codeOf v g = 0) : v = true ∧ g = true := by cases v <;> cases g <;> simp [codeOf] at h <;> simp
theorem valid_head {r : Rf} (h : validB r = true) : 1 ≤ r.w ∧ r.w ≤ 8 ∧ 1 ≤ r.h ∧ r.h ≤ 8 ∧ r.s ≤ 1 := by
  simp only [validB, headOk, Bool.and_eq_true, inB_iff, decide_eq_true_eq] at h
  omega
theorem valid_tile {r : Rf} (h : validB r = true) {i k : Nat} (hi : i < 8) (hk : k < 8) : r.at i k ≤ 3 ∧ (r.at i k = 0 ∨ ((i : Int) < r.h ∧ (k : Int) < r.w)) := by
  have : tileOk r i k = true := by
    cases ht : tileOk r i k with
    | true => rfl
    | false => rw [validB_tile hi hk ht] at h; cases h
  simpa [tileOk] using this

/-- 1 for a course that is shifted, 0 otherwise. -/
def shiftOf (r : Rf) (n : Int) : Int := (n + r.s) % 2
theorem shiftOf_01 (r : Rf) (n : Int) : 0 ≤ shiftOf r n ∧ shiftOf r n ≤ 1 := by unfold shiftOf; omega
/-- Whether a roof has a place, in int8. -/
def hasB (r : Rf) (c t : Int) : Bool := inB c 0 (IntKind.i8.wrap (r.h - 1)) && inB t 0 (IntKind.i8.wrap (r.w - 1))
theorem hasB_valid {r : Rf} (h : validB r = true) (c t : Int) : hasB r c t = isPl r c t := by
  have := valid_head h
  have e1 : IntKind.i8.wrap (r.h - 1) = r.h - 1 := by simp [IntKind.wrap, IntKind.bits, IntKind.signed]; omega
  have e2 : IntKind.i8.wrap (r.w - 1) = r.w - 1 := by simp [IntKind.wrap, IntKind.bits, IntKind.signed]; omega
  unfold hasB isPl; rw [e1, e2]
theorem codeOf_has (r : Rf) (c t : Int) (g : Bool) : codeOf (validB r) (hasB r c t && g) = codeOf (validB r) (isPl r c t && g) := by
  cases hv : validB r with
  | false => rfl
  | true => rw [hasB_valid hv]
theorem Calls.ext_hid {B : Nat} {W : World} (h : B ≤ W.heap.size) : Hid (B ≤ W.heap.size) := h
end Go.Proofs.Ytgbihaliiogboaa
