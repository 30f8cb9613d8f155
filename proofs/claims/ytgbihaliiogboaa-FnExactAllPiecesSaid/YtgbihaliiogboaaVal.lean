/- Validity of roofs: the program's and the reference's. -/
import Derived.Test.YtgbihaliiogboaaRoof
import Derived.Test.YtgbihaliiogboaaNum
namespace Go.Proofs.Ytgbihaliiogboaa
open Go.RowKit
set_option linter.unusedVariables false
set_option linter.unusedSimpArgs false

/-- What a roof has to be at one place. -/
def tileOk (r : Rf) (i k : Nat) : Bool := decide (r.at i k ≤ 3) && (decide (r.at i k = 0) || (decide ((i : Int) < r.h) && decide ((k : Int) < r.w)))
def headOk (r : Rf) : Bool := inB r.w 1 8 && (inB r.h 1 8 && decide (r.s ≤ 1))
/-- Whether a roof is valid. -/
def validB (r : Rf) : Bool := headOk r && (List.range 8).all fun i => (List.range 8).all fun k => tileOk r i k
theorem validB_true {r : Rf} (h : headOk r = true) (ht : ∀ i k, i < 8 → k < 8 → tileOk r i k = true) : validB r = true := by
  simp [validB, h]; intro i hi k hk; exact ht i k hi hk
theorem validB_tile {r : Rf} {i k : Nat} (hi : i < 8) (hk : k < 8) (h : tileOk r i k = false) : validB r = false := by
  cases hv : validB r with
  | false => rfl
  | true => simp [validB] at hv; have := hv.2 i hi k hk; simp [h] at this
theorem validB_head {r : Rf} (h : headOk r = false) : validB r = false := by simp [validB, h]

theorem tileYes {r : Rf} {i k : Nat} (h : r.at i k ≤ 3 ∧ (r.at i k = 0 ∨ ((i : Int) < r.h ∧ (k : Int) < r.w))) : tileOk r i k = true := by simpa [tileOk] using h
theorem tileNo {r : Rf} {i k : Nat} (h : ¬ (r.at i k ≤ 3 ∧ (r.at i k = 0 ∨ ((i : Int) < r.h ∧ (k : Int) < r.w)))) : tileOk r i k = false := by
  cases ht : tileOk r i k with
  | false => rfl
  | true => exact absurd (by simpa [tileOk] using ht) h

/-- Whether there is a place. -/
def isPl (r : Rf) (c t : Int) : Bool := inB c 0 (r.h - 1) && inB t 0 (r.w - 1)

theorem isPl_true {r : Rf} {c t : Int} (h : 0 ≤ c ∧ c ≤ r.h - 1 ∧ 0 ≤ t ∧ t ≤ r.w - 1) : isPl r c t = true := by
  unfold isPl; rw [inB_true ⟨h.1, h.2.1⟩, inB_true ⟨h.2.2.1, h.2.2.2⟩]; rfl
theorem isPl_iff {r : Rf} {c t : Int} : isPl r c t = true ↔ 0 ≤ c ∧ c ≤ r.h - 1 ∧ 0 ≤ t ∧ t ≤ r.w - 1 := by
  unfold isPl; rw [Bool.and_eq_true, inB_iff, inB_iff]; omega
theorem isPl_false {r : Rf} {c t : Int} (h : ¬ (0 ≤ c ∧ c ≤ r.h - 1 ∧ 0 ≤ t ∧ t ≤ r.w - 1)) : isPl r c t = false := by
  cases hp : isPl r c t with
  | false => rfl
  | true => exact absurd (isPl_iff.1 hp) h

end Go.Proofs.Ytgbihaliiogboaa
