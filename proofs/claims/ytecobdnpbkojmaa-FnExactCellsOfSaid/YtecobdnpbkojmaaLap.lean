/- The tiles of another course with a cell of a tile. -/
import Derived.Test.YtecobdnpbkojmaaHas
namespace Go.Proofs.Ytecobdnpbkojmaa
open Go.RowKit
set_option linter.unusedSimpArgs false
set_option linter.unusedVariables false

/-- One tile more, if it is one, and new. -/
def lapStep (d k : Int) (l : List (Int × Int)) : List (Int × Int) := if k ≠ -1 ∧ (d, k) ∉ l then l ++ [(d, k)] else l
def lapK (r : Rf) (c t d : Int) : Nat → List (Int × Int)
  | 0 => []
  | n + 1 => lapStep d (tileOf r d (firstOf r c t + n)) (lapK r c t d n)
/-- The tiles of a course that have a cell of a tile. -/
def lapL (r : Rf) (c t d : Int) : List (Int × Int) := if inB d 0 (r.h - 1) = true then lapK r c t d 2 else []
theorem lapStep_len (d k : Int) (l : List (Int × Int)) : (lapStep d k l).length ≤ l.length + 1 := by unfold lapStep; split <;> simp
theorem lapK_len (r : Rf) (c t d : Int) : ∀ n, (lapK r c t d n).length ≤ n
  | 0 => by simp [lapK]
  | n + 1 => by have := lapStep_len d (tileOf r d (firstOf r c t + n)) (lapK r c t d n); have := lapK_len r c t d n; simp only [lapK]; omega
theorem lapL_len (r : Rf) (c t d : Int) : (lapL r c t d).length ≤ 2 := by unfold lapL; split; exact lapK_len r c t d 2; simp
theorem tileOf_le {r : Rf} (hv : validB r = true) (d n : Int) : -1 ≤ tileOf r d n ∧ tileOf r d n ≤ 7 ∧ tileOf r d n < r.w := by
  have := valid_head hv
  unfold tileOf
  split <;> omega
theorem lapK_mem {r : Rf} (hv : validB r = true) {c t d : Int} : ∀ n, ∀ p ∈ lapK r c t d n, p.1 = d ∧ 0 ≤ p.2 ∧ p.2 < r.w
  | 0 => fun p hp => by simp [lapK] at hp
  | n + 1 => fun p hp => by
    have hle := tileOf_le hv d (firstOf r c t + n)
    simp only [lapK, lapStep] at hp
    split at hp
    · rcases List.mem_append.1 hp with h1 | h1
      · exact lapK_mem hv n p h1
      · rw [List.mem_singleton] at h1; subst h1
        dsimp only
        exact ⟨rfl, by omega, by omega⟩
    · exact lapK_mem hv n p hp
theorem lapL_mem {r : Rf} (hv : validB r = true) {c t d : Int} : ∀ p ∈ lapL r c t d, p.1 = d ∧ (0 ≤ p.1 ∧ p.1 ≤ r.h - 1) ∧ 0 ≤ p.2 ∧ p.2 < r.w := fun p hp => by
  unfold lapL at hp
  split at hp
  · rename_i h
    have := lapK_mem hv 2 p hp
    rw [inB_iff] at h
    omega
  · simp at hp
/-- What a call that returns a slice of places has left. -/
def RetS (w : World) (l : List (Int × Int)) (e : Ending) (w' : World) : Prop := ∃ v, e = .returned v ∧ Below w.heap.size w w' ∧ w'.ownsRow w.heap.size 43 2 v l.length (pcells l)
end Go.Proofs.Ytecobdnpbkojmaa
