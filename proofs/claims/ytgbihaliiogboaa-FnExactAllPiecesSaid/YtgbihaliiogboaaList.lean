/- Lists of places in memory; the code of a roof and of places. -/
import Derived.Test.YtgbihaliiogboaaKind
namespace Go.Proofs.Ytgbihaliiogboaa
open Go.RowKit
set_option linter.unusedSimpArgs false
set_option linter.unusedVariables false

/-- A slice's elements, places, lie at A. -/
def SlP (w : World) (A : Option Addr) (l : List (Int × Int)) : Prop := ∀ j p, l[j]? = some p → ∃ b off, A = some ⟨b, off, none⟩ ∧ b < w.heap.size ∧ w.cell? ⟨b, off + j * 2, none⟩ = some (.int .i8 p.1) ∧ w.cell? ⟨b, off + j * 2 + 1, none⟩ = some (.int .i8 p.2)
theorem SlP.nil (w : World) (A : Option Addr) : SlP w A [] := fun j p h => by simp at h
theorem SlP.below {B : Nat} {w w' : World} {A : Option Addr} {l : List (Int × Int)} (h : SlP w A l) (hb : Below B w w') (hB : w.heap.size ≤ B) : SlP w' A l := fun j p hj => by
  obtain ⟨b, off, e, h1, h2, h3⟩ := h j p hj
  exact ⟨b, off, e, Nat.lt_of_lt_of_le h1 hb.size, (hb.cell (p := ⟨b, _, none⟩) (by show b < B; omega)).trans h2, (hb.cell (p := ⟨b, _, none⟩) (by show b < B; omega)).trans h3⟩
/-- The numbers of places are of their kinds. -/
def PlB (l : List (Int × Int)) : Prop := ∀ p ∈ l, (-128 ≤ p.1 ∧ p.1 ≤ 127) ∧ (-128 ≤ p.2 ∧ p.2 ≤ 127)
/-- The code of a roof, of what has to be so, and of how many places there are. -/
def codeL (v g : Bool) (n : Nat) : Int := if codeOf v g = 0 ∧ 8 < n then 3 else codeOf v g
theorem codeL_cases (v g : Bool) (n : Nat) : (v = false ∧ codeL v g n = 1) ∨ (v = true ∧ g = false ∧ codeL v g n = 2) ∨ (v = true ∧ g = true ∧ 8 < n ∧ codeL v g n = 3) ∨ (v = true ∧ g = true ∧ n ≤ 8 ∧ codeL v g n = 0) := by
  cases v <;> cases g <;> by_cases h : 8 < n <;> simp [codeL, codeOf, h] <;> omega
def allPl (r : Rf) (l : List (Int × Int)) : Bool := l.all fun p => isPl r p.1 p.2
theorem allPl_snoc (r : Rf) (l : List (Int × Int)) (k : Nat) (p : Int × Int) (h : l[k]? = some p) : allPl r (l.take (k + 1)) = (allPl r (l.take k) && isPl r p.1 p.2) := by
  obtain ⟨hk, rfl⟩ := List.getElem?_eq_some_iff.1 h
  unfold allPl
  rw [List.take_succ_eq_append_getElem hk, List.all_append]
  simp

end Go.Proofs.Ytgbihaliiogboaa
