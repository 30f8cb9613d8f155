/- KindAt, the program's and the reference's. -/
import Derived.Test.YtjcmdihadblodaaKind
namespace Go.Proofs.Ytjcmdihadblodaa
open Go.RowKit
set_option linter.unusedSimpArgs false
set_option linter.unusedVariables false

/-- What KindAt returns. -/
def kindAtV (r : Rf) (c t : Int) : Int := if codeOf (validB r) (isPl r c t) = 0 then r.at c.toNat t.toNat else 0
theorem codeOf_pl0 {r : Rf} {c t : Int} (h : codeOf (validB r) (isPl r c t) = 0) : validB r = true ∧ (0 ≤ c ∧ c ≤ r.h - 1 ∧ 0 ≤ t ∧ t ≤ r.w - 1) ∧ (0 ≤ c ∧ c ≤ 7) ∧ (0 ≤ t ∧ t ≤ 7) := by
  rcases codeOf_cases (validB r) (isPl r c t) with ⟨_, h1⟩ | ⟨_, _, h1⟩ | ⟨h1, h2, _⟩
  · rw [h1] at h; cases h
  · rw [h1] at h; cases h
  · have := valid_head h1; have := isPl_iff.1 h2; exact ⟨h1, by omega⟩
end Go.Proofs.Ytjcmdihadblodaa
