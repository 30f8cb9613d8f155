/- A kind replaced; SetTile, the program's and the reference's. -/
import Derived.Test.YtecobdnpbkojmaaKind
namespace Go.Proofs.Ytecobdnpbkojmaa
open Go.RowKit
set_option linter.unusedSimpArgs false
set_option linter.unusedVariables false

/-- A roof with another kind at one place. -/
def Rf.set (r : Rf) (i k : Nat) (v : Int) : Rf := { r with t := r.t.set (8 * i + k) v }
theorem Rf.set_ok {r : Rf} (h : r.Ok) (i k : Nat) {v : Int} (hv : 0 ≤ v ∧ v ≤ 255) : (r.set i k v).Ok :=
  ⟨h.w1, h.w2, h.h1, h.h2, h.s1, h.s2, by simp [Rf.set, h.len], fun n hn => by
    rcases List.mem_or_eq_of_mem_set hn with h1 | rfl
    · exact h.t1 n h1
    · exact hv⟩
theorem rset (r : Rf) (h : r.Ok) (i k : Nat) (v : Int) : (rcells r).setIfInBounds (3 + i * 8 + k) (.int .u8 v) = rcells (r.set i k v) := by
  apply Array.toList_inj.1
  have e : 3 + i * 8 + k = (8 * i + k) + 1 + 1 + 1 := by omega
  rw [e]
  simp [rcells, Rf.set, List.map_set]
end Go.Proofs.Ytecobdnpbkojmaa
