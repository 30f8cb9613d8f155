/- Rows of rows that a call owns. -/
import Derived.Test.YtgbihaliiogboaaRow
namespace Go.Proofs.Ytgbihaliiogboaa
open Go.RowKit
set_option linter.unusedSimpArgs false
set_option linter.unusedVariables false

/-- Slices, each with an array of its own, none of them that of vout; slice j holds the cells xss[j]. -/
structure RowsG (B : Nat) (T : TypeId) (sz : Nat) (w : World) (vout : Value) (vs : List Value) (xss : List (Nat × List Value)) : Prop where
  len : vs.length = xss.length
  row : ∀ (j : Nat) (v : Value) (x : Nat × List Value), vs[j]? = some v → xss[j]? = some x → w.ownsRow B T sz v x.1 x.2 ∧ Apart v vout
  sep : ∀ (i j : Nat) (v v' : Value), i ≠ j → vs[i]? = some v → vs[j]? = some v' → Apart v v'
theorem RowsG.nil (B : Nat) (T : TypeId) (sz : Nat) (w : World) (vout : Value) : RowsG B T sz w vout [] [] := ⟨rfl, fun j v x h => by simp at h, fun i j v v' _ h => by simp at h⟩
theorem RowsG.below {B B' : Nat} {T : TypeId} {sz : Nat} {w w' : World} {vout : Value} {vs : List Value} {xss : List (Nat × List Value)} (h : RowsG B T sz w vout vs xss) (hb : Below B' w w') (hB : w.heap.size ≤ B') : RowsG B T sz w' vout vs xss :=
  ⟨h.len, fun j v x hv hx => ⟨owns_below2 (h.row j v x hv hx).1 hb hB, (h.row j v x hv hx).2⟩, h.sep⟩
/-- The outer slice has grown. -/
theorem RowsG.grew {B : Nat} {T : TypeId} {sz : Nat} {w w' : World} {vout vout' : Value} {vs : List Value} {xss : List (Nat × List Value)} (h : RowsG B T sz w vout vs xss) (hg : Grew vout vout' w w') : RowsG B T sz w' vout' vs xss :=
  ⟨h.len, fun j v x hv hx => ⟨hg.row (h.row j v x hv hx).1 (h.row j v x hv hx).2, hg.apart (h.row j v x hv hx).1 (h.row j v x hv hx).2⟩, h.sep⟩
theorem RowsG.lt {B : Nat} {T : TypeId} {sz : Nat} {w : World} {vout : Value} {vs : List Value} {xss : List (Nat × List Value)} (h : RowsG B T sz w vout vs xss) {j : Nat} {v : Value} (hv : vs[j]? = some v) : ∀ g, v.ownBlock = some g → B ≤ g ∧ g < w.heap.size := by
  have hj := (List.getElem?_eq_some_iff.1 hv).1
  have hx := List.getElem?_eq_getElem (h.len ▸ hj : j < xss.length)
  exact (h.row j v _ hv hx).1.lt
/-- One slice more, with an array from block H on. -/
theorem RowsG.snoc {B H : Nat} {T : TypeId} {sz : Nat} {w : World} {vout : Value} {vs : List Value} {xss : List (Nat × List Value)} (h : RowsG B T sz w vout vs xss) {v : Value} {x : Nat × List Value} (hv : w.ownsRow B T sz v x.1 x.2) (hnew : ∀ g, v.ownBlock = some g → H ≤ g)
    (hold : ∀ (j : Nat) (u : Value) (g : Nat), vs[j]? = some u → u.ownBlock = some g → g < H) (hout : ∀ g, vout.ownBlock = some g → g < H) : RowsG B T sz w vout (vs ++ [v]) (xss ++ [x]) := by
  have hva : ∀ (j : Nat) (u : Value), vs[j]? = some u → Apart u v := fun j u hu g h1 h2 => by have := hold j u g hu h1; have := hnew g h2; omega
  refine ⟨by simp [h.len], ?_, ?_⟩
  · intro j u y hu hy
    by_cases hj : j < vs.length
    · rw [List.getElem?_append_left hj] at hu
      rw [List.getElem?_append_left (h.len ▸ hj)] at hy
      exact h.row j u y hu hy
    · have hj2 : j < vs.length + 1 := by have := (List.getElem?_eq_some_iff.1 hu).1; simpa using this
      have hj3 : j = vs.length := by omega
      rw [List.getElem?_append_right (by omega), hj3] at hu
      rw [List.getElem?_append_right (by have := h.len; omega), hj3, h.len] at hy
      simp at hu hy
      subst hu hy
      exact ⟨hv, fun g h1 h2 => by have := hnew g h1; have := hout g h2; omega⟩
  · intro i j u u' hij hu hu'
    have key : ∀ (i : Nat) (u : Value), (vs ++ [v])[i]? = some u → (i < vs.length ∧ vs[i]? = some u) ∨ (i = vs.length ∧ u = v) := by
      intro i u hu
      by_cases hi : i < vs.length
      · left; rw [List.getElem?_append_left hi] at hu; exact ⟨hi, hu⟩
      · right
        have hi2 : i < vs.length + 1 := by have := (List.getElem?_eq_some_iff.1 hu).1; simpa using this
        have hi3 : i = vs.length := by omega
        rw [List.getElem?_append_right (by omega), hi3] at hu
        simp at hu
        exact ⟨hi3, hu.symm⟩
    rcases key i u hu with ⟨_, h1⟩ | ⟨h1, h2⟩ <;> rcases key j u' hu' with ⟨_, h3⟩ | ⟨h3, h4⟩
    · exact h.sep i j u u' hij h1 h3
    · subst h4; exact hva i u h1
    · subst h2; exact (hva j u' h3).symm
    · omega

theorem owns_one {w : World} {base : Nat} {T : TypeId} {s n : Nat} {v : Value} {xs : List Value} (h : w.ownsRow base T s v n xs) : v.oneCell' = true := by
  obtain ⟨A, c, rfl⟩ := owns_slc h; rfl
end Go.Proofs.Ytgbihaliiogboaa
