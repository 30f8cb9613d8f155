/- The laws' conversions of roofs and places. -/
import Derived.Test.YtgbihaliiogboaaRoof
namespace Go.Proofs.Ytgbihaliiogboaa
open Go.RowKit
set_option linter.unusedVariables false
set_option linter.unusedSimpArgs false

/-- The first k elements of t, the rest zero. -/
def upd (t : List Int) (k : Nat) : List Int := t.take k ++ List.replicate (t.length - k) 0
theorem upd_all (t : List Int) : upd t t.length = t := by simp [upd]
theorem len_upd (t : List Int) (k : Nat) : (upd t k).length = t.length := by simp [upd]; omega
theorem upd_set (t : List Int) (k : Nat) (hk : k < t.length) : (tcells (upd t k)).setIfInBounds k (.int .u8 (t.getD k 0)) = tcells (upd t (k + 1)) := by
  apply Array.ext_getElem?
  intro j
  have hd : List.replicate (t.length - k) (0 : Int) = 0 :: List.replicate (t.length - (k + 1)) 0 := by
    have : t.length - k = (t.length - (k + 1)) + 1 := by omega
    rw [this]; rfl
  simp only [Array.getElem?_setIfInBounds, tcells, upd, List.getElem?_toArray, List.size_toArray, List.length_map, List.length_append, List.length_take, List.length_replicate, List.getElem?_map]
  by_cases hj : k = j
  · subst hj
    rw [if_pos rfl, if_pos (by omega), List.take_succ_eq_append_getElem hk, List.append_assoc, List.getElem?_append_right (by simp; omega)]
    have e : k - (List.take k t).length = 0 := by simp; omega
    rw [e]
    simp [List.getD, List.getElem?_eq_getElem hk]
  · rw [if_neg hj, List.take_succ_eq_append_getElem hk, List.append_assoc]
    by_cases hlt : j < k
    · rw [List.getElem?_append_left (by simp; omega), List.getElem?_append_left (by simp; omega)]
    · rw [List.getElem?_append_right (by simp; omega), List.getElem?_append_right (by simp; omega)]
      have e : (List.take k t).length = k := by simp; omega
      rw [e, hd]
      have e2 : j - k = (j - k - 1) + 1 := by omega
      rw [e2]
      simp

theorem tc_ext {cs : Array Value} {t : List Int} (hs : cs.size = t.length) (h : ∀ j, j < t.length → cs[j]? = some (.int .u8 (t.getD j 0))) : cs = tcells t := by
  apply Array.ext_getElem?
  intro j
  by_cases hj : j < t.length
  · rw [h j hj, tc_at t j hj]
  · rw [Array.getElem?_eq_none (by omega), Array.getElem?_eq_none (by rw [size_tcells]; omega)]
theorem upd_at (t : List Int) (k j : Nat) (hj : j < t.length) : (upd t k).getD j 0 = if j < k then t.getD j 0 else 0 := by
  unfold upd
  simp only [List.getD]
  by_cases h : j < k
  · rw [if_pos h, List.getElem?_append_left (by simp; omega), List.getElem?_take, if_pos h]
  · rw [if_neg h, List.getElem?_append_right (by simp; omega), List.getElem?_replicate]
    split <;> rfl
theorem upd_row (t : List Int) (ht : t.length = 64) (k : Nat) (hk : k < 8) : setAll (tcells (upd t (8 * k))) (k * 8) (tcells (trow t k)).toList = tcells (upd t (8 * (k + 1))) := by
  have hr := len_trow t ht k hk
  apply setAll_eq
  · simp [size_tcells, len_upd, ht, tcells, hr]; omega
  · simp [size_tcells, len_upd]
  · intro j hj
    rw [size_tcells, len_upd] at hj
    rw [tc_at _ j (by rw [len_upd]; exact hj), upd_at _ _ _ hj]
    by_cases h1 : k * 8 ≤ j ∧ j < k * 8 + (tcells (trow t k)).toList.length
    · rw [if_pos h1]
      have h2 : j < k * 8 + 8 := by simpa [tcells, hr] using h1.2
      have e : (tcells (trow t k)).toList[j - k * 8]? = some (.int .u8 ((trow t k).getD (j - k * 8) 0)) := by
        rw [Array.getElem?_toList, tc_at _ _ (by omega)]
      rw [e, trow_at t k _ (by omega), if_pos (by omega)]
      congr 3
      omega
    · rw [if_neg h1, tc_at _ j (by rw [len_upd]; exact hj), upd_at _ _ _ hj]
      have h3 : ¬ (k * 8 ≤ j ∧ j < k * 8 + 8) := by
        simpa [tcells, hr] using h1
      by_cases h4 : j < 8 * k
      · rw [if_pos (by omega), if_pos h4]
      · rw [if_neg (by omega), if_neg h4]

end Go.Proofs.Ytgbihaliiogboaa
