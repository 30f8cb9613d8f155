/- DaysFor: the plain part. -/
import Derived.Test.YtjcmdihadblodaaTimes
namespace Go.Proofs.Ytjcmdihadblodaa
open Go.RowKit
set_option linter.unusedSimpArgs false
set_option linter.unusedVariables false

/-- The first day on which a job fits, or how many days there are. -/
def fitN (s t : Int) (d : List Int) : Nat := d.findIdx fun x => decide (x + t ≤ s)
theorem fitN_le (s t : Int) (d : List Int) : fitN s t d ≤ d.length := List.findIdx_le_length
/-- The days, one job more. -/
def putD (s t : Int) (d : List Int) : List Int := if fitN s t d = d.length then d ++ [t] else d.set (fitN s t d) (d.getD (fitN s t d) 0 + t)
def dayS (s : Int) (st : List Int × List Int) (t : Int) : List Int × List Int := (putD s t st.1, st.2 ++ [(fitN s t st.1 : Int)])
def dayR (s : Int) (ts : List Int) : List Int × List Int := ts.foldl (dayS s) ([], [])
theorem dayR_succ (s : Int) (ts : List Int) (k : Nat) (hk : k < ts.length) : dayR s (ts.take (k + 1)) = dayS s (dayR s (ts.take k)) ts[k] := by
  unfold dayR
  rw [List.take_succ_eq_append_getElem hk, List.foldl_append]; rfl
theorem putD_len (s t : Int) (d : List Int) : (putD s t d).length ≤ d.length + 1 := by
  unfold putD
  split
  · simp
  · simp
theorem putD_b {s t : Int} {d : List Int} (ht : 0 ≤ t ∧ t ≤ s) (h : ∀ x ∈ d, 0 ≤ x ∧ x ≤ s) : ∀ x ∈ putD s t d, 0 ≤ x ∧ x ≤ s := by
  intro x hx
  unfold putD at hx
  split at hx
  · rcases List.mem_append.1 hx with h1 | h1
    · exact h x h1
    · obtain rfl : x = t := by simpa using h1
      exact ht
  · rename_i hne
    have hlt : fitN s t d < d.length := Nat.lt_of_le_of_ne (fitN_le s t d) hne
    rcases List.mem_or_eq_of_mem_set hx with h1 | h1
    · exact h x h1
    · have h2 : (fun x => decide (x + t ≤ s)) (d[fitN s t d]) = true := List.findIdx_getElem (w := hlt)
      have h3 := h _ (List.getElem_mem hlt)
      rw [List.getD_eq_getElem?_getD, List.getElem?_eq_getElem hlt, Option.getD_some] at h1
      have h4 := of_decide_eq_true h2
      omega
theorem dayR_b {s : Int} {ts : List Int} (h : ∀ t ∈ ts, 0 ≤ t ∧ t ≤ s) : ∀ k, k ≤ ts.length → (∀ x ∈ (dayR s (ts.take k)).1, 0 ≤ x ∧ x ≤ s) ∧ (dayR s (ts.take k)).1.length ≤ k ∧ (dayR s (ts.take k)).2.length = k := by
  intro k
  induction k with
  | zero => intro _; simp [dayR]
  | succ k ih =>
    intro hk
    obtain ⟨h1, h2, h3⟩ := ih (by omega)
    rw [dayR_succ s ts k (by omega)]
    refine ⟨putD_b (h _ (List.getElem_mem _)) h1, ?_, ?_⟩
    · have := putD_len s ts[k] (dayR s (ts.take k)).1
      show (putD s _ _).length ≤ _
      omega
    · show ((dayR s (ts.take k)).2 ++ [_]).length = _
      rw [List.length_append, h3]; rfl
/-- What is left of each day: where a job fits. -/
theorem idxI_left (s t : Int) (d : List Int) : idxI (fun n => decide (t ≤ n)) (d.map fun x => s - x) = if fitN s t d = d.length then -1 else (fitN s t d : Int) := by
  have e : (fun n => decide (t ≤ n)) ∘ (fun x => s - x) = fun x : Int => decide (x + t ≤ s) := by
    funext x
    show decide (t ≤ s - x) = decide (x + t ≤ s)
    rw [decide_eq_decide]; omega
  unfold idxI
  rw [List.any_map, e, List.findIdx_map, e]
  by_cases h : d.any (fun x => decide (x + t ≤ s)) = true
  · rw [if_pos h]
    have h2 : fitN s t d < d.length := by
      obtain ⟨x, hx, hx2⟩ := List.any_eq_true.1 h
      exact List.findIdx_lt_length_of_exists ⟨x, hx, hx2⟩
    rw [if_neg (by omega)]; rfl
  · rw [if_neg h]
    have h2 : fitN s t d = d.length := List.findIdx_eq_length.2 fun x hx => by
      cases hq : decide (x + t ≤ s) with
      | false => rfl
      | true => exact absurd (List.any_eq_true.2 ⟨x, hx, hq⟩) h
    rw [if_pos h2]
end Go.Proofs.Ytjcmdihadblodaa
