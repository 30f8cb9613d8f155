/- Climbs in chunks: the plain part. -/
import Derived.Test.YtjcmdihadblodaaNum
namespace Go.Proofs.Ytjcmdihadblodaa
open Go.RowKit
set_option linter.unusedSimpArgs false
set_option linter.unusedVariables false

/-- The greatest of 0 and some numbers, from a start on. -/
def maxA (a : Int) (l : List Int) : Int := l.foldl (fun a t => if a > t then a else t) a
theorem maxA_nil (a : Int) : maxA a [] = a := rfl
theorem maxA_cons (a t : Int) (l : List Int) : maxA a (t :: l) = maxA (if a > t then a else t) l := rfl
theorem maxA_snoc (a t : Int) (l : List Int) : maxA a (l ++ [t]) = if maxA a l > t then maxA a l else t := by simp [maxA]
theorem maxA_b {l : List Int} {m : Int} (hl : ∀ x ∈ l, 0 ≤ x ∧ x ≤ m) : ∀ a : Int, 0 ≤ a → a ≤ m → 0 ≤ maxA a l ∧ maxA a l ≤ m := by
  induction l with
  | nil => intro a h1 h2; exact ⟨h1, h2⟩
  | cons t l ih =>
    intro a h1 h2
    have ht := hl t (by simp)
    rw [maxA_cons]
    refine ih (fun x hx => hl x (by simp [hx])) _ ?_ ?_ <;> split <;> omega
/-- Chunk j of k numbers. -/
def chunkJ (l : List Int) (k j : Nat) : List Int := (l.drop (j * k)).take k
/-- How many chunks there are. -/
def chunkN (n k : Nat) : Nat := (n + k - 1) / k
theorem chunkN_lt {n k : Nat} (hk : 0 < k) (j : Nat) : j < chunkN n k ↔ j * k < n := by
  unfold chunkN
  rw [Nat.lt_div_iff_mul_lt hk]
  omega
/-- All rungs, of the chunks that are told. -/
def rungs (l : List Int) (k : Nat) (js : List Nat) : Int := (js.map fun j => 2 * maxA 0 (chunkJ l k j)).sum
theorem rungs_snoc (l : List Int) (k : Nat) (js : List Nat) (j : Nat) : rungs l k (js ++ [j]) = rungs l k js + 2 * maxA 0 (chunkJ l k j) := by simp [rungs]
theorem chunkJ_b {l : List Int} {m : Int} (hl : ∀ x ∈ l, 0 ≤ x ∧ x ≤ m) (k j : Nat) : ∀ x ∈ chunkJ l k j, 0 ≤ x ∧ x ≤ m := fun x hx => hl x (List.mem_of_mem_drop (List.mem_of_mem_take hx))
theorem rungs_b {l : List Int} {m : Int} (hm : 0 ≤ m) (hl : ∀ x ∈ l, 0 ≤ x ∧ x ≤ m) (k : Nat) (js : List Nat) : 0 ≤ rungs l k js ∧ rungs l k js ≤ 2 * m * js.length := by
  induction js with
  | nil => simp [rungs]
  | cons j js ih =>
    have h := maxA_b (chunkJ_b hl k j) 0 (by omega) hm
    have e : rungs l k (j :: js) = 2 * maxA 0 (chunkJ l k j) + rungs l k js := by simp [rungs]
    rw [e, List.length_cons]
    have : 2 * m * ((js.length + 1 : Nat) : Int) = 2 * m * js.length + 2 * m := by rw [Int.natCast_succ, Int.mul_add, Int.mul_one]
    omega
def climbsL (l : List Int) (k : Nat) : Int := rungs l k (List.range (chunkN l.length k))
/-- The reference's way: one number after another. -/
def stepC (k : Nat) (st : Nat × Int × Int) (x : Int) : Nat × Int × Int :=
  if st.1 % k = 0 then (st.1 + 1, st.2.1 + 2 * st.2.2, if (0 : Int) > x then 0 else x) else (st.1 + 1, st.2.1, if st.2.2 > x then st.2.2 else x)
def walkC (k : Nat) (l : List Int) : Nat × Int × Int := l.foldl (stepC k) (0, 0, 0)
theorem walkC_snoc (k : Nat) (l : List Int) (x : Int) : walkC k (l ++ [x]) = stepC k (walkC k l) x := by simp [walkC]
theorem walkC_len (k : Nat) (l : List Int) : (walkC k l).1 = l.length := by
  have : ∀ (l : List Int) (st : Nat × Int × Int), (l.foldl (stepC k) st).1 = st.1 + l.length := by
    intro l
    induction l with
    | nil => intro st; rfl
    | cons x l ih =>
      intro st
      rw [List.foldl_cons, ih, List.length_cons]
      unfold stepC
      split <;> dsimp only <;> omega
  have := this l (0, 0, 0)
  simpa [walkC] using this
/-- Within a chunk: numbers behind its first one. -/
theorem steps_in {k : Nat} : ∀ (xs : List Int) (i : Nat) (s m : Int), (∀ t, t < xs.length → (i + t) % k ≠ 0) → xs.foldl (stepC k) (i, s, m) = (i + xs.length, s, maxA m xs) := by
  intro xs
  induction xs with
  | nil => intro i s m _; rfl
  | cons x xs ih =>
    intro i s m h
    have h0 := h 0 (by simp)
    rw [List.foldl_cons]
    have e : stepC k (i, s, m) x = (i + 1, s, if m > x then m else x) := by
      unfold stepC; rw [if_neg (by simpa using h0)]
    rw [e, ih (i + 1) s _ (fun t ht => by have := h (t + 1) (by simp; omega); rwa [show i + 1 + t = i + (t + 1) by omega]), maxA_cons]
    simp only [List.length_cons]
    congr 1
    omega
theorem steps_chunk {k : Nat} (hk : 0 < k) (xs : List Int) (j : Nat) (s m : Int) (h0 : xs ≠ []) (hl : xs.length ≤ k) : xs.foldl (stepC k) (j * k, s, m) = (j * k + xs.length, s + 2 * m, maxA 0 xs) := by
  cases xs with
  | nil => exact absurd rfl h0
  | cons x xs =>
    rw [List.foldl_cons]
    have e : stepC k (j * k, s, m) x = (j * k + 1, s + 2 * m, if (0 : Int) > x then 0 else x) := by
      unfold stepC; rw [if_pos (by simp)]
    rw [e, steps_in xs (j * k + 1) _ _ (fun t ht => by
      simp only [List.length_cons] at hl
      rw [Nat.add_assoc, Nat.mul_comm, Nat.mul_add_mod]
      rw [Nat.mod_eq_of_lt (by omega)]; omega), maxA_cons]
    simp only [List.length_cons]
    congr 1
    omega
theorem walkC_chunks {k : Nat} (hk : 0 < k) (l : List Int) : ∀ J, J ≤ chunkN l.length k → ∃ s m : Int, walkC k (l.take (J * k)) = ((l.take (J * k)).length, s, m) ∧ s + 2 * m = rungs l k (List.range J) := by
  intro J
  induction J with
  | zero => intro _; exact ⟨0, 0, by simp [walkC], by simp [rungs]⟩
  | succ J ih =>
    intro hJ
    obtain ⟨s, m, h1, h2⟩ := ih (by omega)
    have hlt := (chunkN_lt (n := l.length) hk J).1 (by omega)
    have e1 : l.take ((J + 1) * k) = l.take (J * k) ++ chunkJ l k J := by
      unfold chunkJ
      rw [Nat.succ_mul, List.take_add]
    have e2 : (l.take (J * k)).length = J * k := by rw [List.length_take]; omega
    have hne : chunkJ l k J ≠ [] := by
      intro h
      have := congrArg List.length h
      simp [chunkJ] at this
      omega
    have hle : (chunkJ l k J).length ≤ k := by simp [chunkJ]; omega
    refine ⟨s + 2 * m, maxA 0 (chunkJ l k J), ?_, ?_⟩
    · rw [e1]
      have : walkC k (l.take (J * k) ++ chunkJ l k J) = (chunkJ l k J).foldl (stepC k) (walkC k (l.take (J * k))) := by simp [walkC]
      rw [this, h1, e2, steps_chunk hk _ J s m hne hle, List.length_append, e2]
    · rw [h2, List.range_succ, rungs_snoc]
theorem walkC_all {k : Nat} (hk : 0 < k) (l : List Int) : (walkC k l).2.1 + 2 * (walkC k l).2.2 = climbsL l k := by
  obtain ⟨s, m, h1, h2⟩ := walkC_chunks hk l _ (Nat.le_refl _)
  have e : l.take (chunkN l.length k * k) = l := by
    apply List.take_of_length_le
    exact Nat.le_of_not_lt fun h => Nat.lt_irrefl _ ((chunkN_lt (n := l.length) hk (chunkN l.length k)).2 h)
  rw [e] at h1
  rw [h1]
  exact h2
theorem walkC_b {l : List Int} {m : Int} (hm : 0 ≤ m) (hl : ∀ x ∈ l, 0 ≤ x ∧ x ≤ m) (k : Nat) : (0 ≤ (walkC k l).2.1 ∧ (walkC k l).2.1 ≤ 2 * m * l.length) ∧ 0 ≤ (walkC k l).2.2 ∧ (walkC k l).2.2 ≤ m := by
  have : ∀ (l : List Int), (∀ x ∈ l, 0 ≤ x ∧ x ≤ m) → ∀ st : Nat × Int × Int, 0 ≤ st.2.1 → (0 ≤ st.2.2 ∧ st.2.2 ≤ m) → (0 ≤ (l.foldl (stepC k) st).2.1 ∧ (l.foldl (stepC k) st).2.1 ≤ st.2.1 + 2 * m * l.length) ∧ 0 ≤ (l.foldl (stepC k) st).2.2 ∧ (l.foldl (stepC k) st).2.2 ≤ m := by
    intro l
    induction l with
    | nil => intro _ st h1 h2; simp; omega
    | cons x l ih =>
      intro hl st h1 h2
      have hx := hl x (by simp)
      rw [List.foldl_cons, List.length_cons]
      have hm2 : 2 * m * ((l.length + 1 : Nat) : Int) = 2 * m * l.length + 2 * m := by rw [Int.natCast_succ, Int.mul_add, Int.mul_one]
      have h3 : 0 ≤ (stepC k st x).2.1 ∧ (stepC k st x).2.1 ≤ st.2.1 + 2 * m ∧ 0 ≤ (stepC k st x).2.2 ∧ (stepC k st x).2.2 ≤ m := by
        unfold stepC
        split
        · dsimp only; split <;> omega
        · dsimp only; split <;> omega
      have h4 := ih (fun y hy => hl y (by simp [hy])) (stepC k st x) h3.1 ⟨h3.2.2.1, h3.2.2.2⟩
      omega
  have := this l hl (0, 0, 0) (by simp) (by simp; exact hm)
  simpa [walkC] using this
end Go.Proofs.Ytjcmdihadblodaa
