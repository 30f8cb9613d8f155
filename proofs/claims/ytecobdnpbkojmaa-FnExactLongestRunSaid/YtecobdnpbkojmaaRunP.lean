/- Runs of tiles of a kind: the plain law of LongestRun. -/
import Derived.Test.YtecobdnpbkojmaaAll
namespace Go.Proofs.Ytecobdnpbkojmaa
open Go.RowKit
set_option linter.unusedSimpArgs false
set_option linter.unusedVariables false

theorem allUp_succ (W H : Nat) : allUp W (H + 1) 0 = allUp W H 0 ++ (List.range W).map fun (t : Nat) => ((H : Int), (t : Int)) := by
  simp [allUp, List.range_succ]
theorem allUp_get (W : Nat) : ∀ (H j : Nat), j < H * W → (allUp W H 0)[j]? = some (((j / W : Nat) : Int), ((j % W : Nat) : Int))
  | 0, j, h => by simp at h
  | H + 1, j, h => by
    have hW : 0 < W := by
      rcases Nat.eq_zero_or_pos W with rfl | h1
      · simp at h
      · exact h1
    rw [allUp_succ, List.getElem?_append, allUp_len, Nat.add_zero]
    by_cases hj : j < H * W
    · rw [if_pos hj, allUp_get W H j hj]
    · rw [if_neg hj, List.getElem?_map]
      have h1 : j - H * W < W := by rw [Nat.succ_mul] at h; omega
      have e : j = W * H + (j - H * W) := by rw [Nat.mul_comm W H]; omega
      rw [List.getElem?_range h1]
      have e1 : j / W = H := by rw [e, Nat.mul_add_div hW, Nat.div_eq_of_lt h1]; omega
      have e2 : j % W = j - H * W := by
        have := Nat.mod_add_div j W
        rw [e1, Nat.mul_comm W H] at this; omega
      rw [e1, e2]; rfl

/-- A run of m tiles of kind n from place (c, t) on. -/
def RunAt (r : Rf) (n : Int) (W c t m : Nat) : Prop := t + m ≤ W ∧ ∀ j, j < m → r.at c (t + j) = n
theorem RunAt.less {r : Rf} {n : Int} {W c t m m' : Nat} (h : RunAt r n W c t m) (hm : m' ≤ m) : RunAt r n W c t m' := ⟨by have := h.1; omega, fun j hj => h.2 j (by omega)⟩
theorem RunAt.zero {r : Rf} {n : Int} {W c t : Nat} (h : t ≤ W) : RunAt r n W c t 0 := ⟨by omega, fun j hj => by omega⟩
theorem RunAt.more {r : Rf} {n : Int} {W c t m : Nat} (h : RunAt r n W c t m) (hl : t + m < W) (ha : r.at c (t + m) = n) : RunAt r n W c t (m + 1) :=
  ⟨by omega, fun j hj => by rcases Nat.lt_succ_iff_lt_or_eq.1 hj with h1 | rfl; exact h.2 j h1; exact ha⟩
/-- The longest run, the first of its length. -/
def Best (r : Rf) (n : Int) (W H c t m : Nat) : Prop :=
  0 < m ∧ c < H ∧ RunAt r n W c t m ∧ (∀ c' t', c' < H → ¬ RunAt r n W c' t' (m + 1)) ∧ ∀ c' t', c' < H → (c' < c ∨ c' = c ∧ t' < t) → ¬ RunAt r n W c' t' m
theorem Best.unique {r : Rf} {n : Int} {W H c t m c2 t2 m2 : Nat} (h : Best r n W H c t m) (h2 : Best r n W H c2 t2 m2) : c = c2 ∧ t = t2 ∧ m = m2 := by
  obtain ⟨a1, a2, a3, a4, a5⟩ := h
  obtain ⟨b1, b2, b3, b4, b5⟩ := h2
  have hm : m = m2 := by
    rcases Nat.lt_trichotomy m m2 with h | h | h
    · exact absurd (b3.less (by omega)) (a4 c2 t2 b2)
    · exact h
    · exact absurd (a3.less (by omega)) (b4 c t a2)
  subst hm
  have hc : c = c2 := by
    rcases Nat.lt_trichotomy c c2 with h | h | h
    · exact absurd a3 (b5 c t a2 (.inl h))
    · exact h
    · exact absurd b3 (a5 c2 t2 b2 (.inl h))
  subst hc
  refine ⟨rfl, ?_, rfl⟩
  rcases Nat.lt_trichotomy t t2 with h | h | h
  · exact absurd a3 (b5 c t a2 (.inr ⟨rfl, h⟩))
  · exact h
  · exact absurd b3 (a5 c t2 b2 (.inr ⟨rfl, h⟩))
theorem Best.some {r : Rf} {n : Int} {W H c t m : Nat} (h : Best r n W H c t m) (h2 : ∀ c' t', c' < H → ¬ RunAt r n W c' t' 1) : False := h2 c t h.2.1 (h.2.2.1.less h.1)
/-- What LongestRun returns of a roof: place, length, code. -/
def IsLong (r : Rf) (n c t m k : Int) : Prop :=
  (codeOf (validB r) (inB n 0 3) ≠ 0 ∧ c = 0 ∧ t = 0 ∧ m = 0 ∧ k = codeOf (validB r) (inB n 0 3)) ∨
  (codeOf (validB r) (inB n 0 3) = 0 ∧ (∀ c' t', c' < r.h.toNat → ¬ RunAt r n r.w.toNat c' t' 1) ∧ c = 0 ∧ t = 0 ∧ m = 0 ∧ k = 6) ∨
  (codeOf (validB r) (inB n 0 3) = 0 ∧ ∃ c' t' m' : Nat, Best r n r.w.toNat r.h.toNat c' t' m' ∧ c = c' ∧ t = t' ∧ m = m' ∧ k = 0)
theorem IsLong.unique {r : Rf} {n c t m k c2 t2 m2 k2 : Int} (h : IsLong r n c t m k) (h2 : IsLong r n c2 t2 m2 k2) : c = c2 ∧ t = t2 ∧ m = m2 ∧ k = k2 := by
  rcases h with ⟨a, rfl, rfl, rfl, rfl⟩ | ⟨a, a1, rfl, rfl, rfl, rfl⟩ | ⟨a, c', t', m', a1, rfl, rfl, rfl, rfl⟩ <;> rcases h2 with ⟨b, rfl, rfl, rfl, rfl⟩ | ⟨b, b1, rfl, rfl, rfl, rfl⟩ | ⟨b, c2', t2', m2', b1, rfl, rfl, rfl, rfl⟩
  · exact ⟨rfl, rfl, rfl, rfl⟩
  · exact absurd b a
  · exact absurd b a
  · exact absurd a b
  · exact ⟨rfl, rfl, rfl, rfl⟩
  · exact (b1.some a1).elim
  · exact absurd a b
  · exact (a1.some b1).elim
  · obtain ⟨rfl, rfl, rfl⟩ := a1.unique b1; exact ⟨rfl, rfl, rfl, rfl⟩
/-! ### The program's scan: course by course, counting -/
def InReg (i k c t m : Nat) : Prop := c < i ∨ (c = i ∧ t + m ≤ k)
structure Scan (r : Rf) (n : Int) (W H i k M c t : Nat) : Prop where
  no : ∀ c' t', c' < H → InReg i k c' t' (M + 1) → ¬ RunAt r n W c' t' (M + 1)
  yes : M = 0 ∨ (0 < M ∧ c < H ∧ RunAt r n W c t M ∧ ∀ c' t', c' < H → (c' < c ∨ c' = c ∧ t' < t) → ¬ RunAt r n W c' t' M)
structure Now (r : Rf) (n : Int) (i k N : Nat) : Prop where
  le : N ≤ k
  run : ∀ j, j < N → r.at i (k - N + j) = n
  stop : N < k → r.at i (k - N - 1) ≠ n
theorem Now.zero (r : Rf) (n : Int) (i : Nat) : Now r n i 0 0 := ⟨by omega, fun j h => by omega, fun h => by omega⟩
theorem Scan.zero (r : Rf) (n : Int) (W H c t : Nat) : Scan r n W H 0 0 0 c t := ⟨fun c' t' h h1 => by rcases h1 with h1 | ⟨rfl, h1⟩ <;> omega, .inl rfl⟩
theorem Scan.row {r : Rf} {n : Int} {W H i M c t : Nat} (h : Scan r n W H i W M c t) : Scan r n W H (i + 1) 0 M c t :=
  ⟨fun c' t' hc h1 h2 => by
    rcases h1 with h1 | ⟨_, h1⟩
    · refine h.no c' t' hc ?_ h2
      rcases Nat.lt_succ_iff_lt_or_eq.1 h1 with h3 | h3
      · exact .inl h3
      · exact .inr ⟨h3, h2.1⟩
    · omega, h.yes⟩
theorem Scan.miss {r : Rf} {n : Int} {W H i k M c t : Nat} (h : Scan r n W H i k M c t) (ha : r.at i k ≠ n) : Scan r n W H i (k + 1) M c t :=
  ⟨fun c' t' hc h1 h2 => by
    rcases h1 with h1 | ⟨rfl, h1⟩
    · exact h.no c' t' hc (.inl h1) h2
    · by_cases he : t' + (M + 1) ≤ k
      · exact h.no c' t' hc (.inr ⟨rfl, he⟩) h2
      · have := h2.2 M (by omega)
        have e : t' + M = k := by omega
        rw [e] at this; exact ha this, h.yes⟩
theorem Now.miss {r : Rf} {n : Int} {i k : Nat} (ha : r.at i k ≠ n) : Now r n i (k + 1) 0 := ⟨by omega, fun j h => by omega, fun _ => by simpa using ha⟩
theorem Now.hit {r : Rf} {n : Int} {i k N : Nat} (h : Now r n i k N) (ha : r.at i k = n) : Now r n i (k + 1) (N + 1) := by
  have hl := h.le
  refine ⟨by omega, fun j hj => ?_, fun h1 => ?_⟩
  · have e : k + 1 - (N + 1) = k - N := by omega
    rw [e]
    rcases Nat.lt_succ_iff_lt_or_eq.1 hj with h1 | rfl
    · exact h.run j h1
    · have e : k - j + j = k := by omega
      rw [e]; exact ha
  · have e : k + 1 - (N + 1) - 1 = k - N - 1 := by omega
    rw [e]; exact h.stop (by omega)
theorem Now.runAt {r : Rf} {n : Int} {W i k N : Nat} (h : Now r n i k N) (hk : k ≤ W) : RunAt r n W i (k - N) N := ⟨by have := h.le; omega, h.run⟩
theorem Scan.now_le {r : Rf} {n : Int} {W H i k M c t N : Nat} (h : Scan r n W H i k M c t) (hN : Now r n i k N) (hi : i < H) (hk : k ≤ W) : N ≤ M := by
  by_cases hle : N ≤ M
  · exact hle
  · have hr := (hN.runAt hk).less (by omega : M + 1 ≤ N)
    have := hN.le
    exact absurd hr (h.no i (k - N) hi (.inr ⟨rfl, by omega⟩))
/-- A tile more, and no longer run than before. -/
theorem Scan.hit_no {r : Rf} {n : Int} {W H i k M c t N : Nat} (h : Scan r n W H i k M c t) (hN : Now r n i k N) (hM : N + 1 ≤ M) : Scan r n W H i (k + 1) M c t :=
  ⟨fun c' t' hc h1 h2 => by
    rcases h1 with h1 | ⟨rfl, h1⟩
    · exact h.no c' t' hc (.inl h1) h2
    · by_cases he : t' + (M + 1) ≤ k
      · exact h.no c' t' hc (.inr ⟨rfl, he⟩) h2
      · have hl := hN.le
        have := h2.2 (M - N - 1) (by omega)
        have e : t' + (M - N - 1) = k - N - 1 := by omega
        rw [e] at this; exact hN.stop (by omega) this, h.yes⟩
/-- A tile more, and the longest run so far. -/
theorem Scan.hit_yes {r : Rf} {n : Int} {W H i k M c t N : Nat} (h : Scan r n W H i k M c t) (hN : Now r n i k N) (ha : r.at i k = n) (hi : i < H) (hk : k < W) (hM : M < N + 1) : Scan r n W H i (k + 1) (N + 1) i (k - N) := by
  have hl := hN.le
  obtain rfl : N = M := by have := h.now_le hN hi (by omega); omega
  have hR : RunAt r n W i (k - N) (N + 1) := (hN.runAt (by omega)).more (by omega) (by have e : k - N + N = k := (by omega); rw [e]; exact ha)
  refine ⟨fun c' t' hc h1 h2 => ?_, .inr ⟨by omega, hi, hR, fun c' t' hc h1 h2 => ?_⟩⟩
  · rcases h1 with h1 | ⟨rfl, h1⟩
    · exact h.no c' t' hc (.inl h1) (h2.less (by omega))
    · by_cases he : t' + (N + 1) ≤ k
      · exact h.no c' t' hc (.inr ⟨rfl, he⟩) (h2.less (by omega))
      · have e : t' + 0 = k - N - 1 := by omega
        have := h2.2 0 (by omega)
        rw [e] at this; exact hN.stop (by omega) this
  · rcases h1 with h1 | ⟨rfl, h1⟩
    · exact h.no c' t' hc (.inl h1) h2
    · exact h.no c' t' hc (.inr ⟨rfl, by omega⟩) h2
theorem Scan.long0 {r : Rf} {n : Int} {c t : Nat} (h : Scan r n r.w.toNat r.h.toNat r.h.toNat 0 0 c t) (hk : codeOf (validB r) (inB n 0 3) = 0) : IsLong r n 0 0 0 6 :=
  .inr (.inl ⟨hk, fun c' t' hc => h.no c' t' hc (.inl hc), rfl, rfl, rfl, rfl⟩)
theorem Scan.long {r : Rf} {n : Int} {M c t : Nat} (h : Scan r n r.w.toNat r.h.toNat r.h.toNat 0 M c t) (hM : M ≠ 0) (hk : codeOf (validB r) (inB n 0 3) = 0) : IsLong r n c t M 0 := by
  rcases h.yes with h1 | ⟨h1, h2, h3, h4⟩
  · exact absurd h1 hM
  · exact .inr (.inr ⟨hk, c, t, M, ⟨h1, h2, h3, fun c' t' hc => h.no c' t' hc (.inl hc), h4⟩, rfl, rfl, rfl, rfl⟩)
/-! ### The reference's search: each place as a begin -/
structure Seek (r : Rf) (n : Int) (W H j M b : Nat) : Prop where
  no : ∀ i, i < j → ¬ RunAt r n W (i / W) (i % W) (M + 1)
  yes : M = 0 ∨ (0 < M ∧ b < j ∧ RunAt r n W (b / W) (b % W) M ∧ ∀ i, i < b → ¬ RunAt r n W (i / W) (i % W) M)
theorem Seek.zero (r : Rf) (n : Int) (W H b : Nat) : Seek r n W H 0 0 b := ⟨fun i h => by omega, .inl rfl⟩
theorem Seek.keep {r : Rf} {n : Int} {W H j M b q : Nat} (h : Seek r n W H j M b) (hq : ¬ RunAt r n W (j / W) (j % W) (q + 1)) (hM : q ≤ M) : Seek r n W H (j + 1) M b :=
  ⟨fun i hi h1 => by
    rcases Nat.lt_succ_iff_lt_or_eq.1 hi with h2 | rfl
    · exact h.no i h2 h1
    · exact hq (h1.less (by omega)), by
    rcases h.yes with h1 | ⟨h1, h2, h3⟩
    · exact .inl h1
    · exact .inr ⟨h1, by omega, h3⟩⟩
theorem Seek.new {r : Rf} {n : Int} {W H j M b q : Nat} (h : Seek r n W H j M b) (hr : RunAt r n W (j / W) (j % W) q) (hq : ¬ RunAt r n W (j / W) (j % W) (q + 1)) (hM : M < q) : Seek r n W H (j + 1) q j :=
  ⟨fun i hi h1 => by
    rcases Nat.lt_succ_iff_lt_or_eq.1 hi with h2 | rfl
    · exact h.no i h2 (h1.less (by omega))
    · exact hq h1, .inr ⟨by omega, by omega, hr, fun i hi h1 => h.no i hi (h1.less (by omega))⟩⟩
theorem place_ix {W H c t : Nat} (hc : c < H) (ht : t < W) : c * W + t < H * W ∧ (c * W + t) / W = c ∧ (c * W + t) % W = t := by
  refine ⟨?_, ?_, ?_⟩
  · have := Nat.mul_le_mul_right W (by omega : c + 1 ≤ H)
    rw [Nat.succ_mul] at this; omega
  · rw [Nat.mul_comm, Nat.mul_add_div (by omega), Nat.div_eq_of_lt ht]; omega
  · rw [Nat.mul_comm, Nat.mul_add_mod]; exact Nat.mod_eq_of_lt ht
theorem Seek.none {r : Rf} {n : Int} {W H b m : Nat} {M : Nat} (h : Seek r n W H (H * W) M b) (hm : M < m) : ∀ c' t', c' < H → ¬ RunAt r n W c' t' m := fun c' t' hc h1 => by
  have ht : t' < W := by have := h1.1; omega
  obtain ⟨p1, p2, p3⟩ := place_ix hc ht
  have := h.no _ p1
  rw [p2, p3] at this
  exact this (h1.less (by omega))
theorem Seek.long0 {r : Rf} {n : Int} {b : Nat} (h : Seek r n r.w.toNat r.h.toNat (r.h.toNat * r.w.toNat) 0 b) (hk : codeOf (validB r) (inB n 0 3) = 0) : IsLong r n 0 0 0 6 :=
  .inr (.inl ⟨hk, h.none (by omega), rfl, rfl, rfl, rfl⟩)
theorem Seek.long {r : Rf} {n : Int} {M b : Nat} (h : Seek r n r.w.toNat r.h.toNat (r.h.toNat * r.w.toNat) M b) (hM : M ≠ 0) (hk : codeOf (validB r) (inB n 0 3) = 0) : IsLong r n ((b / r.w.toNat : Nat) : Int) ((b % r.w.toNat : Nat) : Int) M 0 := by
  rcases h.yes with h1 | ⟨h1, h2, h3, h4⟩
  · exact absurd h1 hM
  · have hW : 0 < r.w.toNat := by
      rcases Nat.eq_zero_or_pos r.w.toNat with h5 | h5
      · rw [h5, Nat.mul_zero] at h2; omega
      · exact h5
    refine .inr (.inr ⟨hk, _, _, M, ⟨h1, (Nat.div_lt_iff_lt_mul hW).2 h2, h3, h.none (by omega), fun c' t' hc hl h5 => ?_⟩, rfl, rfl, rfl, rfl⟩)
    have ht : t' < r.w.toNat := by have := h5.1; omega
    obtain ⟨p1, p2, p3⟩ := place_ix hc ht
    have h6 := h4 (c' * r.w.toNat + t')
    rw [p2, p3] at h6
    refine h6 ?_ h5
    have e := Nat.div_add_mod b r.w.toNat
    rcases hl with hl | ⟨rfl, hl⟩
    · have := Nat.mul_le_mul_right r.w.toNat (by omega : c' + 1 ≤ b / r.w.toNat)
      rw [Nat.succ_mul, Nat.mul_comm (b / r.w.toNat)] at this
      omega
    · rw [Nat.mul_comm]; omega
end Go.Proofs.Ytecobdnpbkojmaa
