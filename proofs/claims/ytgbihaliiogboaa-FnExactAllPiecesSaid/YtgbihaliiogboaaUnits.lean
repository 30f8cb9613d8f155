/- Units of a shape: the program's and the reference's. -/
import Derived.Test.YtgbihaliiogboaaEachS
import Derived.Test.YtgbihaliiogboaaShpV
namespace Go.Proofs.Ytgbihaliiogboaa
open Go.RowKit
set_option linter.unusedSimpArgs false
set_option linter.unusedVariables false

theorem sli_own {w : World} {base : Nat} {v : Value} {l : List Int} (h : w.ownsRow base 2 1 v l.length (icells l)) : ∃ A c, v = .slice A l.length c ∧ SlI w A l := by
  obtain ⟨A, c, rfl⟩ := owns_slice' h
  refine ⟨A, c, rfl, fun j n hj => ?_⟩
  obtain ⟨b, c', e, _, _, h1, h2, _⟩ := (OwI.of_owns h).cells hj
  obtain ⟨rfl, _⟩ : A = some ⟨b, 0, none⟩ ∧ c = c' := by simpa using e
  exact ⟨b, 0, rfl, h1, by rw [Nat.zero_add]; exact h2⟩
theorem sum_le (l : List Int) (M : Int) (hM : 0 ≤ M) (h : ∀ n ∈ l, 0 ≤ n ∧ n ≤ M) : 0 ≤ l.sum ∧ l.sum ≤ M * l.length := by
  induction l with
  | nil => simp
  | cons a l ih =>
    have h1 := ih fun n hn => h n (List.mem_cons_of_mem _ hn)
    have h2 := h a List.mem_cons_self
    rw [List.sum_cons, List.length_cons, Int.natCast_succ, Int.mul_add, Int.mul_one]
    omega
theorem sum_take_succ (l : List Int) (k : Nat) (hk : k < l.length) : (l.take (k + 1)).sum = (l.take k).sum + l[k] := by
  rw [List.take_succ_eq_append_getElem hk, List.sum_append]; simp
def unitsL (l : List (Int × Int)) : Int := (l.map fun p => p.2 - p.1).sum
theorem spOk_iff (p : Int × Int) : spOk p = true ↔ 0 ≤ p.1 ∧ p.1 < p.2 ∧ p.2 ≤ 200 := by simp [spOk]
theorem shOk_all {s : Int} {l : List (Int × Int)} (h : shOk s l = true) : (∀ p ∈ l, 0 ≤ p.1 ∧ p.1 < p.2 ∧ p.2 ≤ 200) ∧ 1 ≤ l.length ∧ l.length ≤ 12 ∧ s ≤ 1 := by
  unfold shOk at h
  simp only [Bool.and_eq_true, decide_eq_true_eq] at h
  refine ⟨fun p hp => (spOk_iff p).1 (List.all_eq_true.1 h.2.2 p hp), ?_⟩
  have := inB_iff.1 h.2.1
  omega
/-- A result of two numbers. -/
def Ret2 (w : World) (n k : Int) (e : Ending) (w' : World) : Prop := e = .returned (.tuple #[.int .i64 n, .int .i64 k]) ∧ Below w.heap.size w w'
def unitsN (s : Int) (l : List (Int × Int)) : Int := if shOk s l = true then unitsL l else 0
def unitsC (s : Int) (l : List (Int × Int)) : Int := if shOk s l = true then 0 else 1
end Go.Proofs.Ytgbihaliiogboaa
