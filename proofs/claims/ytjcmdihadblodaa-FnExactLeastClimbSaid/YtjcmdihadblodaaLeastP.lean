/- Sorting, in plain Lean: the rungs of sorted places are the sorted rungs. -/
import Derived.Test.YtjcmdihadblodaaSortP
import Derived.Test.YtjcmdihadblodaaCmpI
import Derived.Test.YtjcmdihadblodaaClimbF
import Derived.Shelf.SlSortCmp.Small
namespace Go.Proofs.Ytjcmdihadblodaa
open Go.RowKit
set_option linter.unusedSimpArgs false
set_option linter.unusedVariables false

theorem ins_facts {α : Type} [Inhabited α] {lt : α → α → Bool} (hS : Sort.SWO lt) (l : List α) :
    (Sort.insertionSort lt l.toArray 0 l.length).toList.Perm l ∧ (Sort.insertionSort lt l.toArray 0 l.length).toList.Pairwise (fun x y => lt y x = false) := by
  have h := Sort.insertionSort_holds (lt := lt) hS l.toArray 0 l.length (Nat.zero_le _) (by simp)
  obtain ⟨⟨h1, _, h2⟩, h3⟩ := h
  have hsz : (Sort.insertionSort lt l.toArray 0 l.length).size = l.length := by rw [h1]; simp
  constructor
  · have e1 : (Sort.insertionSort lt l.toArray 0 l.length).extract 0 l.length = Sort.insertionSort lt l.toArray 0 l.length := by
      generalize Sort.insertionSort lt l.toArray 0 l.length = r at hsz
      rw [← hsz]; simp
    rw [e1] at h2
    simpa using h2
  · rw [List.pairwise_iff_getElem]
    intro i j hi hj hij
    have hi' : i < (Sort.insertionSort lt l.toArray 0 l.length).size := by simpa using hi
    have hj' : j < (Sort.insertionSort lt l.toArray 0 l.length).size := by simpa using hj
    have := h3 i j (Nat.zero_le _) hij (by omega)
    rw [getElem!_pos _ j hj', getElem!_pos _ i hi'] at this
    simpa using this
theorem swo_lessP : Sort.SWO lessP where
  irrefl := fun x => by simp [lessP]
  trans := fun x y z h1 h2 => by simp [lessP] at *; omega
  ntrans := fun x y z h1 h2 => by simp [lessP] at *; omega
theorem ltD_eq (x y : Int) : ltOf (fun a b => cmpZ b a) x y = decide (y < x) := by
  unfold ltOf cmpZ
  by_cases h1 : y < x
  · simp [h1]
  · by_cases h2 : x < y <;> simp [h1, h2]
theorem swo_ltD : Sort.SWO (ltOf fun a b => cmpZ b a) where
  irrefl := fun x => by simp [ltD_eq]
  trans := fun x y z h1 h2 => by simp [ltD_eq] at *; omega
  ntrans := fun x y z h1 h2 => by simp [ltD_eq] at *; omega
def sortI (l : List Int) : List Int := (Sort.insertionSort (ltOf fun a b => cmpZ b a) l.toArray 0 l.length).toList
theorem sortI_len (l : List Int) : (sortI l).length = l.length := (ins_facts swo_ltD l).1.length_eq
theorem sortP_perm (l : List (Int × Int)) : (sortP l).Perm l := (ins_facts swo_lessP l).1
theorem sortP_len (l : List (Int × Int)) : (sortP l).length = l.length := (sortP_perm l).length_eq
theorem sort_ups (r : Rf) (l : List (Int × Int)) : upsL r (sortP l) = sortI (upsL r l) := by
  have h1 : (upsL r (sortP l)).Perm (upsL r l) := (sortP_perm l).map _
  have h2 : (sortI (upsL r l)).Perm (upsL r l) := (ins_facts swo_ltD _).1
  have p1 : (upsL r (sortP l)).Pairwise (fun x y => y ≤ x) := by
    unfold upsL
    rw [List.pairwise_map]
    refine (ins_facts swo_lessP l).2.imp ?_
    intro p q h
    simp [lessP] at h
    omega
  have p2 : (sortI (upsL r l)).Pairwise (fun x y => y ≤ x) := by
    refine (ins_facts swo_ltD (upsL r l)).2.imp ?_
    intro x y h
    rw [ltD_eq] at h
    simpa using h
  exact List.Perm.eq_of_pairwise (le := fun x y => y ≤ x) (fun a b _ _ h1 h2 => by omega) p1 p2 (h1.trans h2.symm)
end Go.Proofs.Ytjcmdihadblodaa
