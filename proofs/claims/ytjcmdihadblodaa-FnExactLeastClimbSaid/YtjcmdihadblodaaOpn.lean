/- Slices that came in, opened: of pairs of numbers, of numbers. -/
import Derived.Test.YtjcmdihadblodaaProg
import Derived.Test.YtjcmdihadblodaaRows
import Derived.WalkKit
import Derived.OpenShut
import Derived.ProofKit
import Derived.SizedLaws
import Derived.ChangeOld
import Derived.ChangeSlices
namespace Go.Proofs.Ytjcmdihadblodaa
open Go.RowKit Go.ChangeShapes Go.WideShapes
set_option linter.unusedVariables false
set_option linter.unusedSimpArgs false

theorem addr_plain {w : World} {a : Addr} {v : Value} (h : w.cell? a = some v) : a = ⟨a.block, a.off, none⟩ := by
  unfold World.cell? at h
  split at h
  · obtain ⟨b, o, s⟩ := a
    cases s with
    | none => rfl
    | some s => simp at h
  · cases h
theorem add_plain (b o n : Nat) : (⟨b, o, none⟩ : Addr).add n = ⟨b, o + n, none⟩ := by
  unfold Addr.add
  split
  · subst ‹_›; rfl
  · rfl
theorem list_of {α : Type} [Inhabited α] {P : Nat → α → Prop} (n : Nat) (h : ∀ i, i < n → ∃ x, P i x) : ∃ l : List α, l.length = n ∧ ∀ i x, l[i]? = some x → P i x := by
  refine ⟨(List.range n).map fun i => if hi : i < n then Classical.choose (h i hi) else default, by simp, fun i x hx => ?_⟩
  rw [List.getElem?_map] at hx
  by_cases hi : i < n
  · rw [List.getElem?_range hi] at hx
    simp only [Option.map_some, hi, dif_pos, Option.some.injEq] at hx
    rw [← hx]; exact Classical.choose_spec (h i hi)
  · rw [List.getElem?_eq_none (by simp; omega)] at hx; cases hx
section
variable {H : Type} {enc : TypeId × Value → H} {P : Program} {w : World} {base : Nat} {spare : Nat → Bool} {held : Bool}
/-- Pairs of numbers in a slice that came in. -/
theorem open_pairs {t e : TypeId} {k1 k2 : IntKind} {R : Int × Int → Prop} (ht : P.underlying t = some (.slice e)) (hc : P.cellsOf e = 2)
    (hop : ∀ {fuel : Nat} {cs : List Value} {x : DataW H × List MemPlace}, DataW.trod enc P w base spare held fuel e cs = some x → cs.length = 2 → ∃ a b : Int, cs = [.int k1 a, .int k2 b] ∧ R (a, b))
    {fuel : Nat} {cs : List Value} {x : DataW H × List MemPlace} (h : DataW.trod enc P w base spare held fuel t cs = some x) :
    ∃ (A : Option Addr) (c : Nat) (l : List (Int × Int)), cs = [.slice A l.length c] ∧ l.length ≤ c ∧ c ≤ maxLen ∧ (∀ p ∈ l, R p) ∧
      ∀ j p, l[j]? = some p → ∃ b off, A = some ⟨b, off, none⟩ ∧ b < w.heap.size ∧ w.cell? ⟨b, off + j * 2, none⟩ = some (.int k1 p.1) ∧ w.cell? ⟨b, off + j * 2 + 1, none⟩ = some (.int k2 p.2) := by
  rcases DataW.trod_slice ht h with ⟨rfl, rfl⟩ | ⟨a, len, cap, elems, rest, n, _, rfl, rfl, hb, hl, hm, hlen, hel, _, _⟩
  · exact ⟨none, 0, [], rfl, by simp, by decide, fun p hp => by simp at hp, fun j p hj => by simp at hj⟩
  · have key : ∀ i, i < len → ∃ p : Int × Int, R p ∧ w.cell? (a.add (i * 2)) = some (.int k1 p.1) ∧ w.cell? ((a.add (i * 2)).add 1) = some (.int k2 p.2) := by
      intro i hi
      have h1 := hel i hi
      rw [hc, List.getElem?_eq_getElem (by omega : i < elems.length), Option.bind_eq_some_iff] at h1
      obtain ⟨cs', h2, h3⟩ := h1
      obtain ⟨_, hl2, hcl⟩ := World.cells?_some h2
      obtain ⟨p1, p2, rfl, hr⟩ := hop h3 hl2
      have c0 := hcl 0 (by omega)
      have c1 := hcl 1 (by omega)
      refine ⟨(p1, p2), hr, ?_, c1⟩
      have e : (a.add (i * 2)).add 0 = a.add (i * 2) := by simp [Addr.add]
      rw [e] at c0; exact c0
    obtain ⟨l, hll, hlp⟩ := list_of len key
    refine ⟨some a, cap, l, by rw [hll], by omega, hm, fun p hp => ?_, fun j p hj => ?_⟩
    · obtain ⟨i, hi, rfl⟩ := List.getElem_of_mem hp
      exact (hlp i _ (List.getElem?_eq_getElem hi)).1
    · obtain ⟨_, h1, h2⟩ := hlp j p hj
      have hj' := (List.getElem?_eq_some_iff.1 hj).1
      obtain ⟨p0, _, h3, _⟩ := key 0 (by omega)
      have e0 : a.add (0 * 2) = a := by simp [Addr.add]
      rw [e0] at h3
      have hp := addr_plain h3
      obtain ⟨ab, ao, asp⟩ := a
      dsimp only at hp
      obtain ⟨_, _, rfl⟩ : ab = ab ∧ ao = ao ∧ asp = none := by simpa using hp
      rw [add_plain] at h1
      rw [add_plain, add_plain] at h2
      exact ⟨ab, ao, rfl, World.block_lt_of_cell? w _ h1, h1, h2⟩
/-- Numbers in a slice that came in. -/
theorem open_nums {t e : TypeId} {k : IntKind} (ht : P.underlying t = some (.slice e)) (he : P.underlying e = some (.int k)) (hc : P.cellsOf e = 1)
    {fuel : Nat} {cs : List Value} {x : DataW H × List MemPlace} (h : DataW.trod enc P w base spare held fuel t cs = some x) :
    ∃ (A : Option Addr) (c : Nat) (l : List Int), cs = [.slice A l.length c] ∧ l.length ≤ c ∧ c ≤ maxLen ∧ (∀ n ∈ l, (Lit.int k n).wf = true) ∧
      ∀ j n, l[j]? = some n → ∃ b off, A = some ⟨b, off, none⟩ ∧ b < w.heap.size ∧ w.cell? ⟨b, off + j, none⟩ = some (.int k n) := by
  rcases DataW.trod_slice ht h with ⟨rfl, rfl⟩ | ⟨a, len, cap, elems, rest, n, _, rfl, rfl, hb, hl, hm, hlen, hel, _, _⟩
  · exact ⟨none, 0, [], rfl, by simp, by decide, fun p hp => by simp at hp, fun j p hj => by simp at hj⟩
  · have key : ∀ i, i < len → ∃ m : Int, (Lit.int k m).wf = true ∧ w.cell? (a.add i) = some (.int k m) := by
      intro i hi
      have h1 := hel i hi
      rw [hc, Nat.mul_one, List.getElem?_eq_getElem (by omega : i < elems.length), Option.bind_eq_some_iff] at h1
      obtain ⟨cs', h2, h3⟩ := h1
      obtain ⟨m, rfl, _, hw⟩ := DataW.trod_int he h3
      exact ⟨m, hw, cell_of_cells?_one h2⟩
    obtain ⟨l, hll, hlp⟩ := list_of len key
    refine ⟨some a, cap, l, by rw [hll], by omega, hm, fun p hp => ?_, fun j p hj => ?_⟩
    · obtain ⟨i, hi, rfl⟩ := List.getElem_of_mem hp
      exact (hlp i _ (List.getElem?_eq_getElem hi)).1
    · obtain ⟨_, h1⟩ := hlp j p hj
      have hj' := (List.getElem?_eq_some_iff.1 hj).1
      obtain ⟨p0, _, h3⟩ := key 0 (by omega)
      have e0 : a.add 0 = a := by simp [Addr.add]
      rw [e0] at h3
      have hp := addr_plain h3
      obtain ⟨ab, ao, asp⟩ := a
      dsimp only at hp
      obtain ⟨_, _, rfl⟩ : ab = ab ∧ ao = ao ∧ asp = none := by simpa using hp
      rw [add_plain] at h1
      exact ⟨ab, ao, rfl, World.block_lt_of_cell? w _ h1, h1⟩
theorem list2' (l : List Value) (hl : l.length = 2) : l = (l.drop 0).take 1 ++ (l.drop 1).take 1 := by
  match l, hl with
  | [a, b], _ => rfl
/-- A struct of two numbers. -/
theorem open_two {e : TypeId} {fs : Array Field} {t1 t2 : TypeId} {k1 k2 : IntKind} {i1 i2 : Field} (hu : P.underlying e = some (.struct fs)) (h0 : fs.toList = [i1, i2]) (ho1 : i1.offset = 0) (ho2 : i2.offset = 1) (ht1 : i1.type = t1) (ht2 : i2.type = t2)
    (hu1 : P.underlying t1 = some (.int k1)) (hu2 : P.underlying t2 = some (.int k2)) (hc1 : P.cellsOf t1 = 1) (hc2 : P.cellsOf t2 = 1)
    {fuel : Nat} {cs : List Value} {x : DataW H × List MemPlace} (hf : DataW.trod enc P w base spare held fuel e cs = some x) (hsz : cs.length = 2) :
    ∃ a b : Int, cs = [.int k1 a, .int k2 b] ∧ (Lit.int k1 a).wf = true ∧ (Lit.int k2 b).wf = true := by
  obtain ⟨xs, m, _, _, hl, hn, hel⟩ := DataW.trod_struct hu hf
  have hs : fs.size = 2 := by have := congrArg List.length h0; simpa using this
  have g0 : fs[0]? = some i1 := by rw [← Array.getElem?_toList, h0]; rfl
  have g1 : fs[1]? = some i2 := by rw [← Array.getElem?_toList, h0]; rfl
  have f0 := hel 0 _ g0
  have f1 := hel 1 _ g1
  rw [ho1, ht1, hc1, List.getElem?_eq_getElem (by omega : 0 < xs.length)] at f0
  rw [ho2, ht2, hc2, List.getElem?_eq_getElem (by omega : 1 < xs.length)] at f1
  obtain ⟨a, ea, _, wa⟩ := DataW.trod_int hu1 f0
  obtain ⟨b, eb, _, wb⟩ := DataW.trod_int hu2 f1
  refine ⟨a, b, ?_, wa, wb⟩
  rw [list2' cs hsz, ea, eb]; rfl
end
end Go.Proofs.Ytjcmdihadblodaa
