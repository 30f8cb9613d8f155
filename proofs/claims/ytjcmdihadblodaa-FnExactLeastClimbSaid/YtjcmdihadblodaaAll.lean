/- All places of a roof, ordered. -/
import Derived.Test.YtjcmdihadblodaaSl
import Derived.Laws.AppendOwn
import Derived.WalkSmall
import Derived.Deep.AppendLies
namespace Go.Proofs.Ytjcmdihadblodaa
open Go.RowKit
set_option linter.unusedSimpArgs false
set_option linter.unusedVariables false

/-- The places of the courses below i, and k of course i, in a roof W tiles wide. -/
def allUp (W i k : Nat) : List (Int × Int) := (List.range i).flatMap (fun (c : Nat) => (List.range W).map fun (t : Nat) => ((c : Int), (t : Int))) ++ (List.range k).map fun (t : Nat) => ((i : Int), (t : Int))
theorem allUp_step (W i k : Nat) : allUp W i k ++ [((i : Int), (k : Int))] = allUp W i (k + 1) := by
  simp [allUp, List.range_succ]
theorem allUp_row (W i : Nat) : allUp W i W = allUp W (i + 1) 0 := by
  simp [allUp, List.range_succ]
theorem allUp_len (W i k : Nat) : (allUp W i k).length = i * W + k := by
  simp only [allUp, List.length_append, List.length_map, List.length_range]
  congr 1
  induction i with
  | zero => simp
  | succ i ih => rw [List.range_succ, List.flatMap_append, List.length_append, ih]; simp; rw [Nat.succ_mul]
theorem cell_eq' {W : World} {b j : Nat} {cs : Array Value} {T : TypeId} {fr : Nat × Nat} {k : IntKind} {x y : Int} (h : W.heap[b]? = some (.cells cs T fr)) (hv : cs[j]? = some (.int k x)) (e : x = y) : W.cell? ⟨b, j, none⟩ = some (.int k y) := e ▸ cell_block h hv
theorem Try.infoPlace : (Try.prog.info? 58).map (fun i => (i.zero, i.size, i.bytes)) = some (some (.agg #[.int .i8 0, .int .i8 0]), 2, 2) := by kernel_rfl
theorem OwP.grown {lo hi : Nat} {w w' : World} {row : Option Nat} {v : Value} {l : List (Int × Int)} (h : OwP lo hi w v l) (hg : w.grownBy w' row) (hne : ∀ g, row = some g → g < lo ∨ hi ≤ g) : OwP lo hi w' v l := by
  obtain ⟨A, c, rfl, h⟩ := h
  refine ⟨A, c, rfl, fun hl => ?_⟩
  obtain ⟨b, cs, h1, h2, h3, h4, h5⟩ := h hl
  refine ⟨b, cs, h1, h2, h3, ?_, h5⟩
  rw [hg.block b (block_lt h4) (fun e => by have := hne b e.symm; omega)]
  exact h4
theorem owns_below {w w' : World} {base : Nat} {e : TypeId} {size : Nat} {v : Value} {n : Nat} {xs : List Value} (h : w.ownsRow base e size v n xs) (hb : Below w.heap.size w w') : w'.ownsRow base e size v n xs :=
  h.kept (row := none) ⟨hb.os, hb.tape, hb.output, hb.size, fun k hk _ => hb.block k hk⟩ (Classical.em _)
theorem allUp_mem {W H : Nat} {p : Int × Int} (h : p ∈ allUp W H 0) : (0 ≤ p.1 ∧ p.1 < H) ∧ (0 ≤ p.2 ∧ p.2 < W) := by
  simp only [allUp, List.range_zero, List.map_nil, List.append_nil, List.mem_flatMap, List.mem_map, List.mem_range] at h
  obtain ⟨c, hc, t, ht, rfl⟩ := h
  dsimp only; omega
/-- The places of all tiles of a kind. -/
def tilesL (r : Rf) (n : Int) (l : List (Int × Int)) : List (Int × Int) := l.filter fun p => decide (r.at p.1.toNat p.2.toNat = n)
theorem tilesL_yes {r : Rf} {n : Int} {l : List (Int × Int)} {j : Nat} {p : Int × Int} (hp : l[j]? = some p) (h : r.at p.1.toNat p.2.toNat = n) : tilesL r n (l.take (j + 1)) = tilesL r n (l.take j) ++ [p] := by
  obtain ⟨hj, rfl⟩ := List.getElem?_eq_some_iff.1 hp
  unfold tilesL
  rw [List.take_succ_eq_append_getElem hj, List.filter_append]
  congr 1
  simp [h]
theorem tilesL_no {r : Rf} {n : Int} {l : List (Int × Int)} {j : Nat} {p : Int × Int} (hp : l[j]? = some p) (h : ¬ r.at p.1.toNat p.2.toNat = n) : tilesL r n (l.take (j + 1)) = tilesL r n (l.take j) := by
  obtain ⟨hj, rfl⟩ := List.getElem?_eq_some_iff.1 hp
  unfold tilesL
  rw [List.take_succ_eq_append_getElem hj, List.filter_append]
  have e : List.filter (fun p : Int × Int => decide (r.at p.1.toNat p.2.toNat = n)) [l[j]] = [] := by simp [h]
  rw [e, List.append_nil]
end Go.Proofs.Ytjcmdihadblodaa
