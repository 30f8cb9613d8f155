/- Worlds in which nothing but some blocks was turned; pairs that lie in memory, later on. -/
import Derived.Test.YtjcmdihadblodaaBase
import Derived.Test.YtjcmdihadblodaaOpenL
namespace Go.Proofs.Ytjcmdihadblodaa
open Go.RowKit
set_option linter.unusedSimpArgs false
set_option linter.unusedVariables false

/-- Nothing but the blocks lo .. hi is turned. -/
structure OutS (lo hi : Nat) (w w' : World) : Prop where
  size : w.heap.size ≤ w'.heap.size
  block : ∀ b, b < w.heap.size → b < lo ∨ hi ≤ b → w'.heap[b]? = w.heap[b]?
theorem OutS.refl (lo hi : Nat) (w : World) : OutS lo hi w w := ⟨Nat.le_refl _, fun _ _ _ => rfl⟩
theorem OutS.trans {lo hi : Nat} {w w1 w2 : World} (h : OutS lo hi w w1) (h2 : OutS lo hi w1 w2) : OutS lo hi w w2 := ⟨Nat.le_trans h.size h2.size, fun b hb hr => (h2.block b (Nat.lt_of_lt_of_le hb h.size) hr).trans (h.block b hb hr)⟩
theorem OutS.setCell {lo hi : Nat} {w w1 : World} (h : OutS lo hi w w1) {a : Addr} (u : Value) (h1 : lo ≤ a.block) (h2 : a.block < hi) : OutS lo hi w (w1.setCell a u) :=
  ⟨by simpa using h.size, fun b hb hr => by
    rw [← h.block b hb hr]
    have hb1 := Nat.lt_of_lt_of_le hb h.size
    have h3 := block_set_other (Array.getElem?_eq_getElem hb1) (a := a) u (by omega)
    rw [h3, Array.getElem?_eq_getElem hb1]⟩
theorem OutS.alloc {lo hi : Nat} (w : World) (o : Obj) : OutS lo hi w (w.alloc o) := ⟨by simp, fun b hb _ => heap_alloc_old w o hb⟩
theorem OutS.keep {lo hi b : Nat} {w w' : World} {o : Obj} (h : OutS lo hi w w') (hb : w.heap[b]? = some o) (hr : b < lo ∨ hi ≤ b) : w'.heap[b]? = some o := (h.block b (block_lt hb) hr).trans hb
theorem PairsAt.below {k1 k2 : IntKind} {B : Nat} {w w' : World} {A : Option Addr} {l : List (Int × Int)} (h : PairsAt k1 k2 w A l) (hb : Below B w w') (hB : w.heap.size ≤ B) : PairsAt k1 k2 w' A l := fun j p hj => by
  obtain ⟨b, off, e, h1, h2, h3⟩ := h j p hj
  exact ⟨b, off, e, Nat.lt_of_lt_of_le h1 hb.size, (hb.cell (p := ⟨b, _, none⟩) (by show b < B; omega)).trans h2, (hb.cell (p := ⟨b, _, none⟩) (by show b < B; omega)).trans h3⟩
end Go.Proofs.Ytjcmdihadblodaa
