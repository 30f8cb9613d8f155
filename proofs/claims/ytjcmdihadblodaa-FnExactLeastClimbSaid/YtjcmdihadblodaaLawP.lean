/- Words for the laws whose results are slices of places. -/
import Derived.Test.YtjcmdihadblodaaSl
import Derived.Test.YtjcmdihadblodaaConv
namespace Go.Proofs.Ytjcmdihadblodaa
open Go.RowKit
set_option linter.unusedSimpArgs false
set_option linter.unusedVariables false

theorem Try.infoLRoof : (Try.prog.info? 33).map (·.size) = some 67 := by kernel_rfl
/-- A result of two: a slice of places and a code. -/
def RetP (w : World) (l : List (Int × Int)) (k : Int) (e : Ending) (w' : World) : Prop := ∃ v, e = .returned (.tuple #[v, .int .i64 k]) ∧ Below w.heap.size w w' ∧ w'.ownsRow w.heap.size 58 2 v l.length (pcells l)
/-- A slice of places whose array lies in the blocks lo .. hi, all of them laid. -/
def OwQ (lo hi : Nat) (w : World) (v : Value) (l : List (Int × Int)) : Prop := OwP lo hi w v l ∧ lo ≤ hi ∧ hi ≤ w.heap.size
theorem OwQ.below {lo hi : Nat} {w w' : World} {v : Value} {l : List (Int × Int)} (h : OwQ lo hi w v l) (hb : Below w.heap.size w w') : OwQ lo hi w' v l := ⟨h.1.below hb h.2.2, h.2.1, Nat.le_trans h.2.2 hb.size⟩
theorem OwQ.below' {lo hi B : Nat} {w w' : World} {v : Value} {l : List (Int × Int)} (h : OwQ lo hi w v l) (hb : Below B w w') (hB : hi ≤ B) : OwQ lo hi w' v l := ⟨h.1.below hb hB, h.2.1, Nat.le_trans h.2.2 hb.size⟩
theorem OwQ.alloc {lo hi : Nat} {w : World} {v : Value} {l : List (Int × Int)} (h : OwQ lo hi w v l) (o : Obj) : OwQ lo hi (w.alloc o) v l := h.below ((Below.refl _ w).alloc (Nat.le_refl _) o)
theorem OwQ.of {w w' : World} {v : Value} {l : List (Int × Int)} (h : w'.ownsRow w.heap.size 58 2 v l.length (pcells l)) (hb : Below w.heap.size w w') : OwQ w.heap.size w'.heap.size w' v l := ⟨OwP.of_owns h, hb.size, Nat.le_refl _⟩
theorem owns_slice {w : World} {base : Nat} {T : TypeId} {s n : Nat} {v : Value} {xs : List Value} (h : w.ownsRow base T s v n xs) : ∃ A c, v = .slice A n c := by
  rcases h.2 with ⟨rfl, rfl⟩ | ⟨g, cap, cur, rfl, _⟩
  · exact ⟨none, 0, rfl⟩
  · exact ⟨_, _, rfl⟩
theorem slp_of {w : World} {base : Nat} {v : Value} {l : List (Int × Int)} (h : w.ownsRow base 58 2 v l.length (pcells l)) : ∃ A c, v = .slice A l.length c ∧ SlP w A l := by
  obtain ⟨A, c, rfl⟩ := owns_slice h
  refine ⟨A, c, rfl, fun j p hj => ?_⟩
  obtain ⟨b, c', e, _, _, h1, h2, h3⟩ := (OwP.of_owns h).cells hj
  obtain ⟨rfl, _⟩ : A = some ⟨b, 0, none⟩ ∧ c = c' := by simpa using e
  exact ⟨b, 0, rfl, h1, by rw [Nat.zero_add]; exact h2, by rw [Nat.zero_add]; exact h3⟩
theorem q_eqPlaceS {lo hi lo' hi' : Nat} {v v' : Value} {l : List (Int × Int)} (hlen : l.length ≤ 1000000) {w : World} (h : OwQ lo hi w v l) (h' : OwQ lo' hi' w v' l) :
    Calls Try.prog 20 #[v, v'] w fun e w' => e = .returned (.bool true) ∧ Below w.heap.size w w' :=
  c_eqPlaceS lo hi lo' hi' v v' l (Nat.le_trans hlen (by decide)) w h.1 h'.1 h.2.2 h'.2.2
/-- One call more, above a world that stays; and where blocks from B' on alone were turned. -/
theorem hstepB {B B' : Nat} {W0 wr w1 : World} (h : Hid (Below B W0 wr)) (h1 : Below B' wr w1) (hB : B ≤ B') : Hid (Below B W0 w1) := h.out.trans (h1.mono hB)
end Go.Proofs.Ytjcmdihadblodaa
