/- The walk of FnExactSameShape, out of its printed parts. -/
import Derived.Test.YtpmadamaefbamaaPureSameShape
import Derived.Test.YtpmadamaefbamaaOpenL
namespace Go.Proofs.Ytpmadamaefbamaa
open Go.RowKit
set_option linter.unusedVariables false
set_option linter.unusedSimpArgs false
open PFnExactSameShape in
theorem kd_spans {w : World} {A : Option Addr} {l : List (Int × Int)} (hl : l.length ≤ 9223372036854775807) (h : PairsAt .i16 .i16 w A l) : ∃ l' : List S75, l'.length = l.length ∧ YtpmadamaefbamaaW.PrintWords.Kd.C k75 w A l'.length l' := by
  refine ⟨l.map fun p => ⟨p.1, p.2⟩, by simp, by simp, by simpa using hl, fun hn => ?_⟩
  have hn' : 0 < l.length := by simpa using hn
  obtain ⟨b, off, rfl, _⟩ := h 0 _ (List.getElem?_eq_getElem hn')
  refine ⟨⟨b, off, none⟩, rfl, fun j p hj => ?_⟩
  rw [List.getElem?_map] at hj
  cases hq : l[j]? with
  | none => rw [hq] at hj; cases hj
  | some q =>
    rw [hq] at hj
    obtain rfl := Option.some.inj hj
    obtain ⟨b', off', e, _, h1, h2⟩ := h j q hq
    obtain ⟨rfl, rfl⟩ : b = b' ∧ off = off' := by simpa using e
    refine ⟨[.int .i16 q.1, .int .i16 q.2], rfl, k75_mk w ⟨q.1, q.2⟩, fun i u hi => ?_⟩
    have hsz : (k75).sz = 2 := rfl
    rw [hsz, add_plain]
    match i, hi with
    | 0, hi => obtain rfl := Option.some.inj hi
               exact h1
    | 1, hi => obtain rfl := Option.some.inj hi
               exact h2
open PFnExactSameShape in
theorem w_FnExactSameShape (s0 : Int) (A0 : Option Addr) (c0 : Nat) (l0 : List (Int × Int)) (bs0 : 0 ≤ s0 ∧ s0 ≤ 255) (lc0 : l0.length ≤ c0) (cm0 : c0 ≤ maxLen) (bz0 : ∀ p ∈ l0, (-32768 ≤ p.1 ∧ p.1 ≤ 32767) ∧ (-32768 ≤ p.2 ∧ p.2 ≤ 32767)) {w : World} (rd0 : PairsAt .i16 .i16 w A0 l0)
    (s1 : Int) (A1 : Option Addr) (c1 : Nat) (l1 : List (Int × Int)) (bs1 : 0 ≤ s1 ∧ s1 ≤ 255) (lc1 : l1.length ≤ c1) (cm1 : c1 ≤ maxLen) (bz1 : ∀ p ∈ l1, (-32768 ≤ p.1 ∧ p.1 ≤ 32767) ∧ (-32768 ≤ p.2 ∧ p.2 ≤ 32767)) (rd1 : PairsAt .i16 .i16 w A1 l1) (_w : World) :
    Calls Try.prog 5 #[.agg #[.int .u8 s0, .slice A0 l0.length c0], .agg #[.int .u8 s1, .slice A1 l1.length c1]] w fun e w' => e = .returned (.bool true) ∧ Below w.heap.size w w' := by
  unfold maxLen at cm0 cm1
  obtain ⟨x, hx, kx⟩ := kd_spans (by omega) rd0
  obtain ⟨y, hy, ky⟩ := kd_spans (by omega) rd1
  obtain ⟨k, hk⟩ := pure_SameShape s0 x s1 y (by omega) (by omega)
  rw [← hx, ← hy]
  exact laws_FnExactSameShape.calls k s0 A0 c0 x s1 A1 c1 y true w kx (by omega) ky (by omega) hk
end Go.Proofs.Ytpmadamaefbamaa
