/- Arguments of the laws that hold slices, opened. -/
import Derived.Test.YtjcmdihadblodaaOpn
import Derived.Test.YtjcmdihadblodaaOpen
namespace Go.Proofs.Ytjcmdihadblodaa
open Go.RowKit Go.ChangeShapes Go.WideShapes
set_option linter.unusedVariables false
set_option linter.unusedSimpArgs false

theorem ok_i8 {n : Int} (h : (Lit.int .i8 n).wf = true) : -128 ≤ n ∧ n ≤ 127 := by simp [Lit.wf, IntKind.min, IntKind.max, IntKind.bits, IntKind.signed] at h; omega
theorem ok_i16 {n : Int} (h : (Lit.int .i16 n).wf = true) : -32768 ≤ n ∧ n ≤ 32767 := by simp [Lit.wf, IntKind.min, IntKind.max, IntKind.bits, IntKind.signed] at h; omega
theorem ok_u8 {n : Int} (h : (Lit.int .u8 n).wf = true) : 0 ≤ n ∧ n ≤ 255 := by simp [Lit.wf, IntKind.min, IntKind.max, IntKind.bits, IntKind.signed] at h; omega
theorem ok_i64 {n : Int} (h : (Lit.int .i64 n).wf = true) : -9223372036854775808 ≤ n ∧ n ≤ 9223372036854775807 := by simp [Lit.wf, IntKind.min, IntKind.max, IntKind.bits, IntKind.signed] at h; omega
/-- Pairs of numbers lie at A. -/
def PairsAt (k1 k2 : IntKind) (w : World) (A : Option Addr) (l : List (Int × Int)) : Prop := ∀ j p, l[j]? = some p → ∃ b off, A = some ⟨b, off, none⟩ ∧ b < w.heap.size ∧ w.cell? ⟨b, off + j * 2, none⟩ = some (.int k1 p.1) ∧ w.cell? ⟨b, off + j * 2 + 1, none⟩ = some (.int k2 p.2)
section
variable {H : Type} {enc : TypeId × Value → H} {w : World} {base : Nat} {spare : Nat → Bool} {held : Bool}
set_option maxRecDepth 100000 in
theorem open_placeC {fuel : Nat} {cs : List Value} {x : DataW H × List MemPlace} (hf : DataW.trod enc Try.prog w base spare held fuel 60 cs = some x) (hsz : cs.length = 2) :
    ∃ a b : Int, cs = [.int .i8 a, .int .i8 b] ∧ ((-128 ≤ a ∧ a ≤ 127) ∧ (-128 ≤ b ∧ b ≤ 127)) := by
  obtain ⟨a, b, e, wa, wb⟩ := open_two Try.underlying60 rfl rfl rfl rfl rfl Try.underlying29 Try.underlying29 (by kernel_rfl) (by kernel_rfl) hf hsz
  exact ⟨a, b, e, ok_i8 wa, ok_i8 wb⟩
set_option maxRecDepth 100000 in
theorem open_places {r : Reach} {b0 : Nat} {v : Value} {d : DataW H} {p : List MemPlace} (hv : Value.okWide Try.prog w r b0 34 v) (h : DataW.Trod enc Try.prog w base spare held 34 v d p) :
    ∃ (A : Option Addr) (c : Nat) (l : List (Int × Int)), v = .slice A l.length c ∧ l.length ≤ c ∧ c ≤ maxLen ∧ (∀ p ∈ l, (-128 ≤ p.1 ∧ p.1 ≤ 127) ∧ (-128 ≤ p.2 ∧ p.2 ≤ 127)) ∧ PairsAt .i8 .i8 w A l := by
  obtain ⟨a, len, cap, rfl⟩ := okWide_slice Try.underlying34 hv
  obtain ⟨fuel, hf⟩ := h
  have hcS : Try.prog.cellsOf 60 = 2 := by kernel_rfl
  obtain ⟨A, c, l, e1, g1, g2, g3, g4⟩ := open_pairs (k1 := .i8) (k2 := .i8) (R := fun p => (-128 ≤ p.1 ∧ p.1 ≤ 127) ∧ (-128 ≤ p.2 ∧ p.2 ≤ 127)) Try.underlying34 hcS (fun hf hsz => open_placeC hf hsz) hf
  refine ⟨A, c, l, ?_, g1, g2, g3, g4⟩
  simpa [Value.cells] using e1
set_option maxRecDepth 100000 in
theorem open_i64s {r : Reach} {b0 : Nat} {v : Value} {d : DataW H} {p : List MemPlace} (hv : Value.okWide Try.prog w r b0 22 v) (h : DataW.Trod enc Try.prog w base spare held 22 v d p) :
    ∃ (A : Option Addr) (c : Nat) (l : List Int), v = .slice A l.length c ∧ l.length ≤ c ∧ c ≤ maxLen ∧ (∀ n ∈ l, -9223372036854775808 ≤ n ∧ n ≤ 9223372036854775807) ∧
      ∀ j n, l[j]? = some n → ∃ b off, A = some ⟨b, off, none⟩ ∧ b < w.heap.size ∧ w.cell? ⟨b, off + j, none⟩ = some (.int .i64 n) := by
  obtain ⟨a, len, cap, rfl⟩ := okWide_slice Try.underlying22 hv
  obtain ⟨fuel, hf⟩ := h
  obtain ⟨A, c, l, e1, g1, g2, g3, g4⟩ := open_nums (k := .i64) Try.underlying22 Try.underlying2 (by kernel_rfl) hf
  refine ⟨A, c, l, ?_, g1, g2, fun n hn => ok_i64 (g3 n hn), g4⟩
  simpa [Value.cells] using e1
end
end Go.Proofs.Ytjcmdihadblodaa
