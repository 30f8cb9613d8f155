/- Arguments of the laws that hold slices, opened. -/
import Derived.Test.YtgbihaliiogboaaOpn
namespace Go.Proofs.Ytgbihaliiogboaa
open Go.RowKit Go.ChangeShapes Go.WideShapes
set_option linter.unusedVariables false
set_option linter.unusedSimpArgs false

theorem ok_i8 {n : Int} (h : (Lit.int .i8 n).wf = true) : -128 ≤ n ∧ n ≤ 127 := by simp [Lit.wf, IntKind.min, IntKind.max, IntKind.bits, IntKind.signed] at h; omega
theorem ok_i16 {n : Int} (h : (Lit.int .i16 n).wf = true) : -32768 ≤ n ∧ n ≤ 32767 := by simp [Lit.wf, IntKind.min, IntKind.max, IntKind.bits, IntKind.signed] at h; omega
theorem ok_u8 {n : Int} (h : (Lit.int .u8 n).wf = true) : 0 ≤ n ∧ n ≤ 255 := by simp [Lit.wf, IntKind.min, IntKind.max, IntKind.bits, IntKind.signed] at h; omega
theorem ok_i64 {n : Int} (h : (Lit.int .i64 n).wf = true) : -9223372036854775808 ≤ n ∧ n ≤ 9223372036854775807 := by simp [Lit.wf, IntKind.min, IntKind.max, IntKind.bits, IntKind.signed] at h; omega
/-- Pairs of numbers lie at A. -/
def PairsAt (k1 k2 : IntKind) (w : World) (A : Option Addr) (l : List (Int × Int)) : Prop := ∀ j p, l[j]? = some p → ∃ b off, A = some ⟨b, off, none⟩ ∧ b < w.heap.size ∧ w.cell? ⟨b, off + j * 2, none⟩ = some (.int k1 p.1) ∧ w.cell? ⟨b, off + j * 2 + 1, none⟩ = some (.int k2 p.2)
section
variable {H : Type} {enc : TypeId × Value → H} {w : World} {base : Nat} {spare : Nat → Bool} {held : Bool}
set_option maxRecDepth 100000 in
theorem open_span {fuel : Nat} {cs : List Value} {x : DataW H × List MemPlace} (hf : DataW.trod enc Try.prog w base spare held fuel 85 cs = some x) (hsz : cs.length = 2) :
    ∃ a b : Int, cs = [.int .i16 a, .int .i16 b] ∧ ((-32768 ≤ a ∧ a ≤ 32767) ∧ (-32768 ≤ b ∧ b ≤ 32767)) := by
  obtain ⟨a, b, e, wa, wb⟩ := open_two Try.underlying85 rfl rfl rfl rfl rfl Try.underlying80 Try.underlying80 (by kernel_rfl) (by kernel_rfl) hf hsz
  exact ⟨a, b, e, ok_i16 wa, ok_i16 wb⟩
set_option maxRecDepth 100000 in
theorem open_spanV {r : Reach} {b0 : Nat} {v : Value} {d : DataW H} {p : List MemPlace} (hv : Value.okWide Try.prog w r b0 85 v) (h : DataW.Trod enc Try.prog w base spare held 85 v d p) :
    ∃ a b : Int, v = .agg #[.int .i16 a, .int .i16 b] ∧ (-32768 ≤ a ∧ a ≤ 32767) ∧ (-32768 ≤ b ∧ b ≤ 32767) := by
  obtain ⟨cs, rfl, hsz⟩ := okWide_struct Try.underlying85 hv
  obtain ⟨fuel, hf⟩ := h
  have hc : Try.prog.cellsOf 85 = 2 := by kernel_rfl
  have hl : cs.toList.length = 2 := by
    obtain ⟨xs, m, _, _, hl, _, _⟩ := DataW.trod_struct Try.underlying85 hf
    rw [hc] at hl; exact hl
  obtain ⟨a, b, e, ba⟩ := open_span hf hl
  refine ⟨a, b, ?_, ba.1, ba.2⟩
  congr 1
  apply Array.toList_inj.1
  exact e
set_option maxRecDepth 100000 in
theorem open_shape {r : Reach} {b0 : Nat} {v : Value} {d : DataW H} {p : List MemPlace} (hv : Value.okWide Try.prog w r b0 24 v) (h : DataW.Trod enc Try.prog w base spare held 24 v d p) :
    ∃ (s : Int) (A : Option Addr) (c : Nat) (l : List (Int × Int)), v = .agg #[.int .u8 s, .slice A l.length c] ∧ (0 ≤ s ∧ s ≤ 255) ∧ l.length ≤ c ∧ c ≤ maxLen ∧ (∀ p ∈ l, (-32768 ≤ p.1 ∧ p.1 ≤ 32767) ∧ (-32768 ≤ p.2 ∧ p.2 ≤ 32767)) ∧ PairsAt .i16 .i16 w A l := by
  obtain ⟨cs, rfl, hsz⟩ := okWide_struct Try.underlying24 hv
  obtain ⟨fuel, hf⟩ := h
  obtain ⟨xs, m, _, _, hl, hn, hel⟩ := DataW.trod_struct Try.underlying24 hf
  have hc1 : Try.prog.cellsOf 5 = 1 := by kernel_rfl
  have hc2 : Try.prog.cellsOf 22 = 1 := by kernel_rfl
  have hc4 : Try.prog.cellsOf 24 = 2 := by kernel_rfl
  simp only [Value.cells] at hl hel
  rw [hc4] at hl
  have hn2 : xs.length = 2 := hn
  have f0 : DataW.trod enc Try.prog w base spare held m 5 ((cs.toList.drop 0).take (Try.prog.cellsOf 5)) = xs[0]? := hel 0 _ rfl
  have f1 : DataW.trod enc Try.prog w base spare held m 22 ((cs.toList.drop 1).take (Try.prog.cellsOf 22)) = xs[1]? := hel 1 _ rfl
  rw [hc1, List.getElem?_eq_getElem (by omega : 0 < xs.length)] at f0
  rw [hc2, List.getElem?_eq_getElem (by omega : 1 < xs.length)] at f1
  obtain ⟨a, ea, _, wa⟩ := DataW.trod_int Try.underlying5 f0
  have hcS : Try.prog.cellsOf 85 = 2 := by kernel_rfl
  obtain ⟨A, c, l, e1, g1, g2, g3, g4⟩ := open_pairs (k1 := .i16) (k2 := .i16) (R := fun p => (-32768 ≤ p.1 ∧ p.1 ≤ 32767) ∧ (-32768 ≤ p.2 ∧ p.2 ≤ 32767)) Try.underlying22 hcS (fun hf hsz => open_span hf hsz) f1
  refine ⟨a, A, c, l, ?_, ok_u8 wa, g1, g2, g3, g4⟩
  congr 1
  apply Array.toList_inj.1
  rw [list2' cs.toList hl, ea, e1]; rfl
set_option maxRecDepth 100000 in
theorem open_piece {fuel : Nat} {cs : List Value} {x : DataW H × List MemPlace} (hf : DataW.trod enc Try.prog w base spare held fuel 71 cs = some x) (hsz : cs.length = 2) :
    ∃ a b : Int, cs = [.int .i8 a, .int .i8 b] ∧ ((-128 ≤ a ∧ a ≤ 127) ∧ (-128 ≤ b ∧ b ≤ 127)) := by
  obtain ⟨a, b, e, wa, wb⟩ := open_two Try.underlying71 rfl rfl rfl rfl rfl Try.underlying62 Try.underlying62 (by kernel_rfl) (by kernel_rfl) hf hsz
  exact ⟨a, b, e, ok_i8 wa, ok_i8 wb⟩
set_option maxRecDepth 100000 in
theorem open_pieces {r : Reach} {b0 : Nat} {v : Value} {d : DataW H} {p : List MemPlace} (hv : Value.okWide Try.prog w r b0 40 v) (h : DataW.Trod enc Try.prog w base spare held 40 v d p) :
    ∃ (A : Option Addr) (c : Nat) (l : List (Int × Int)), v = .slice A l.length c ∧ l.length ≤ c ∧ c ≤ maxLen ∧ (∀ p ∈ l, (-128 ≤ p.1 ∧ p.1 ≤ 127) ∧ (-128 ≤ p.2 ∧ p.2 ≤ 127)) ∧ PairsAt .i8 .i8 w A l := by
  obtain ⟨a, len, cap, rfl⟩ := okWide_slice Try.underlying40 hv
  obtain ⟨fuel, hf⟩ := h
  have hcS : Try.prog.cellsOf 71 = 2 := by kernel_rfl
  obtain ⟨A, c, l, e1, g1, g2, g3, g4⟩ := open_pairs (k1 := .i8) (k2 := .i8) (R := fun p => (-128 ≤ p.1 ∧ p.1 ≤ 127) ∧ (-128 ≤ p.2 ∧ p.2 ≤ 127)) Try.underlying40 hcS (fun hf hsz => open_piece hf hsz) hf
  refine ⟨A, c, l, ?_, g1, g2, g3, g4⟩
  simpa [Value.cells] using e1
set_option maxRecDepth 100000 in
theorem open_i64s {r : Reach} {b0 : Nat} {v : Value} {d : DataW H} {p : List MemPlace} (hv : Value.okWide Try.prog w r b0 75 v) (h : DataW.Trod enc Try.prog w base spare held 75 v d p) :
    ∃ (A : Option Addr) (c : Nat) (l : List Int), v = .slice A l.length c ∧ l.length ≤ c ∧ c ≤ maxLen ∧ (∀ n ∈ l, -9223372036854775808 ≤ n ∧ n ≤ 9223372036854775807) ∧
      ∀ j n, l[j]? = some n → ∃ b off, A = some ⟨b, off, none⟩ ∧ b < w.heap.size ∧ w.cell? ⟨b, off + j, none⟩ = some (.int .i64 n) := by
  obtain ⟨a, len, cap, rfl⟩ := okWide_slice Try.underlying75 hv
  obtain ⟨fuel, hf⟩ := h
  obtain ⟨A, c, l, e1, g1, g2, g3, g4⟩ := open_nums (k := .i64) Try.underlying75 Try.underlying2 (by kernel_rfl) hf
  refine ⟨A, c, l, ?_, g1, g2, fun n hn => ok_i64 (g3 n hn), g4⟩
  simpa [Value.cells] using e1
end
theorem and_mk {a b : Bool} (ha : a = true) (hb : b = true) : (a && b) = true := by rw [ha, hb]; rfl
theorem Try.laidOut : laidOutB Try.prog = true := by kernel_rfl
theorem Try.own : ownKnob Try.prog.godebug = none := by kernel_rfl
end Go.Proofs.Ytgbihaliiogboaa
