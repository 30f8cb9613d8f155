/- Arguments of the laws that are roofs or places, opened; and what they leave behind. -/
import Derived.Test.YtjcmdihadblodaaRoof
namespace Go.Proofs.Ytjcmdihadblodaa
open Go.RowKit Go.ChangeShapes Go.WideShapes
set_option linter.unusedVariables false
set_option linter.unusedSimpArgs false

theorem and_mk {a b : Bool} (ha : a = true) (hb : b = true) : (a && b) = true := by rw [ha, hb]; rfl
theorem Try.laidOut : laidOutB Try.prog = true := by kernel_rfl
theorem Try.own : ownKnob Try.prog.godebug = none := by kernel_rfl
section
variable {H : Type} {enc : TypeId × Value → H} {w : World} {base : Nat} {spare : Nat → Bool} {held : Bool}
/-- Bytes out of an array of arrays of them. -/
theorem open_row {fuel : Nat} {cs : List Value} {x : DataW H × List MemPlace} (h : DataW.trod enc Try.prog w base spare held fuel 30 cs = some x) :
    ∃ t : List Int, cs = t.map (Value.int .u8) ∧ t.length = 8 ∧ ∀ n ∈ t, 0 ≤ n ∧ n ≤ 255 := by
  obtain ⟨xs, m, _, _, hl, hn, hel⟩ := DataW.trod_array Try.underlying30 h
  have hc8 : Try.prog.cellsOf 30 = 8 := by kernel_rfl
  have hc1 : Try.prog.cellsOf 5 = 1 := by kernel_rfl
  rw [hc8] at hl
  have key : ∀ j, j < 8 → ∃ n : Int, cs[j]? = some (.int .u8 n) ∧ 0 ≤ n ∧ n ≤ 255 := by
    intro j hj
    have h1 := hel j hj
    rw [hc1, List.getElem?_eq_getElem (by omega : j < xs.length)] at h1
    obtain ⟨n, h2, _, wf⟩ := DataW.trod_int Try.underlying5 h1
    have b := bounds_u8 wf
    refine ⟨n, ?_, b⟩
    have : ((cs.drop (j * 1)).take 1)[0]? = some (.int .u8 n) := by rw [h2]; rfl
    simpa [List.getElem?_take, List.getElem?_drop] using this
  refine ⟨cs.map (fun v => intOf v), ?_, by simpa using hl, ?_⟩
  · rw [List.map_map]
    apply List.ext_getElem?
    intro j
    by_cases hj : j < 8
    · obtain ⟨n, hn, _⟩ := key j hj
      rw [List.getElem?_map, hn]; rfl
    · rw [List.getElem?_eq_none (by omega), List.getElem?_eq_none (by simp; omega)]
  · intro n hn
    obtain ⟨v, hv, rfl⟩ := List.mem_map.1 hn
    obtain ⟨j, hj, rfl⟩ := List.getElem_of_mem hv
    obtain ⟨n, h1, h2⟩ := key j (by omega)
    rw [List.getElem?_eq_getElem hj] at h1
    simp only [Option.some.injEq] at h1
    rw [h1]; exact h2
theorem open_tiles {fuel : Nat} {cs : List Value} {x : DataW H × List MemPlace} (h : DataW.trod enc Try.prog w base spare held fuel 31 cs = some x) :
    ∃ t : List Int, cs = t.map (Value.int .u8) ∧ t.length = 64 ∧ ∀ n ∈ t, 0 ≤ n ∧ n ≤ 255 := by
  obtain ⟨xs, m, _, _, hl, hn, hel⟩ := DataW.trod_array Try.underlying31 h
  have hc8 : Try.prog.cellsOf 30 = 8 := by kernel_rfl
  have hc64 : Try.prog.cellsOf 31 = 64 := by kernel_rfl
  rw [hc64] at hl
  have key : ∀ j, j < 64 → ∃ n : Int, cs[j]? = some (.int .u8 n) ∧ 0 ≤ n ∧ n ≤ 255 := by
    intro j hj
    have h1 := hel (j / 8) (by omega)
    rw [hc8, List.getElem?_eq_getElem (by omega : j / 8 < xs.length)] at h1
    obtain ⟨t, h2, h3, h4⟩ := open_row h1
    have hj8 : j % 8 < t.length := by omega
    have h5 : ((cs.drop (j / 8 * 8)).take 8)[j % 8]? = some (.int .u8 t[j % 8]) := by rw [h2]; simp [hj8]
    rw [List.getElem?_take, if_pos (by omega), List.getElem?_drop] at h5
    have e : j / 8 * 8 + j % 8 = j := by omega
    rw [e] at h5
    exact ⟨_, h5, h4 _ (List.getElem_mem hj8)⟩
  refine ⟨cs.map (fun v => intOf v), ?_, by simpa using hl, ?_⟩
  · rw [List.map_map]
    apply List.ext_getElem?
    intro j
    by_cases hj : j < 64
    · obtain ⟨n, hn, _⟩ := key j hj
      rw [List.getElem?_map, hn]; rfl
    · rw [List.getElem?_eq_none (by omega), List.getElem?_eq_none (by simp; omega)]
  · intro n hn
    obtain ⟨v, hv, rfl⟩ := List.mem_map.1 hn
    obtain ⟨j, hj, rfl⟩ := List.getElem_of_mem hv
    obtain ⟨n, h1, h2⟩ := key j (by omega)
    rw [List.getElem?_eq_getElem hj] at h1
    simp only [Option.some.injEq] at h1
    rw [h1]; exact h2
theorem list67 (l : List Value) (hl : l.length = 67) : l = (l.drop 0).take 1 ++ ((l.drop 1).take 1 ++ ((l.drop 2).take 1 ++ (l.drop 3).take 64)) := by
  have h0 : l = l.take 1 ++ l.drop 1 := (List.take_append_drop 1 l).symm
  have h1 : l.drop 1 = (l.drop 1).take 1 ++ l.drop 2 := by
    have := (List.take_append_drop 1 (l.drop 1)).symm
    rwa [List.drop_drop] at this
  have h2 : l.drop 2 = (l.drop 2).take 1 ++ l.drop 3 := by
    have := (List.take_append_drop 1 (l.drop 2)).symm
    rwa [List.drop_drop] at this
  have h3 : (l.drop 3).take 64 = l.drop 3 := List.take_of_length_le (by rw [List.length_drop, hl]; exact Nat.le_refl _)
  rw [h3, ← h2, ← h1, List.drop_zero, ← h0]
set_option maxRecDepth 100000 in
theorem open_roof {r : Reach} {b0 : Nat} {v : Value} {d : DataW H} {p : List MemPlace} (hv : Value.okWide Try.prog w r b0 33 v) (h : DataW.Trod enc Try.prog w base spare held 33 v d p) :
    ∃ R : Rf, v = .agg (rcells R) ∧ R.Ok := by
  obtain ⟨cs, rfl, hsz⟩ := okWide_struct Try.underlying33 hv
  obtain ⟨fuel, hf⟩ := h
  obtain ⟨xs, m, _, _, hl, hn, hel⟩ := DataW.trod_struct Try.underlying33 hf
  have hc1 : Try.prog.cellsOf 29 = 1 := by kernel_rfl
  have hc2 : Try.prog.cellsOf 5 = 1 := by kernel_rfl
  have hc3 : Try.prog.cellsOf 31 = 64 := by kernel_rfl
  have hc4 : Try.prog.cellsOf 33 = 67 := by kernel_rfl
  simp only [Value.cells] at hl hel
  rw [hc4] at hl
  have hn4 : xs.length = 4 := hn
  have f0 : DataW.trod enc Try.prog w base spare held m 29 ((cs.toList.drop 0).take (Try.prog.cellsOf 29)) = xs[0]? := hel 0 _ rfl
  have f1 : DataW.trod enc Try.prog w base spare held m 29 ((cs.toList.drop 1).take (Try.prog.cellsOf 29)) = xs[1]? := hel 1 _ rfl
  have f2 : DataW.trod enc Try.prog w base spare held m 5 ((cs.toList.drop 2).take (Try.prog.cellsOf 5)) = xs[2]? := hel 2 _ rfl
  have f3 : DataW.trod enc Try.prog w base spare held m 31 ((cs.toList.drop 3).take (Try.prog.cellsOf 31)) = xs[3]? := hel 3 _ rfl
  rw [hc1, List.getElem?_eq_getElem (by omega : 0 < xs.length)] at f0
  rw [hc1, List.getElem?_eq_getElem (by omega : 1 < xs.length)] at f1
  rw [hc2, List.getElem?_eq_getElem (by omega : 2 < xs.length)] at f2
  rw [hc3, List.getElem?_eq_getElem (by omega : 3 < xs.length)] at f3
  obtain ⟨a, ea, _, wa⟩ := DataW.trod_int Try.underlying29 f0
  obtain ⟨b, eb, _, wb⟩ := DataW.trod_int Try.underlying29 f1
  obtain ⟨c, ec, _, wc⟩ := DataW.trod_int Try.underlying5 f2
  obtain ⟨t, et, lt, bt⟩ := open_tiles f3
  have ba := bounds_i8 wa
  have bb := bounds_i8 wb
  have bc := bounds_u8 wc
  refine ⟨⟨a, b, c, t⟩, ?_, ⟨ba.1, ba.2, bb.1, bb.2, bc.1, bc.2, lt, bt⟩⟩
  congr 1
  apply Array.toList_inj.1
  have e : cs.toList = (cs.toList.drop 0).take 1 ++ ((cs.toList.drop 1).take 1 ++ ((cs.toList.drop 2).take 1 ++ (cs.toList.drop 3).take 64)) := by
    exact list67 cs.toList hl
  rw [e, ea, eb, ec, et]
  simp [rcells]
theorem list2 (l : List Value) (hl : l.length = 2) : l = (l.drop 0).take 1 ++ (l.drop 1).take 1 := by
  match l, hl with
  | [a, b], _ => rfl
set_option maxRecDepth 10000 in
theorem open_place_cells {fuel : Nat} {cs : List Value} {x : DataW H × List MemPlace} (hf : DataW.trod enc Try.prog w base spare held fuel 60 cs = some x) (hsz : cs.length = 2) :
    ∃ a b : Int, cs = [.int .i8 a, .int .i8 b] ∧ (-128 ≤ a ∧ a ≤ 127) ∧ (-128 ≤ b ∧ b ≤ 127) := by
  obtain ⟨xs, m, _, _, hl, hn, hel⟩ := DataW.trod_struct Try.underlying60 hf
  have hc1 : Try.prog.cellsOf 29 = 1 := by kernel_rfl
  have hn2 : xs.length = 2 := hn
  have f0 : DataW.trod enc Try.prog w base spare held m 29 ((cs.drop 0).take (Try.prog.cellsOf 29)) = xs[0]? := hel 0 _ rfl
  have f1 : DataW.trod enc Try.prog w base spare held m 29 ((cs.drop 1).take (Try.prog.cellsOf 29)) = xs[1]? := hel 1 _ rfl
  rw [hc1, List.getElem?_eq_getElem (by omega : 0 < xs.length)] at f0
  rw [hc1, List.getElem?_eq_getElem (by omega : 1 < xs.length)] at f1
  obtain ⟨a, ea, _, wa⟩ := DataW.trod_int Try.underlying29 f0
  obtain ⟨b, eb, _, wb⟩ := DataW.trod_int Try.underlying29 f1
  refine ⟨a, b, ?_, bounds_i8 wa, bounds_i8 wb⟩
  rw [list2 cs hsz, ea, eb]; rfl
set_option maxRecDepth 100000 in
theorem open_place {r : Reach} {b0 : Nat} {v : Value} {d : DataW H} {p : List MemPlace} (hv : Value.okWide Try.prog w r b0 60 v) (h : DataW.Trod enc Try.prog w base spare held 60 v d p) :
    ∃ a b : Int, v = .agg #[.int .i8 a, .int .i8 b] ∧ (-128 ≤ a ∧ a ≤ 127) ∧ (-128 ≤ b ∧ b ≤ 127) := by
  obtain ⟨cs, rfl, hsz⟩ := okWide_struct Try.underlying60 hv
  obtain ⟨fuel, hf⟩ := h
  have hc : Try.prog.cellsOf 60 = 2 := by kernel_rfl
  have hl : cs.toList.length = 2 := by
    obtain ⟨xs, m, _, _, hl, _, _⟩ := DataW.trod_struct Try.underlying60 hf
    rw [hc] at hl; exact hl
  obtain ⟨a, b, e, ba, bb⟩ := open_place_cells hf hl
  refine ⟨a, b, ?_, ba, bb⟩
  congr 1
  apply Array.toList_inj.1
  exact e
end
end Go.Proofs.Ytjcmdihadblodaa
