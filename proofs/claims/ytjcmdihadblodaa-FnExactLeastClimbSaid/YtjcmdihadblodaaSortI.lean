/- slices.SortFunc over few numbers, descending. -/
import Derived.Test.YtjcmdihadblodaaLeastP
import Derived.Test.YtjcmdihadblodaaSrtB4
namespace Go.Proofs.Ytjcmdihadblodaa
open Go.RowKit Go.Shelf
set_option linter.unusedSimpArgs false
set_option linter.unusedVariables false

theorem one_i64 : OneCell (Value.int .i64) := fun _ => rfl
theorem holds_row {B : Nat} {w : World} {g n c : Nat} {l : List Int} (h : RowI B w (.slice (some ⟨g, 0, none⟩) n c) l) : Sort.Holds (Value.int .i64) w g 0 l.toArray := fun j hj => by
  have hj' : j < l.length := by simpa using hj
  obtain ⟨g', c', e, _, _, h1, h2⟩ := h.cell (List.getElem?_eq_getElem hj')
  obtain ⟨rfl, _, _⟩ : g = g' ∧ n = l.length ∧ c = c' := by simpa using e
  rw [Nat.zero_add]
  refine ⟨?_, h2⟩
  rw [h1, getElem!_pos _ j hj]
  simp
theorem putRow_row {B : Nat} {w : World} {g n c : Nat} {l l' : List Int} (h : RowI B w (.slice (some ⟨g, 0, none⟩) n c) l) (hl : l'.length = l.length) : RowI B (Sort.putRow (Value.int .i64) w g 0 l'.toArray) (.slice (some ⟨g, 0, none⟩) n c) l' := by
  refine ⟨by simp [icells], ?_⟩
  rcases h.2 with ⟨e, _⟩ | ⟨g', cap, cur, e, hb, hgg, hc, hm, hs, ht⟩
  · simp at e
  · simp only [Value.slice.injEq, Option.some.injEq, Addr.mk.injEq, and_true] at e
    obtain ⟨rfl, rfl, rfl⟩ := e
    refine .inr ⟨g, c, Sort.putCells (Value.int .i64) 0 l'.toArray cur, by rw [hl], hb, ?_, by rw [hl]; exact hc, hm, by simp [Sort.putCells, hs], ?_⟩
    · unfold Sort.putRow Sort.mapBlock
      simp only [Array.getElem?_modify, hgg, if_true, Option.map_some]
      rfl
    · apply List.ext_getElem?
      intro j
      by_cases hj : j < l'.length
      · have hjc : j < cur.size := by omega
        rw [List.getElem?_take, if_pos (by omega)]
        simp only [Sort.putCells, Array.getElem?_toList, Array.getElem?_mapIdx, Array.getElem?_eq_getElem hjc, Option.map_some]
        rw [if_pos ⟨Nat.zero_le _, by simpa using hj⟩]
        unfold icells
        rw [List.getElem?_map, List.getElem?_eq_getElem hj]
        simp [hj]
      · have e1 : (icells l')[j]? = none := List.getElem?_eq_none (by simp [icells]; omega)
        rw [e1, List.getElem?_eq_none]
        simp only [List.length_take]
        omega
theorem below_putRow {B : Nat} (w : World) (g : Nat) (hg : B ≤ g) (d : Array Int) : Below B w (Sort.putRow (Value.int .i64) w g 0 d) :=
  ⟨rfl, rfl, rfl, by simp, fun k hk => by
    unfold Sort.putRow Sort.mapBlock
    simp only [Array.getElem?_modify, if_neg (show ¬ g = k by omega)]⟩
set_option maxRecDepth 100000 in
theorem c_insNone (A : Option Addr) (c : Nat) (fv : Value) (w : World) : Calls Try.prog 77 #[.slice A 0 c, .int .i64 0, .int .i64 0, fv] w fun e w' => e = .returned (.tuple #[]) ∧ w = w' := by
  go_enter Try.func77, Try.ntmps77
  go_wp2_with fail
  refine wp_loop_rounds 1 ?_
  rw [rounds_succ]
  go_wp2_with fail
  go_end0
  exact ⟨rfl, rfl⟩
set_option maxRecDepth 100000 in
theorem c_pdqNone (A : Option Addr) (c : Nat) (lim : Int) (fv : Value) (w : World) : Calls Try.prog 63 #[.slice A 0 c, .int .i64 0, .int .i64 0, .int .i64 lim, fv] w fun e w' => e = .returned (.tuple #[]) ∧ w = w' := by
  go_enter Try.func63, Try.ntmps63
  go_wp2_with fail
  refine wp_loop_rounds 1 ?_
  rw [rounds_succ]
  go_wp2_with (go_at_call 77; ((with_reducible refine (c_insNone _ _ _ _).mono ?_); rintro e w1 ⟨rfl, rfl⟩))
  refine bodyPost_ret (results_none rfl _ _ _) rfl ?_
  exact ⟨rfl, rfl⟩
theorem c_bitsLen (n : Nat) (W : World) (hn : n ≤ 12) : Calls Try.prog 64 #[.int .u64 n] W fun e w' => (∃ l : Int, e = .returned (.int .i64 l)) ∧ w' = W :=
  (Any.bits_Len Try.lays125 (n : Int) W (by omega) (by omega)).mono fun _ _ h => ⟨⟨_, h.1⟩, h.2⟩
set_option maxRecDepth 100000 in
theorem c_sortNone (A : Option Addr) (c : Nat) (fv : Value) (w : World) : Calls Try.prog 40 #[.slice A 0 c, fv] w fun e w' => e = .returned (.tuple #[]) ∧ w = w' := by
  have HL : Hid (Calls Try.prog 64 #[.int .u64 0] w fun e w' => (∃ l : Int, e = .returned (.int .i64 l)) ∧ w' = w) := c_bitsLen 0 w (by omega)
  go_enter Try.func40, Try.ntmps40
  go_wp2_with (first
    | (go_at_call 64; ((with_reducible refine HL.out.mono ?_); rintro e w1 ⟨⟨lm, rfl⟩, rfl⟩))
    | (go_at_call 63; ((with_reducible refine (c_pdqNone _ _ _ _ _).mono ?_); rintro e w1 ⟨rfl, rfl⟩)))
  go_end0
  exact ⟨rfl, rfl⟩
/-- The rungs, sorted, the most first. -/
theorem c_sortDesc (B : Nat) (A : Option Addr) (c : Nat) (l : List Int) (h12 : l.length ≤ 12) (w : World) (hO : RowI B w (.slice A l.length c) l) :
    Calls Try.prog 40 #[.slice A l.length c, .func (.func 41) #[] #[]] w fun e w' => e = .returned (.tuple #[]) ∧ Below B w w' ∧ RowI B w' (.slice A l.length c) (sortI l) := by
  cases l with
  | nil =>
    refine (c_sortNone A c _ w).mono ?_
    rintro e w' ⟨rfl, rfl⟩
    exact ⟨rfl, Below.refl _ _, by have : sortI [] = [] := List.eq_nil_of_length_eq_zero (sortI_len []); rw [this]; exact hO⟩
  | cons x l =>
    obtain ⟨g, c', e, hg, hgl, _⟩ := hO.cell (j := 0) rfl
    obtain ⟨rfl, rfl⟩ : A = some ⟨g, 0, none⟩ ∧ c = c' := by simpa using e
    have h := Any.slices_SortFunc_small Try.laysF6 (Value.int .i64) one_i64 (fun a b => cmpZ b a) 41 #[] g 0 c (x :: l).toArray w (enters_of Try.func41 (by kernel_rfl) rfl)
      (fun m os dk _ a b => (c_descClo a b _).mono fun _ _ h => ⟨h.1, 0, h.2.symm⟩) (holds_row hO) (by simpa using h12) (fun n W hn => c_bitsLen n W hn)
    refine h.mono ?_
    rintro e w' ⟨rfl, q, rfl⟩
    have he : Sort.insertionSort (ltOf fun a b => cmpZ b a) (x :: l).toArray 0 (x :: l).toArray.size = (sortI (x :: l)).toArray := by unfold sortI; simp
    rw [he]
    have h1 := putRow_row hO (sortI_len (x :: l))
    have h2 := below_drewN (Sort.putRow (Value.int .i64) w g 0 (sortI (x :: l)).toArray).heap.size (Sort.putRow (Value.int .i64) w g 0 (sortI (x :: l)).toArray) q
    have hBw : B ≤ w.heap.size := by omega
    exact ⟨rfl, (below_putRow w g hg _).trans (h2.mono (by simp; omega)), h1.below h2 (Nat.le_refl _)⟩
end Go.Proofs.Ytjcmdihadblodaa
