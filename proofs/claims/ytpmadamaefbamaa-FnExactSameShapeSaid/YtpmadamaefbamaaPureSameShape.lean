/- SameShape: the printed functions answer as the law says. -/
import Derived.Test.YtpmadamaefbamaaPFnExactSameShapex
namespace Go.Proofs.Ytpmadamaefbamaa.PFnExactSameShape
open Go.RowKit
set_option linter.unusedVariables false
set_option linter.unusedSimpArgs false

/-- A list of spans, the same numbers in the other type. -/
def toL (l : List S75) : List S59 := l.map fun x => ⟨x.f0, x.f1⟩
theorem toL_len (l : List S75) : (toL l).length = l.length := by simp [toL]
theorem wrapI {i n : Nat} (h : i < n) (hn : n ≤ 1048576) : wrap64 ((i : Int) + 1) = ((i + 1 : Nat) : Int) := by unfold wrap64; omega
theorem conv_loop (l : List S75) (hn : l.length ≤ 1048576) : ∀ (d k i : Nat) (x : List S59), l.length - i = d → d < k → i ≤ l.length → x.length = l.length → x.take i = (toL l).take i → laws_toSpanS.l0 k l x (i : Int) = some (toL l) := by
  intro d
  induction d with
  | zero =>
    intro k i x hd hk hi hx ht
    obtain ⟨k, rfl⟩ : ∃ m, k = m + 1 := ⟨k - 1, by omega⟩
    simp only [laws_toSpanS.l0]
    rw [if_neg (by omega)]
    have hi' : i = l.length := by omega
    have h1 : x.take i = x := List.take_of_length_le (by omega)
    have h2 : (toL l).take i = toL l := List.take_of_length_le (by rw [toL_len]; omega)
    rw [h1, h2] at ht
    rw [ht]
  | succ d ih =>
    intro k i x hd hk hi hx ht
    obtain ⟨k, rfl⟩ : ∃ m, k = m + 1 := ⟨k - 1, by omega⟩
    have hil : i < l.length := by omega
    simp only [laws_toSpanS.l0, laws_toSpan.f, Option.bind_some]
    rw [if_pos (by omega), if_pos (by omega), if_pos (by omega), wrapI hil hn]
    refine ih k (i + 1) _ (by omega) (by omega) (by omega) (by rw [List.length_set, hx]) ?_
    have hix : i < x.length := by omega
    have hit : i < (toL l).length := by rw [toL_len]; exact hil
    have e1 : (x.set (i : Int).toNat (⟨(rd_T75 l i).f0, (rd_T75 l i).f1⟩ : S59)).take (i + 1) = x.take i ++ [(⟨(rd_T75 l i).f0, (rd_T75 l i).f1⟩ : S59)] := by
      rw [Int.toNat_natCast, List.take_succ_eq_append_getElem (by rw [List.length_set]; exact hix), List.getElem_set_self, List.take_set_of_le (Nat.le_refl _)]
    rw [e1, ht, List.take_succ_eq_append_getElem hit]
    congr 2
    simp [toL, rd_T75, List.getD_eq_getElem?_getD, hil]
theorem conv_all (l : List S75) (hn : l.length ≤ 1048576) (a : Int) (k : Nat) (hk : l.length < k) : laws_toShape.f k a l = some (a, toL l) := by
  unfold laws_toShape.f laws_toSpanS.f
  rw [if_pos (by omega), if_pos (by omega)]
  have := conv_loop l hn l.length k 0 (List.replicate ((l.length : Int) : Int).toNat z59) (by omega) hk (by omega) (by simp) (by simp)
  rw [show ((0 : Nat) : Int) = 0 from rfl] at this
  rw [this]; rfl
theorem eq_loop (x : List S59) (hn : x.length ≤ 1048576) : ∀ (d k i : Nat), x.length - i = d → d < k → i ≤ x.length → laws_eqSpanS.l0 k x x (i : Int) = some true := by
  intro d
  induction d with
  | zero =>
    intro k i hd hk hi
    obtain ⟨k, rfl⟩ : ∃ m, k = m + 1 := ⟨k - 1, by omega⟩
    simp only [laws_eqSpanS.l0]
    rw [if_neg (by omega)]
  | succ d ih =>
    intro k i hd hk hi
    obtain ⟨k, rfl⟩ : ∃ m, k = m + 1 := ⟨k - 1, by omega⟩
    simp only [laws_eqSpanS.l0, laws_eqSpan.f, if_true, Option.bind_some]
    rw [if_pos (by omega), if_pos (by omega), if_pos (by omega), wrapI (by omega) hn]
    exact ih k (i + 1) (by omega) (by omega) (by omega)
theorem eq_all (x : List S59) (hn : x.length ≤ 1048576) (a : Int) (k : Nat) (hk : x.length < k) : laws_eqShape.f k a x a x = some true := by
  unfold laws_eqShape.f laws_eqSpanS.f
  have := eq_loop x hn x.length k 0 (by omega) hk (by omega)
  rw [if_pos rfl, if_pos rfl, show (0 : Int) = ((0 : Nat) : Int) from rfl, this]; rfl
theorem both_loop (x y : List S59) (hxy : x.length = y.length) (a b : Int) (hn : x.length ≤ 1048576) : ∀ (d k i : Nat), x.length - i = d → d < k → i ≤ x.length → ∃ r, spec_SameShape.l0 k (i : Int) a x b y = some r ∧ impl_Span.l0 k x y (x.length : Int) (i : Int) = some r := by
  intro d
  induction d with
  | zero =>
    intro k i hd hk hi
    obtain ⟨k, rfl⟩ : ∃ m, k = m + 1 := ⟨k - 1, by omega⟩
    refine ⟨true, ?_, ?_⟩
    · simp only [spec_SameShape.l0]; rw [if_neg (by omega)]
    · simp only [impl_Span.l0]; rw [if_neg (by omega)]
  | succ d ih =>
    intro k i hd hk hi
    obtain ⟨k, rfl⟩ : ∃ m, k = m + 1 := ⟨k - 1, by omega⟩
    simp only [spec_SameShape.l0, impl_Span.l0]
    by_cases hc : (!(((rd_T59 x i).f0) == ((rd_T59 y i).f0)) || (!(((rd_T59 x i).f1) == ((rd_T59 y i).f1)))) = true
    · refine ⟨false, ?_, ?_⟩
      · rw [if_pos (by omega), if_pos (by omega), if_pos (by omega), if_pos hc]
      · rw [if_pos (by omega), if_pos (by omega), if_pos (by omega), if_pos (by omega), if_pos hc]
    · obtain ⟨r, h1, h2⟩ := ih k (i + 1) (by omega) (by omega) (by omega)
      refine ⟨r, ?_, ?_⟩
      · rw [if_pos (by omega), if_pos (by omega), if_pos (by omega), if_neg hc, wrapI (by omega) hn]; exact h1
      · rw [if_pos (by omega), if_pos (by omega), if_pos (by omega), if_pos (by omega), if_neg hc, wrapI (by omega) hn]; exact h2
theorem both_all (x y : List S59) (hn : x.length ≤ 1048576) (a b : Int) (k : Nat) (hk : x.length + 1 < k) : ∃ r, spec_SameShape.f k a x b y = some r ∧ impl_SameShape.f k a x b y = some r := by
  unfold spec_SameShape.f impl_SameShape.f impl_Span.f
  obtain ⟨k, rfl⟩ : ∃ m, k = m + 1 := ⟨k - 1, by omega⟩
  by_cases hab : a = b
  · by_cases hl : x.length = y.length
    · obtain ⟨r, h1, h2⟩ := both_loop x y hl a b hn x.length k 0 (by omega) (by omega) (by omega)
      obtain ⟨r', h1', h2'⟩ := both_loop x y hl a b hn x.length (k + 1) 0 (by omega) (by omega) (by omega)
      have e := impl_Span.mono_l k x y (x.length : Int) 0 r h2
      have e2 : r = r' := by
        have := e.symm.trans h2'
        exact Option.some.inj this
      subst e2
      refine ⟨r, ?_, ?_⟩
      · rw [if_pos hab]; simp only [spec_SameShape.j0]; rw [if_neg (by simp [hl])]; exact h1
      · rw [if_pos hab, if_pos (by omega), show (0 : Int) = ((0 : Nat) : Int) from rfl, h2']; rfl
    · refine ⟨false, ?_, ?_⟩
      · rw [if_pos hab]; simp only [spec_SameShape.j0]; rw [if_pos (by simp; omega)]
      · rw [if_pos hab, if_neg (by omega)]; rfl
  · refine ⟨false, ?_, ?_⟩
    · rw [if_neg hab]; simp only [spec_SameShape.j0, if_true]
    · rw [if_neg hab]
theorem pure_SameShape (a : Int) (x : List S75) (b : Int) (y : List S75) (hx : x.length ≤ 9223372036854775807) (hy : y.length ≤ 9223372036854775807) : ∃ k, laws_FnExactSameShape.f k a x b y = some true := by
  unfold laws_FnExactSameShape.f laws_szShape.f laws_szSpanS.f
  have e1 : wrap64 (1048576 - (x.length : Int)) = 1048576 - (x.length : Int) := by unfold wrap64; omega
  rw [e1]
  by_cases h1 : 1048576 - (x.length : Int) < 0
  · refine ⟨0, ?_⟩; simp [h1]
  · have e2 : wrap64 (1048576 - (x.length : Int) - (y.length : Int)) = 1048576 - (x.length : Int) - (y.length : Int) := by unfold wrap64; omega
    by_cases h2 : 1048576 - (x.length : Int) - (y.length : Int) < 0
    · refine ⟨0, ?_⟩
      rw [if_neg h1]; simp only [Option.bind_some]; rw [if_neg h1]; simp only [Option.bind_some]; rw [if_neg h1, e2, if_pos h2]; simp
    · have hx' : x.length ≤ 1048576 := by omega
      have hy' : y.length ≤ 1048576 := by omega
      refine ⟨x.length + y.length + 2, ?_⟩
      obtain ⟨r, h3, h4⟩ := both_all (toL x) (toL y) (by rw [toL_len]; exact hx') a b (x.length + y.length + 2) (by rw [toL_len]; omega)
      rw [if_neg h1]; simp only [Option.bind_some]; rw [if_neg h1]; simp only [Option.bind_some]; rw [if_neg h1, e2, if_neg h2]
      simp only [Option.bind_some]
      rw [if_neg h2]; simp only [Option.bind_some]; rw [if_neg h2]
      rw [conv_all x hx' a _ (by omega), conv_all y hy' b _ (by omega)]
      simp only [Option.bind_some]
      rw [h3]; simp only [Option.bind_some]; rw [h4]; simp only [Option.bind_some]
      rw [if_neg (by simp), eq_all (toL x) (by rw [toL_len]; exact hx') a _ (by rw [toL_len]; omega)]
      simp only [Option.bind_some, if_true]
      rw [eq_all (toL y) (by rw [toL_len]; exact hy') b _ (by rw [toL_len]; omega)]
      simp
end Go.Proofs.Ytpmadamaefbamaa.PFnExactSameShape
