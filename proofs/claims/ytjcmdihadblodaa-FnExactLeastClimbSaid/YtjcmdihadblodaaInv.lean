/- A region that draws its order, by an invariant of one's own. -/
import Derived.Test.YtjcmdihadblodaaBase
namespace Go.Proofs.Ytjcmdihadblodaa
open Go.RowKit
set_option linter.unusedSimpArgs false
set_option linter.unusedVariables false

/-- Each edge that binds leads back. -/
def backB (l : List Oper) : Bool := l.zipIdx.all fun x => x.1.after.all fun e => !Region.binds .any e || decide (e.on < x.2)
theorem backB_of {l : List Oper} (h : backB l = true) (i : Nat) (o : Oper) (ho : l[i]? = some o) (e : Edge) (he : e ∈ o.after) (hb : Region.binds .any e = true) : e.on < i := by
  unfold backB at h
  rw [List.all_eq_true] at h
  have h1 := h (o, i) (by rw [List.mk_mem_zipIdx_iff_getElem?]; exact ho)
  simp only [Array.all_eq_true_iff_forall_mem] at h1
  have h2 := h1 e he
  simpa [hb] using h2
/-- The operations that have been carried out, and one more. -/
def plus (L : Nat → Bool) (i : Nat) : Nat → Bool := fun j => if j = i then true else L j
theorem wpAny_inv {P : Program} {l : List Oper} {Q : Exit → Act → World → Prop} (Inv : (Nat → Bool) → Act → World → Prop) (hback : backB l = true)
    (hstep : ∀ L a w i o, l[i]? = some o → L i = false → (∀ e ∈ o.after, Region.binds .any e = true → L e.on = true) → Inv L a w →
      if Region.wanted o (yielded l.toArray a.tmps) then o.wp P a w (Inv (plus L i)) Q else Inv (plus L i) (a.put o.dst undef) w)
    (hend : ∀ L a w, (∀ i, i < l.length → L i = true) → Inv L a w → Q .normal a w) :
    ∀ (fuel : Nat) (listed : Array Bool) (a : Act) (w : World), listed.size = l.length → ((List.range l.length).filter fun i => !listed.getD i true).length ≤ fuel →
      Inv (fun i => listed.getD i true) a w → wpAny P .any l.toArray Q fuel listed a w := by
  have hall : ∀ listed : Array Bool, listed.size = l.length → Region.ready .any l.toArray listed = [] → ∀ i, i < l.length → listed.getD i true = true := by
    intro listed hs hr
    have key : ∀ i, (∀ j, j < i → j < l.length → listed.getD j true = true) → i < l.length → listed.getD i true = true := by
      intro i hj hi
      cases hl : listed.getD i true with
      | true => rfl
      | false =>
        exfalso
        have hm : i ∈ Region.ready .any l.toArray listed := by
          unfold Region.ready
          rw [List.mem_filter]
          refine ⟨by simpa using hi, ?_⟩
          have ho : l[i]? = some l[i] := List.getElem?_eq_getElem hi
          simp only [hl, Bool.not_false, Bool.true_and, List.getElem?_toArray, ho, Option.map_some, Option.getD_some]
          rw [Array.all_eq_true_iff_forall_mem]
          intro e he
          cases hb : Region.binds .any e with
          | false => simp
          | true =>
            have h1 := backB_of hback i _ ho e he hb
            have h2 := hj e.on h1 (by omega)
            have h3 : e.on < listed.size := by omega
            simp only [Array.getD_eq_getD_getElem?, Array.getElem?_eq_getElem h3, Option.getD_some] at h2 ⊢
            simp [h2]
        rw [hr] at hm
        cases hm
    intro i
    induction i using Nat.strongRecOn with
    | _ i ih => exact fun hi => key i (fun j hj hjl => ih j hj hjl) hi
  intro fuel
  induction fuel with
  | zero =>
    intro listed a w hs hc hI
    have hr : Region.ready .any l.toArray listed = [] := by
      rw [List.eq_nil_iff_forall_not_mem]
      intro i hi
      unfold Region.ready at hi
      rw [List.mem_filter] at hi
      have : i ∈ (List.range l.length).filter fun i => !listed.getD i true := by
        rw [List.mem_filter]
        refine ⟨by simpa using hi.1, ?_⟩
        have := hi.2
        rw [Bool.and_eq_true] at this
        exact this.1
      rw [List.length_eq_zero_iff.1 (Nat.le_zero.1 hc)] at this
      cases this
    exact ⟨hr, hend _ _ _ (hall listed hs hr) hI⟩
  | succ fuel ih =>
    intro listed a w hs hc hI
    refine ⟨fun hr => hend _ _ _ (hall listed hs hr) hI, fun i hi => ?_⟩
    unfold Region.ready at hi
    rw [List.mem_filter] at hi
    obtain ⟨hi1, hi2⟩ := hi
    have hil : i < l.length := by simpa using hi1
    have ho : l[i]? = some l[i] := List.getElem?_eq_getElem hil
    rw [Bool.and_eq_true] at hi2
    obtain ⟨hn, he⟩ := hi2
    have hn' : listed.getD i true = false := by simpa using hn
    have hsi : i < listed.size := by omega
    simp only [List.getElem?_toArray, ho, Option.map_some, Option.getD_some, Array.all_eq_true_iff_forall_mem] at he
    have hL : (fun j => (listed.setIfInBounds i true).getD j true) = plus (fun j => listed.getD j true) i := by
      funext j
      unfold plus
      by_cases hj : j = i
      · subst hj; simp [Array.getD_eq_getD_getElem?, hsi]
      · rw [if_neg hj]; simp [Array.getD_eq_getD_getElem?, Array.getElem?_setIfInBounds_ne (Ne.symm hj)]
    have hcount : ((List.range l.length).filter fun j => !(listed.setIfInBounds i true).getD j true).length ≤ fuel := by
      have hsub : ((List.range l.length).filter fun j => !(listed.setIfInBounds i true).getD j true).length < ((List.range l.length).filter fun j => !listed.getD j true).length := by
        have e : ((List.range l.length).filter fun j => !(listed.setIfInBounds i true).getD j true) = (((List.range l.length).filter fun j => !listed.getD j true).filter fun j => decide (j ≠ i)) := by
          rw [List.filter_filter]
          apply List.filter_congr
          intro j _
          have := congrFun hL j
          rw [this]
          unfold plus
          by_cases hj : j = i <;> simp [hj]
        rw [e]
        apply List.length_filter_lt_length_iff_exists.2
        exact ⟨i, by rw [List.mem_filter]; exact ⟨by simpa using hil, by simp [hn']⟩, by simp⟩
      omega
    have hs' := hstep (fun j => listed.getD j true) a w i _ ho hn' (fun e hmem hb => by
      have := he e hmem
      simp only [hb, Bool.not_true, Bool.false_or] at this
      have h3 : e.on < listed.size := by have := backB_of hback i _ ho e hmem hb; omega
      simp only [Array.getD_eq_getD_getElem?, Array.getElem?_eq_getElem h3, Option.getD_some] at this ⊢
      exact this) hI
    have ih' := fun a w (h : Inv (plus (fun j => listed.getD j true) i) a w) => ih (listed.setIfInBounds i true) a w (by simpa using hs) hcount (by rw [hL]; exact h)
    unfold wpOp
    simp only [List.getElem?_toArray, ho]
    split
    · rename_i hw
      rw [if_pos hw] at hs'
      exact .inl (Oper.wp_mono ih' hs')
    · rename_i hw
      rw [if_neg hw] at hs'
      exact ih' _ _ hs'
theorem wp_region_inv {P : Program} {id : Nat} {Q : Exit → Act → World → Prop} {a : Act} {w : World} {l : List Oper} (hm : P.follows .mixedOrders = true) (hback : backB l = true) (Inv : (Nat → Bool) → Act → World → Prop)
    (h0 : ∀ L, (∀ i, i < l.length → L i = false) → Inv L a w.drew)
    (hstep : ∀ L a w i o, l[i]? = some o → L i = false → (∀ e ∈ o.after, Region.binds .any e = true → L e.on = true) → Inv L a w →
      if Region.wanted o (yielded l.toArray a.tmps) then o.wp P a w (Inv (plus L i)) Q else Inv (plus L i) (a.put o.dst undef) w)
    (hend : ∀ L a w, (∀ i, i < l.length → L i = true) → Inv L a w → Q .normal a w) : (Code.region id l.toArray true).wp P Q a w := by
  refine wp_region_any hm (wpAny_inv Inv hback hstep hend _ _ a _ (by simp) ?_ ?_)
  · exact Nat.le_trans (List.length_filter_le _ _) (by simp)
  · refine h0 _ fun i hi => ?_
    simp [Array.getD_eq_getD_getElem?, hi]
end Go.Proofs.Ytjcmdihadblodaa
