/- Texts of the claim FnExactNewTilesFor, part 4 of 5. -/
import Derived.Test.YtpmadamaefbamaaGExactNewTilesFor3
import Derived.Maps.AppendAt
import Derived.Lib.SlFresh
/- A region that draws its order: some operations of unforeknown result, and a quiet one that comes last (it may write a slot that others read). -/
namespace Go.Proofs.Ytpmadamaefbamaa
open Go.RowKit
set_option linter.unusedSimpArgs false
set_option linter.unusedVariables false

/-- Number n is the last; it has no guard; each other one is waited for by a later one. -/
def lastB (l : List Oper) (n : Nat) : Bool :=
  decide (l.length = n + 1) && (match l[n]? with | some o => o.guard.isNone | none => false) && ((List.range n).all fun i => (List.range (n + 1)).any fun j => decide (i < j) && match l[j]? with | some o => o.after.toList.any fun e => Region.binds .any e && decide (e.on = i) | none => false)
theorem lastB_of {l : List Oper} {n : Nat} (h : lastB l n = true) : l.length = n + 1 ∧ (∀ o, l[n]? = some o → o.guard = none) ∧ (∀ i, i < n → ∃ j, i < j ∧ j ≤ n ∧ ∃ o, l[j]? = some o ∧ ∃ e ∈ o.after, Region.binds .any e = true ∧ e.on = i) := by
  unfold lastB at h
  simp only [Bool.and_eq_true, List.all_eq_true, decide_eq_true_eq] at h
  obtain ⟨⟨h0, h1⟩, h7⟩ := h
  refine ⟨h0, fun o ho => by rw [ho] at h1; simpa using h1, fun i hi => ?_⟩
  obtain ⟨j, hj, hj2⟩ := List.any_eq_true.1 (h7 i (List.mem_range.2 hi))
  rw [Bool.and_eq_true, decide_eq_true_eq] at hj2
  obtain ⟨hij, hj3⟩ := hj2
  have := List.mem_range.1 hj
  cases ho : l[j]? with
  | none => rw [ho] at hj3; cases hj3
  | some o =>
    rw [ho] at hj3
    obtain ⟨e, he, h8⟩ := List.any_eq_true.1 hj3
    rw [Bool.and_eq_true, decide_eq_true_eq] at h8
    exact ⟨j, hij, by omega, o, ho, e, by simpa using he, h8.1, h8.2⟩
set_option maxHeartbeats 1600000 in
theorem wp_region_wildT {P : Program} {id : Nat} {Q : Exit → Act → World → Prop} {a0 : Act} {W : World} {l : List Oper} (n : Nat) (qi wi : List Nat) (aσ : Act) (K : World → Prop) (R : (Nat → Option Value) → World → Prop)
    (hm : P.follows .mixedOrders = true) (hback : backB l = true) (hn : lawB (l.take n) a0.tmps.size = true) (hc : chainB (l.take n) qi wi = true) (hlb : lastB l n = true) (hK0 : K W.drew) (hKx : ∀ w w', K w → Below w.heap.size w w' → K w')
    (hpre : ∀ (W' : World), K W' → wpQuiet P l.toArray (fun w' => ∃ x : Ext W'.heap.size W', w' = x.out) (fun a' => a' = aσ) (qi.filterMap fun i => (l.take n)[i]?) a0)
    (h0 : R (fun _ => none) W.drew)
    (hR : ∀ res V V', R res V → Below V.heap.size V V' → R res V')
    (hstep : ∀ (i : Nat) (o : Oper), i ∈ wi → (l.take n)[i]? = some o → ∀ (res : Nat → Option Value) (a : Act) (w : World), res i = none → R res w → K w →
      (∀ t ∈ eyes o, (∀ j ∈ wi, dstOf (l.take n) j = some t → res j = some (a.tmps.getD t undef)) ∧ ((∀ j ∈ wi, dstOf (l.take n) j ≠ some t) → a.tmps.getD t undef = aσ.tmps.getD t undef)) →
      (∀ e ∈ o.after, Region.binds .any e = true → e.on ∈ wi → (res e.on).isSome = true) →
      (∃ f args, (∀ w, (execOp a.eval o).run P w = .ok (.enter f args) w) ∧ Calls P f args w fun e w' => ∃ v, e = .returned v ∧ R (updR res i v) w' ∧ K w') ∨
      (∃ v w', (execOp a.eval o).run P w = .ok (.value v) w' ∧ R (updR res i v) w' ∧ K w') ∨
      (∃ w', (execOp a.eval o).run P w = .ok .skip w' ∧ R (updR res i undef) w' ∧ K w'))
    (hlast : ∀ (ol : Oper), l[n]? = some ol → ∀ (val : Nat → Value) (w : World), R (fun j => if j ∈ wi then some (val j) else none) w → K w →
      ∃ v, (execOp (putW (l.take n) val wi aσ).eval ol).run P w = .ok (.value v) w ∧ Q .normal ((putW (l.take n) val wi aσ).put ol.dst v) w) :
    (Code.region id l.toArray true).wp P Q a0 W := by
  obtain ⟨hlen, hglast, hwait⟩ := lastB_of hlb
  obtain ⟨hcov0, hqi0, hwi0, hqp, hwp, hqe⟩ := chainB_of hc
  obtain ⟨pl, hpl⟩ : ∃ pl, pl = l.take n := ⟨_, rfl⟩
  have hpll : pl.length = n := by rw [hpl, List.length_take]; omega
  have hl1 : ∀ (i : Nat) (o : Oper), l[i]? = some o → i < n → pl[i]? = some o := fun i o h hi => by rw [hpl, List.getElem?_take, if_pos hi]; exact h
  rw [← hpl] at hn hc hpre hstep hlast hcov0 hqi0 hwi0 hqe
  rw [hpll] at hcov0 hqi0 hwi0
  have hcov := hcov0
  have hqi := hqi0
  have hwi := hwi0
  have hnl : n < l.length := by omega
  obtain ⟨ol, hol⟩ : ∃ ol, l[n]? = some ol := ⟨_, List.getElem?_eq_getElem hnl⟩
  have hL := fun i o ho => lawB_of hn i o ho
  have hone : ∀ (i : Nat) (o : Oper) (j : Nat) (o' : Oper) (d : Nat), pl[i]? = some o → pl[j]? = some o' → i ≠ j → o.dst = some d → o'.dst ≠ some d := fun i o j o' d hi hj hne hd => (hL j o' hj).2.2.2.1 i o hi hne d hd
  obtain ⟨ql, hql⟩ : ∃ ql, ql = qi.filterMap fun i => pl[i]? := ⟨_, rfl⟩
  rw [← hql] at hpre
  have hget : ∀ k, ql[k]? = (qi[k]?).bind fun i => pl[i]? := fun k => by rw [hql]; exact pick_get pl qi (fun i hi => by rw [hpll]; exact hqi i hi) k
  have htake : ∀ (k : Nat) (o : Oper), ql[k]? = some o → ∃ i, qi[k]? = some i ∧ pl[i]? = some o := fun k o h => by
    rw [hget k] at h
    cases hk : qi[k]? with
    | none => rw [hk] at h; cases h
    | some i => rw [hk] at h; exact ⟨i, rfl, h⟩
  have hpos : ∀ (i : Nat) (o : Oper), i ∈ qi → pl[i]? = some o → ∃ k, qi[k]? = some i ∧ ql[k]? = some o := fun i o hi ho => by
    obtain ⟨k, hk, e⟩ := List.getElem_of_mem hi
    have : qi[k]? = some i := by rw [List.getElem?_eq_getElem hk, e]
    exact ⟨k, this, by rw [hget k, this]; exact ho⟩
  have hord : ∀ k k' i i' : Nat, qi[k]? = some i → qi[k']? = some i' → i' < i → k' < k := fun k k' i i' h h' hlt => by
    obtain ⟨h1, rfl⟩ := List.getElem?_eq_some_iff.1 h
    obtain ⟨h2, rfl⟩ := List.getElem?_eq_some_iff.1 h'
    rcases Nat.lt_trichotomy k' k with h3 | h3 | h3
    · exact h3
    · subst h3; omega
    · have := List.pairwise_iff_getElem.1 hqp k k' h1 h2 h3; omega
  have hinj : ∀ k k' i : Nat, qi[k]? = some i → qi[k']? = some i → k = k' := fun k k' i h h' => by
    obtain ⟨h1, e1⟩ := List.getElem?_eq_some_iff.1 h
    obtain ⟨h2, e2⟩ := List.getElem?_eq_some_iff.1 h'
    rcases Nat.lt_trichotomy k' k with h3 | h3 | h3
    · have := List.pairwise_iff_getElem.1 hqp k' k h2 h1 h3; omega
    · exact h3.symm
    · have := List.pairwise_iff_getElem.1 hqp k k' h1 h2 h3; omega
  have hd1 : ∀ (k : Nat) (o : Oper) (d : Nat), ql[k]? = some o → o.dst = some d → d < a0.tmps.size := fun k o d h hd => by
    obtain ⟨i, _, hi⟩ := htake k o h
    exact (hL i o hi).2.2.1 d hd
  have honeq : ∀ (k : Nat) (o : Oper) (j : Nat) (o' : Oper) (d : Nat), ql[k]? = some o → ql[j]? = some o' → k ≠ j → o.dst = some d → o'.dst ≠ some d := fun k o j o' d h h' hne hd => by
    obtain ⟨i1, e1, h1⟩ := htake k o h
    obtain ⟨i2, e2, h2⟩ := htake j o' h'
    exact hone i1 o i2 o' d h1 h2 (by rintro rfl; exact hne (hinj _ _ _ e1 e2)) hd
  obtain ⟨vs0, hst0, hfin0⟩ := stepsS_of _ _ (hpre _ hK0)
  have hsize : aσ.tmps.size = a0.tmps.size := by rw [← hfin0, putsS_size]
  have hdef : aσ.defers = a0.defers := by rw [← hfin0, putsS_defers]
  have hout0 : ∀ t : Nat, (∀ i ∈ qi, dstOf pl i ≠ some t) → aσ.tmps.getD t undef = a0.tmps.getD t undef := by
    intro t ht
    rw [← hfin0, putsS_other]
    intro o' hm' hd
    obtain ⟨k, hk, rfl⟩ := List.getElem_of_mem hm'
    obtain ⟨i, e1, hi⟩ := htake k _ (List.getElem?_eq_getElem hk)
    exact ht i (List.mem_of_getElem? e1) (by rw [dstOf_some hi]; exact hd)
  let I0 : (Nat → Bool) → Act → World → Prop := fun L a w => a.defers = a0.defers ∧ a.tmps.size = a0.tmps.size ∧ (∀ t : Nat, (∀ (i : Nat) (o : Oper), pl[i]? = some o → o.dst ≠ some t) → a.tmps.getD t undef = a0.tmps.getD t undef) ∧
    (∀ i ∈ qi, ∀ (o : Oper) (d : Nat), pl[i]? = some o → L i = true → o.dst = some d → a.tmps.getD d undef = aσ.tmps.getD d undef) ∧
    ∃ res : Nat → Option Value, R res w ∧ K w ∧ (∀ j, (res j).isSome = true ↔ (j ∈ wi ∧ L j = true)) ∧ (∀ (j : Nat) (o : Oper) (d : Nat) (v : Value), pl[j]? = some o → o.dst = some d → res j = some v → a.tmps.getD d undef = v)
  refine wp_region_inv hm hback (fun L a w => (∀ (j : Nat) (oj : Oper), l[j]? = some oj → L j = true → ∀ e ∈ oj.after, Region.binds .any e = true → L e.on = true) ∧ (L n = false → I0 L a w) ∧ (L n = true → Q .normal a w)) ?_ ?_ ?_
  · intro L hL0
    refine ⟨fun j oj hj hLj => (by rw [hL0 j (List.getElem?_eq_some_iff.1 hj).1] at hLj; cases hLj), fun _ => ?_, fun hLn => (by rw [hL0 n hnl] at hLn; cases hLn)⟩
    refine ⟨rfl, rfl, fun _ _ => rfl, fun i hi o d ho hLi => (by rw [hL0 i (by have := hqi i hi; omega)] at hLi; cases hLi), fun _ => none, h0, hK0, fun j => ⟨fun h => by simp at h, fun h => ?_⟩, fun j o d v _ _ h => by cases h⟩
    rw [hL0 j (by have := hwi j h.1; omega)] at h
    exact absurd h.2 (by simp)
  · intro L a w i o ho hLi hafter ⟨hcl, hI, hQ⟩
    have hil := (List.getElem?_eq_some_iff.1 ho).1
    have hall : L n = true → ∀ k i, i + k = n → L i = true := fun hLn k => by
      induction k using Nat.strongRecOn with
      | _ k ih =>
        intro i hik
        rcases Nat.eq_zero_or_pos k with h | h
        · obtain rfl : i = n := by omega
          exact hLn
        · obtain ⟨j, h1, h2, oj, h3, e, h4, h5, h6⟩ := hwait i (by omega)
          rw [← h6]
          exact hcl j oj h3 (ih (n - j) (by omega) j (by omega)) e h4 h5
    have hLnf : L n = false := by
      cases h : L n with
      | false => rfl
      | true => have := hall h (n - i) i (by omega); rw [hLi] at this; cases this
    obtain ⟨i1, i2, i3, i4, res, i5, i6, i7, i8⟩ := hI hLnf
    have hcl' : ∀ (j : Nat) (oj : Oper), l[j]? = some oj → plus L i j = true → ∀ e ∈ oj.after, Region.binds .any e = true → plus L i e.on = true := by
      intro j oj hj hLj e he hb
      unfold plus at hLj ⊢
      by_cases hji : j = i
      · subst hji
        rw [ho] at hj
        obtain rfl := Option.some.inj hj
        split
        · rfl
        · exact hafter e he hb
      · rw [if_neg hji] at hLj
        split
        · rfl
        · exact hcl j oj hj hLj e he hb
    by_cases hin : i = n
    · -- the last one
      subst hin
      rw [hol] at ho
      obtain rfl := Option.some.inj ho
      have hg := hglast _ hol
      rw [if_pos (by simp [Region.wanted, hg])]
      have hbef : ∀ k j, j + k = i → 0 < k → L j = true := fun k => by
        induction k using Nat.strongRecOn with
        | _ k ih =>
          intro j hjk hk
          obtain ⟨j', h1, h2, oj, h3, e, h4, h5, h6⟩ := hwait j (by omega)
          by_cases hji : j' = i
          · subst hji
            rw [hol] at h3
            obtain rfl := Option.some.inj h3
            rw [← h6]; exact hafter e h4 h5
          · rw [← h6]; exact hcl j' oj h3 (ih (i - j') (by omega) j' (by omega) (by omega)) e h4 h5
      have hall2 : ∀ j, j < i → L j = true := fun j hj => hbef (i - j) j (by omega) (by omega)
      have hres : res = fun j => if j ∈ wi then some ((res j).getD undef) else none := by
        funext j
        by_cases hj : j ∈ wi
        · obtain ⟨v, hv⟩ := Option.isSome_iff_exists.1 ((i7 j).2 ⟨hj, hall2 j (hwi j hj)⟩)
          rw [if_pos hj, hv]; rfl
        · rw [if_neg hj]
          cases h : res j with
          | none => rfl
          | some v => exact absurd ((i7 j).1 (by rw [h]; rfl)).1 hj
      obtain ⟨val, hval⟩ : ∃ val : Nat → Value, val = fun j => (res j).getD undef := ⟨_, rfl⟩
      obtain ⟨p1, p2⟩ := putW_size pl val wi aσ
      have hat : a = putW pl val wi aσ := by
        refine act_ext (i2.trans (hsize.symm.trans p1.symm)) (i1.trans (hdef.symm.trans p2.symm)) fun t => ?_
        by_cases hw : ∃ j ∈ wi, dstOf pl j = some t
        · obtain ⟨j, hj, hd⟩ := hw
          obtain ⟨o', ho', hdo⟩ := dstOf_inv hd
          rw [putW_here pl _ t j hd wi aσ hj (fun j' hj' hne hd' => by
            obtain ⟨o'', ho'', hdo''⟩ := dstOf_inv hd'
            exact hone j o' j' o'' t ho' ho'' (Ne.symm hne) hdo hdo'') (by rw [hsize]; exact (hL j o' ho').2.2.1 t hdo)]
          obtain ⟨v, hv⟩ := Option.isSome_iff_exists.1 ((i7 j).2 ⟨hj, hall2 j (hwi j hj)⟩)
          rw [i8 j o' t v ho' hdo hv, hval]
          show _ = (res j).getD undef
          rw [hv]; rfl
        · rw [putW_other pl _ t wi aσ fun j hj hd => hw ⟨j, hj, hd⟩]
          by_cases hq : ∃ j ∈ qi, dstOf pl j = some t
          · obtain ⟨j, hj, hd⟩ := hq
            obtain ⟨o', ho', hdo⟩ := dstOf_inv hd
            exact i4 j hj o' t ho' (hall2 j (hqi j hj)) hdo
          · rw [hout0 t fun j hj hd => hq ⟨j, hj, hd⟩]
            refine i3 t fun j o' hj hd => ?_
            have hjl := (List.getElem?_eq_some_iff.1 hj).1
            rcases hcov j (by omega) with h | h
            · exact hq ⟨j, h.1, (dstOf_some hj).trans hd⟩
            · exact hw ⟨j, h.1, (dstOf_some hj).trans hd⟩
      obtain ⟨v, h1, h2⟩ := hlast ol hol val w (by rw [hval, ← hres]; exact i5) i6
      rw [← hat] at h1 h2
      unfold Oper.wp
      rw [h1]
      refine ⟨hcl', fun h => ?_, fun _ => ?_⟩
      · unfold plus at h; simp at h
      · exact h2
    have hin2 : i < n := by omega
    have ho := hl1 i o ho hin2
    obtain ⟨hg, hns, hdl, hd2, heyes⟩ := hL i o ho
    rw [if_pos (by simp [Region.wanted, hg])]
    have hplus : plus L i n = false := by unfold plus; rw [if_neg (fun e => hin e.symm)]; exact hLnf
    rcases hcov i (by omega) with ⟨hq, hnw⟩ | ⟨hw, hnq⟩
    · -- a foreknown one
      obtain ⟨k, hk, hkl⟩ := hpos i o hq ho
      obtain ⟨vs, hst, hfin⟩ := stepsS_of _ _ (hpre w i6)
      obtain ⟨v, ai, hY, hv, hno, hyes⟩ := stepsS_key hst hfin hd1 honeq k o hkl
      have he : execOp a.eval o = execOp ai.eval o := by
        refine execOp_congr o (fun c b hc => by rw [notSelect, hc] at hns; cases hns) (eval_eyes fun t ht => ?_)
        by_cases hex : ∃ (j : Nat) (o' : Oper), pl[j]? = some o' ∧ o'.dst = some t
        · obtain ⟨j, o', hj, hd⟩ := hex
          obtain ⟨hji, e, he, hb, hon⟩ := heyes t ht j o' hj hd
          have hLj : L j = true := hon ▸ hafter e he hb
          have hjq : j ∈ qi := by
            rcases hcov j (by omega) with h | h
            · exact h.1
            · exact absurd ((dstOf_some hj).trans hd) (hqe i hq o ho t ht j h.1)
          obtain ⟨k', hk', hkl'⟩ := hpos j o' hjq hj
          rw [hyes t k' o' (hord k k' i j hk hk' hji) hkl' hd]
          exact i4 j hjq o' t hj hLj hd
        · have hn' : ∀ (j : Nat) (o' : Oper), pl[j]? = some o' → o'.dst ≠ some t := fun j o' hj hd => hex ⟨j, o', hj, hd⟩
          rw [i3 t hn', hno t fun k' o' hk' => by obtain ⟨j, _, hj⟩ := htake k' o' hk'; exact hn' j o' hj]
      have hY' := hY.of_same he (by simp [Region.wanted, hg])
      rcases hY' with ⟨_, hqv⟩ | ⟨hw0, _⟩
      · refine Oper.wp_of_quiet (C := fun w' => ∃ x : Ext w.heap.size w, w' = x.out) (K := fun a' => a' = a.put o.dst v) ⟨⟨w, Below.refl _ _⟩, rfl⟩ ?_ ⟨v, hqv, rfl⟩
        rintro a' w' ⟨z, rfl⟩ rfl
        refine ⟨hcl', fun _ => ?_, fun h => (by rw [hplus] at h; cases h)⟩
        refine ⟨(put_defers' _ _ _).trans i1, (put_size _ _ _).trans i2, fun t ht => ?_, fun j hj o' d hj' hLj hd => ?_, res, hR res w _ i5 z.below, hKx w _ i6 z.below, fun j => ?_, fun j o' d u hj hd hr => ?_⟩
        · rw [put_other _ _ _ _ (ht i o ho)]; exact i3 t ht
        · by_cases hji : j = i
          · subst hji
            rw [ho] at hj'
            obtain rfl := Option.some.inj hj'
            rw [hd, put_here _ _ _ (by rw [i2]; exact hdl d hd)]
            exact hv d hd
          · have hLj' : L j = true := by unfold plus at hLj; rwa [if_neg hji] at hLj
            rw [put_other _ _ _ _ (hd2 j o' hj' hji d hd)]; exact i4 j hj o' d hj' hLj' hd
        · rw [i7 j]
          unfold plus
          constructor
          · rintro ⟨h1, h2⟩; exact ⟨h1, by rw [h2]; simp⟩
          · rintro ⟨h1, h2⟩
            refine ⟨h1, ?_⟩
            by_cases hji : j = i
            · subst hji; exact absurd h1 hnw
            · rwa [if_neg hji] at h2
        · have hji : j ≠ i := by
            rintro rfl
            have := (i7 j).1 (by rw [hr]; rfl)
            exact hnw this.1
          rw [put_other _ _ _ _ (hd2 j o' hj hji d hd)]; exact i8 j o' d u hj hd hr
      · simp [Region.wanted, hg] at hw0
    · -- one of unforeknown result
      have hri : res i = none := by
        cases h : res i with
        | none => rfl
        | some v => have := (i7 i).1 (by rw [h]; rfl); rw [hLi] at this; exact absurd this.2 (by simp)
      have hey : ∀ t ∈ eyes o, (∀ j ∈ wi, dstOf pl j = some t → res j = some (a.tmps.getD t undef)) ∧ ((∀ j ∈ wi, dstOf pl j ≠ some t) → a.tmps.getD t undef = aσ.tmps.getD t undef) := by
        intro t ht
        constructor
        · intro j hj hd
          obtain ⟨o', hj', hd'⟩ := dstOf_inv hd
          obtain ⟨hji, e, he, hb, hon⟩ := heyes t ht j o' hj' hd'
          have hLj : L j = true := hon ▸ hafter e he hb
          have := (i7 j).2 ⟨hj, hLj⟩
          obtain ⟨v, hv⟩ := Option.isSome_iff_exists.1 this
          rw [hv, i8 j o' t v hj' hd' hv]
        · intro hno
          by_cases hex : ∃ j ∈ qi, dstOf pl j = some t
          · obtain ⟨j, hj, hd⟩ := hex
            obtain ⟨o', hj', hd'⟩ := dstOf_inv hd
            obtain ⟨hji, e, he, hb, hon⟩ := heyes t ht j o' hj' hd'
            exact i4 j hj o' t hj' (hon ▸ hafter e he hb) hd'
          · have hnq' : ∀ j ∈ qi, dstOf pl j ≠ some t := fun j hj hd => hex ⟨j, hj, hd⟩
            rw [hout0 t hnq']
            refine i3 t fun j o' hj hd => ?_
            have hji := (heyes t ht j o' hj hd).1
            rcases hcov j (by omega) with h | h
            · exact hnq' j h.1 ((dstOf_some hj).trans hd)
            · exact hno j h.1 ((dstOf_some hj).trans hd)
      have hdep : ∀ e ∈ o.after, Region.binds .any e = true → e.on ∈ wi → (res e.on).isSome = true := fun e he hb hin => (i7 e.on).2 ⟨hin, hafter e he hb⟩
      have key : ∀ v w', R (updR res i v) w' → K w' → (fun L a w => (∀ (j : Nat) (oj : Oper), l[j]? = some oj → L j = true → ∀ e ∈ oj.after, Region.binds .any e = true → L e.on = true) ∧ (L n = false → I0 L a w) ∧ (L n = true → Q .normal a w)) (plus L i) (a.put o.dst v) w' := by
        intro v w' hR' hB'
        refine ⟨hcl', fun _ => ?_, fun h => (by rw [hplus] at h; cases h)⟩
        refine ⟨(put_defers' _ _ _).trans i1, (put_size _ _ _).trans i2, fun t ht => ?_, fun j hj o' d hj' hLj hd => ?_, updR res i v, hR', hB', fun j => ?_, fun j o' d u hj hd hr => ?_⟩
        · rw [put_other _ _ _ _ (ht i o ho)]; exact i3 t ht
        · have hji : j ≠ i := by rintro rfl; exact hnq hj
          have hLj' : L j = true := by unfold plus at hLj; rwa [if_neg hji] at hLj
          rw [put_other _ _ _ _ (hd2 j o' hj' hji d hd)]; exact i4 j hj o' d hj' hLj' hd
        · unfold updR plus
          by_cases hji : j = i
          · subst hji; simp [hw]
          · rw [if_neg hji, if_neg hji]; exact i7 j
        · unfold updR at hr
          by_cases hji : j = i
          · subst hji
            rw [if_pos rfl] at hr
            obtain rfl := Option.some.inj hr
            rw [ho] at hj
            obtain rfl := Option.some.inj hj
            rw [hd, put_here _ _ _ (by rw [i2]; exact hdl d hd)]
          · rw [if_neg hji] at hr
            rw [put_other _ _ _ _ (hd2 j o' hj hji d hd)]; exact i8 j o' d u hj hd hr
      rcases hstep i o hw ho res a w hri i5 i6 hey hdep with ⟨f, args, h1, h2⟩ | ⟨v, w', h1, h2, h3⟩ | ⟨w', h1, h2, h3⟩
      · unfold Oper.wp
        rw [h1]
        simp only [Oper.upon]
        refine h2.mono ?_
        rintro e w' ⟨v, rfl, h3, h4⟩
        exact key v w' h3 h4
      · unfold Oper.wp
        rw [h1]
        exact key v w' h2 h3
      · unfold Oper.wp
        rw [h1]
        exact key undef w' h2 h3
  · intro L a w hall ⟨hcl, hI, hQ⟩
    exact hQ (hall n hnl)
end Go.Proofs.Ytpmadamaefbamaa

/- Rows of rows that a call owns. -/
namespace Go.Proofs.Ytpmadamaefbamaa
open Go.RowKit
set_option linter.unusedSimpArgs false
set_option linter.unusedVariables false

/-- Slices, each with an array of its own, none of them that of vout; slice j holds the cells xss[j]. -/
structure RowsG (B : Nat) (T : TypeId) (sz : Nat) (w : World) (vout : Value) (vs : List Value) (xss : List (Nat × List Value)) : Prop where
  len : vs.length = xss.length
  row : ∀ (j : Nat) (v : Value) (x : Nat × List Value), vs[j]? = some v → xss[j]? = some x → w.ownsRow B T sz v x.1 x.2 ∧ Apart v vout
  sep : ∀ (i j : Nat) (v v' : Value), i ≠ j → vs[i]? = some v → vs[j]? = some v' → Apart v v'
theorem RowsG.nil (B : Nat) (T : TypeId) (sz : Nat) (w : World) (vout : Value) : RowsG B T sz w vout [] [] := ⟨rfl, fun j v x h => by simp at h, fun i j v v' _ h => by simp at h⟩
theorem RowsG.below {B B' : Nat} {T : TypeId} {sz : Nat} {w w' : World} {vout : Value} {vs : List Value} {xss : List (Nat × List Value)} (h : RowsG B T sz w vout vs xss) (hb : Below B' w w') (hB : w.heap.size ≤ B') : RowsG B T sz w' vout vs xss :=
  ⟨h.len, fun j v x hv hx => ⟨owns_below2 (h.row j v x hv hx).1 hb hB, (h.row j v x hv hx).2⟩, h.sep⟩
/-- The outer slice has grown. -/
theorem RowsG.grew {B : Nat} {T : TypeId} {sz : Nat} {w w' : World} {vout vout' : Value} {vs : List Value} {xss : List (Nat × List Value)} (h : RowsG B T sz w vout vs xss) (hg : Grew vout vout' w w') : RowsG B T sz w' vout' vs xss :=
  ⟨h.len, fun j v x hv hx => ⟨hg.row (h.row j v x hv hx).1 (h.row j v x hv hx).2, hg.apart (h.row j v x hv hx).1 (h.row j v x hv hx).2⟩, h.sep⟩
theorem RowsG.lt {B : Nat} {T : TypeId} {sz : Nat} {w : World} {vout : Value} {vs : List Value} {xss : List (Nat × List Value)} (h : RowsG B T sz w vout vs xss) {j : Nat} {v : Value} (hv : vs[j]? = some v) : ∀ g, v.ownBlock = some g → B ≤ g ∧ g < w.heap.size := by
  have hj := (List.getElem?_eq_some_iff.1 hv).1
  have hx := List.getElem?_eq_getElem (h.len ▸ hj : j < xss.length)
  exact (h.row j v _ hv hx).1.lt
/-- One slice more, with an array from block H on. -/
theorem RowsG.snoc {B H : Nat} {T : TypeId} {sz : Nat} {w : World} {vout : Value} {vs : List Value} {xss : List (Nat × List Value)} (h : RowsG B T sz w vout vs xss) {v : Value} {x : Nat × List Value} (hv : w.ownsRow B T sz v x.1 x.2) (hnew : ∀ g, v.ownBlock = some g → H ≤ g)
    (hold : ∀ (j : Nat) (u : Value) (g : Nat), vs[j]? = some u → u.ownBlock = some g → g < H) (hout : ∀ g, vout.ownBlock = some g → g < H) : RowsG B T sz w vout (vs ++ [v]) (xss ++ [x]) := by
  have hva : ∀ (j : Nat) (u : Value), vs[j]? = some u → Apart u v := fun j u hu g h1 h2 => by have := hold j u g hu h1; have := hnew g h2; omega
  refine ⟨by simp [h.len], ?_, ?_⟩
  · intro j u y hu hy
    by_cases hj : j < vs.length
    · rw [List.getElem?_append_left hj] at hu
      rw [List.getElem?_append_left (h.len ▸ hj)] at hy
      exact h.row j u y hu hy
    · have hj2 : j < vs.length + 1 := by have := (List.getElem?_eq_some_iff.1 hu).1; simpa using this
      have hj3 : j = vs.length := by omega
      rw [List.getElem?_append_right (by omega), hj3] at hu
      rw [List.getElem?_append_right (by have := h.len; omega), hj3, h.len] at hy
      simp at hu hy
      subst hu hy
      exact ⟨hv, fun g h1 h2 => by have := hnew g h1; have := hout g h2; omega⟩
  · intro i j u u' hij hu hu'
    have key : ∀ (i : Nat) (u : Value), (vs ++ [v])[i]? = some u → (i < vs.length ∧ vs[i]? = some u) ∨ (i = vs.length ∧ u = v) := by
      intro i u hu
      by_cases hi : i < vs.length
      · left; rw [List.getElem?_append_left hi] at hu; exact ⟨hi, hu⟩
      · right
        have hi2 : i < vs.length + 1 := by have := (List.getElem?_eq_some_iff.1 hu).1; simpa using this
        have hi3 : i = vs.length := by omega
        rw [List.getElem?_append_right (by omega), hi3] at hu
        simp at hu
        exact ⟨hi3, hu.symm⟩
    rcases key i u hu with ⟨_, h1⟩ | ⟨h1, h2⟩ <;> rcases key j u' hu' with ⟨_, h3⟩ | ⟨h3, h4⟩
    · exact h.sep i j u u' hij h1 h3
    · subst h4; exact hva i u h1
    · subst h2; exact (hva j u' h3).symm
    · omega

theorem owns_one {w : World} {base : Nat} {T : TypeId} {s n : Nat} {v : Value} {xs : List Value} (h : w.ownsRow base T s v n xs) : v.oneCell' = true := by
  obtain ⟨A, c, rfl⟩ := owns_slc h; rfl
end Go.Proofs.Ytpmadamaefbamaa

/- A whole slice appended to a row that a call owns. -/
namespace Go.Proofs.Ytpmadamaefbamaa
open Go.RowKit
set_option linter.unusedSimpArgs false
set_option linter.unusedVariables false

theorem run_append_void {P : Program} (w : World) (base : Nat) (t ty e : TypeId) (i : TypeInfo) (size : Nat) (ht : P.underlying t = some (.slice e)) (hi : P.info? e = some i)
    (v : Value) (n : Nat) (xs : List Value) (hown : w.ownsRow base e size v n xs) (c : Nat) : (Builtin.append_ #[t, t] ty #[v, .slice none 0 c]).run P w = .ok v w := by
  rcases hown.2 with ⟨rfl, rfl⟩ | ⟨g, cap, cur, rfl, _, _, hnc, _⟩
  · simp [Builtin.append_, run_underlying ht, sizeOf, typeInfo, hi, Builtin.lenOf, Builtin.firstCells]
  · simp [Builtin.append_, run_underlying ht, sizeOf, typeInfo, hi, Builtin.lenOf, Builtin.firstCells, hnc, storeCells]
theorem Grew.of_grown {v v' : Value} {W w' : World} {B : Nat} {e : TypeId} {sz n : Nat} {xs : List Value} (hown : W.ownsRow B e sz v n xs) (hg : W.grownBy w' v.ownBlock) (ho : v'.ownBlock = v.ownBlock ∨ v'.ownBlock = some W.heap.size) : Grew v v' W w' :=
  ⟨fun B0 h1 h2 => (Below.refl B0 W).grown hg h2 h1, fun b o hb hne => (hg.block b (block_lt hb) (fun e => hne e.symm)).trans hb, fun g hg' => by
    rcases ho with ho | ho
    · rw [ho] at hg'; exact .inl hg'
    · rw [ho] at hg'; right; have := Option.some.inj hg'; omega, hg.size⟩
/-- m elements more, which lie elsewhere. -/
theorem wpList_append_many {P : Program} {ops : Array Oper} {rest : List Oper} {o : Oper} {a : Act} {w : World} {Q : Exit → Act → World → Prop} (hgd : o.guard = none) (s x : Operand) (t : TypeId)
    (ho : o.op = .call { callee := .builtin .append, args := #[s, x], argTypes := #[t, t] })
    (base : Nat) (e : TypeId) (i : TypeInfo) (z : Value) (size bytes : Nat) (ht : P.underlying t = some (.slice e)) (hi : P.info? e = some i) (hz : i.zero = some z)
    (hsize : i.size = size) (hby : i.bytes = bytes) (hzs : z.cells.size = size) (hsz : 0 < size) (hby2 : bytes ≤ 100)
    (v : Value) (n : Nat) (xs : List Value) (hown : w.ownsRow base e size v n xs) (hs : a.eval s = v)
    (A : Option Addr) (m c : Nat) (news : List Value) (hl : news.length = m * size) (hsrc : ∀ j u, news[j]? = some u → ∃ ad : Addr, A = some ad ∧ w.cell? (ad.add j) = some u) (h1 : ∀ u ∈ news, u.oneCell' = true)
    (hx : a.eval x = .slice A m c) (hn : n + m ≤ 2200000) (hbase : base ≤ w.heap.size)
    (h : ∀ v' w', w'.ownsRow base e size v' (n + m) (xs ++ news) → Grew v v' w w' → wpList P ops Q rest (a.put o.dst v') w') : wpList P ops Q (o :: rest) a w := by
  have hrun : ∃ v' w', (Builtin.append_ #[t, t] o.type #[v, .slice A m c]).run P w = .ok v' w' ∧ w'.ownsRow base e size v' (n + m) (xs ++ news) ∧ Grew v v' w w' := by
    rcases A with _ | ad
    · have hm : m = 0 := by
        rcases Nat.eq_zero_or_pos m with h0 | h0
        · exact h0
        · have hp : 0 < news.length := by rw [hl]; exact Nat.mul_pos h0 hsz
          obtain ⟨ad, h2, _⟩ := hsrc 0 _ (List.getElem?_eq_getElem hp)
          cases h2
      subst hm
      obtain rfl : news = [] := List.eq_nil_of_length_eq_zero (by simpa using hl)
      exact ⟨v, w, run_append_void w base t o.type e i size ht hi v n xs hown c, by simpa using hown, Grew.of_grown hown (World.grownBy.refl w _) (.inl rfl)⟩
    · obtain ⟨v', w', hr, h2, h3, _, h5⟩ := run_append_own_at (P := P) w base t o.type e i z size bytes ht hi hz hsize hby hzs hsz v n xs hown ad m c news hl (fun j u hj => by
        obtain ⟨ad', h4, h5⟩ := hsrc j u hj
        obtain rfl := Option.some.inj h4
        exact h5) h1 (Nat.le_trans hn (by decide)) (Nat.le_trans (Nat.mul_le_mul hn hby2) (by decide)) hbase
      exact ⟨v', w', hr, h2, Grew.of_grown hown h3 h5⟩
  obtain ⟨v', w', hr, h2, h3⟩ := hrun
  exact Lib.wpList_append_run_sl w hgd s x t ho v (.slice A m c) hs hx hr (h v' w' h2 h3)
end Go.Proofs.Ytpmadamaefbamaa

/- Appends, run. -/
namespace Go.Proofs.Ytpmadamaefbamaa
open Go.RowKit
set_option linter.unusedSimpArgs false
set_option linter.unusedVariables false

theorem run_append_many {P : Program} {w : World} (t ty e : TypeId) (base : Nat) (i : TypeInfo) (z : Value) (size bytes : Nat) (ht : P.underlying t = some (.slice e)) (hi : P.info? e = some i) (hz : i.zero = some z)
    (hsize : i.size = size) (hby : i.bytes = bytes) (hzs : z.cells.size = size) (hsz : 0 < size) (hby2 : bytes ≤ 100)
    (v : Value) (n : Nat) (xs : List Value) (hown : w.ownsRow base e size v n xs)
    (A : Option Addr) (m c : Nat) (news : List Value) (hl : news.length = m * size) (hsrc : ∀ j u, news[j]? = some u → ∃ ad : Addr, A = some ad ∧ w.cell? (ad.add j) = some u) (h1 : ∀ u ∈ news, u.oneCell' = true)
    (hn : n + m ≤ 2200000) (hbase : base ≤ w.heap.size) :
    ∃ v' w', (Builtin.append_ #[t, t] ty #[v, .slice A m c]).run P w = .ok v' w' ∧ w'.ownsRow base e size v' (n + m) (xs ++ news) ∧ Grew v v' w w' := by
  rcases A with _ | ad
  · have hm : m = 0 := by
      rcases Nat.eq_zero_or_pos m with h0 | h0
      · exact h0
      · have hp : 0 < news.length := by rw [hl]; exact Nat.mul_pos h0 hsz
        obtain ⟨ad, h2, _⟩ := hsrc 0 _ (List.getElem?_eq_getElem hp)
        cases h2
    subst hm
    obtain rfl : news = [] := List.eq_nil_of_length_eq_zero (by simpa using hl)
    exact ⟨v, w, run_append_void w base t ty e i size ht hi v n xs hown c, by simpa using hown, Grew.of_grown hown (World.grownBy.refl w _) (.inl rfl)⟩
  · obtain ⟨v', w', hr, h2, h3, _, h5⟩ := run_append_own_at (P := P) w base t ty e i z size bytes ht hi hz hsize hby hzs hsz v n xs hown ad m c news hl (fun j u hj => by
      obtain ⟨ad', h4, h5⟩ := hsrc j u hj
      obtain rfl := Option.some.inj h4
      exact h5) h1 (Nat.le_trans hn (by decide)) (Nat.le_trans (Nat.mul_le_mul hn hby2) (by decide)) hbase
    exact ⟨v', w', hr, h2, Grew.of_grown hown h3 h5⟩
theorem exec_append {P : Program} {o : Oper} {a : Act} {w w' : World} {s x : Operand} {t : TypeId} {v xv v' : Value} (ho : o.op = .call { callee := .builtin .append, args := #[s, x], argTypes := #[t, t] })
    (hs : a.eval s = v) (hx : a.eval x = xv) (hr : (Builtin.append_ #[t, t] o.type #[v, xv]).run P w = .ok v' w') : (execOp a.eval o).run P w = .ok (.value v') w' := by
  simp [execOp, ho, resolve, invoke, builtin, hs, hx, hr, Result.andThen]
end Go.Proofs.Ytpmadamaefbamaa

/- Pairs of pieces, the program's. -/
namespace Go.Proofs.Ytpmadamaefbamaa
open Go.RowKit
set_option linter.unusedSimpArgs false
set_option linter.unusedVariables false
def cellsOfP (ps : List (Int × Int)) : List (Nat × List Value) := ps.map fun p => (2, [Value.int .i64 p.1, Value.int .i64 p.2])
/-- One slice more, apart from all others. -/
theorem RowsG.snocA {B : Nat} {T : TypeId} {sz : Nat} {w : World} {vout : Value} {vs : List Value} {xss : List (Nat × List Value)} (h : RowsG B T sz w vout vs xss) {v : Value} {x : Nat × List Value} (hv : w.ownsRow B T sz v x.1 x.2)
    (hva : ∀ (j : Nat) (u : Value), vs[j]? = some u → Apart u v) (hvo : Apart v vout) : RowsG B T sz w vout (vs ++ [v]) (xss ++ [x]) := by
  refine ⟨by simp [h.len], ?_, ?_⟩
  · intro j u y hu hy
    by_cases hj : j < vs.length
    · rw [List.getElem?_append_left hj] at hu
      rw [List.getElem?_append_left (h.len ▸ hj)] at hy
      exact h.row j u y hu hy
    · have hj2 : j < vs.length + 1 := by have := (List.getElem?_eq_some_iff.1 hu).1; simpa using this
      have hj3 : j = vs.length := by omega
      rw [List.getElem?_append_right (by omega), hj3] at hu
      rw [List.getElem?_append_right (by have := h.len; omega), hj3, h.len] at hy
      simp at hu hy
      subst hu hy
      exact ⟨hv, hvo⟩
  · intro i j u u' hij hu hu'
    have key : ∀ (i : Nat) (u : Value), (vs ++ [v])[i]? = some u → (i < vs.length ∧ vs[i]? = some u) ∨ (i = vs.length ∧ u = v) := by
      intro i u hu
      by_cases hi : i < vs.length
      · left; rw [List.getElem?_append_left hi] at hu; exact ⟨hi, hu⟩
      · right
        have hi2 : i < vs.length + 1 := by have := (List.getElem?_eq_some_iff.1 hu).1; simpa using this
        have hi3 : i = vs.length := by omega
        rw [List.getElem?_append_right (by omega), hi3] at hu
        simp at hu
        exact ⟨hi3, hu.symm⟩
    rcases key i u hu with ⟨_, h1⟩ | ⟨h1, h2⟩ <;> rcases key j u' hu' with ⟨_, h3⟩ | ⟨h3, h4⟩
    · exact h.sep i j u u' hij h1 h3
    · subst h4; exact hva i u h1
    · subst h2; exact (hva j u' h3).symm
    · omega
theorem owns_butt {w w' : World} {B p : Nat} {e : TypeId} {sz n : Nat} {v : Value} {xs : List Value} (h : w.ownsRow B e sz v n xs) (hb : Butt p w w') (hn : v.ownBlock ≠ some p) : w'.ownsRow B e sz v n xs := by
  refine ⟨h.1, ?_⟩
  rcases h.2 with hn' | ⟨g, cap, cur, rfl, hb0, hg, rest⟩
  · exact .inl hn'
  · exact .inr ⟨g, cap, cur, rfl, hb0, hb.at hg (by rintro rfl; exact hn rfl), rest⟩
theorem butt_then {p : Nat} {a b c : World} (h : Butt p a b) (k : Below a.heap.size b c) : Butt p a c :=
  ⟨k.os.trans h.os, k.tape.trans h.tape, k.output.trans h.output, Nat.le_trans h.size k.size, fun i hi hn => (k.block i hi).trans (h.block i hi hn)⟩
theorem butt_grown {p : Nat} {w w' : World} (h : w.grownBy w' (some p)) : Butt p w w' := ⟨h.os, h.tape, h.output, h.size, fun k hk hn => h.block k hk (fun e => hn (Option.some.inj e))⟩
theorem pairs_butt {k1 k2 : IntKind} {p : Nat} {w w' : World} {A : Option Addr} {l : List (Int × Int)} (h : PairsAt k1 k2 w A l) (hb : Butt p w w') (hn : ∀ a, A = some a → a.block ≠ p) : PairsAt k1 k2 w' A l := fun j q hj => by
  obtain ⟨b, off, e, h1, h2, h3⟩ := h j q hj
  have hne : b ≠ p := hn _ e
  exact ⟨b, off, e, Nat.lt_of_lt_of_le h1 hb.size, (World.cell?_of_block (w := w) (a := ⟨b, off + j * 2, none⟩) (hb.block b h1 hne)).trans h2, (World.cell?_of_block (w := w) (a := ⟨b, off + j * 2 + 1, none⟩) (hb.block b h1 hne)).trans h3⟩
theorem owns_keep' {W W' : World} {B : Nat} {e : TypeId} {sz n : Nat} {v : Value} {xs : List Value} (h : W.ownsRow B e sz v n xs) (hk : ∀ (g : Nat) (o : Obj), v.ownBlock = some g → W.heap[g]? = some o → W'.heap[g]? = some o) : W'.ownsRow B e sz v n xs := by
  refine ⟨h.1, ?_⟩
  rcases h.2 with hn | ⟨g, cap, cur, rfl, hb, hg, rest⟩
  · exact .inl hn
  · exact .inr ⟨g, cap, cur, rfl, hb, hk g _ rfl hg, rest⟩
theorem Butt.trans2 {p B : Nat} {a b c : World} (h : Butt p a b) (k : Below B b c) (hB : a.heap.size = B) : Butt p a c :=
  ⟨k.os.trans h.os, k.tape.trans h.tape, k.output.trans h.output, Nat.le_trans h.size k.size, fun i hi hn => (k.block i (by omega)).trans (h.block i hi hn)⟩
theorem exec_assignT {P : Program} {o : Oper} {a : Act} {w : World} {t : Nat} {v : Value} (ho : o.op = .assign (.tmp t)) (hx : a.tmps.getD t undef = v) : (execOp a.eval o).run P w = .ok (.value v) w := by
  have h : a.eval (.tmp t) = v := hx
  unfold execOp; simp [ho, h]
theorem getD_pr (a : Act) (t : Nat) : a.tmps[t]?.getD undef = a.tmps.getD t undef := by simp [Array.getD_eq_getD_getElem?]
theorem wpList_updB {ops : Array Oper} {rest : List Oper} {o : Oper} {a : Act} {w : World} {Q : Exit → Act → World → Prop} (hd : o.dst = none) (hg : o.guard = none) (m x v : Operand) (hop : o.op = Op.mapUpdate 69 m x v)
    (b n : Nat) (T : List Int) (hm : a.eval m = .map (some b)) (h : MapB w b n T) (hn : n < 1000000) (y : Int) (hy : -9223372036854775808 ≤ y ∧ y ≤ 9223372036854775807) (hx : a.eval x = .int .i64 y) (hv : a.eval v = .bool true)
    (hK : ∀ w', MapB w' b (n + 1) (T ++ [y]) → w.grownBy w' (some b) → wpList Try.prog ops Q rest a w') : wpList Try.prog ops Q (o :: rest) a w := by
  have hput : a.put o.dst undef = a := by rw [hd]; rfl
  rw [← hput] at hK
  refine wpList_plain hg fun K' hK' => ?_
  obtain ⟨w', hrun, r1, r2⟩ := h.update hn y hy
  unfold Oper.wp
  simp [execOp, hop, hm, hx, hv, hrun, Result.andThen]
  exact hK' _ _ (hK w' r1 r2)
/-- What stands when some of the operations have been carried out. -/
def PrR (BS bv : Nat) (T2 T1 : TypeId) (vo : Value) (n : Nat) (vs : List Value) (xss : List (Nat × List Value)) (a b : Int) (res : Nat → Option Value) (V : World) : Prop :=
  (res 8 = none → V.ownsRow BS T2 1 vo n vs ∧ RowsG BS T1 1 V vo vs xss) ∧
  (∀ u, res 6 = some u → ∃ g, u = .slice (some ⟨g, 0, none⟩) 2 2 ∧ V.heap[g]? = some (.cells #[.int .i64 a, .int .i64 b] T1 (0, 0)) ∧ bv < g) ∧
  (∀ u2, res 7 = some u2 → ∃ g2 u, u2 = .slice (some ⟨g2, 0, none⟩) 1 1 ∧ res 6 = some u ∧ (res 8 = none → V.heap[g2]? = some (.cells #[u] T2 (0, 0)) ∧ bv < g2)) ∧
  (∀ v', res 8 = some v' → ∃ u, res 6 = some u ∧ V.ownsRow BS T2 1 v' (n + 1) (vs ++ [u]) ∧ RowsG BS T1 1 V v' vs xss ∧ Apart u v')
theorem PrR.zero {BS bv : Nat} {T2 T1 : TypeId} {vo : Value} {n : Nat} {vs : List Value} {xss : List (Nat × List Value)} {a b : Int} {V : World} (h1 : V.ownsRow BS T2 1 vo n vs) (h2 : RowsG BS T1 1 V vo vs xss) : PrR BS bv T2 T1 vo n vs xss a b (fun _ => none) V :=
  ⟨fun _ => ⟨h1, h2⟩, fun u h => (by cases h), fun u h => (by cases h), fun u h => (by cases h)⟩
theorem PrR.mono {BS bv : Nat} {T2 T1 : TypeId} {vo : Value} {n : Nat} {vs : List Value} {xss : List (Nat × List Value)} {a b : Int} {res : Nat → Option Value} {V V' : World} (h : PrR BS bv T2 T1 vo n vs xss a b res V) (hb : Below V.heap.size V V') : PrR BS bv T2 T1 vo n vs xss a b res V' := by
  obtain ⟨h1, h2, h3, h4⟩ := h
  refine ⟨fun h8 => ⟨owns_below2 (h1 h8).1 hb (Nat.le_refl _), (h1 h8).2.below hb (Nat.le_refl _)⟩, fun u hu => ?_, fun u hu => ?_, fun v hv => ?_⟩
  · obtain ⟨g, e, hg, hl⟩ := h2 u hu
    exact ⟨g, e, block_below hb hg (block_lt hg), hl⟩
  · obtain ⟨g2, u', e, h6, hg⟩ := h3 u hu
    exact ⟨g2, u', e, h6, fun h8 => ⟨block_below hb (hg h8).1 (block_lt (hg h8).1), (hg h8).2⟩⟩
  · obtain ⟨u, hu, ho, hr, ha⟩ := h4 v hv
    exact ⟨u, hu, owns_below2 ho hb (Nat.le_refl _), hr.below hb (Nat.le_refl _), ha⟩
theorem RowsG.base {B B' : Nat} {T : TypeId} {sz : Nat} {w : World} {vout : Value} {vs : List Value} {xss : List (Nat × List Value)} (h : RowsG B T sz w vout vs xss) (hB : B' ≤ B) : RowsG B' T sz w vout vs xss :=
  ⟨h.len, fun j v x hv hx => ⟨World.ownsRow.mono (h.row j v x hv hx).1 hB, (h.row j v x hv hx).2⟩, h.sep⟩
theorem RowsG.butt {B p : Nat} {T : TypeId} {sz : Nat} {w w' : World} {vout : Value} {vs : List Value} {xss : List (Nat × List Value)} (h : RowsG B T sz w vout vs xss) (hb : Butt p w w') (hp : p < B) : RowsG B T sz w' vout vs xss :=
  ⟨h.len, fun j v x hv hx => ⟨owns_butt (h.row j v x hv hx).1 hb (fun e => by have := ((h.row j v x hv hx).1.lt _ e).1; omega), (h.row j v x hv hx).2⟩, h.sep⟩
theorem pair_row {BS g : Nat} {T1 : TypeId} {V : World} {a b : Int} (h : V.heap[g]? = some (.cells #[.int .i64 a, .int .i64 b] T1 (0, 0))) (hB : BS ≤ g) : V.ownsRow BS T1 1 (.slice (some ⟨g, 0, none⟩) 2 2) 2 [.int .i64 a, .int .i64 b] :=
  ⟨rfl, .inr ⟨g, 2, #[.int .i64 a, .int .i64 b], rfl, hB, h, Nat.le_refl _, by decide, by simp, rfl⟩⟩
theorem Try.infoSlI : (Try.prog.info? 24).map (fun i => (i.zero, i.size, i.bytes)) = some (some (.slice none 0 0), 1, 24) := by kernel_rfl
set_option maxHeartbeats 3200000 in
set_option maxRecDepth 100000 in
theorem c_pairs (A : Option Addr) (c : Nat) (l : List (Int × Int)) (hw : ∀ i : Int, 0 ≤ i → i < l.length → 0 ≤ wdL l i ∧ wdL l i ≤ 8) (hlen : l.length ≤ 30) (w : World) (hA : PairsAt .i8 .i8 w A l) :
    Calls Try.prog 44 #[.slice A l.length c] w fun e w' => ∃ v vs, e = .returned v ∧ Below w.heap.size w w' ∧ w'.ownsRow w.heap.size 24 1 v (pairL l).length vs ∧ RowsG w.heap.size 2 1 w' v vs (cellsOfP (pairL l)) := by
  have HX := hid (block_new1 w (.cells #[.slice A l.length c] 27) rfl)
  have HW : Hid (Below w.heap.size w (w.alloc (.cells #[.slice A l.length c] 27))) := (Below.refl _ w).alloc (Nat.le_refl _) _
  have HA := hid hA
  have HWd := hid hw
  have HLen := hid hlen
  have HBW := fun W h => hid (c_byWidth A c l hw hlen W h)
  clear hw hlen hA
  have hmm := @run_makeMap Try.prog
  go_enter Try.func44, Try.ntmps44
  go_wp2_with (go_at_call 41; ((with_reducible refine (HBW _ (HA.out.below HW.out (Nat.le_refl _))).out.mono ?_); rintro e1 w1 ⟨v, rfl, hb1, hr1⟩); have HB1 := hid hb1; have HR1 := hid hr1; clear hb1 hr1; obtain ⟨Ao, co, rfl⟩ := owns_slc HR1.out)
  have HX1 := hid (block_below HB1.out HX.out (block_lt HX.out))
  obtain ⟨W3, hW3⟩ : ∃ W3, W3 = (w1.alloc (.map #[] 0)).alloc (.cells #[.map (some w1.heap.size)] 69) := ⟨_, rfl⟩
  obtain ⟨bm, hbm⟩ : ∃ b, b = w1.heap.size := ⟨_, rfl⟩
  have hB13 : Below w1.heap.size w1 W3 := by rw [hW3]; exact ((Below.refl _ w1).alloc (Nat.le_refl _) _).alloc (by simp) _
  have HWW := hid (HW.out.trans (HB1.out.mono HW.out.size))
  have HW3 := hid (HWW.out.trans (hB13.mono HWW.out.size))
  have HX3 := hid (block_below hB13 HX1.out (block_lt HX1.out))
  have HO3 : Hid (RowN (w.heap.size + 1) W3 (.slice Ao (ordL l).length co) (ordL l)) := World.ownsRow.mono (owns_below2 HR1.out hB13 (Nat.le_refl _)) (by simp)
  have HOlt : Hid (∀ g, (Value.slice Ao (ordL l).length co).ownBlock = some g → g < bm) := fun g hg => by rw [hbm]; exact (World.ownsRow.lt HR1.out g hg).2
  have HM3 : Hid (MapB W3 bm 0 []) := by rw [hW3, hbm]; exact (MapB.made w1).keep fun o ho => block_alloc ho _
  have HT3 : Hid (W3.heap[bm + 1]? = some (.cells #[.map (some bm)] 69 (0, 0))) := by rw [hW3, hbm]; exact block_new1 _ _ (by simp)
  have HSz : Hid (W3.heap.size = bm + 2 ∧ w.heap.size + 1 ≤ bm ∧ w.heap.size ≤ bm) := by
    refine ⟨by rw [hW3, hbm]; simp, ?_, ?_⟩
    · rw [hbm]; have := HB1.out.size; simpa using this
    · rw [hbm]; have := HB1.out.size; simp at this; omega
  rw [← hW3, ← hbm]
  obtain ⟨BS, hBS⟩ : ∃ b, b = W3.heap.size := ⟨_, rfl⟩
  have HBS := hid hBS
  have HOL : Hid ((ordL l).length = l.length) := ordL_len (by have := HLen.out; omega) HWd.out
  have HOM : Hid (∀ x ∈ ordL l, 0 ≤ x ∧ x < l.length) := fun x hx => ordL_mem hx
  have HPL : Hid (pairN l (ordL l) (ordL l).length = pairL l) := rfl
  have HOX : Hid (∃ O, O = ordL l) := ⟨_, rfl⟩
  obtain ⟨O, hO⟩ : ∃ O, O = ordL l := ⟨_, rfl⟩
  rw [← hO] at HO3 HOlt HOL HOM HPL ⊢
  clear hW3 hbm hB13 HX1 HB1 HR1 HWW HX HW HBW hmm hBS hO HOX
  have HN0 : Hid (W3.ownsRow BS 24 1 (.slice none 0 0) (pairN l O 0).length []) := World.ownsRow_nil _ _ _ _
  have HG0 : Hid (RowsG BS 2 1 W3 (.slice none 0 0) [] (cellsOfP (pairN l O 0))) := RowsG.nil _ _ _ _ _
  go_loopw [5, 14] (fun vo i wr => ∃ (k n : Nat) (vs : List Value), k ≤ O.length ∧ i = .int .i64 k ∧ Hid (n ≤ k) ∧ Hid (Butt bm W3 wr) ∧ Hid (MapB wr bm n ((pairN l O k).map (·.2))) ∧ Hid (wr.ownsRow BS 24 1 vo (pairN l O k).length vs) ∧ Hid (RowsG BS 2 1 wr vo vs (cellsOfP (pairN l O k)))) (fun _ i _ => O.length - (intOf i).toNat)
  case atStart => exact ⟨0, 0, [], by omega, rfl, Nat.le_refl _, Butt.refl _ _, HM3.out, HN0.out, HG0.out⟩
  case round =>
    clear HN0 HG0 HM3
    obtain ⟨wo, rfl⟩ : ∃ W, W = wr := ⟨_, rfl⟩
    obtain ⟨k, n, vs, hk, rfl, hnk, hbt, hmp, hown, hrows⟩ := hrel
    obtain ⟨Av, cv, rfl⟩ := owns_slc hown.out
    have hL := HLen.out
    have hOL := HOL.out
    by_cases hkl : k < O.length
    · have d1 : decide ((k : Int) < (O.length : Int)) = true := decide_eq_true (by omega)
      have hkI : (k : Int) < (O.length : Int) := by omega
      have hk0 : (0 : Int) ≤ (k : Int) := by omega
      have hk30 : (k : Int) ≤ 30 := by omega
      have hp := List.getElem?_eq_getElem hkl
      obtain ⟨a, haa⟩ : ∃ a, a = O[k] := ⟨_, rfl⟩
      rw [← haa] at hp
      have hra := HOM.out a (List.mem_of_getElem? hp)
      have HSUC := hid (pairN_succ (l := l) hp)
      have hOr : RowN (w.heap.size + 1) wo (.slice Ao O.length co) O := owns_butt HO3.out hbt.out (fun e => by have := HOlt.out _ e; omega)
      obtain ⟨go, cg, e, _, hgl, c0, _⟩ := owns_cell hOr (icells_get hp)
      obtain ⟨rfl, rfl⟩ : Ao = some ⟨go, 0, none⟩ ∧ co = cg := by simpa using e
      have hS := HSz.out
      have hBS := HBS.out
      have hXr := hbt.out.at HX3.out (by omega)
      have hTr := hbt.out.at HT3.out (by omega)
      have hBw : Below w.heap.size w wo := HW3.out.trans ((hbt.out.below (Nat.le_refl bm) (by omega)).mono hS.2.2)
      have hAr := HA.out.below hBw (Nat.le_refl _)
      obtain ⟨a', rfl⟩ : ∃ a' : Nat, a = (a' : Int) := ⟨a.toNat, by omega⟩
      have pa := List.getElem?_eq_getElem (show a' < l.length by omega)
      have eh := haL_get pa
      obtain ⟨b, off, e2, r1, r2, r3⟩ := hAr a' _ pa
      rw [← eh] at r2
      obtain ⟨vh, hvh⟩ : ∃ v, v = haL l a' := ⟨_, rfl⟩
      rw [← hvh] at r2
      have x0 : (0 : Int) ≤ (a' : Int) := by omega
      have x1 : (a' : Int) < (l.length : Int) := by omega
      have x2 : (a' : Int) ≤ 30 := by omega
      have hAl : Below wo.heap.size wo (wo.alloc (.cells #[.int .i64 (a' : Int)] 3)) := (Below.refl _ wo).alloc (Nat.le_refl _) _
      have HX4 := hid (block_alloc hXr (.cells #[.int .i64 (a' : Int)] 3))
      have HT4 := hid (block_alloc hTr (.cells #[.int .i64 (a' : Int)] 3))
      have HV4 := hid (block_new1 wo (.cells #[.int .i64 (a' : Int)] 3) rfl)
      have HM4 := hid (hmp.out.below hAl hmp.out.lt)
      have HO4 : Hid (RowN (w.heap.size + 1) (wo.alloc (.cells #[.int .i64 (a' : Int)] 3)) (.slice (some ⟨go, 0, none⟩) O.length co) O) := World.ownsRow.alloc hOr _
      have HA4 := hid (hAr.below hAl (Nat.le_refl _))
      have HN4 := hid (World.ownsRow.alloc hown.out (.cells #[.int .i64 (a' : Int)] 3))
      have HG4 := hid (hrows.out.below hAl (Nat.le_refl _))
      have HB4 := hid (hbt.out.trans (Butt.of hAl))
      have HLV : Hid (∀ g, (Value.slice Av (pairN l O k).length cv).ownBlock = some g → g < wo.heap.size) := fun g hg => (World.ownsRow.lt hown.out g hg).2
      have HLO : Hid (∀ (j : Nat) (u : Value) (g : Nat), vs[j]? = some u → u.ownBlock = some g → g < wo.heap.size) := fun j u g hu hg => (hrows.out.lt hu g hg).2
      have HBSo : Hid (BS ≤ wo.heap.size) := by show _ ≤ _; rw [hBS]; exact hbt.out.size
      have y0 : (wo.alloc (.cells #[.int .i64 (a' : Int)] 3)).cell? ⟨w.heap.size, 0, none⟩ = some (.slice A l.length c) := cell_block HX4.out rfl
      have y1 := (hAl.cell (p := ⟨b, _, none⟩) r1).trans r2
      have HKL := hid hkl
      have HE2 := hid e2
      have HVH := hid hvh
      have HRA := hid hra
      have HPA := hid hp
      have HNK := hid hnk.out
      clear hp haa hra hOr e hgl hXr hTr hAr hBw pa eh r1 r2 r3 hAl hkl hvh hS hBS hL hOL hown hrows hmp hnk hbt
      rw [e2] at y0
      clear e2
      by_cases hz : vh = 0
      · have d2 : (vh != 0) = false := by rw [hz]; rfl
        have d3 : (vh == 0) = true := by rw [hz]; rfl
        have HZ : Hid (haL l a' = 0) := by show _ = _; rw [← HVH.out]; exact hz
        obtain ⟨T, hT⟩ : ∃ T, T = (pairN l O k).map (·.2) := ⟨_, rfl⟩
        have HTT := hid hT
        rw [← hT] at HM4
        obtain ⟨f, hf⟩ : ∃ f, f = fitB l a' T := ⟨_, rfl⟩
        have HFF := hid hf
        have HT : Hid (TellsI 58 #[] #[.pointer (some ⟨w.heap.size, 0, none⟩), .pointer (some ⟨bm + 1, 0, none⟩), .pointer (some ⟨wo.heap.size, 0, none⟩)] f O (wo.alloc (.cells #[.int .i64 (a' : Int)] 3))) := by
          intro W r hr hbW
          rw [hf]
          exact c_pairClo A c l HWd.out (by have := HLen.out; omega) a' r HRA.out (HOM.out r hr) _ _ bm _ n T W (block_below hbW HX4.out (block_lt HX4.out)) (block_below hbW HT4.out (block_lt HT4.out)) (block_below hbW HV4.out (block_lt HV4.out)) (HM4.out.below hbW HM4.out.lt) (HA4.out.below hbW (Nat.le_refl _))
        have HSL : Hid (SlI (wo.alloc (.cells #[.int .i64 (a' : Int)] 3)) (some ⟨go, 0, none⟩) O) := by
          obtain ⟨A9, c9, e9, h9⟩ := sli_ownI HO4.out
          obtain ⟨rfl, _⟩ : some (⟨go, 0, none⟩ : Addr) = A9 ∧ co = c9 := by simpa using e9
          exact h9
        obtain ⟨z, hz9⟩ : ∃ z, z = idxI f O := ⟨_, rfl⟩
        have HIF : Hid (Calls Try.prog 57 #[.slice (some ⟨go, 0, none⟩) O.length co, .func (.func 58) #[] #[.pointer (some ⟨w.heap.size, 0, none⟩), .pointer (some ⟨bm + 1, 0, none⟩), .pointer (some ⟨wo.heap.size, 0, none⟩)]] (wo.alloc (.cells #[.int .i64 (a' : Int)] 3)) fun e w' => e = .returned (.int .i64 z) ∧ Below (wo.alloc (.cells #[.int .i64 (a' : Int)] 3)).heap.size (wo.alloc (.cells #[.int .i64 (a' : Int)] 3)) w') :=
          (c_indexFN 58 #[] #[.pointer (some ⟨w.heap.size, 0, none⟩), .pointer (some ⟨bm + 1, 0, none⟩), .pointer (some ⟨wo.heap.size, 0, none⟩)] (enters_of Try.func58 (by kernel_rfl) rfl) f _ co O (by have := HOL.out; have := HLen.out; omega) _ HSL.out HT.out).mono fun e w' ⟨n, h1, h2, _, h3⟩ => ⟨by rw [h1, h3, hz9], h2⟩
        have HZ9 := hid hz9
        clear hz hT hf hz9 HT HSL
        cases hany : O.any f with
        | false =>
          have HNone := hid (pairA_none (l := l) (ord := O) (st := pairN l O k) (a := (a' : Int)) (by rw [← HTT.out, ← HFF.out]; exact hany))
          have HZm : Hid (z = -1) := by show _ = _; rw [HZ9.out]; unfold idxI; rw [hany]; rfl
          obtain rfl := HZm.out
          clear hany
          go_wp2_with (go_at_call 57; ((with_reducible refine HIF.out.mono ?_); rintro e5 w5 ⟨rfl, hb5⟩); have HB5 := hid hb5; clear hb5)
          refine ⟨⟨k + 1, n, vs, by have := HKL.out; omega, by go_num, by have := HNK.out; show _ ≤ _; omega, HB4.out.trans (Butt.of HB5.out), ?_, ?_, ?_⟩, by have := HKL.out; simp [intOf]; omega⟩
          · rw [HSUC.out, HNone.out, ← HTT.out]; exact HM4.out.below HB5.out HM4.out.lt
          · rw [HSUC.out, HNone.out]; exact owns_below2 HN4.out HB5.out (Nat.le_refl _)
          · rw [HSUC.out, HNone.out]; exact HG4.out.below HB5.out (Nat.le_refl _)
        | true =>
          obtain ⟨k2, bb, e1, hk2, hfb, hno⟩ := idxI_some hany
          have HYes := hid (pairA_some (l := l) (ord := O) (st := pairN l O k) (a := (a' : Int)) (b := bb) (k := k2) HZ.out hk2 (by rw [← HTT.out, ← HFF.out]; exact hno) (by rw [← HTT.out, ← HFF.out]; exact hfb)).1
          obtain rfl : z = (k2 : Int) := HZ9.out.trans e1
          have hk2l := (List.getElem?_eq_some_iff.1 hk2).1
          have hbr := HOM.out bb (List.mem_of_getElem? hk2)
          obtain ⟨go', cg', e9, _, hgl, c9, _⟩ := owns_cell HO4.out (icells_get hk2)
          obtain ⟨rfl, rfl⟩ : go = go' ∧ co = cg' := by simpa using e9
          have z0 : (0 : Int) ≤ (k2 : Int) := by omega
          have z1 : (k2 : Int) < (O.length : Int) := by omega
          have z2 : decide ((k2 : Int) ≥ 0) = true := decide_eq_true (by omega)
          have HC9 := hid c9
          have HK2 := hid hk2
          have HGL := hid hgl
          have HBR := hid hbr
          clear hany e1 hk2 hfb hno hk2l hbr e9 c9 hgl
          go_wp2_with (go_at_call 57; ((with_reducible refine HIF.out.mono ?_); rintro e5 w5 ⟨rfl, hb5⟩); have HB5 := hid hb5; clear hb5)
          have t0 : w5.cell? ⟨bm + 1, 0, none⟩ = some (.map (some bm)) := cell_block (block_below HB5.out HT4.out (block_lt HT4.out)) rfl
          have t1 := (HB5.out.cell (p := ⟨go, k2, none⟩) HGL.out).trans HC9.out
          refine wp_region_tail 5 (by kernel_rfl) (by kernel_rfl) ?_
          simp only [List.take_succ_cons, List.take_zero, List.drop_succ_cons, List.drop_zero]
          repeat still_step
          refine wpStill_nil ?_
          have HM5 : Hid (MapB w5.drew bm n T) := (HM4.out.below HB5.out HM4.out.lt).keep fun o ho => ho
          go_wp2_with ((with_reducible refine gateN rfl ?_); (refine wpList_updB rfl rfl (.tmp 29) (.tmp 33) (.const (.bool true)) rfl bm n T rfl HM5.out (by have := HNK.out; have := HKL.out; have := HOL.out; have := HLen.out; omega) bb (by have := HBR.out; have := HLen.out; omega) rfl rfl ?_); intro w6 hm6 hg6; have HM6 := hid hm6; have HG6 := hid (butt_grown hg6); clear hm6 hg6)
          obtain ⟨bv, hbv⟩ : ∃ b, b = wo.heap.size := ⟨_, rfl⟩
          have hS := HSz.out
          have hBS := HBS.out
          have hBSo := HBSo.out
          rw [← hbv] at HV4 HLV HLO hBSo ⊢
          have hB46 : Butt bm (wo.alloc (.cells #[.int .i64 (a' : Int)] 3)) w6 := ((Butt.of HB5.out).trans (Butt.of ((Below.refl _ w5).drew))).trans HG6.out
          have HV6 := hid (hB46.at HV4.out (by omega))
          have HO6 : Hid (RowN (w.heap.size + 1) w6 (.slice (some ⟨go, 0, none⟩) O.length co) O) := owns_butt HO4.out hB46 (fun e => by have := HOlt.out _ e; omega)
          have HN6 := hid (owns_butt HN4.out hB46 (fun e => by have := (World.ownsRow.lt HN4.out _ e).1; omega))
          have HGG6 := hid (HG4.out.butt hB46 (by omega))
          have HB6 := hid (HB4.out.trans hB46)
          have HSZ6 : Hid (BS ≤ w6.heap.size) := by have := HB6.out.size; show _ ≤ _; omega
          have HOgo : Hid (go < bm) := HOlt.out go rfl
          have HBMS : Hid (bm < BS ∧ bm < bv ∧ BS ≤ bv ∧ W3.heap.size = BS) := ⟨by omega, by omega, hBSo, hBS.symm⟩
          have HPNl : Hid ((pairN l O k).length ≤ 1000) := by have := pairN_len l O k; have := HKL.out; have := HOL.out; have := HLen.out; show _ ≤ _; omega
          clear hbv hS hBS hBSo hB46 t0 t1
          refine wp_region_wildT 9 [0, 1, 2, 3, 4, 5] [6, 7, 8] ?s1 (fun V => V.heap[bv]? = some (.cells #[.int .i64 (a' : Int)] 3 (0, 0)) ∧ RowN (w.heap.size + 1) V (.slice (some ⟨go, 0, none⟩) O.length co) O ∧ Butt bm W3 V ∧ BS ≤ V.heap.size ∧ MapB V bm (n + 1) (T ++ [bb])) (PrR BS bv 24 2 (.slice Av (pairN l O k).length cv) (pairN l O k).length vs (cellsOfP (pairN l O k)) (a' : Int) bb) (by kernel_rfl) (by kernel_rfl) (by kernel_rfl) (by kernel_rfl) (by kernel_rfl) ?kz ?kx ?pre1 ?zero1 ?mono1 ?step1 ?last1
          case kz => exact ⟨HV6.out, HO6.out, HB6.out.trans (Butt.of ((Below.refl _ _).drew)), HSZ6.out, HM6.out.keep fun o ho => ho⟩
          case kx => exact fun V V' ⟨h1, h2, h3, h4, h5⟩ hb => ⟨block_below hb h1 (block_lt h1), owns_below2 h2 hb (Nat.le_refl _), h3.trans (Butt.of hb), Nat.le_trans h4 hb.size, h5.below hb h5.lt⟩
          case pre1 =>
            intro W' hK
            obtain ⟨h1, h2, h3, h4, h5⟩ := hK
            have l1 := block_lt h1
            have u0 : W'.cell? ⟨bv, 0, none⟩ = some (.int .i64 (a' : Int)) := cell_block h1 rfl
            obtain ⟨go2, cg2, e2, _, l2, u1, _⟩ := owns_cell h2 (icells_get HK2.out)
            have e3 : go = go2 ∧ co = cg2 := by simpa using e2
            rw [← e3.1] at u1 l2
            clear e2 e3 h1 h2 h3 h4 h5
            change wpQuiet _ _ _ _ [_, _, _, _, _, _] _
            repeat (go_big_quiet_step (fail))
            refine wpQuiet_nil ?_
            exact rfl
          case zero1 => exact PrR.zero (owns_below2 HN6.out ((Below.refl _ w6).drew) (Nat.le_refl _)) (HGG6.out.below ((Below.refl _ w6).drew) (Nat.le_refl _))
          case mono1 => exact fun res V V' h hb => h.mono hb
          case step1 =>
            intro i o hi ho res a9 wq hn hRq hKq hey hdep
            simp only [List.mem_cons, List.not_mem_nil, or_false] at hi
            obtain ⟨h1, h2, h3, h4⟩ := hRq
            obtain ⟨kq1, kq2, kq3, kq4, kq5⟩ := hKq
            rcases hi with rfl | rfl | rfl
            · -- the pair
              obtain rfl := Option.some.inj ho
              have e35 : a9.eval (.tmp 35) = .int .i64 (a' : Int) := (hey 35 (by decide)).2 (by decide)
              have e39 : a9.eval (.tmp 39) = .int .i64 bb := (hey 39 (by decide)).2 (by decide)
              have e35' := (getD_pr a9 35).trans e35
              have e39' := (getD_pr a9 39).trans e39
              have hb' : Below wq.heap.size wq (wq.alloc (.cells #[.int .i64 (a' : Int), .int .i64 bb] 2)) := (Below.refl _ wq).alloc (Nat.le_refl _) _
              refine .inr (.inl ⟨.slice (some ⟨wq.heap.size, 0, none⟩) 2 2, wq.alloc (.cells #[.int .i64 (a' : Int), .int .i64 bb] 2), by unfold execOp; go_simp, ⟨fun h8 => ⟨owns_below2 (h1 h8).1 hb' (Nat.le_refl _), (h1 h8).2.below hb' (Nat.le_refl _)⟩, fun u hu => ?_, fun u hu => ?_, fun v hv => ?_⟩, block_below hb' kq1 (block_lt kq1), owns_below2 kq2 hb' (Nat.le_refl _), kq3.trans (Butt.of hb'), Nat.le_trans kq4 hb'.size, kq5.below hb' kq5.lt⟩)
              · obtain rfl := Option.some.inj hu
                exact ⟨_, rfl, block_new1 wq _ rfl, block_lt kq1⟩
              · obtain ⟨g2, u', _, h6, _⟩ := h3 u hu
                rw [hn] at h6; cases h6
              · obtain ⟨u', h6, _⟩ := h4 v hv
                rw [hn] at h6; cases h6
            · -- a slice of the pair
              obtain rfl := Option.some.inj ho
              have r6 := (hey 40 (by decide)).1 6 (by decide) (by decide)
              obtain ⟨g, eg, hg, hlg⟩ := h2 _ r6
              have e40' := (getD_pr a9 40).trans eg
              have hb' : Below wq.heap.size wq (wq.alloc (.cells #[.slice (some ⟨g, 0, none⟩) 2 2] 24)) := (Below.refl _ wq).alloc (Nat.le_refl _) _
              refine .inr (.inl ⟨.slice (some ⟨wq.heap.size, 0, none⟩) 1 1, wq.alloc (.cells #[.slice (some ⟨g, 0, none⟩) 2 2] 24), by unfold execOp; go_simp, ⟨fun h8 => ⟨owns_below2 (h1 h8).1 hb' (Nat.le_refl _), (h1 h8).2.below hb' (Nat.le_refl _)⟩, fun u hu => ?_, fun u hu => ?_, fun v hv => ?_⟩, block_below hb' kq1 (block_lt kq1), owns_below2 kq2 hb' (Nat.le_refl _), kq3.trans (Butt.of hb'), Nat.le_trans kq4 hb'.size, kq5.below hb' kq5.lt⟩)
              · obtain ⟨g', e', hg', hl'⟩ := h2 u hu
                exact ⟨g', e', block_below hb' hg' (block_lt hg'), hl'⟩
              · obtain rfl := Option.some.inj hu
                exact ⟨wq.heap.size, .slice (some ⟨g, 0, none⟩) 2 2, rfl, by show res 6 = _; rw [r6, eg], fun _ => ⟨block_new1 wq _ rfl, block_lt kq1⟩⟩
              · obtain ⟨u', h6, ho', hr', ha'⟩ := h4 v hv
                exact ⟨u', h6, owns_below2 ho' hb' (Nat.le_refl _), hr'.below hb' (Nat.le_refl _), ha'⟩
            · -- the append
              obtain rfl := Option.some.inj ho
              have r7 := (hey 41 (by decide)).1 7 (by decide) (by decide)
              obtain ⟨g2, u, eg2, h6, hg2⟩ := h3 _ r7
              obtain ⟨g, rfl, hg, hlg⟩ := h2 _ h6
              obtain ⟨hc2, hlg2⟩ := hg2 hn
              have e34 : a9.eval (.tmp 34) = .slice Av (pairN l O k).length cv := (hey 34 (by decide)).2 (by decide)
              have e41 : a9.eval (.tmp 41) = .slice (some ⟨g2, 0, none⟩) 1 1 := eg2
              obtain ⟨hO1, hR1⟩ := h1 hn
              obtain ⟨i0, hi0, hz0, hz1, hz2⟩ := info_parts Try.infoSlI
              obtain ⟨v', w', hrun, hown', hgr⟩ := run_append_many (P := Try.prog) (w := wq) 72 72 24 BS i0 (.slice none 0 0) 1 24 Try.underlying72 hi0 hz0 hz1 hz2 rfl (by decide) (by decide) _ _ _ hO1 (some ⟨g2, 0, none⟩) 1 1 [.slice (some ⟨g, 0, none⟩) 2 2] rfl (fun j u hu => by
                cases j with
                | zero => simp at hu; subst hu; exact ⟨_, rfl, cell_block hc2 rfl⟩
                | succ j => simp at hu) (fun u hu => by rw [List.mem_singleton] at hu; subst hu; rfl) (by have := HPNl.out; omega) kq4
              have hvo : ∀ g', (Value.slice Av (pairN l O k).length cv).ownBlock = some g' → BS ≤ g' ∧ g' < bv := fun g' h => ⟨(World.ownsRow.lt hO1 g' h).1, HLV.out g' h⟩
              have hbB : Below BS wq w' := hgr.below BS (fun g' h => (hvo g' h).1) kq4
              have hkeep : ∀ b o, wq.heap[b]? = some o → (b < BS ∨ bv ≤ b) → w'.heap[b]? = some o := fun b o hb hh => hgr.block b o hb (fun e => by have := hvo b e; omega)
              have hbms := HBMS.out
              refine .inr (.inl ⟨v', w', exec_append rfl e34 e41 hrun, ⟨fun h8 => (by cases h8), fun u hu => ?_, fun u hu => ?_, fun v hv => ?_⟩, hkeep _ _ kq1 (.inr (Nat.le_refl _)), owns_keep' kq2 (fun g' o h' ho' => hkeep g' o ho' (.inl (by have := HOlt.out g' h'; omega))), kq3.trans2 hbB hbms.2.2.2, Nat.le_trans kq4 hgr.size, kq5.below hbB hbms.1⟩)
              · obtain ⟨g', e', hg', hl'⟩ := h2 u hu
                exact ⟨g', e', hkeep _ _ hg' (.inr (Nat.le_of_lt hl')), hl'⟩
              · obtain ⟨g', u', e', h6', _⟩ := h3 u hu
                exact ⟨g', u', e', h6', fun h8 => by cases h8⟩
              · obtain rfl := Option.some.inj hv
                refine ⟨_, h6, hown', hR1.grew hgr, fun g' h1' h2' => ?_⟩
                have e1 : g = g' := by simpa [Value.ownBlock] using h1'
                rcases hgr.own g' h2' with h7 | h7
                · have := (hvo g' h7).2; omega
                · have := block_lt hg; omega
          case last1 =>
            intro ol hol val wq hRq hKq
            obtain rfl := Option.some.inj hol
            obtain ⟨_, h2, _, h4⟩ := hRq
            obtain ⟨u, h6, ho8, hr8, ha8⟩ := h4 (val 8) rfl
            obtain rfl : val 6 = u := Option.some.inj h6
            obtain ⟨g, eg, hg, hlg⟩ := h2 (val 6) rfl
            refine ⟨val 8, exec_assignT (t := 42) rfl (putW_here _ val 42 8 ?p1 _ _ ?p2 ?p3 ?p4), ?_⟩
            case p1 => rfl
            case p2 => decide
            case p3 => decide
            case p4 => exact Nat.le_of_ble_eq_true rfl
            obtain ⟨A8, c8, e8⟩ := owns_slc ho8
            rw [e8] at ho8 hr8 ha8
            have hbms := HBMS.out
            have hrow : wq.ownsRow BS 2 1 (val 6) 2 [.int .i64 (a' : Int), .int .i64 bb] := by rw [eg]; exact pair_row hg (by omega)
            have hrows8 := hid (RowsG.snocA (x := (2, [.int .i64 (a' : Int), .int .i64 bb])) hr8 hrow (fun j u hu g' h1 h2' => by
              have := HLO.out j u g' hu h1
              rw [eg] at h2'
              have e1 : g = g' := by simpa [Value.ownBlock] using h2'
              omega) ha8)
            have HO8 := hid ho8
            have HKB := hid hKq
            have hcells : Hid (cellsOfP (pairN l O k) ++ [(2, [.int .i64 (a' : Int), .int .i64 bb])] = cellsOfP (pairN l O k ++ [((a' : Int), bb)])) := by simp [Hid, cellsOfP]
            clear h2 h4 hrow hr8 ha8 ho8 hg hbms h6 hKq
            rw [e8]
            change Exit.inBlock _ _ _ (((((_ : Act).put (some 40) (val 6)).put (some 41) (val 7)).put (some 42) (val 8)).put (some 5) _) _
            rw [e8, eg]
            simp only [Act.put, List.setIfInBounds_toArray, List.set_cons_zero, List.set_cons_succ]
            clear e8
            go_wp2_with fail
            refine ⟨⟨k + 1, n + 1, vs ++ [val 6], by have := HKL.out; omega, by go_num, by have := HNK.out; show _ ≤ _; omega, HKB.out.2.2.1, ?_, ?_, ?_⟩, by have := HKL.out; simp [intOf]; omega⟩
            · rw [HSUC.out, HYes.out, List.map_append, ← HTT.out]; exact HKB.out.2.2.2.2
            · rw [HSUC.out, HYes.out, List.length_append]; exact HO8.out
            · rw [HSUC.out, HYes.out, ← hcells.out]; exact hrows8.out
      · have d2 : (vh != 0) = true := by rw [bne_iff_ne]; exact hz
        have d3 : (vh == 0) = false := by rw [beq_eq_false_iff_ne]; exact hz
        have HNo := hid (pairA_no (l := l) (ord := O) (st := pairN l O k) (a := (a' : Int)) (by rw [← HVH.out]; exact hz))
        clear hz
        go_wp2_with fail
        refine ⟨⟨k + 1, n, vs, by have := HKL.out; omega, by go_num, by have := HNK.out; show _ ≤ _; omega, HB4.out, ?_, ?_, ?_⟩, by have := HKL.out; simp [intOf]; omega⟩
        · rw [HSUC.out, HNo.out]; exact HM4.out
        · rw [HSUC.out, HNo.out]; exact HN4.out
        · rw [HSUC.out, HNo.out]; exact HG4.out
    · obtain rfl : k = O.length := by omega
      have d1 : decide ((O.length : Int) < (O.length : Int)) = false := decide_eq_false (by omega)
      have hS := HSz.out
      have hBw : Below w.heap.size w wo := HW3.out.trans ((hbt.out.below (Nat.le_refl bm) (by omega)).mono hS.2.2)
      have HBw := hid hBw
      have HBB : Hid (w.heap.size ≤ BS) := by have := HBS.out; show _ ≤ _; omega
      clear hL hOL hS hBw
      go_wp2_with fail
      go_ret
      refine ⟨_, vs, rfl, HBw.out, ?_, ?_⟩
      · rw [← HPL.out]; exact World.ownsRow.mono hown.out HBB.out
      · rw [← HPL.out]; exact hrows.out.base HBB.out
end Go.Proofs.Ytpmadamaefbamaa

/- The order of pieces, the reference's. -/
namespace Go.Proofs.Ytpmadamaefbamaa
open Go.RowKit
set_option linter.unusedSimpArgs false
set_option linter.unusedVariables false
def tailF (l : List (Int × Int)) : Nat → List Int
  | 0 => []
  | k + 1 => ordFrom l k
theorem ordFrom_tail (l : List (Int × Int)) : ∀ k, ordFrom l k = filW l k ++ tailF l k
  | 0 => by simp [ordFrom, tailF]
  | k + 1 => rfl
/-- The first i of them. -/
def filI (l : List (Int × Int)) (k i : Nat) : List Int := (upL i).filter fun j => decide (wdL l j = (k : Int))
theorem filI_all (l : List (Int × Int)) (k : Nat) : filI l k l.length = filW l k := rfl
theorem filI_succ (l : List (Int × Int)) (k i : Nat) : filI l k (i + 1) = filI l k i ++ if wdL l i = (k : Int) then [(i : Int)] else [] := by
  unfold filI
  rw [upL_succ, List.filter_append]
  congr 1
  by_cases h : wdL l i = (k : Int)
  · simp [h]
  · simp [h]
theorem filI_len (l : List (Int × Int)) (k i : Nat) : (filI l k i).length ≤ i := by
  unfold filI
  have := List.length_filter_le (fun j => decide (wdL l j = (k : Int))) (upL i)
  rw [upL_len] at this
  exact this
set_option maxHeartbeats 1600000 in
set_option maxRecDepth 100000 in
theorem c_l05Order (A : Option Addr) (c : Nat) (l : List (Int × Int)) (hw : ∀ i : Int, 0 ≤ i → i < l.length → 0 ≤ wdL l i ∧ wdL l i ≤ 8) (hlen : l.length ≤ 1000) (w : World) (hA : PairsAt .i8 .i8 w A l) :
    Calls Try.prog 35 #[.slice A l.length c] w fun e w' => ∃ v, e = .returned v ∧ Below w.heap.size w w' ∧ RowI w.heap.size w' v (ordL l) := by
  have HM := hid (RowI.made (B := w.heap.size) (w := w) (Nat.le_refl _))
  have HB0 : Hid (Below w.heap.size w (w.alloc (.cells #[] 2))) := (Below.refl _ w).alloc (Nat.le_refl _) _
  have HA := hid hA
  have HWd := hid hw
  have HLen := hid hlen
  have HT0 : Hid ([] ++ tailF l 9 = ordL l) := rfl
  have HOL : Hid ((ordL l).length = l.length) := ordL_len hlen hw
  clear hw hlen hA
  go_enter Try.func35, Try.ntmps35
  go_wp2_with fail
  go_loopw [3, 4] (fun v u wr => ∃ (k : Nat) (O : List Int), k ≤ 9 ∧ u = .int .i8 ((k : Int) - 1) ∧ Hid (Below w.heap.size w wr) ∧ Hid (RowI w.heap.size wr v O) ∧ Hid (O ++ tailF l k = ordL l)) (fun _ u _ => (intOf u + 1).toNat)
  case atStart => exact ⟨9, [], by omega, rfl, HB0.out, HM.out, HT0.out⟩
  case round =>
    clear HM HB0 HT0
    obtain ⟨wo, rfl⟩ : ∃ W, W = wr := ⟨_, rfl⟩
    obtain ⟨k, O, hk, rfl, hb, hr, he⟩ := hrel
    obtain ⟨Ao, co, rfl⟩ := owns_slc hr.out
    by_cases hk0 : k = 0
    · subst hk0
      have d1 : decide (((0 : Nat) : Int) - 1 ≥ 0) = false := decide_eq_false (by omega)
      have HE : Hid (O = ordL l) := by have := he.out; rw [show tailF l 0 = [] from rfl, List.append_nil] at this; exact this
      go_wp2_with fail
      go_ret
      refine ⟨_, rfl, hb.out, ?_⟩
      rw [← HE.out]; exact hr.out
    · obtain ⟨q, rfl⟩ : ∃ q, k = q + 1 := ⟨k - 1, by omega⟩
      have ek : ((q + 1 : Nat) : Int) - 1 = (q : Int) := by omega
      rw [ek]
      have d1 : decide ((q : Int) ≥ 0) = true := decide_eq_true (by omega)
      have e8 : IntKind.i8.wrap ((q : Int) - 1) = (q : Int) - 1 := IntWalk.i8_in _ (by omega)
      have HFT := hid (ordFrom_tail l q)
      have HE : Hid (O ++ (filW l q ++ tailF l q) = ordL l) := by rw [← HFT.out]; exact he.out
      have HOl : Hid (O.length ≤ 1000) := by have h := congrArg List.length HE.out; rw [HOL.out, List.length_append] at h; have := HLen.out; show _ ≤ _; omega
      have HK := hid hk
      have q9 : (q : Int) ≤ 8 := by omega
      clear ek hk0 hk
      go_wp2_with fail
      go_loopw [3, 5] (fun v u wr => ∃ i : Nat, i ≤ l.length ∧ u = .int .i64 i ∧ Hid (Below w.heap.size w wr) ∧ Hid (RowI w.heap.size wr v (O ++ filI l q i))) (fun _ u _ => l.length - (intOf u).toNat)
      case atStart => exact ⟨0, by omega, rfl, hb.out, by show RowI _ _ _ (O ++ []); rw [List.append_nil]; exact hr.out⟩
      case round =>
        obtain ⟨wm, rfl⟩ : ∃ W, W = wr := ⟨_, rfl⟩
        obtain ⟨i, hi, rfl, hbm, hrm⟩ := hrel
        obtain ⟨Am, cm, rfl⟩ := owns_slc hrm.out
        by_cases hil : i < l.length
        · have d2 : decide ((i : Int) < (l.length : Int)) = true := decide_eq_true (by omega)
          have hiI : (i : Int) < (l.length : Int) := by omega
          have hi0 : (0 : Int) ≤ (i : Int) := by omega
          have hi1 : (i : Int) ≤ 1000 := by have := HLen.out; omega
          have hp := List.getElem?_eq_getElem hil
          have hwd := wdL_get hp
          obtain ⟨b, off, rfl, r1, r2, r3⟩ := HA.out i _ hp
          have c1 := (hbm.out.cell (p := ⟨b, _, none⟩) r1).trans r3
          rw [← hwd] at c1
          have HS := hid (filI_succ l q i)
          obtain ⟨x, hx⟩ : ∃ x, x = wdL l i := ⟨_, rfl⟩
          rw [← hx] at c1 HS
          have hfl := filI_len l q i
          have HFL : Hid ((O ++ filI l q i).length ≤ 1100000) := by rw [List.length_append]; have := HOl.out; have := HLen.out; show _ ≤ _; omega
          have HIL := hid hil
          have LW : w.heap.size ≤ wm.heap.size := hbm.out.size
          clear hp hwd hx r2 r3 hil hfl
          by_cases hxq : x = (q : Int)
          · have d3 : (x == (q : Int)) = true := by rw [beq_iff_eq]; exact hxq
            rw [if_pos hxq] at HS
            clear hxq
            go_wp2_with ((with_reducible refine gate (N := 27) rfl ?_); (refine wp_appI rfl (.tmp 24) (.tmp 26) rfl w.heap.size _ _ (i : Int) hrm.out rfl _ rfl HFL.out LW rfl ?_); intro v' w6 hown hg; obtain ⟨A6, c6, rfl⟩ := owns_slc hown; have HB6 := hid (hbm.out.trans (hrm.out.belowG hg LW)); have HO6 := hid hown; clear hown hg)
            refine ⟨⟨i + 1, by have := HIL.out; omega, by go_num, HB6.out, ?_⟩, by have := HIL.out; simp [intOf]; omega⟩
            have := HO6.out
            rw [HS.out, ← List.append_assoc]
            exact hid (by simpa using this)
          · have d3 : (x == (q : Int)) = false := by rw [beq_eq_false_iff_ne]; exact hxq
            rw [if_neg hxq, List.append_nil] at HS
            clear hxq
            go_wp2_with fail
            refine ⟨⟨i + 1, by have := HIL.out; omega, by go_num, hbm.out, ?_⟩, by have := HIL.out; simp [intOf]; omega⟩
            rw [HS.out]
            exact hrm.out
        · obtain rfl : i = l.length := by omega
          have d2 : decide ((l.length : Int) < (l.length : Int)) = false := decide_eq_false (by omega)
          go_wp2_with fail
          refine ⟨⟨q, O ++ filW l q, by have := HK.out; omega, rfl, hbm.out, ?_, ?_⟩, by simp [intOf]⟩
          · rw [← filI_all]; exact hrm.out
          · rw [List.append_assoc]; exact HE.out
end Go.Proofs.Ytpmadamaefbamaa

/- Pairs of pieces, the reference's. -/
namespace Go.Proofs.Ytpmadamaefbamaa
open Go.RowKit
set_option linter.unusedSimpArgs false
set_option linter.unusedVariables false
/-- From w to w' nothing is turned but the blocks p and q. -/
structure But2 (p q : Nat) (w w' : World) : Prop where
  os : w'.os = w.os
  tape : w'.tape = w.tape
  output : w'.output = w.output
  size : w.heap.size ≤ w'.heap.size
  block : ∀ k, k < w.heap.size → k ≠ p → k ≠ q → w'.heap[k]? = w.heap[k]?
theorem But2.refl (p q : Nat) (w : World) : But2 p q w w := ⟨rfl, rfl, rfl, Nat.le_refl _, fun _ _ _ _ => rfl⟩
theorem But2.below {p q B : Nat} {a b c : World} (h : But2 p q a b) (k : Below B b c) (hB : b.heap.size ≤ B) : But2 p q a c :=
  ⟨k.os.trans h.os, k.tape.trans h.tape, k.output.trans h.output, Nat.le_trans h.size k.size, fun i hi h1 h2 => (k.block i (by have := h.size; omega)).trans (h.block i hi h1 h2)⟩
theorem But2.set {p q : Nat} {a b : World} (h : But2 p q a b) (j : Nat) (v : Value) : But2 p q a (b.setCell ⟨p, j, none⟩ v) :=
  ⟨h.os, h.tape, h.output, by simpa using h.size, fun k hk h1 h2 => (heap_setCell_other b ⟨p, j, none⟩ k v h1).trans (h.block k hk h1 h2)⟩
theorem But2.at {p q : Nat} {w w' : World} (h : But2 p q w w') {b : Nat} {o : Obj} (hb : w.heap[b]? = some o) (h1 : b ≠ p) (h2 : b ≠ q) : w'.heap[b]? = some o := (h.block b (block_lt hb) h1 h2).trans hb
theorem But2.grew {p q : Nat} {a b c : World} {v v' : Value} (h : But2 p q a b) (hg : Grew v v' b c) (hv : ∀ g, v.ownBlock = some g → g = q ∨ a.heap.size ≤ g) (hB : ∀ B0, (∀ g, v.ownBlock = some g → B0 ≤ g) → B0 ≤ b.heap.size → Below B0 b c) : But2 p q a c := by
  have h0 := hB 0 (fun g _ => Nat.zero_le _) (Nat.zero_le _)
  refine ⟨h0.os.trans h.os, h0.tape.trans h.tape, h0.output.trans h.output, Nat.le_trans h.size h0.size, fun k hk h1 h2 => ?_⟩
  rw [← h.block k hk h1 h2]
  have hkb : k < b.heap.size := Nat.lt_of_lt_of_le hk h.size
  have e : b.heap[k]? = some b.heap[k] := Array.getElem?_eq_getElem hkb
  rw [e]
  exact hg.block k _ e (fun e' => by rcases hv k e' with h3 | h3 <;> omega)
theorem owns_but2 {w w' : World} {B p q : Nat} {e : TypeId} {sz n : Nat} {v : Value} {xs : List Value} (h : w.ownsRow B e sz v n xs) (hb : But2 p q w w') (h1 : v.ownBlock ≠ some p) (h2 : v.ownBlock ≠ some q) : w'.ownsRow B e sz v n xs :=
  owns_keep' h fun g o hg ho => hb.at ho (fun e => h1 (by rw [hg, e])) (fun e => h2 (by rw [hg, e]))
def boolsF (T : List Int) (n : Nat) : Array Value := ((List.range n).map fun i : Nat => Value.bool (decide ((i : Int) ∈ T))).toArray
theorem boolsF_size (T : List Int) (n : Nat) : (boolsF T n).size = n := by simp [boolsF]
theorem boolsF_get (T : List Int) {n i : Nat} (h : i < n) : (boolsF T n)[i]? = some (.bool (decide ((i : Int) ∈ T))) := by
  unfold boolsF
  rw [List.getElem?_toArray, List.getElem?_map, List.getElem?_range h]; rfl
theorem boolsF_set (T : List Int) {n i : Nat} (h : i < n) : (boolsF T n).setIfInBounds i (.bool true) = boolsF (T ++ [(i : Int)]) n := by
  apply Array.ext_getElem?
  intro y
  rw [Array.getElem?_setIfInBounds]
  by_cases hy : y < n
  · rw [boolsF_size, boolsF_get _ hy, boolsF_get _ hy]
    by_cases e : i = y
    · subst e; rw [if_pos rfl, if_pos h]; simp
    · rw [if_neg e]
      have : (y : Int) ≠ (i : Int) := by omega
      simp [this]
  · have h1 : (boolsF T n)[y]? = none := Array.getElem?_eq_none (by rw [boolsF_size]; omega)
    have h2 : (boolsF (T ++ [(i : Int)]) n)[y]? = none := Array.getElem?_eq_none (by rw [boolsF_size]; omega)
    rw [h1, h2, if_neg (by omega)]
theorem made_false (n : Nat) : madeCells #[.bool false] n = boolsF [] n := by
  apply Array.ext_getElem?
  intro y
  by_cases hy : y < n
  · rw [boolsF_get _ hy]
    simp [madeCells, hy, Nat.mod_one]
  · rw [Array.getElem?_eq_none (by rw [size_madeCells]; omega), Array.getElem?_eq_none (by rw [boolsF_size]; omega)]
theorem block_full {W : World} {B g N : Nat} {e : TypeId} {cs : Array Value} (h : W.ownsRow B e 1 (.slice (some ⟨g, 0, none⟩) N N) N cs.toList) (hc : cs.size = N) : W.heap[g]? = some (.cells cs e (0, 0)) := by
  rcases h.2 with ⟨e, _⟩ | ⟨g', cap, cur, e, hb, hheap, hn, hm, hsz, htk⟩
  · cases e
  · obtain ⟨e1, _, rfl⟩ := Value.slice.inj e
    obtain rfl : g = g' := by simpa using e1
    rw [hheap]
    have hl : cur.toList.length = N := by simpa using hsz
    rw [Nat.mul_one, List.take_of_length_le (by omega)] at htk
    rw [Array.toList_inj.1 htk]
/-- One slice more. -/
theorem wp_appS {ops : Array Oper} {rest : List Oper} {o : Oper} {a : Act} {W : World} {Q : Exit → Act → World → Prop} (hgd : o.guard = none) (s x : Operand)
    (ho : o.op = .call { callee := .builtin .append, args := #[s, x], argTypes := #[72, 72] })
    (B : Nat) (v : Value) (n : Nat) (vs : List Value) (hO : W.ownsRow B 24 1 v n vs) (hs : a.eval s = v) (u : Value) (hu : u.oneCell' = true) (H : Nat) (hx : a.eval x = .slice (some ⟨H, 0, none⟩) 1 1) (hn : n ≤ 1100000) (hB : B ≤ W.heap.size) (hH : W.heap.size = H)
    (h : ∀ v' w', w'.ownsRow B 24 1 v' (n + 1) (vs ++ [u]) → Grew v v' W w' → wpList Try.prog ops Q rest (a.put o.dst v') w') : wpList Try.prog ops Q (o :: rest) a (W.alloc (.cells #[u] 24)) := by
  obtain ⟨i0, hi, hz0, hz1, hz2⟩ := info_parts Try.infoSlI
  exact wpList_append_row hgd s x 72 ho B 24 i0 (.slice none 0 0) 1 24 Try.underlying72 hi hz0 hz1 hz2 rfl (by decide) (by decide) v n vs hs hO #[u] rfl (by simp [hu]) H hx hn hB hH _ h
theorem Try.infoBoolz : (Try.prog.info? 4).map (fun i => (i.zero, i.size, i.bytes)) = some (some (.bool false), 1, 1) := by kernel_rfl
set_option maxHeartbeats 3200000 in
set_option maxRecDepth 100000 in
theorem c_l05Pairs (A : Option Addr) (c : Nat) (l : List (Int × Int)) (hw : ∀ i : Int, 0 ≤ i → i < l.length → 0 ≤ wdL l i ∧ wdL l i ≤ 8) (hlen : l.length ≤ 1000) (w : World) (hA : PairsAt .i8 .i8 w A l) :
    Calls Try.prog 43 #[.slice A l.length c] w fun e w' => ∃ v vs, e = .returned v ∧ Below w.heap.size w w' ∧ w'.ownsRow w.heap.size 24 1 v (pairL l).length vs ∧ RowsG w.heap.size 2 1 w' v vs (cellsOfP (pairL l)) := by
  have HA := hid hA
  have HWd := hid hw
  have HLen := hid hlen
  have HOrd := fun W h => hid (c_l05Order A c l hw hlen W h)
  have HB0 : Hid (Below w.heap.size w (w.alloc (.cells #[] 24))) := (Below.refl _ w).alloc (Nat.le_refl _) _
  have HM0 : Hid ((w.alloc (.cells #[] 24)).ownsRow w.heap.size 24 1 (.slice (some ⟨w.heap.size, 0, none⟩) 0 0) 0 []) := World.ownsRow_made w #[] 0 (Nat.le_refl _) (by decide) rfl
  obtain ⟨i0, hi, hz0, hz1, hz2⟩ := info_parts Try.infoBoolz
  have hLI : (l.length : Int) ≤ 1000 := by omega
  clear hw hlen hA
  go_enter Try.func43, Try.ntmps43
  go_wp2_with (first
    | ((with_reducible refine gate (N := 13) rfl ?_); (refine wpList_make_full _ rfl (.tmp 12) (.tmp 12) 63 rfl (w.heap.size + 1) 4 i0 (.bool false) 1 Try.underlying63 hi hz0 hz1 .i64 .i64 (l.length : Int) (l.length : Int) l.length rfl rfl rfl rfl (by rw [hz2]; have := HLen.out; omega) (Nat.le_trans HLen.out (by decide)) (by simp) ?_; intro w1 hown1 hg1; have HL1 := hid (block_full hown1 (by simp [size_madeCells])); have HG1 := hid hg1; clear hown1 hg1))
    | (go_at_call 35; ((refine (HOrd w1 (HA.out.below (HB0.out.trans (((Below.refl _ _).grown HG1.out (Nat.le_refl _) (fun k hk => by cases hk)).mono (by simp))) (Nat.le_refl _))).out.mono ?_); rintro e2 w2 ⟨v, rfl, hb2, hr2⟩); obtain ⟨Ao, co, rfl⟩ := owns_slc hr2; have HB2 := hid hb2; have HR2 := hid hr2; clear hb2 hr2))
  have hL01 : Below (w.heap.size + 1) (w.alloc (.cells #[] 24)) w1 := (Below.refl _ _).grown HG1.out (by simp) (fun k hk => by cases hk)
  have hT1 : w1.heap[w.heap.size + 1]? = some (.cells (boolsF [] l.length) 4 (0, 0)) := by
    have := HL1.out
    rw [Nat.mul_one, show (Value.bool false).cells = #[Value.bool false] from rfl, made_false, World.size_alloc] at this
    exact this
  obtain ⟨gt, hgt⟩ : ∃ g, g = w.heap.size + 1 := ⟨_, rfl⟩
  obtain ⟨b0, hb0⟩ : ∃ g, g = w.heap.size := ⟨_, rfl⟩
  have hT2 := block_below HB2.out hT1 (block_lt hT1)
  have hs12 := HB2.out.size
  have hlt1 := block_lt hT1
  have HN2 : Hid (w2.ownsRow w.heap.size 24 1 (.slice (some ⟨b0, 0, none⟩) 0 0) 0 []) := by
    rw [hb0]
    exact owns_below2 (owns_below2 HM0.out hL01 (by simp)) HB2.out (Nat.le_refl _)
  have HW2 : Hid (Below w.heap.size w w2) := (HB0.out.trans (hL01.mono (Nat.le_succ _))).trans (HB2.out.mono (by omega))
  have HO2 : Hid (RowI (gt + 1) w2 (.slice Ao (ordL l).length co) (ordL l)) := HR2.out.mono (by omega)
  rw [← hgt] at hT2 ⊢
  rw [← hb0]
  have HT2 := hid hT2
  obtain ⟨BS, hBS⟩ : ∃ b, b = w2.heap.size := ⟨_, rfl⟩
  have HSz : Hid (BS = w2.heap.size ∧ gt + 1 ≤ BS ∧ b0 + 1 = gt ∧ b0 = w.heap.size) := ⟨hBS, by omega, by omega, hb0⟩
  have HOL : Hid ((ordL l).length = l.length) := ordL_len (by have := HLen.out; omega) HWd.out
  have HOM : Hid (∀ x ∈ ordL l, 0 ≤ x ∧ x < l.length) := fun x hx => ordL_mem hx
  have HPL : Hid (pairN l (ordL l) (ordL l).length = pairL l) := rfl
  obtain ⟨O, hO⟩ : ∃ O, O = ordL l := ⟨_, rfl⟩
  rw [← hO] at HO2 HOL HOM HPL ⊢
  have HOlt : Hid (∀ g, (Value.slice Ao O.length co).ownBlock = some g → gt < g ∧ g < BS) := fun g hg => by have := World.ownsRow.lt HO2.out g hg; omega
  clear hgt hb0 hT1 hT2 hL01 HL1 HG1 HB2 HR2 HM0 HB0 HOrd hBS hO hs12 hlt1
  have HG0 : Hid (RowsG BS 2 1 w2 (.slice (some ⟨b0, 0, none⟩) 0 0) [] (cellsOfP (pairN l O 0))) := RowsG.nil _ _ _ _ _
  go_loopw [3, 6] (fun vo i wr => ∃ (k : Nat) (vs : List Value), k ≤ O.length ∧ i = .int .i64 k ∧ Hid (But2 gt b0 w2 wr) ∧ Hid (wr.heap[gt]? = some (.cells (boolsF ((pairN l O k).map (·.2)) l.length) 4 (0, 0))) ∧ Hid (wr.ownsRow w.heap.size 24 1 vo (pairN l O k).length vs) ∧ Hid (RowsG BS 2 1 wr vo vs (cellsOfP (pairN l O k))) ∧ Hid (∀ g, vo.ownBlock = some g → g = b0 ∨ BS ≤ g)) (fun _ i _ => O.length - (intOf i).toNat)
  case atStart => exact ⟨0, [], by omega, rfl, But2.refl _ _ _, HT2.out, HN2.out, HG0.out, fun g hg => .inl (by simp [Value.ownBlock] at hg; omega)⟩
  case round =>
    clear HN2 HG0 HT2
    obtain ⟨wo, rfl⟩ : ∃ W, W = wr := ⟨_, rfl⟩
    obtain ⟨k, vs, hk, rfl, hbt, htk, hown, hrows, hvo⟩ := hrel
    obtain ⟨Av, cv, rfl⟩ := owns_slc hown.out
    have hL := HLen.out
    have hOL := HOL.out
    have hS := HSz.out
    have hOr : RowI (gt + 1) wo (.slice Ao O.length co) O := owns_but2 HO2.out hbt.out (fun e => by have := HOlt.out _ e; omega) (fun e => by have := HOlt.out _ e; omega)
    have hBw : Below w.heap.size w wo := ⟨hbt.out.os.trans HW2.out.os, hbt.out.tape.trans HW2.out.tape, hbt.out.output.trans HW2.out.output, Nat.le_trans HW2.out.size hbt.out.size, fun i hi => (hbt.out.block i (by omega) (by omega) (by omega)).trans (HW2.out.block i hi)⟩
    have hAr := HA.out.below hBw (Nat.le_refl _)
    have HBw := hid hBw
    by_cases hkl : k < O.length
    · have d1 : decide ((k : Int) < (O.length : Int)) = true := decide_eq_true (by omega)
      have hkI : (k : Int) < (O.length : Int) := by omega
      have hk0 : (0 : Int) ≤ (k : Int) := by omega
      have hk30 : (k : Int) ≤ 1000 := by omega
      have hp := List.getElem?_eq_getElem hkl
      obtain ⟨a, haa⟩ : ∃ a, a = O[k] := ⟨_, rfl⟩
      rw [← haa] at hp
      have hra := HOM.out a (List.mem_of_getElem? hp)
      have HSUC := hid (pairN_succ (l := l) hp)
      obtain ⟨go, cg, e, _, hgl, c0, _⟩ := owns_cell hOr (icells_get hp)
      obtain ⟨rfl, rfl⟩ : Ao = some ⟨go, 0, none⟩ ∧ co = cg := by simpa using e
      obtain ⟨a', rfl⟩ : ∃ a' : Nat, a = (a' : Int) := ⟨a.toNat, by omega⟩
      have pa := List.getElem?_eq_getElem (show a' < l.length by omega)
      have eh := haL_get pa
      have ew := wdL_get pa
      obtain ⟨b, off, e2, r1, r2, r3⟩ := hAr a' _ pa
      rw [← eh] at r2
      rw [← ew] at r3
      obtain ⟨vh, hvh⟩ : ∃ v, v = haL l a' := ⟨_, rfl⟩
      obtain ⟨vw, hvw⟩ : ∃ v, v = wdL l a' := ⟨_, rfl⟩
      have hwa := HWd.out a' hra.1 hra.2
      rw [← hvh] at r2
      rw [← hvw] at r3 hwa
      subst e2
      have x0 : (0 : Int) ≤ (a' : Int) := by omega
      have x1 : (a' : Int) < (l.length : Int) := by omega
      have x2 : (a' : Int) ≤ 1000 := by omega
      have HKL := hid hkl
      have HVH := hid hvh
      have HVW := hid hvw
      have HRA := hid hra
      have HOr := hid hOr
      have HAr := hid hAr
      clear hp haa hra hOr e hgl hAr hBw pa eh ew hkl hvh hvw hS hL hOL
      by_cases hz : vh = 0
      · have d2 : (vh != 0) = false := by rw [hz]; rfl
        have d3 : (vh == 0) = true := by rw [hz]; rfl
        have HZ : Hid (haL l a' = 0) := by show _ = _; rw [← HVH.out]; exact hz
        obtain ⟨T, hT⟩ : ∃ T, T = (pairN l O k).map (·.2) := ⟨_, rfl⟩
        have HTT := hid hT
        rw [← hT] at htk
        obtain ⟨f, hf⟩ : ∃ f, f = fitB l a' T := ⟨_, rfl⟩
        have HFF := hid hf
        clear hz hT hf
        have HC0 := hid c0
        have R3 := hid r3
        have R1 := hid r1
        go_wp2_with fail
        clear c0 r2 r3
        have hwa2 := hwa
        go_loopw [3, 8] (fun vo i wm => ∃ k2 : Nat, vo = .slice Av (pairN l O k).length cv ∧ k2 ≤ O.length ∧ i = .int .i64 k2 ∧ Hid (Below wo.heap.size wo wm) ∧ Hid ((O.take k2).any f = false)) (fun _ i _ => O.length - (intOf i).toNat)
        case atStart => exact ⟨0, rfl, by omega, rfl, Below.refl _ _, rfl⟩
        case round =>
          obtain ⟨wm, rfl⟩ : ∃ W, W = wr := ⟨_, rfl⟩
          obtain ⟨k2, rfl, hk2, rfl, hbm, hno⟩ := hrel
          have hL := HLen.out
          have hOL := HOL.out
          by_cases hk2l : k2 < O.length
          · have d4 : decide ((k2 : Int) < (O.length : Int)) = true := decide_eq_true (by omega)
            have k2I : (k2 : Int) < (O.length : Int) := by omega
            have k20 : (0 : Int) ≤ (k2 : Int) := by omega
            have k230 : (k2 : Int) ≤ 1000 := by omega
            have hp := List.getElem?_eq_getElem hk2l
            obtain ⟨bb, hbb⟩ : ∃ a, a = O[k2] := ⟨_, rfl⟩
            rw [← hbb] at hp
            have hrb := HOM.out bb (List.mem_of_getElem? hp)
            have HK2 := hid hp
            have HTk : Hid ((O.take (k2 + 1)).any f = f bb) := by
              show _ = _
              rw [List.take_succ_eq_append_getElem hk2l, List.any_append, hno.out, ← hbb]; simp
            obtain ⟨go2, cg2, e3, _, hgl2, c2, _⟩ := owns_cell (owns_below2 HOr.out hbm.out (Nat.le_refl _)) (icells_get hp)
            obtain ⟨rfl, rfl⟩ : go = go2 ∧ co = cg2 := by simpa using e3
            obtain ⟨b', rfl⟩ : ∃ b' : Nat, bb = (b' : Int) := ⟨bb.toNat, by omega⟩
            have pb := List.getElem?_eq_getElem (show b' < l.length by omega)
            have ehb := haL_get pb
            have ewb := wdL_get pb
            obtain ⟨b9, off9, e9, s1, s2, s3⟩ := HAr.out b' _ pb
            obtain ⟨rfl, rfl⟩ : b = b9 ∧ off = off9 := by simpa using e9
            rw [← ehb] at s2
            rw [← ewb] at s3
            have hwb := HWd.out b' hrb.1 hrb.2
            have t2 := (hbm.out.cell (p := ⟨b, _, none⟩) s1).trans s2
            have t3 := (hbm.out.cell (p := ⟨b, _, none⟩) s1).trans s3
            have t4 := (hbm.out.cell (p := ⟨b, _, none⟩) R1.out).trans R3.out
            have htm := block_below hbm.out htk.out (block_lt htk.out)
            have t5 : wm.cell? ⟨gt, b', none⟩ = some (.bool (decide ((b' : Int) ∈ T))) := cell_block htm (boolsF_get T (by omega))
            have t6 : wm.frozen? ⟨gt, b', none⟩ = false := frozen_of_row _ _ _ _ _ htm
            have lgt : gt < wm.heap.size := block_lt htm
            have lb : b < wm.heap.size := Nat.lt_of_lt_of_le s1 hbm.out.size
            have HF : Hid (f b' = (decide (haL l b' = 1) && (!decide ((b' : Int) ∈ T) && decide (vw + wdL l b' ≤ 8)))) := by show _ = _; rw [HFF.out, HVW.out]; rfl
            obtain ⟨qh, hqh⟩ : ∃ v, v = haL l b' := ⟨_, rfl⟩
            obtain ⟨qw, hqw⟩ : ∃ v, v = wdL l b' := ⟨_, rfl⟩
            obtain ⟨tk, htkk⟩ : ∃ v, v = decide ((b' : Int) ∈ T) := ⟨_, rfl⟩
            rw [← hqh] at t2 HF
            rw [← hqw] at t3 HF hwb
            rw [← htkk] at t5 HF
            have y0 : (0 : Int) ≤ (b' : Int) := by omega
            have y1 : (b' : Int) < (l.length : Int) := by omega
            have y2 : (b' : Int) ≤ 1000 := by omega
            have e8 : IntKind.i8.wrap (vw + qw) = vw + qw := IntWalk.i8_in _ (by omega)
            have HTM := hid htm
            have HRB := hid hrb
            have HK2L := hid hk2l
            clear hp hbb hrb e3 hgl2 pb ehb ewb e9 s1 s2 s3 htm hqh hqw htkk hk2l hL hOL
            by_cases h1 : qh = 1
            · have d5 : (qh == 1) = true := by rw [beq_iff_eq]; exact h1
              have HH : Hid (decide (qh = 1) = true) := decide_eq_true h1
              clear h1
              cases tk with
              | true =>
                go_wp2_with fail
                refine wp_region_ext wm.heap.size (by kernel_rfl) (by kernel_rfl) ?_
                repeat (go_big_quiet_step (fail))
                refine wpQuiet_nil ?_
                intro xx
                go_wp2_with fail
                go_roundw
                case rel => exact ⟨k2 + 1, rfl, by have := HK2L.out; omega, by go_num, hbm.out.trans (xx.below.mono hbm.out.size), by rw [HTk.out, HF.out, HH.out]; rfl⟩
                case measure => have := HK2L.out; simp [intOf]; omega
              | false =>
                by_cases h3 : vw + qw ≤ 8
                · have d6 : decide (vw + qw ≤ 8) = true := decide_eq_true h3
                  have HYf : Hid (f b' = true) := by show _ = _; rw [HF.out, HH.out, d6]; rfl
                  clear h3
                  go_wp2_with fail
                  refine wp_region_ext wm.heap.size (by kernel_rfl) (by kernel_rfl) ?_
                  repeat (go_big_quiet_step (fail))
                  refine wpQuiet_nil ?_
                  intro xx
                  have HBY := hid (hbm.out.trans (xx.below.mono hbm.out.size))
                  have HTY := hid (block_below xx.below HTM.out lgt)
                  obtain ⟨Y, hY⟩ : ∃ Y, Y = xx.out := ⟨_, rfl⟩
                  rw [← hY] at HBY HTY ⊢
                  clear hY xx t2 t3 t4 t5 t6
                  have HSS := HSz.out
                  have f5 : Y.cell? ⟨gt, b', none⟩ = some (.bool (decide ((b' : Int) ∈ T))) := cell_block HTY.out (boolsF_get T (by have := HRB.out; omega))
                  have f6 : Y.frozen? ⟨gt, b', none⟩ = false := frozen_of_row _ _ _ _ _ HTY.out
                  have HYes := hid (pairA_some (l := l) (ord := O) (st := pairN l O k) (a := (a' : Int)) (b := (b' : Int)) (k := k2) HZ.out HK2.out (by rw [← HTT.out, ← HFF.out]; exact hno.out) (by rw [← HTT.out, ← HFF.out]; exact HYf.out)).1
                  have hvg : ∀ g, (Value.slice Av (pairN l O k).length cv).ownBlock = some g → g ≠ gt ∧ g < Y.heap.size := fun g hg => ⟨by have := hvo.out g hg; omega, by have := (World.ownsRow.lt hown.out g hg).2; have := HBY.out.size; omega⟩
                  have HVG := hid hvg
                  have hN1 : (Y.setCell ⟨gt, b', none⟩ (.bool true)).ownsRow w.heap.size 24 1 (.slice Av (pairN l O k).length cv) (pairN l O k).length vs := owns_set_other (owns_below2 hown.out HBY.out (Nat.le_refl _)) (fun e => (hvg _ e).1 rfl) b' _
                  have hR1 : RowsG BS 2 1 (Y.setCell ⟨gt, b', none⟩ (.bool true)) (.slice Av (pairN l O k).length cv) vs (cellsOfP (pairN l O k)) := (hrows.out.below HBY.out (Nat.le_refl _)).butt (Butt.set gt Y b' _) (by omega)
                  have hT1 := heap_setCell_same Y gt b' _ _ (.bool true) HTY.out
                  rw [boolsF_set T (by have := HRB.out; omega)] at hT1
                  have hU1 : But2 gt b0 w2 (Y.setCell ⟨gt, b', none⟩ (.bool true)) := (hbt.out.below HBY.out (Nat.le_refl _)).set b' _
                  have HN2 := hid (World.ownsRow.alloc hN1 (.cells #[.int .i64 (a' : Int), .int .i64 (b' : Int)] 2))
                  have hAl : Below (Y.setCell ⟨gt, b', none⟩ (.bool true)).heap.size (Y.setCell ⟨gt, b', none⟩ (.bool true)) ((Y.setCell ⟨gt, b', none⟩ (.bool true)).alloc (.cells #[.int .i64 (a' : Int), .int .i64 (b' : Int)] 2)) := (Below.refl _ _).alloc (Nat.le_refl _) _
                  have HR2 := hid (hR1.below hAl (Nat.le_refl _))
                  have HT2 := hid (block_alloc hT1 (.cells #[.int .i64 (a' : Int), .int .i64 (b' : Int)] 2))
                  have HU2 := hid (hU1.below hAl (Nat.le_refl _))
                  have HP2 := hid (block_new1 (Y.setCell ⟨gt, b', none⟩ (.bool true)) (.cells #[.int .i64 (a' : Int), .int .i64 (b' : Int)] 2) (n := Y.heap.size) (by simp))
                  have HSY : Hid (BS ≤ Y.heap.size ∧ w.heap.size ≤ Y.heap.size ∧ wo.heap.size ≤ Y.heap.size) := ⟨by have := HBY.out.size; have := hbt.out.size; omega, by have := HBY.out.size; have := hbt.out.size; omega, HBY.out.size⟩
                  have HPNl : Hid ((pairN l O k).length ≤ 1100000) := by have := pairN_len l O k; have := HKL.out; have := HOL.out; have := HLen.out; show _ ≤ _; omega
                  have lgY : gt < Y.heap.size := block_lt HTY.out
                  clear HSS hvg hN1 hR1 hT1 hU1 hAl lgt lb
                  go_wp2_with ((with_reducible refine gate (N := 77) rfl ?_); (refine wp_appS rfl (.tmp 72) (.tmp 76) rfl w.heap.size _ _ vs HN2.out rfl (.slice (some ⟨Y.heap.size, 0, none⟩) 2 2) rfl (Y.heap.size + 1) rfl HPNl.out (by have := HSY.out; simp; omega) (by simp) ?_); intro v' w6 hown6 hg6; obtain ⟨A6, c6, rfl⟩ := owns_slc hown6; have HO6 := hid hown6; have HG6 := hid hg6; clear hown6 hg6)
                  have hP6 := HG6.out.block _ _ HP2.out (fun e => by have := (HVG.out _ e).2; omega)
                  have hT6 := HG6.out.block _ _ HT2.out (fun e => (HVG.out _ e).1 rfl)
                  refine ⟨⟨k + 1, vs ++ [.slice (some ⟨Y.heap.size, 0, none⟩) 2 2], by have := HKL.out; omega, by go_num, HU2.out.grew HG6.out (fun g hg => by have := hvo.out g hg; have := HSz.out; omega) HG6.out.below, ?_, ?_, ?_, fun g hg => ?_⟩, by have := HKL.out; simp [intOf]; omega⟩
                  · rw [HSUC.out, HYes.out, List.map_append, ← HTT.out]; exact hT6
                  · rw [HSUC.out, HYes.out, List.length_append]; exact HO6.out
                  · rw [HSUC.out, HYes.out]
                    have hsn := RowsG.snocA (x := (2, [.int .i64 (a' : Int), .int .i64 (b' : Int)])) (HR2.out.grew HG6.out) (pair_row hP6 HSY.out.1) (fun j u hu g' h1 h2' => by
                      have h3 := (hrows.out.lt hu g' h1).2
                      have e1 : Y.heap.size = g' := by simpa [Value.ownBlock] using h2'
                      have := HSY.out
                      omega) (fun g' h1 h2' => by
                      have e1 : Y.heap.size = g' := by simpa [Value.ownBlock] using h1
                      rcases HG6.out.own g' h2' with h7 | h7
                      · have := (HVG.out g' h7).2; omega
                      · simp at h7; omega)
                    have hcells : cellsOfP (pairN l O k) ++ [(2, [Value.int .i64 (a' : Int), Value.int .i64 (b' : Int)])] = cellsOfP (pairN l O k ++ [((a' : Int), (b' : Int))]) := by simp [cellsOfP]
                    rw [hcells] at hsn
                    exact hsn
                  · rcases HG6.out.own g hg with h7 | h7
                    · exact hvo.out g h7
                    · right; simp at h7; have := HSY.out; omega
                · have d6 : decide (vw + qw ≤ 8) = false := decide_eq_false h3
                  have H6 := hid d6
                  clear h3
                  go_wp2_with fail
                  refine wp_region_ext wm.heap.size (by kernel_rfl) (by kernel_rfl) ?_
                  repeat (go_big_quiet_step (fail))
                  refine wpQuiet_nil ?_
                  intro xx
                  go_wp2_with fail
                  go_roundw
                  case rel => exact ⟨k2 + 1, rfl, by have := HK2L.out; omega, by go_num, hbm.out.trans (xx.below.mono hbm.out.size), by rw [HTk.out, HF.out, HH.out, H6.out]; rfl⟩
                  case measure => have := HK2L.out; simp [intOf]; omega
            · have d5 : (qh == 1) = false := by rw [beq_eq_false_iff_ne]; exact h1
              have HH : Hid (decide (qh = 1) = false) := decide_eq_false h1
              clear h1
              go_wp2_with fail
              refine wp_region_ext wm.heap.size (by kernel_rfl) (by kernel_rfl) ?_
              repeat (go_big_quiet_step (fail))
              refine wpQuiet_nil ?_
              intro xx
              go_wp2_with fail
              go_roundw
              case rel => exact ⟨k2 + 1, rfl, by have := HK2L.out; omega, by go_num, hbm.out.trans (xx.below.mono hbm.out.size), by rw [HTk.out, HF.out, HH.out]; rfl⟩
              case measure => have := HK2L.out; simp [intOf]; omega
          · obtain rfl : k2 = O.length := by omega
            have d4 : decide ((O.length : Int) < (O.length : Int)) = false := decide_eq_false (by omega)
            have HNone := hid (pairA_none (l := l) (ord := O) (st := pairN l O k) (a := (a' : Int)) (by rw [← HTT.out, ← HFF.out, ← List.take_length (l := O)]; exact hno.out))
            clear hL hOL
            go_wp2_with fail
            refine ⟨⟨k + 1, vs, by have := HKL.out; omega, by go_num, hbt.out.below hbm.out (Nat.le_refl _), ?_, ?_, ?_, hvo.out⟩, by have := HKL.out; simp [intOf]; omega⟩
            · rw [HSUC.out, HNone.out, ← HTT.out]; exact block_below hbm.out htk.out (block_lt htk.out)
            · rw [HSUC.out, HNone.out]; exact owns_below2 hown.out hbm.out (Nat.le_refl _)
            · rw [HSUC.out, HNone.out]; exact hrows.out.below hbm.out (Nat.le_refl _)
      · have d2 : (vh != 0) = true := by rw [bne_iff_ne]; exact hz
        have d3 : (vh == 0) = false := by rw [beq_eq_false_iff_ne]; exact hz
        have HNo := hid (pairA_no (l := l) (ord := O) (st := pairN l O k) (a := (a' : Int)) (by rw [← HVH.out]; exact hz))
        clear hz
        go_wp2_with fail
        refine ⟨⟨k + 1, vs, by have := HKL.out; omega, by go_num, hbt.out, ?_, ?_, ?_, hvo.out⟩, by have := HKL.out; simp [intOf]; omega⟩
        · rw [HSUC.out, HNo.out]; exact htk.out
        · rw [HSUC.out, HNo.out]; exact hown.out
        · rw [HSUC.out, HNo.out]; exact hrows.out
    · obtain rfl : k = O.length := by omega
      have d1 : decide ((O.length : Int) < (O.length : Int)) = false := decide_eq_false (by omega)
      have HBB : Hid (w.heap.size ≤ BS) := by show _ ≤ _; omega
      clear hL hOL hS hBw
      go_wp2_with fail
      go_ret
      refine ⟨_, vs, rfl, HBw.out, ?_, ?_⟩
      · rw [← HPL.out]; exact hown.out
      · rw [← HPL.out]; exact hrows.out.base HBB.out
end Go.Proofs.Ytpmadamaefbamaa

/- How many tiles are needed for pieces: the program's and the reference's. -/
namespace Go.Proofs.Ytpmadamaefbamaa
open Go.RowKit
set_option linter.unusedSimpArgs false
set_option linter.unusedVariables false
def pcV (l : List (Int × Int)) : Int := if l.all isPc = true then (if l.length ≤ 30 then 0 else 3) else 1
theorem pcV_eq (l : List (Int × Int)) : pcK [l] = pcV l := by simp only [pcK, pcV, List.all_cons, List.all_nil, Bool.and_true, decide_eq_true_eq]
theorem pcV_zero {l : List (Int × Int)} (h : pcV l = 0) : l.length ≤ 30 ∧ ∀ i : Int, 0 ≤ i → i < l.length → 0 ≤ wdL l i ∧ wdL l i ≤ 8 := by
  unfold pcV at h
  by_cases h1 : l.all isPc = true
  · rw [if_pos h1] at h
    by_cases h2 : l.length ≤ 30
    · refine ⟨h2, fun i i0 i1 => ?_⟩
      obtain ⟨k, rfl⟩ : ∃ k : Nat, i = (k : Int) := ⟨i.toNat, by omega⟩
      have hk : k < l.length := by omega
      have hp := List.getElem?_eq_getElem hk
      rw [wdL_get hp]
      have := List.all_eq_true.1 h1 l[k] (List.getElem_mem hk)
      unfold isPc inB at this
      simp only [Bool.and_eq_true, decide_eq_true_eq] at this
      omega
    · rw [if_neg h2] at h; cases h
  · rw [if_neg h1] at h; cases h
theorem pcV_cases (l : List (Int × Int)) : pcV l = 0 ∨ pcV l = 1 ∨ pcV l = 3 := by
  unfold pcV
  split
  · split
    · exact .inl rfl
    · exact .inr (.inr rfl)
  · exact .inr (.inl rfl)
set_option maxRecDepth 100000 in
theorem c_l05Pieces (A : Option Addr) (c : Nat) (l : List (Int × Int)) (hB : ∀ p ∈ l, (-128 ≤ p.1 ∧ p.1 ≤ 127) ∧ (-128 ≤ p.2 ∧ p.2 ≤ 127)) (hlen : l.length ≤ 1048576) (w : World) (hA : PairsAt .i8 .i8 w A l) :
    Calls Try.prog 34 #[.slice A l.length c] w fun e w' => e = .returned (.bool (l.all isPc)) ∧ Below w.heap.size w w' := by
  have HA := hid hA
  have HBd := hid hB
  have hL := hlen
  clear hA hB hlen
  go_enter Try.func34, Try.ntmps34
  go_wp2_with fail
  go_loopw [3] (fun i wr => ∃ k : Nat, k ≤ l.length ∧ i = .int .i64 k ∧ Hid (Below w.heap.size w wr) ∧ Hid ((l.take k).all isPc = true)) (fun i _ => l.length - (intOf i).toNat)
  case atStart => exact ⟨0, by omega, rfl, Below.refl _ _, rfl⟩
  case round =>
    obtain ⟨k, hk, rfl, hb, hal⟩ := hrel
    by_cases hkl : k < l.length
    · have d1 : decide ((k : Int) < (l.length : Int)) = true := decide_eq_true (by omega)
      have k0 : (0 : Int) ≤ (k : Int) := by omega
      have k1 : (k : Int) < (l.length : Int) := by omega
      have k2 : (k : Int) ≤ 1048576 := by omega
      have hp := List.getElem?_eq_getElem hkl
      obtain ⟨⟨p1, p2⟩, hpp⟩ : ∃ p, p = l[k] := ⟨_, rfl⟩
      have HTk : Hid ((l.take (k + 1)).all isPc = isPc (p1, p2)) := by
        show _ = _
        rw [List.take_succ_eq_append_getElem hkl, List.all_append, hal.out, ← hpp]; simp
      rw [← hpp] at hp
      have hpb := HBd.out _ (List.mem_of_getElem? hp)
      dsimp only at hpb
      have HNo : Hid (isPc (p1, p2) = false → l.all isPc = false) := fun h => by
        rw [Bool.eq_false_iff]
        intro h2
        rw [List.all_eq_true.1 h2 _ (List.mem_of_getElem? hp)] at h
        cases h
      obtain ⟨b, off, rfl, r1, r2, r3⟩ := HA.out k _ hp
      have c1 := (hb.out.cell (p := ⟨b, _, none⟩) r1).trans r2
      have c2 := (hb.out.cell (p := ⟨b, _, none⟩) r1).trans r3
      dsimp only at c1 c2
      have e1 : IntKind.i64.wrap p1 = p1 := IntWalk.i64_in _ (by omega)
      have e2 : IntKind.i64.wrap p2 = p2 := IntWalk.i64_in _ (by omega)
      have HF : Hid (isPc (p1, p2) = (inB p1 0 2 && inB p2 1 7)) := rfl
      obtain ⟨g1, hg1⟩ : ∃ g, inB p1 0 2 = g := ⟨_, rfl⟩
      obtain ⟨g2, hg2⟩ : ∃ g, inB p2 1 7 = g := ⟨_, rfl⟩
      have H1 := hid hg1
      have H2 := hid hg2
      rw [hg1, hg2] at HF
      have HKL := hid hkl
      clear hp hpp r2 r3 hg1 hg2 hkl
      cases g1 with
      | false =>
        go_wp2_with (go_at_call 47; ((with_reducible refine (c_l00In p1 0 2 _ _ H1.out).mono ?_); rintro e1 w1 ⟨rfl, rfl⟩))
        go_ret
        exact ⟨ret_bool (HNo.out HF.out).symm, hb.out⟩
      | true =>
        cases g2 with
        | false =>
          go_wp2_with (first
            | (go_at_call 47; ((with_reducible refine (c_l00In p1 0 2 _ _ H1.out).mono ?_); rintro e1 w1 ⟨rfl, rfl⟩))
            | (go_at_call 47; ((with_reducible refine (c_l00In p2 1 7 _ _ H2.out).mono ?_); rintro e1 w1 ⟨rfl, rfl⟩)))
          go_ret
          exact ⟨ret_bool (HNo.out HF.out).symm, hb.out⟩
        | true =>
          go_wp2_with (first
            | (go_at_call 47; ((with_reducible refine (c_l00In p1 0 2 _ _ H1.out).mono ?_); rintro e1 w1 ⟨rfl, rfl⟩))
            | (go_at_call 47; ((with_reducible refine (c_l00In p2 1 7 _ _ H2.out).mono ?_); rintro e1 w1 ⟨rfl, rfl⟩)))
          refine ⟨⟨k + 1, by have := HKL.out; omega, by go_num, hb.out, HTk.out.trans HF.out⟩, by have := HKL.out; simp [intOf]; omega⟩
    · obtain rfl : k = l.length := by omega
      have d1 : decide ((l.length : Int) < (l.length : Int)) = false := decide_eq_false (by omega)
      rw [List.take_length] at hal
      go_wp2_with fail
      go_ret
      exact ⟨ret_bool hal.out.symm, hb.out⟩
def tilV (l : List (Int × Int)) : Int := if pcV l = 0 then (l.length : Int) - (pairL l).length else 0
theorem pairL_len {l : List (Int × Int)} (h : pcV l = 0) : (pairL l).length ≤ l.length := by
  have h1 := pairN_len l (ordL l) (ordL l).length
  rw [ordL_len (by have := (pcV_zero h).1; omega) (pcV_zero h).2] at h1
  unfold pairL
  rw [ordL_len (by have := (pcV_zero h).1; omega) (pcV_zero h).2]
  exact h1
/-- The code of one list, its slice in a slice just built. -/
theorem c_pCode1 (A : Option Addr) (c : Nat) (l : List (Int × Int)) (hlen : l.length ≤ 1048576) (w : World) (hA : PairsAt .i8 .i8 w A l) :
    Calls Try.prog 25 #[.slice (some ⟨w.heap.size, 0, none⟩) 1 1] (w.alloc (.cells #[.slice A l.length c] 27)) fun e w' => e = .returned (.int .i64 (pcV l)) ∧ Below (w.alloc (.cells #[.slice A l.length c] 27)).heap.size (w.alloc (.cells #[.slice A l.length c] 27)) w' := by
  have hb : Below w.heap.size w (w.alloc (.cells #[.slice A l.length c] 27)) := (Below.refl _ w).alloc (Nat.le_refl _) _
  have := c_piecesCode (some ⟨w.heap.size, 0, none⟩) 1 [.slice A l.length c] [l] (by simp) (w.alloc (.cells #[.slice A l.length c] 27)) (fun j v hj => by
    cases j with
    | zero => simp at hj; subst hj; exact ⟨_, 0, rfl, by simp, cell_block (block_new1 w _ rfl) rfl⟩
    | succ j => simp at hj) ⟨rfl, fun j v l' hj hl => by
    cases j with
    | zero => simp at hj hl; subst hj hl; exact ⟨A, c, rfl, hA.below hb (Nat.le_refl _), hlen⟩
    | succ j => simp at hj⟩
  rw [pcV_eq] at this
  exact this
set_option maxRecDepth 100000 in
theorem c_tilesFor (A : Option Addr) (c : Nat) (l : List (Int × Int)) (h0 : pcV l = 0) (w : World) (hA : PairsAt .i8 .i8 w A l) :
    Calls Try.prog 29 #[.slice A l.length c] w fun e w' => e = .returned (.int .i64 ((l.length : Int) - (pairL l).length)) ∧ Below w.heap.size w w' := by
  have HC := hid (c_pairs A c l (pcV_zero h0).2 (pcV_zero h0).1 w hA)
  have h1 := pairL_len h0
  have h2 := (pcV_zero h0).1
  have e1 : IntKind.i64.wrap ((l.length : Int) - ((pairL l).length : Int)) = (l.length : Int) - ((pairL l).length : Int) := IntWalk.i64_in _ (by omega)
  clear hA h0 h1 h2
  go_enter Try.func29, Try.ntmps29
  go_wp2_with (go_at_call 44; ((with_reducible refine HC.out.mono ?_); rintro e1 w1 ⟨v, vs, rfl, hb1, hr1, _⟩); obtain ⟨A1, c1, rfl⟩ := owns_slc hr1; have HB1 := hid hb1; clear hb1 hr1)
  go_ret
  exact ⟨rfl, HB1.out⟩
set_option maxRecDepth 100000 in
theorem c_l05Tiles (A : Option Addr) (c : Nat) (l : List (Int × Int)) (h0 : pcV l = 0) (w : World) (hA : PairsAt .i8 .i8 w A l) :
    Calls Try.prog 28 #[.slice A l.length c] w fun e w' => e = .returned (.int .i64 ((l.length : Int) - (pairL l).length)) ∧ Below w.heap.size w w' := by
  have HC := hid (c_l05Pairs A c l (pcV_zero h0).2 (by have := (pcV_zero h0).1; omega) w hA)
  have h1 := pairL_len h0
  have h2 := (pcV_zero h0).1
  have e1 : IntKind.i64.wrap ((l.length : Int) - ((pairL l).length : Int)) = (l.length : Int) - ((pairL l).length : Int) := IntWalk.i64_in _ (by omega)
  clear hA h0 h1 h2
  go_enter Try.func28, Try.ntmps28
  go_wp2_with (go_at_call 43; ((with_reducible refine HC.out.mono ?_); rintro e1 w1 ⟨v, vs, rfl, hb1, hr1, _⟩); obtain ⟨A1, c1, rfl⟩ := owns_slc hr1; have HB1 := hid hb1; clear hb1 hr1)
  go_ret
  exact ⟨rfl, HB1.out⟩
end Go.Proofs.Ytpmadamaefbamaa

/- Pieces that are cut of a stock, the program's. -/
namespace Go.Proofs.Ytpmadamaefbamaa
open Go.RowKit
set_option linter.unusedSimpArgs false
set_option linter.unusedVariables false
set_option maxRecDepth 100000 in
theorem c_isCut (p1 p2 q1 q2 : Int) (w : World) : Calls Try.prog 42 #[.agg #[.int .i8 p1, .int .i8 p2], .agg #[.int .i8 q1, .int .i8 q2]] w fun e w' => e = .returned (.bool (isCutB (p1, p2) (q1, q2))) ∧ Below w.heap.size w w' := by
  have HF : Hid (isCutB (p1, p2) (q1, q2) = (decide (p2 ≤ q2) && (decide (p1 = 2) || decide (p1 = q1)))) := rfl
  have HB : Hid (Below w.heap.size w ((w.alloc (.cells #[.int .i8 p1, .int .i8 p2] 50)).alloc (.cells #[.int .i8 q1, .int .i8 q2] 50))) := ((Below.refl _ w).alloc (Nat.le_refl _) _).alloc (by simp) _
  by_cases h1 : p2 ≤ q2
  · have d1 : decide (q2 ≥ p2) = true := decide_eq_true h1
    have H1 : Hid (decide (p2 ≤ q2) = true) := decide_eq_true h1
    clear h1
    by_cases h2 : p1 = 2
    · have d2 : (p1 == 2) = true := by rw [beq_iff_eq]; exact h2
      have H2 : Hid (decide (p1 = 2) = true) := decide_eq_true h2
      clear h2
      go_enter Try.func42, Try.ntmps42
      go_wp2_with fail
      go_ret
      exact ⟨ret_bool (by rw [HF.out, H1.out, H2.out]; rfl), HB.out⟩
    · have d2 : (p1 == 2) = false := by rw [beq_eq_false_iff_ne]; exact h2
      have H2 : Hid (decide (p1 = 2) = false) := decide_eq_false h2
      clear h2
      by_cases h3 : p1 = q1
      · have d3 : (p1 == q1) = true := by rw [beq_iff_eq]; exact h3
        have H3 : Hid (decide (p1 = q1) = true) := decide_eq_true h3
        clear h3
        go_enter Try.func42, Try.ntmps42
        go_wp2_with fail
        go_ret
        exact ⟨ret_bool (by rw [HF.out, H1.out, H2.out, H3.out]; rfl), HB.out⟩
      · have d3 : (p1 == q1) = false := by rw [beq_eq_false_iff_ne]; exact h3
        have H3 : Hid (decide (p1 = q1) = false) := decide_eq_false h3
        clear h3
        go_enter Try.func42, Try.ntmps42
        go_wp2_with fail
        go_ret
        exact ⟨ret_bool (by rw [HF.out, H1.out, H2.out, H3.out]; rfl), HB.out⟩
  · have d1 : decide (q2 ≥ p2) = false := decide_eq_false h1
    have H1 : Hid (decide (p2 ≤ q2) = false) := decide_eq_false h1
    clear h1
    go_enter Try.func42, Try.ntmps42
    go_wp2_with fail
    go_ret
    exact ⟨ret_bool (by rw [HF.out, H1.out]; rfl), HB.out⟩
theorem Try.infoI64v : (Try.prog.info? 2).map (fun i => (i.zero, i.size, i.bytes)) = some (some (.int .i64 0), 1, 8) := by kernel_rfl
set_option maxHeartbeats 3200000 in
set_option maxRecDepth 100000 in
theorem c_cover (A : Option Addr) (c : Nat) (l : List (Int × Int)) (hw : ∀ i : Int, 0 ≤ i → i < l.length → 0 ≤ wdL l i ∧ wdL l i ≤ 8) (hlen : l.length ≤ 30) (As : Option Addr) (cs : Nat) (s : List (Int × Int)) (hsl : s.length ≤ 30) (w : World) (hA : PairsAt .i8 .i8 w A l) (hS : PairsAt .i8 .i8 w As s) :
    Calls Try.prog 26 #[.slice A l.length c, .slice As s.length cs] w fun e w' => ∃ v, e = .returned v ∧ Below w.heap.size w w' ∧ RowI w.heap.size w' v (covL l s) := by
  have HA := hid hA
  have HS := hid hS
  have HWd := hid hw
  have HLen := hid hlen
  have HSl := hid hsl
  have HBW := fun W h => hid (c_byWidth A c l hw hlen W h)
  obtain ⟨i0, hi, hz0, hz1, hz2⟩ := info_parts Try.infoI64v
  have hmm := @run_makeMap Try.prog
  have hLI : (l.length : Int) ≤ 30 := by omega
  have hSI : (s.length : Int) ≤ 30 := by omega
  clear hw hlen hA hS hsl
  go_enter Try.func26, Try.ntmps26
  go_wp2_with (first
    | ((with_reducible refine gate (N := 14) rfl ?_); (refine wpList_make_full _ rfl (.tmp 13) (.tmp 13) 24 rfl w.heap.size 2 i0 (.int .i64 0) 1 Try.underlying24 hi hz0 hz1 .i64 .i64 (l.length : Int) (l.length : Int) l.length rfl rfl rfl rfl (by rw [hz2]; have := HLen.out; omega) (Nat.le_trans HLen.out (by decide)) (Nat.le_refl _) ?_; intro w1 hown1 hg1; have HL1 := hid (block_full hown1 (by simp [size_madeCells])); have HG1 := hid hg1; clear hown1 hg1))
    | (go_at_call 41; ((refine (HBW (w1.alloc (.map #[] 0)) (HA.out.below (((Below.refl _ w).grown HG1.out (Nat.le_refl _) (fun k hk => by cases hk)).alloc HG1.out.size _) (Nat.le_refl _))).out.mono ?_); rintro e2 w2 ⟨v, rfl, hb2, hr2⟩); obtain ⟨Ao, co, rfl⟩ := owns_slc hr2; have HB2 := hid hb2; have HR2 := hid hr2; clear hb2 hr2))
  have hL01 : Below w.heap.size w w1 := (Below.refl _ _).grown HG1.out (Nat.le_refl _) (fun k hk => by cases hk)
  have hT1 : w1.heap[w.heap.size]? = some (.cells (arrV (fun _ => 0) l.length) 2 (0, 0)) := by
    have := HL1.out
    rw [Nat.mul_one, show (Value.int .i64 0).cells = #[Value.int .i64 0] from rfl, made_zeroV] at this
    exact this
  have hlt1 := block_lt hT1
  have hAm : Below w1.heap.size w1 (w1.alloc (.map #[] 0)) := (Below.refl _ _).alloc (Nat.le_refl _) _
  have hs12 := HB2.out.size
  rw [World.size_alloc] at hs12
  obtain ⟨gt, hgt⟩ : ∃ g, g = w.heap.size := ⟨_, rfl⟩
  obtain ⟨bm, hbm⟩ : ∃ g, g = w1.heap.size := ⟨_, rfl⟩
  have hT2 := block_below (hAm.trans (HB2.out.mono (by simp))) hT1 hlt1
  have HM2 : Hid (MapB w2 bm 0 []) := by rw [hbm]; exact (MapB.made w1).below HB2.out (by simp)
  have HW2 : Hid (Below w.heap.size w w2) := (hL01.trans (hAm.mono (Nat.le_of_lt hlt1))).trans (HB2.out.mono (by simp; omega))
  have HO2 : Hid (RowN (bm + 1) w2 (.slice Ao (ordL l).length co) (ordL l)) := by rw [hbm]; exact World.ownsRow.mono HR2.out (by simp)
  rw [← hgt] at hT2 ⊢
  rw [← hbm]
  have HT2 := hid hT2
  have HSz : Hid (gt < bm ∧ bm + 1 ≤ w2.heap.size ∧ gt = w.heap.size) := ⟨by omega, by omega, hgt⟩
  have HOL : Hid ((ordL l).length = l.length) := ordL_len (by have := HLen.out; omega) HWd.out
  have HOM : Hid (∀ x ∈ ordL l, 0 ≤ x ∧ x < l.length) := fun x hx => ordL_mem hx
  have HCL : Hid (∀ O, O = ordL l → icells (covL l s) = (arrV (covSt l s O O.length).1 l.length).toList) := fun O hO => by rw [hO, arrV_toList]; rfl
  obtain ⟨O, hO⟩ : ∃ O, O = ordL l := ⟨_, rfl⟩
  have HOE := hid hO
  rw [← hO] at HO2 HOL HOM ⊢
  have HOlt : Hid (∀ g, (Value.slice Ao O.length co).ownBlock = some g → bm < g) := fun g hg => (World.ownsRow.lt HO2.out g hg).1
  clear hgt hbm hT1 hT2 hL01 HL1 HG1 HB2 HR2 HBW hO hs12 hlt1 hAm hmm
  go_loopw [19] (fun i wr => ∃ (j m : Nat), j ≤ O.length ∧ i = .int .i64 j ∧ Hid (m ≤ j) ∧ Hid (But2 gt bm w2 wr) ∧ Hid (wr.heap[gt]? = some (.cells (arrV (covSt l s O j).1 l.length) 2 (0, 0))) ∧ Hid (MapB wr bm m (covSt l s O j).2)) (fun i _ => O.length - (intOf i).toNat)
  case atStart => exact ⟨0, 0, by omega, rfl, Nat.le_refl _, But2.refl _ _ _, HT2.out, HM2.out⟩
  case round =>
    clear HT2 HM2
    obtain ⟨wo, rfl⟩ : ∃ W, W = wr := ⟨_, rfl⟩
    obtain ⟨j, m, hj, rfl, hmj, hbt, htk, hmp⟩ := hrel
    have hL := HLen.out
    have hOL := HOL.out
    have hS := HSz.out
    have hSl := HSl.out
    have hOr : RowN (bm + 1) wo (.slice Ao O.length co) O := owns_but2 HO2.out hbt.out (fun e => by have := HOlt.out _ e; omega) (fun e => by have := HOlt.out _ e; omega)
    have hBw : Below w.heap.size w wo := ⟨hbt.out.os.trans HW2.out.os, hbt.out.tape.trans HW2.out.tape, hbt.out.output.trans HW2.out.output, Nat.le_trans HW2.out.size hbt.out.size, fun i hi => (hbt.out.block i (by omega) (by omega) (by omega)).trans (HW2.out.block i hi)⟩
    have hAr := HA.out.below hBw (Nat.le_refl _)
    have hSr := HS.out.below hBw (Nat.le_refl _)
    have HBw := hid hBw
    by_cases hjl : j < O.length
    · have d1 : decide ((j : Int) < (O.length : Int)) = true := decide_eq_true (by omega)
      have hjI : (j : Int) < (O.length : Int) := by omega
      have hj0 : (0 : Int) ≤ (j : Int) := by omega
      have hj30 : (j : Int) ≤ 30 := by omega
      have hp := List.getElem?_eq_getElem hjl
      obtain ⟨a, haa⟩ : ∃ a, a = O[j] := ⟨_, rfl⟩
      rw [← haa] at hp
      have hra := HOM.out a (List.mem_of_getElem? hp)
      obtain ⟨go, cg, e, _, hgl, c0, _⟩ := owns_cell hOr (icells_get hp)
      obtain ⟨rfl, rfl⟩ : Ao = some ⟨go, 0, none⟩ ∧ co = cg := by simpa using e
      obtain ⟨i', rfl⟩ : ∃ i' : Nat, a = (i' : Int) := ⟨a.toNat, by omega⟩
      have pa := List.getElem?_eq_getElem (show i' < l.length by omega)
      obtain ⟨⟨p1, p2⟩, hpp⟩ : ∃ p, p = l[i'] := ⟨_, rfl⟩
      rw [← hpp] at pa
      have HSUC := hid (covSt_succ l s hp pa)
      obtain ⟨b, off, e2, r1, r2, r3⟩ := hAr i' _ pa
      dsimp only at r2 r3
      have x0 : (0 : Int) ≤ (i' : Int) := by omega
      have x1 : (i' : Int) < (l.length : Int) := by omega
      have x2 : (i' : Int) ≤ 30 := by omega
      have HJL := hid hjl
      have HRA := hid hra
      have HSr := hid hSr
      have HMJ := hid hmj.out
      subst e2
      have R1 := hid r1
      have R2 := hid r2
      have R3 := hid r3
      obtain ⟨T, hT⟩ : ∃ T, T = (covSt l s O j).2 := ⟨_, rfl⟩
      obtain ⟨fo, hfo⟩ : ∃ f, f = (covSt l s O j).1 := ⟨_, rfl⟩
      rw [← hT] at hmp HSUC
      rw [← hfo] at htk HSUC
      have HB0 : Hid (bestN s T (p1, p2) 0 = -1) := rfl
      clear hp haa hra hOr e hgl hAr hSr hBw pa hpp r1 r2 r3 hjl hmj hT hfo hS hL hOL hSl
      go_wp2_with fail
      clear c0
      go_loopw [9, 25] (fun bv i wm => ∃ k : Nat, k ≤ s.length ∧ i = .int .i64 k ∧ bv = .int .i64 (bestN s T (p1, p2) k) ∧ Hid (Below wo.heap.size wo wm)) (fun _ i _ => s.length - (intOf i).toNat)
      case atStart => exact ⟨0, by omega, rfl, rfl, Below.refl _ _⟩
      case round =>
        obtain ⟨wm, rfl⟩ : ∃ W, W = wr := ⟨_, rfl⟩
        obtain ⟨k, hk, rfl, rfl, hbm⟩ := hrel
        have hbb := bestN_b s T (p1, p2) k
        have HBS : Hid (bestN s T (p1, p2) (k + 1) = if bestB s T (p1, p2) (bestN s T (p1, p2) k) k = true then (k : Int) else bestN s T (p1, p2) k) := rfl
        obtain ⟨be, hbe⟩ : ∃ b, b = bestN s T (p1, p2) k := ⟨_, rfl⟩
        rw [← hbe] at hbb HBS ⊢
        have hSl := HSl.out
        by_cases hkl : k < s.length
        · have d2 : decide ((k : Int) < (s.length : Int)) = true := decide_eq_true (by omega)
          have hkI : (k : Int) < (s.length : Int) := by omega
          have hk0 : (0 : Int) ≤ (k : Int) := by omega
          have hk30 : (k : Int) ≤ 30 := by omega
          have hq := List.getElem?_eq_getElem hkl
          obtain ⟨⟨q1, q2⟩, hqq⟩ : ∃ q, q = s[k] := ⟨_, rfl⟩
          rw [← hqq] at hq
          have hwq := wdL_get hq
          have HBB : Hid (bestB s T (p1, p2) be k = (!decide ((k : Int) ∈ T) && (isCutB (p1, p2) (q1, q2) && (decide (be = -1) || decide (q2 < wdL s be))))) := by
            show _ = _
            unfold bestB
            rw [List.getD_eq_getElem?_getD, hq, hwq]; rfl
          obtain ⟨bs, offs, e3, s1, s2, s3⟩ := HSr.out k _ hq
          dsimp only at s2 s3
          subst e3
          have t2 := (hbm.out.cell (p := ⟨bs, _, none⟩) s1).trans s2
          have t3 := (hbm.out.cell (p := ⟨bs, _, none⟩) s1).trans s3
          have hAl : Below wm.heap.size wm (wm.alloc (.cells #[.int .i8 q1, .int .i8 q2] 50)) := (Below.refl _ wm).alloc (Nat.le_refl _) _
          have hB5 := hbm.out.trans (hAl.mono hbm.out.size)
          have HB5 := hid hB5
          have v1 := (hB5.cell (p := ⟨b, _, none⟩) R1.out).trans R2.out
          have v2 := (hB5.cell (p := ⟨b, _, none⟩) R1.out).trans R3.out
          have hM5 := hmp.out.below hB5 hmp.out.lt
          have HLk : ∀ x : Ext (wm.heap.size + 1) (wm.alloc (.cells #[.int .i8 q1, .int .i8 q2] 50)), (Instr.lookup 69 (.map (some bm)) (.int .i64 (k : Int)) false).run Try.prog x.out = .ok (.bool (decide ((k : Int) ∈ T))) x.out := fun x => (hM5.below x.below (by have := hM5.lt; simpa using this)).lookup _ (by omega)
          have lb : b < wm.heap.size + 1 := by have := hbm.out.size; have := R1.out; omega
          have lx : wm.heap.size < wm.heap.size + 1 := Nat.lt_succ_self _
          have HCut := fun W => hid (c_isCut p1 p2 q1 q2 W)
          have HPB := hid (block_new1 wm (.cells #[.int .i8 q1, .int .i8 q2] 50) rfl)
          have z1 : (wm.alloc (.cells #[.int .i8 q1, .int .i8 q2] 50)).cell? ⟨wm.heap.size, 0, none⟩ = some (.int .i8 q1) := cell_block HPB.out rfl
          have z2 : (wm.alloc (.cells #[.int .i8 q1, .int .i8 q2] 50)).cell? ⟨wm.heap.size, 1, none⟩ = some (.int .i8 q2) := cell_block HPB.out rfl
          obtain ⟨tk, htkk⟩ : ∃ v, v = decide ((k : Int) ∈ T) := ⟨_, rfl⟩
          obtain ⟨ct, hct⟩ : ∃ v, v = isCutB (p1, p2) (q1, q2) := ⟨_, rfl⟩
          rw [← htkk] at HLk HBB
          rw [← hct] at HCut HBB
          have HKL := hid hkl
          have HHB : Hid ((wm.alloc (.cells #[.int .i8 q1, .int .i8 q2] 50)).heap.size = wm.heap.size + 1) := by simp [Hid]
          have HBE := hid hbe
          have lbs : bs < wm.heap.size + 1 := by have := hbm.out.size; omega
          clear hq hqq hwq s1 s2 s3 hkl hct htkk hAl hB5 hM5 hSl
          clear hbe
          cases tk with
          | true =>
            clear hbb
            go_wp2_with fail
            refine wp_region_ext (wm.heap.size + 1) (by kernel_rfl) (by kernel_rfl) ?_
            repeat (go_big_quiet_step ((go_at_call 42; exact Calls.ext (Nat.le_of_eq HHB.out.symm) (HCut _).out)))
            refine wpQuiet_nil ?_
            intro xx
            have HXX := hid (HB5.out.trans (xx.below.mono (Nat.le_succ_of_le hbm.out.size)))
            go_wp2_with fail
            refine ⟨⟨k + 1, by have := HKL.out; omega, by go_num, ?_, HXX.out⟩, by have := HKL.out; simp [intOf]; omega⟩
            rw [HBS.out, HBB.out]
            rfl
          | false =>
            cases ct with
            | false =>
              clear hbb
              go_wp2_with fail
              refine wp_region_ext (wm.heap.size + 1) (by kernel_rfl) (by kernel_rfl) ?_
              repeat (go_big_quiet_step ((go_at_call 42; exact Calls.ext (Nat.le_of_eq HHB.out.symm) (HCut _).out)))
              refine wpQuiet_nil ?_
              intro xx
              have HXX := hid (HB5.out.trans (xx.below.mono (Nat.le_succ_of_le hbm.out.size)))
              go_wp2_with fail
              refine ⟨⟨k + 1, by have := HKL.out; omega, by go_num, ?_, HXX.out⟩, by have := HKL.out; simp [intOf]; omega⟩
              rw [HBS.out, HBB.out]
              rfl
            | true =>
              rcases hbb with rfl | ⟨b0, b1⟩
              · clear HBE
                go_wp2_with fail
                refine wp_region_ext (wm.heap.size + 1) (by kernel_rfl) (by kernel_rfl) ?_
                repeat (go_big_quiet_step ((go_at_call 42; exact Calls.ext (Nat.le_of_eq HHB.out.symm) (HCut _).out)))
                refine wpQuiet_nil ?_
                intro xx
                have HXX := hid (HB5.out.trans (xx.below.mono (Nat.le_succ_of_le hbm.out.size)))
                go_wp2_with fail
                refine ⟨⟨k + 1, by have := HKL.out; omega, by go_num, ?_, HXX.out⟩, by have := HKL.out; simp [intOf]; omega⟩
                rw [HBS.out, HBB.out]
                rfl
              · obtain ⟨bn, rfl⟩ : ∃ bn : Nat, be = (bn : Int) := ⟨be.toNat, by omega⟩
                have hKL := HKL.out
                have pn := List.getElem?_eq_getElem (show bn < s.length by omega)
                have hwn := wdL_get pn
                obtain ⟨bs2, offs2, e4, s4, s5, s6⟩ := HSr.out bn _ pn
                obtain ⟨rfl, rfl⟩ : bs = bs2 ∧ offs = offs2 := by simpa using e4
                rw [← hwn] at s6
                have u3 := (HB5.out.cell (p := ⟨bs, _, none⟩) s4).trans s6
                obtain ⟨wn, hwnn⟩ : ∃ v, v = wdL s (bn : Int) := ⟨_, rfl⟩
                rw [← hwnn] at u3 HBB
                have n1 : ((bn : Int) == -1) = false := by rw [beq_eq_false_iff_ne]; omega
                have n2 : Hid (decide ((bn : Int) = -1) = false) := decide_eq_false (by omega)
                have y0 : (0 : Int) ≤ (bn : Int) := b0
                have y1 : (bn : Int) < (s.length : Int) := by omega
                clear e4 hKL pn hwn s4 s5 s6 hwnn b0 b1
                by_cases hlt : q2 < wn
                · have d5 : decide (q2 < wn) = true := decide_eq_true hlt
                  have D5 := hid d5
                  clear hlt
                  go_wp2_with fail
                  refine wp_region_ext (wm.heap.size + 1) (by kernel_rfl) (by kernel_rfl) ?_
                  repeat (go_big_quiet_step ((go_at_call 42; exact Calls.ext (Nat.le_of_eq HHB.out.symm) (HCut _).out)))
                  refine wpQuiet_nil ?_
                  intro xx
                  have HXX := hid (HB5.out.trans (xx.below.mono (Nat.le_succ_of_le hbm.out.size)))
                  go_wp2_with fail
                  refine ⟨⟨k + 1, by have := HKL.out; omega, by go_num, ?_, HXX.out⟩, by have := HKL.out; simp [intOf]; omega⟩
                  rw [HBS.out, HBB.out]
                  rw [n2.out, D5.out]; rfl
                · have d5 : decide (q2 < wn) = false := decide_eq_false hlt
                  have D5 := hid d5
                  clear hlt
                  go_wp2_with fail
                  refine wp_region_ext (wm.heap.size + 1) (by kernel_rfl) (by kernel_rfl) ?_
                  repeat (go_big_quiet_step ((go_at_call 42; exact Calls.ext (Nat.le_of_eq HHB.out.symm) (HCut _).out)))
                  refine wpQuiet_nil ?_
                  intro xx
                  have HXX := hid (HB5.out.trans (xx.below.mono (Nat.le_succ_of_le hbm.out.size)))
                  go_wp2_with fail
                  refine ⟨⟨k + 1, by have := HKL.out; omega, by go_num, ?_, HXX.out⟩, by have := HKL.out; simp [intOf]; omega⟩
                  rw [HBS.out, HBB.out]
                  rw [n2.out, D5.out]; rfl
        · obtain rfl : k = s.length := by omega
          have d2 : decide ((s.length : Int) < (s.length : Int)) = false := decide_eq_false (by omega)
          rw [← hbe] at HSUC
          have hS := HSz.out
          have hra := HRA.out
          have htm := block_below hbm.out htk.out (block_lt htk.out)
          have c5 : wm.cell? ⟨gt, i', none⟩ = some (.int .i64 (fo i')) := cell_block htm (arrV_get fo (by omega))
          have c6 : wm.frozen? ⟨gt, i', none⟩ = false := frozen_of_row _ _ _ _ _ htm
          have hMm := hmp.out.below hbm.out hmp.out.lt
          rcases hbb with rfl | ⟨b0, b1⟩
          · have hT9 := heap_setCell_same wm gt i' _ _ (.int .i64 (-1)) htm
            rw [arrV_set fo (by omega)] at hT9
            have HT9 := hid hT9
            have HU9 := hid ((hbt.out.below hbm.out (Nat.le_refl _)).set i' (.int .i64 (-1)))
            have HM9 : Hid (MapB (wm.setCell ⟨gt, i', none⟩ (.int .i64 (-1))) bm m T) := hMm.keep fun o ho => block_set_other ho _ (by simp; omega)
            rw [if_pos (by rfl)] at HSUC
            clear hT9 hMm htm hS hra hSl hbe HBS
            go_wp2_with fail
            refine ⟨⟨j + 1, m, by have := HJL.out; omega, by go_num, by have := HMJ.out; show _ ≤ _; omega, HU9.out, ?_, ?_⟩, by have := HJL.out; simp [intOf]; omega⟩
            · rw [HSUC.out]; exact HT9.out
            · rw [HSUC.out]; exact HM9.out
          · obtain ⟨bn, rfl⟩ : ∃ bn : Nat, be = (bn : Int) := ⟨be.toNat, by omega⟩
            have n1 : ((bn : Int) != -1) = true := by rw [bne_iff_ne]; omega
            have n2 : ((bn : Int) == -1) = false := by rw [beq_eq_false_iff_ne]; omega
            rw [if_neg (by omega)] at HSUC
            have HMm := hid hMm
            have HTm := hid htm
            have hjj := HJL.out
            have hmj := HMJ.out
            have hol := HOL.out
            have hll := HLen.out
            have HB2' : Hid (m < 1000000 ∧ (-9223372036854775808 ≤ (bn : Int) ∧ (bn : Int) ≤ 9223372036854775807)) := ⟨by omega, by omega, by omega⟩
            have HGB : Hid (gt ≠ bm ∧ i' < l.length) := ⟨by omega, by omega⟩
            clear hMm htm hS hra hSl hbe HBS b0 b1 hjj hmj hol hll
            have C5 := hid c5
            have C6 := hid c6
            clear c5 c6
            go_wp2_with ((with_reducible refine gateN rfl ?_); (refine wpList_updB rfl rfl (.tmp 60) (.tmp 61) (.const (.bool true)) rfl bm m T rfl HMm.out HB2'.out.1 (bn : Int) HB2'.out.2 rfl rfl ?_); intro w6 hm6 hg6; have HM6 := hid hm6; have HG6 := hid hg6; have HT6 := hid ((hg6.block gt (block_lt HTm.out) (fun e => HGB.out.1 (Option.some.inj e))).trans HTm.out); have c5 : w6.cell? ⟨gt, i', none⟩ = some (.int .i64 (fo i')) := cell_block HT6.out (arrV_get fo HGB.out.2); have c6 : w6.frozen? ⟨gt, i', none⟩ = false := frozen_of_row _ _ _ _ _ HT6.out; clear hm6 hg6)
            have hT9 := heap_setCell_same w6 gt i' _ _ (.int .i64 (bn : Int)) HT6.out
            rw [arrV_set fo HGB.out.2] at hT9
            have hU6 : But2 gt bm w2 w6 := by
              have h1 := hbt.out.below hbm.out (Nat.le_refl _)
              have h2 := HG6.out
              exact ⟨h2.os.trans h1.os, h2.tape.trans h1.tape, h2.output.trans h1.output, Nat.le_trans h1.size h2.size, fun k hk k1 k2 => (h2.block k (Nat.lt_of_lt_of_le hk h1.size) (fun e => k2 (Option.some.inj e))).trans (h1.block k hk k1 k2)⟩
            refine ⟨⟨j + 1, m + 1, by have := HJL.out; omega, by go_num, by have := HMJ.out; show _ ≤ _; omega, hU6.set i' _, ?_, ?_⟩, by have := HJL.out; simp [intOf]; omega⟩
            · rw [HSUC.out]; exact hT9
            · rw [HSUC.out]; exact HM6.out.keep fun o ho => block_set_other ho _ (by have h9 := HGB.out.1; simp; exact fun e => h9 e.symm)
    · obtain rfl : j = O.length := by omega
      have d1 : decide ((O.length : Int) < (O.length : Int)) = false := decide_eq_false (by omega)
      clear hL hOL hS hSl hBw hOr hAr hSr
      go_wp2_with fail
      go_ret
      refine ⟨_, rfl, HBw.out, ?_⟩
      have hlen := HLen.out
      have hgt := HSz.out.2.2
      unfold RowI
      rw [covL_len, HCL.out O HOE.out]
      exact ⟨by simp [arrV_size], .inr ⟨gt, l.length, _, rfl, by omega, htk.out, Nat.le_refl _, Nat.le_trans hlen (by decide), by rw [arrV_size]; omega, by rw [Nat.mul_one]; exact List.take_of_length_le (by simp [arrV_size])⟩⟩
end Go.Proofs.Ytpmadamaefbamaa
