/- Texts of the claim FnExactLeastLifted, part 4 of 7. -/
import Derived.Test.YtfbgldkdlmipoaaGExactLeastLifted3
import Derived.Shelf.Abstract
import Derived.Deep.AppendLies
import Derived.RangeFuncNested
/- A region that draws its order with one operation of unforeknown result (a slice that is built). -/
namespace Go.Proofs.Ytfbgldkdlmipoaa
open Go.RowKit
set_option linter.unusedSimpArgs false
set_option linter.unusedVariables false
set_option maxHeartbeats 1600000 in
theorem wp_region_wildX {P : Program} {id : Nat} {Q : Exit → Act → World → Prop} {a0 : Act} {W : World} {l : List Oper} (B n : Nat) (aσ : Act) (oc : Oper) (R : Value → World → Prop) (D : World → World → Prop) (hD : ∀ w, D w w)
    (hm : P.follows .mixedOrders = true) (hback : backB l = true) (hn : lawB l a0.tmps.size = true) (hw : wildB2 l n = true) (hoc : l[n]? = some oc) (hBW : B ≤ W.heap.size)
    (hpre : wpQuiet P l.toArray (fun w' => ∃ x : Ext B W, w' = x.out) (fun a' => a' = aσ) (l.take n) a0)
    (hpre2 : ∀ v w1, R v w1 → wpQuiet P l.toArray (D w1) (fun a' => a' = aσ) (l.take n) a0)
    (hop : ∀ (x : Ext B W) (a : Act) (K : Act → World → Prop) (Q' : Exit → Act → World → Prop), execOp a.eval oc = execOp aσ.eval oc → (∀ v w', R v w' → K (a.put oc.dst v) w') → Oper.wp P oc a x.out K Q')
    (hpost : ∀ v w1, R v w1 → wpQuiet P l.toArray (D w1) (fun a' => ∀ w', D w1 w' → Q .normal a' w') (l.drop (n + 1)) (aσ.put oc.dst v)) :
    (Code.region id l.toArray true).wp P Q a0 W := by
  have hL := fun i o ho => lawB_of hn i o ho
  have hone : ∀ (i : Nat) (o : Oper) (j : Nat) (o' : Oper) (d : Nat), l[i]? = some o → l[j]? = some o' → i ≠ j → o.dst = some d → o'.dst ≠ some d := fun i o j o' d hi hj hne hd => (hL j o' hj).2.2.2.1 i o hi hne d hd
  have hnl : n < l.length := (List.getElem?_eq_some_iff.1 hoc).1
  have htake : ∀ (i : Nat) (o : Oper), (l.take n)[i]? = some o → l[i]? = some o ∧ i < n := fun i o h => by
    rw [List.getElem?_take] at h
    split at h
    · exact ⟨h, by assumption⟩
    · cases h
  have hdropg : ∀ (i : Nat) (o : Oper), (l.drop (n + 1))[i]? = some o → l[n + 1 + i]? = some o := fun i o h => by rw [List.getElem?_drop] at h; exact h
  obtain ⟨vs0, hst0, hfin0⟩ := stepsS_of _ _ hpre
  have hsize : aσ.tmps.size = a0.tmps.size := by rw [← hfin0, putsS_size]
  have hdef : aσ.defers = a0.defers := by rw [← hfin0, putsS_defers]
  have key0 := fun i o ho => stepsS_key hst0 hfin0 (fun i o d h hd => (hL i o (htake i o h).1).2.2.1 d hd) (fun i o j o' d h h' hne hd => hone i o j o' d (htake i o h).1 (htake j o' h').1 hne hd) i o ho
  have hout0 : ∀ t : Nat, (∀ (i : Nat) (o : Oper), i < n → l[i]? = some o → o.dst ≠ some t) → aσ.tmps.getD t undef = a0.tmps.getD t undef := by
    intro t ht
    rw [← hfin0, putsS_other]
    intro o' hm' hd
    obtain ⟨k, hk, rfl⟩ := List.getElem_of_mem hm'
    have hk2 := htake k _ (List.getElem?_eq_getElem hk)
    exact ht k _ hk2.2 hk2.1 hd
  -- what stands when the call has been made
  let Post : World → Act → Prop := fun w aτ => ∃ v w0 vs, R v w0 ∧ D w0 w ∧ StepsS P l.toArray (D w0) (l.drop (n + 1)) vs (aσ.put oc.dst v) ∧ putsS (l.drop (n + 1)) vs (aσ.put oc.dst v) = aτ ∧ (∀ w', D w0 w' → Q .normal aτ w') ∧ ∀ d, oc.dst = some d → aτ.tmps.getD d undef = v
  have hPost : ∀ w aτ, Post w aτ → aτ.tmps.size = a0.tmps.size ∧ aτ.defers = a0.defers ∧ (∀ t : Nat, (∀ (i : Nat) (o : Oper), l[i]? = some o → o.dst ≠ some t) → aτ.tmps.getD t undef = a0.tmps.getD t undef) ∧
      (∀ (i : Nat) (o : Oper) (d : Nat), l[i]? = some o → i < n → o.dst = some d → aτ.tmps.getD d undef = aσ.tmps.getD d undef) := by
    rintro w aτ ⟨v, w0, vs, _, _, h1, h2, _, _⟩
    have hoth : ∀ t : Nat, (∀ (i : Nat) (o : Oper), n < i → l[i]? = some o → o.dst ≠ some t) → aτ.tmps.getD t undef = (aσ.put oc.dst v).tmps.getD t undef := by
      intro t ht
      rw [← h2, putsS_other]
      intro o' hm' hd
      obtain ⟨k, hk, rfl⟩ := List.getElem_of_mem hm'
      exact ht _ _ (by omega) (hdropg k _ (List.getElem?_eq_getElem hk)) hd
    refine ⟨by rw [← h2, putsS_size, put_size, hsize], by rw [← h2, putsS_defers, put_defers', hdef], fun t ht => ?_, fun i o d hi hin hd => ?_⟩
    · rw [hoth t fun i o _ hi => ht i o hi, put_other _ _ _ _ (ht n oc hoc), hout0 t fun i o _ hi => ht i o hi]
    · rw [hoth d fun j o' hj hj' => hone i o j o' d hi hj' (by omega) hd, put_other _ _ _ _ (hone i o n oc d hi hoc (by omega) hd)]
  refine wp_region_inv hm hback (fun L a w => a.defers = a0.defers ∧ a.tmps.size = a0.tmps.size ∧ (∀ t : Nat, (∀ (i : Nat) (o : Oper), l[i]? = some o → o.dst ≠ some t) → a.tmps.getD t undef = a0.tmps.getD t undef) ∧
    (∀ (j : Nat) (oj : Oper), l[j]? = some oj → L j = true → ∀ e ∈ oj.after, Region.binds .any e = true → L e.on = true) ∧
    (L n = false → (∃ x : Ext B W, w = x.out) ∧ ∀ (i : Nat) (o : Oper) (d : Nat), l[i]? = some o → L i = true → o.dst = some d → a.tmps.getD d undef = aσ.tmps.getD d undef) ∧
    (L n = true → ∃ aτ, Post w aτ ∧ ∀ (i : Nat) (o : Oper) (d : Nat), l[i]? = some o → L i = true → o.dst = some d → a.tmps.getD d undef = aτ.tmps.getD d undef)) ?_ ?_ ?_
  · intro L hL0
    exact ⟨rfl, rfl, fun _ _ => rfl, fun j oj hj hLj => (by rw [hL0 j (List.getElem?_eq_some_iff.1 hj).1] at hLj; cases hLj), fun _ => ⟨⟨⟨_, (Below.refl B W).drew⟩, rfl⟩, fun i o d hi hLi => (by rw [hL0 i (List.getElem?_eq_some_iff.1 hi).1] at hLi; cases hLi)⟩, fun hLn => (by rw [hL0 n hnl] at hLn; cases hLn)⟩
  · intro L a w i o ho hLi hafter ⟨i1, i2, i3, i4, i5, i6⟩
    obtain ⟨hg, hns, hd1, hd2, heyes⟩ := hL i o ho
    rw [if_pos (by simp [Region.wanted, hg])]
    have hcl : ∀ (j : Nat) (oj : Oper), l[j]? = some oj → plus L i j = true → ∀ e ∈ oj.after, Region.binds .any e = true → plus L i e.on = true := by
      intro j oj hj hLj e he hb
      unfold plus at hLj ⊢
      by_cases hji : j = i
      · subst hji
        rw [ho] at hj
        obtain rfl := Option.some.inj hj
        split
        · rfl
        · exact hafter e he hb
      · rw [if_neg hji] at hLj
        split
        · rfl
        · exact i4 j oj hj hLj e he hb
    rcases Nat.lt_trichotomy i n with hin | hin | hin
    · -- ahead of the call
      cases hLn : L n with
      | false =>
        obtain ⟨⟨x, hx⟩, i7⟩ := i5 hLn
        have ho' : (l.take n)[i]? = some o := by rw [List.getElem?_take, if_pos hin]; exact ho
        obtain ⟨v, ai, hY, hv, hno, hyes⟩ := key0 i o ho'
        have he : execOp a.eval o = execOp ai.eval o := by
          refine execOp_congr o (fun c b hc => by rw [notSelect, hc] at hns; cases hns) (eval_eyes fun t ht => ?_)
          by_cases hex : ∃ (j : Nat) (o' : Oper), l[j]? = some o' ∧ o'.dst = some t
          · obtain ⟨j, o', hj, hd⟩ := hex
            obtain ⟨hji, e, he, hb, hon⟩ := heyes t ht j o' hj hd
            have hLj : L j = true := hon ▸ hafter e he hb
            rw [hyes t j o' hji (by rw [List.getElem?_take, if_pos (by omega)]; exact hj) hd]
            exact i7 j o' t hj hLj hd
          · have hn' : ∀ (j : Nat) (o' : Oper), l[j]? = some o' → o'.dst ≠ some t := fun j o' hj hd => hex ⟨j, o', hj, hd⟩
            rw [i3 t hn', hno t fun j o' hj => hn' j o' (htake j o' hj).1]
        have hY' := hY.of_same he (by simp [Region.wanted, hg])
        rcases hY' with ⟨_, hq⟩ | ⟨hw0, _⟩
        · refine Oper.wp_of_quiet (C := fun w' => ∃ x : Ext B W, w' = x.out) (K := fun a' => a' = a.put o.dst v) ⟨x, hx⟩ ?_ ⟨v, hq, rfl⟩
          rintro a' w' ⟨z, rfl⟩ rfl
          refine ⟨(put_defers' _ _ _).trans i1, (put_size _ _ _).trans i2, fun t ht => ?_, hcl, fun _ => ⟨⟨z, rfl⟩, fun j o' d hj hLj hd => ?_⟩, fun hLp => ?_⟩
          · rw [put_other _ _ _ _ (ht i o ho)]; exact i3 t ht
          · by_cases hji : j = i
            · subst hji
              rw [ho] at hj
              obtain rfl := Option.some.inj hj
              rw [hd, put_here _ _ _ (by rw [i2]; exact hd1 d hd)]
              exact hv d hd
            · have hLj' : L j = true := by unfold plus at hLj; rwa [if_neg hji] at hLj
              rw [put_other _ _ _ _ (hd2 j o' hj hji d hd)]; exact i7 j o' d hj hLj' hd
          · unfold plus at hLp; rw [if_neg (by omega), hLn] at hLp; cases hLp
        · simp [Region.wanted, hg] at hw0
      | true =>
        obtain ⟨aτ, hP, i7⟩ := i6 hLn
        have hP0 := hP
        obtain ⟨p1, p2, p3, p4⟩ := hPost _ _ hP
        obtain ⟨v1, w0, vs1, hR0, hDw, hst1, hfin1, hQ1, hdv1⟩ := hP
        obtain ⟨vs2, hst2, hfin2⟩ := stepsS_of _ _ (hpre2 v1 w0 hR0)
        have ho' : (l.take n)[i]? = some o := by rw [List.getElem?_take, if_pos hin]; exact ho
        obtain ⟨v, ai, hY, hv, hno, hyes⟩ := stepsS_key hst2 hfin2 (fun i o d h hd => (hL i o (htake i o h).1).2.2.1 d hd) (fun i o j o' d h h' hne hd => hone i o j o' d (htake i o h).1 (htake j o' h').1 hne hd) i o ho'
        have he : execOp a.eval o = execOp ai.eval o := by
          refine execOp_congr o (fun c b hc => by rw [notSelect, hc] at hns; cases hns) (eval_eyes fun t ht => ?_)
          by_cases hex : ∃ (j : Nat) (o' : Oper), l[j]? = some o' ∧ o'.dst = some t
          · obtain ⟨j, o', hj, hd⟩ := hex
            obtain ⟨hji, e, he, hb, hon⟩ := heyes t ht j o' hj hd
            have hLj : L j = true := hon ▸ hafter e he hb
            rw [hyes t j o' hji (by rw [List.getElem?_take, if_pos (by omega)]; exact hj) hd, i7 j o' t hj hLj hd]
            exact p4 j o' t hj (by omega) hd
          · have hn' : ∀ (j : Nat) (o' : Oper), l[j]? = some o' → o'.dst ≠ some t := fun j o' hj hd => hex ⟨j, o', hj, hd⟩
            rw [i3 t hn', hno t fun j o' hj => hn' j o' (htake j o' hj).1]
        have hY' := hY.of_same he (by simp [Region.wanted, hg])
        rcases hY' with ⟨_, hq⟩ | ⟨hw0, _⟩
        · refine Oper.wp_of_quiet (C := D w0) (K := fun a' => a' = a.put o.dst v) hDw ?_ ⟨v, hq, rfl⟩
          rintro a' w' hDw' rfl
          refine ⟨(put_defers' _ _ _).trans i1, (put_size _ _ _).trans i2, fun t ht => ?_, hcl, fun hLp => ?_, fun _ => ⟨aτ, ⟨v1, w0, vs1, hR0, hDw', hst1, hfin1, hQ1, hdv1⟩, fun j o' d hj hLj hd => ?_⟩⟩
          · rw [put_other _ _ _ _ (ht i o ho)]; exact i3 t ht
          · unfold plus at hLp; rw [if_neg (by omega), hLn] at hLp; cases hLp
          · by_cases hji : j = i
            · subst hji
              rw [ho] at hj
              obtain rfl := Option.some.inj hj
              rw [hd, put_here _ _ _ (by rw [i2]; exact hd1 d hd), hv d hd]
              exact (p4 j o d ho hin hd).symm
            · have hLj' : L j = true := by unfold plus at hLj; rwa [if_neg hji] at hLj
              rw [put_other _ _ _ _ (hd2 j o' hj hji d hd)]; exact i7 j o' d hj hLj' hd
        · simp [Region.wanted, hg] at hw0
    · -- the call
      subst hin
      rw [hoc] at ho
      obtain rfl := Option.some.inj ho
      obtain ⟨⟨x, hx⟩, i7⟩ := i5 hLi
      have he : execOp a.eval oc = execOp aσ.eval oc := by
        refine execOp_congr oc (fun c b hc => by rw [notSelect, hc] at hns; cases hns) (eval_eyes fun t ht => ?_)
        by_cases hex : ∃ (j : Nat) (o' : Oper), l[j]? = some o' ∧ o'.dst = some t
        · obtain ⟨j, o', hj, hd⟩ := hex
          obtain ⟨hji, e, he, hb, hon⟩ := heyes t ht j o' hj hd
          exact i7 j o' t hj (hon ▸ hafter e he hb) hd
        · have hn' : ∀ (j : Nat) (o' : Oper), l[j]? = some o' → o'.dst ≠ some t := fun j o' hj hd => hex ⟨j, o', hj, hd⟩
          rw [i3 t hn', hout0 t fun j o' _ hj => hn' j o' hj]
      subst hx
      refine hop x a _ _ he ?_
      rintro v w' hR
      obtain ⟨vs, hst, hQ⟩ := stepsS_of _ _ (hpost v w' hR)
      have hdv : ∀ d, oc.dst = some d → (putsS (l.drop (i + 1)) vs (aσ.put oc.dst v)).tmps.getD d undef = v := by
        intro d hd
        rw [putsS_other, hd, put_here _ _ _ (by rw [hsize]; exact hd1 d hd)]
        intro o' hm' hd'
        obtain ⟨k, hk, rfl⟩ := List.getElem_of_mem hm'
        exact hone i oc _ _ d hoc (hdropg k _ (List.getElem?_eq_getElem hk)) (by omega) hd hd'
      have hP : Post w' (putsS (l.drop (i + 1)) vs (aσ.put oc.dst v)) := ⟨v, w', vs, hR, hD _, hst, rfl, hQ, hdv⟩
      obtain ⟨_, _, _, p4⟩ := hPost _ _ hP
      refine ⟨(put_defers' _ _ _).trans i1, (put_size _ _ _).trans i2, fun t ht => ?_, hcl, fun hLn => ?_, fun _ => ⟨_, hP, fun j o' d hj hLj hd => ?_⟩⟩
      · rw [put_other _ _ _ _ (ht i oc hoc)]; exact i3 t ht
      · simp [plus] at hLn
      · by_cases hji : j = i
        · subst hji
          rw [hoc] at hj
          obtain rfl := Option.some.inj hj
          rw [hd, put_here _ _ _ (by rw [i2]; exact hd1 d hd), ← hd, hdv d hd]
        · have hLj' : L j = true := by unfold plus at hLj; rwa [if_neg hji] at hLj
          have hjn : j < i := by
            rcases Nat.lt_trichotomy j i with h | h | h
            · exact h
            · exact absurd h hji
            · exfalso
              have : ∀ d t, t = d → i < t → t < l.length → L t = true → False := by
                intro d
                induction d using Nat.strongRecOn with
                | _ d ih =>
                  intro t htd hit htl hLt
                  obtain ⟨e, he', hb, h1, h2⟩ := wildB2_post hw t _ (List.getElem?_eq_getElem htl) hit
                  have h3 := i4 t _ (List.getElem?_eq_getElem htl) hLt e he' hb
                  rcases Nat.eq_or_lt_of_le h1 with h4 | h4
                  · rw [← h4, hLi] at h3; cases h3
                  · exact ih e.on (by omega) e.on rfl h4 (by omega) h3
              exact this _ j rfl h (List.getElem?_eq_some_iff.1 hj).1 hLj'
          rw [put_other _ _ _ _ (hd2 j o' hj hji d hd), i7 j o' d hj hLj' hd, p4 j o' d hj hjn hd]
    · -- behind the call
      have hLn : L n = true := by
        obtain ⟨e, he, hb, h1, h2⟩ := wildB2_post hw i o ho hin
        have h3 := hafter e he hb
        have : ∀ d t, t = d → n ≤ t → t < l.length → L t = true → L n = true := by
          intro d
          induction d using Nat.strongRecOn with
          | _ d ih =>
            intro t htd hit htl hLt
            rcases Nat.eq_or_lt_of_le hit with h4 | h4
            · rw [h4]; exact hLt
            · obtain ⟨e, he', hb, h1, h2⟩ := wildB2_post hw t _ (List.getElem?_eq_getElem htl) h4
              exact ih e.on (by omega) e.on rfl h1 (by omega) (i4 t _ (List.getElem?_eq_getElem htl) hLt e he' hb)
        exact this _ e.on rfl h1 (by have := (List.getElem?_eq_some_iff.1 ho).1; omega) h3
      obtain ⟨aτ, hP, i7⟩ := i6 hLn
      obtain ⟨p1, p2, p3, p4⟩ := hPost _ _ hP
      obtain ⟨v, w0, vs, hR0, hDw, hst, hfin, hQ, hdv⟩ := hP
      have ho' : (l.drop (n + 1))[i - (n + 1)]? = some o := by rw [List.getElem?_drop]; rw [show n + 1 + (i - (n + 1)) = i by omega]; exact ho
      obtain ⟨u, ai, hY, hv, hno, hyes⟩ := stepsS_key hst hfin (fun j o' d h hd => by rw [put_size, hsize]; exact (hL _ o' (hdropg j o' h)).2.2.1 d hd) (fun j o' k o'' d h h' hne hd => hone _ o' _ o'' d (hdropg j o' h) (hdropg k o'' h') (by omega) hd) _ o ho'
      have he : execOp a.eval o = execOp ai.eval o := by
        refine execOp_congr o (fun c b hc => by rw [notSelect, hc] at hns; cases hns) (eval_eyes fun t ht => ?_)
        by_cases hex : ∃ (j : Nat) (o' : Oper), l[j]? = some o' ∧ o'.dst = some t
        · obtain ⟨j, o', hj, hd⟩ := hex
          obtain ⟨hji, e, he, hb, hon⟩ := heyes t ht j o' hj hd
          have hLj : L j = true := hon ▸ hafter e he hb
          rw [i7 j o' t hj hLj hd]
          by_cases hjn : n < j
          · rw [hyes t (j - (n + 1)) o' (by omega) (by rw [List.getElem?_drop, show n + 1 + (j - (n + 1)) = j by omega]; exact hj) hd]
          · have h9 : ai.tmps.getD t undef = (aσ.put oc.dst v).tmps.getD t undef := hno t fun k o'' hk => hone j o' _ o'' t hj (hdropg k o'' hk) (by omega) hd
            rw [h9]
            rcases Nat.lt_or_ge j n with h10 | h10
            · rw [p4 j o' t hj h10 hd, put_other _ _ _ _ (hone j o' n oc t hj hoc (by omega) hd)]
            · obtain rfl : j = n := by omega
              rw [hoc] at hj
              obtain rfl := Option.some.inj hj
              rw [hdv t hd, hd, put_here _ _ _ (by rw [hsize]; exact (hL j oc hoc).2.2.1 t hd)]
        · have hn' : ∀ (j : Nat) (o' : Oper), l[j]? = some o' → o'.dst ≠ some t := fun j o' hj hd => hex ⟨j, o', hj, hd⟩
          rw [i3 t hn', hno t fun j o' hj => hn' _ o' (hdropg j o' hj), put_other _ _ _ _ (hn' n oc hoc), hout0 t fun j o' _ hj => hn' j o' hj]
      have hY' := hY.of_same he (by simp [Region.wanted, hg])
      rcases hY' with ⟨_, hq⟩ | ⟨hw0, _⟩
      · refine Oper.wp_of_quiet (C := D w0) (K := fun a' => a' = a.put o.dst u) hDw ?_ ⟨u, hq, rfl⟩
        rintro a' w' hDw' rfl
        refine ⟨(put_defers' _ _ _).trans i1, (put_size _ _ _).trans i2, fun t ht => ?_, hcl, fun hLp => ?_, fun _ => ⟨aτ, ⟨v, w0, vs, hR0, hDw', hst, hfin, hQ, hdv⟩, fun j o' d hj hLj hd => ?_⟩⟩
        · rw [put_other _ _ _ _ (ht i o ho)]; exact i3 t ht
        · unfold plus at hLp; rw [if_neg (by omega), hLn] at hLp; cases hLp
        · by_cases hji : j = i
          · subst hji
            rw [ho] at hj
            obtain rfl := Option.some.inj hj
            rw [hd, put_here _ _ _ (by rw [i2]; exact hd1 d hd)]
            exact hv d hd
          · have hLj' : L j = true := by unfold plus at hLj; rwa [if_neg hji] at hLj
            rw [put_other _ _ _ _ (hd2 j o' hj hji d hd)]; exact i7 j o' d hj hLj' hd
      · simp [Region.wanted, hg] at hw0
  · intro L a w hall ⟨i1, i2, i3, i4, i5, i6⟩
    obtain ⟨aτ, hP, i7⟩ := i6 (hall n hnl)
    obtain ⟨p1, p2, p3, p4⟩ := hPost _ _ hP
    obtain ⟨v, w0, vs, hR0, hDw, hst, hfin, hQ, hdv⟩ := hP
    have : a = aτ := by
      refine act_ext (i2.trans p1.symm) (i1.trans p2.symm) fun k => ?_
      by_cases hex : ∃ (j : Nat) (o' : Oper), l[j]? = some o' ∧ o'.dst = some k
      · obtain ⟨j, o', hj, hd⟩ := hex
        exact i7 j o' k hj (hall j (List.getElem?_eq_some_iff.1 hj).1) hd
      · have hn' : ∀ (j : Nat) (o' : Oper), l[j]? = some o' → o'.dst ≠ some k := fun j o' hj hd => hex ⟨j, o', hj, hd⟩
        rw [i3 k hn', p3 k hn']
    rw [this]; exact hQ _ hDw
/-- The same, at one operation of unforeknown result that is no call; what stands behind it, and what may run behind it, turns nothing below the heap that the call has left. -/
theorem wp_region_wildO {P : Program} {id : Nat} {Q : Exit → Act → World → Prop} {a0 : Act} {W : World} {l : List Oper} (B n : Nat) (aσ : Act) (oc : Oper) (R : Value → World → Prop)
    (hm : P.follows .mixedOrders = true) (hback : backB l = true) (hn : lawB l a0.tmps.size = true) (hw : wildB2 l n = true) (hoc : l[n]? = some oc) (hBW : B ≤ W.heap.size)
    (hpre : ∀ (B' : Nat) (W' : World), Below B W W' → B ≤ B' → B' ≤ W'.heap.size → wpQuiet P l.toArray (fun w' => ∃ x : Ext B' W', w' = x.out) (fun a' => a' = aσ) (l.take n) a0)
    (hrun : ∀ x : Ext B W, ∃ v w', (execOp aσ.eval oc).run P x.out = .ok (.value v) w' ∧ R v w' ∧ Below B W w')
    (hpost : ∀ v w1, R v w1 → Below B W w1 → wpQuiet P l.toArray (fun w' => ∃ y : Ext w1.heap.size w1, w' = y.out) (fun a' => ∀ w', (∃ y : Ext w1.heap.size w1, w' = y.out) → Q .normal a' w') (l.drop (n + 1)) (aσ.put oc.dst v)) :
    (Code.region id l.toArray true).wp P Q a0 W :=
  wp_region_wildX B n aσ oc (fun v w1 => R v w1 ∧ Below B W w1) (fun w1 w' => ∃ y : Ext w1.heap.size w1, w' = y.out) (fun w => ⟨⟨w, Below.refl _ _⟩, rfl⟩) hm hback hn hw hoc hBW (hpre B W (Below.refl _ _) (Nat.le_refl _) hBW)
    (fun v w1 hR => hpre w1.heap.size w1 hR.2 (Nat.le_trans hBW hR.2.size) (Nat.le_refl _)) (fun x a K Q' he hK => by
      obtain ⟨v, w', h1, h2, h3⟩ := hrun x
      unfold Oper.wp
      rw [he, h1]
      exact hK v w' ⟨h2, h3⟩) (fun v w1 hR => hpost v w1 hR.1 hR.2)
end Go.Proofs.Ytfbgldkdlmipoaa

/- KindAt, the program's and the reference's. -/
namespace Go.Proofs.Ytfbgldkdlmipoaa
open Go.RowKit
set_option linter.unusedSimpArgs false
set_option linter.unusedVariables false

/-- What KindAt returns. -/
def kindAtV (r : Rf) (c t : Int) : Int := if codeOf (validB r) (isPl r c t) = 0 then r.at c.toNat t.toNat else 0
theorem codeOf_pl0 {r : Rf} {c t : Int} (h : codeOf (validB r) (isPl r c t) = 0) : validB r = true ∧ (0 ≤ c ∧ c ≤ r.h - 1 ∧ 0 ≤ t ∧ t ≤ r.w - 1) ∧ (0 ≤ c ∧ c ≤ 7) ∧ (0 ≤ t ∧ t ≤ 7) := by
  rcases codeOf_cases (validB r) (isPl r c t) with ⟨_, h1⟩ | ⟨_, _, h1⟩ | ⟨h1, h2, _⟩
  · rw [h1] at h; cases h
  · rw [h1] at h; cases h
  · have := valid_head h1; have := isPl_iff.1 h2; exact ⟨h1, by omega⟩
end Go.Proofs.Ytfbgldkdlmipoaa

/- The code of jobs: the program's. -/
namespace Go.Proofs.Ytfbgldkdlmipoaa
open Go.RowKit
set_option linter.unusedSimpArgs false
set_option linter.unusedVariables false

/-- The code of a roof, of what has to be so, and of whether lists are short. -/
def jobK (v g ok : Bool) : Int := if codeOf v g = 0 then (if ok then 0 else 3) else codeOf v g
theorem jobK_zero {v g ok : Bool} (h : jobK v g ok = 0) : v = true ∧ g = true ∧ ok = true := by
  unfold jobK at h
  by_cases h1 : codeOf v g = 0
  · rw [if_pos h1] at h
    have := codeOf_zero h1
    cases ok with
    | true => exact ⟨this.1, this.2, rfl⟩
    | false => cases h
  · rw [if_neg h1] at h; exact absurd h h1
theorem jobK_cases (v g ok : Bool) : jobK v g ok = 1 ∨ jobK v g ok = 2 ∨ jobK v g ok = 3 ∨ jobK v g ok = 0 := by
  unfold jobK
  by_cases h1 : codeOf v g = 0
  · rw [if_pos h1]; cases ok <;> simp
  · rw [if_neg h1]
    rcases codeOf_012 v g with h | h | h
    · exact .inl h
    · exact .inr (.inl h)
    · exact absurd h h1
set_option maxRecDepth 100000 in
theorem c_jobClo (n : Int) (w : World) : Calls Try.prog 83 #[.int .i64 n] w fun e w' => e = .returned (.bool (decide (n ≤ 8))) ∧ Below w.heap.size w w' := by
  go_enter Try.func83, Try.ntmps83
  go_wp2_with fail
  go_ret
  exact ⟨rfl, Below.refl _ _⟩
set_option maxHeartbeats 800000 in
set_option maxRecDepth 100000 in
theorem c_jobCode (r : Rf) (hr : r.Ok) (g : Bool) (A : Option Addr) (c : Nat) (ns : List Int) (hlen : ns.length ≤ 1048576) (w : World) (hA : SlI w A ns) :
    Calls Try.prog 57 #[.agg (rcells r), .bool g, .slice A ns.length c] w fun e w' => e = .returned (.int .i64 (jobK (validB r) g (ns.all fun n => decide (n ≤ 8)))) ∧ Below w.heap.size w w' := by
  have B0 : Below w.heap.size w (w.alloc (.cells (rcells r) 31)) := (Below.refl _ w).alloc (Nat.le_refl _) _
  have HX := hid (block_new1 w (.cells (rcells r) 31) rfl)
  have HA := hid (hA.below B0 (Nat.le_refl _))
  have HR := hid (c_roofCode r hr g)
  have HE := fun w' h => hid (c_areAllN 83 #[] #[] (enters_of Try.func83 (by kernel_rfl) rfl) (fun n => decide (n ≤ 8)) A c ns hlen w' h (fun W p _ _ => c_jobClo p W))
  obtain ⟨ok, hok⟩ : ∃ ok, ok = ns.all fun n => decide (n ≤ 8) := ⟨_, rfl⟩
  rw [← hok] at HE ⊢
  have key : ∀ k : Int, codeOf (validB r) g = k → (k = 1 ∨ k = 2 ∨ k = 0) → Calls Try.prog 57 #[.agg (rcells r), .bool g, .slice A ns.length c] w fun e w' => e = .returned (.int .i64 (if k = 0 then (if ok then 0 else 3) else k)) ∧ Below w.heap.size w w' := by
    intro k hk hcs
    have HK := hid hk
    rw [hk] at HR
    clear hk hA hok
    rcases hcs with rfl | rfl | rfl
    · go_enter Try.func57, Try.ntmps57
      go_wp2_with (first
        | ((with_reducible refine gate (N := 8) rfl ?_); refine wp_roof 31 Try.underlying31 rfl Try.infoRoof rfl (.tmp 3) rfl w.heap.size rfl r hr HX.out ?_)
        | (go_at_call 81; ((with_reducible refine (HR.out _).mono ?_); rintro e w1 ⟨rfl, hb1⟩)))
      go_ret
      exact ⟨rfl, B0.trans (hb1.mono (by simp))⟩
    · go_enter Try.func57, Try.ntmps57
      go_wp2_with (first
        | ((with_reducible refine gate (N := 8) rfl ?_); refine wp_roof 31 Try.underlying31 rfl Try.infoRoof rfl (.tmp 3) rfl w.heap.size rfl r hr HX.out ?_)
        | (go_at_call 81; ((with_reducible refine (HR.out _).mono ?_); rintro e w1 ⟨rfl, hb1⟩)))
      go_ret
      exact ⟨rfl, B0.trans (hb1.mono (by simp))⟩
    · cases ok with
      | true =>
        go_enter Try.func57, Try.ntmps57
        go_wp2_with (first
          | ((with_reducible refine gate (N := 8) rfl ?_); refine wp_roof 31 Try.underlying31 rfl Try.infoRoof rfl (.tmp 3) rfl w.heap.size rfl r hr HX.out ?_)
          | (go_at_call 81; ((with_reducible refine (HR.out _).mono ?_); rintro e w1 ⟨rfl, hb1⟩))
          | (go_at_call 82; ((with_reducible refine (HE _ (HA.out.below hb1 (Nat.le_refl _))).out.mono ?_); rintro e w2 ⟨rfl, hb2⟩)))
        go_ret
        have b1 := B0.trans (hb1.mono (by simp))
        exact ⟨rfl, b1.trans (hb2.mono b1.size)⟩
      | false =>
        go_enter Try.func57, Try.ntmps57
        go_wp2_with (first
          | ((with_reducible refine gate (N := 8) rfl ?_); refine wp_roof 31 Try.underlying31 rfl Try.infoRoof rfl (.tmp 3) rfl w.heap.size rfl r hr HX.out ?_)
          | (go_at_call 81; ((with_reducible refine (HR.out _).mono ?_); rintro e w1 ⟨rfl, hb1⟩))
          | (go_at_call 82; ((with_reducible refine (HE _ (HA.out.below hb1 (Nat.le_refl _))).out.mono ?_); rintro e w2 ⟨rfl, hb2⟩)))
        go_ret
        have b1 := B0.trans (hb1.mono (by simp))
        exact ⟨rfl, b1.trans (hb2.mono b1.size)⟩
  exact key _ rfl (codeOf_012 _ _)
set_option maxRecDepth 100000 in
theorem c_isCarry (n : Int) (w : World) (g : Bool) (hg : inB n 1 20 = g) : Calls Try.prog 50 #[.int .i64 n] w fun e w' => e = .returned (.bool g) ∧ w = w' := by
  have HG := hid hg; clear hg
  go_enter Try.func50, Try.ntmps50
  go_wp2_with (go_at_call 51; (with_reducible refine (c_within64 _ _ _ _ _ HG.out).mono ?_); rintro e w9 ⟨rfl, rfl⟩)
  go_ret
  exact ⟨rfl, rfl⟩
end Go.Proofs.Ytfbgldkdlmipoaa

/- climbs: the sum over chunks. -/
namespace Go.Proofs.Ytfbgldkdlmipoaa
open Go.RowKit Go.Shelf
set_option linter.unusedSimpArgs false
set_option linter.unusedVariables false

attribute [local go_sem] Oper.semAt_some
theorem cell_new_l (W : World) (v : Value) (t : TypeId) : (W.alloc (.cells #[v] t)).cell? ⟨W.heap.size, 0, none⟩ = some v ∧ (W.alloc (.cells #[v] t)).frozen? ⟨W.heap.size, 0, none⟩ = false :=
  ⟨cell_block (block_new1 W _ rfl) rfl, frozen_of_row _ _ _ _ _ (block_new1 W _ rfl)⟩
theorem cell_alloc_l {W : World} {a : Addr} {v : Value} (o : Obj) (h : W.cell? a = some v) : (W.alloc o).cell? a = some v := cell_kept h (World.grownBy_alloc W o none) (fun r e => by cases e)
theorem frozen_alloc_l {W : World} {a : Addr} {v : Value} (o : Obj) (h : W.cell? a = some v) (hf : W.frozen? a = false) : (W.alloc o).frozen? a = false := (frozen_kept h (World.grownBy_alloc W o none) (fun r e => by cases e)).trans hf
theorem chunkV_sli {w W : World} {A : Option Addr} {l : List Int} {b off : Nat} (hA : SlI W A l) (hAe : l ≠ [] → A = some ⟨b, off, none⟩) (k j : Nat) (hne : l ≠ []) : SlI W (some ⟨b, off + j * k, none⟩) (chunkJ l k j) := fun i x hi => by
  obtain rfl := hAe hne
  have h1 : l[j * k + i]? = some x := by
    unfold chunkJ at hi
    rw [List.getElem?_take] at hi
    split at hi
    · rwa [List.getElem?_drop] at hi
    · cases hi
  obtain ⟨b', off', e, h2, h3⟩ := hA _ _ h1
  obtain ⟨rfl, rfl⟩ : b = b' ∧ off = off' := by simpa using e
  exact ⟨b, _, rfl, h2, by rw [← Nat.add_assoc] at h3; exact h3⟩
set_option maxRecDepth 100000 in
set_option maxHeartbeats 2000000 in
theorem c_climbs (A : Option Addr) (c : Nat) (l : List Int) (hlen : l.length ≤ 1000) (lc : l.length ≤ c) (cm : c ≤ 9223372036854775807) (hB : ∀ x ∈ l, 0 ≤ x ∧ x ≤ 1000) (k : Nat) (hk : 1 ≤ k ∧ k ≤ 1000) (w : World) (hA : SlI w A l) :
    Calls Try.prog 74 #[.slice A l.length c, .int .i64 k] w fun e w' => e = .returned (.int .i64 (climbsL l k)) ∧ Below w.heap.size w w' := by
  refine (callsIn_wide (n := 3)).1 ?_
  obtain ⟨b, off, hAe⟩ : ∃ b off, l ≠ [] → A = some ⟨b, off, none⟩ := by
    by_cases hz : l = []
    · exact ⟨0, 0, fun h => absurd hz h⟩
    · have h0 : 0 < l.length := List.length_pos_iff.2 hz
      obtain ⟨b, off, e, _⟩ := hA 0 _ (List.getElem?_eq_getElem h0)
      exact ⟨b, off, fun _ => e⟩
  have HA := hid hA; have HE := hid hAe; have HB := hid hB
  clear hA hAe hB
  refine callsIn_of_wp_marks Try.func74 rfl trivial ?_ rfl
  simp only [Try.ntmps74, List.size_toArray, List.length_cons, List.length_nil, Nat.reduceAdd, Nat.reduceSub, Array.replicate_succ, Array.replicate_zero, List.push_toArray, List.append_toArray, List.nil_append, List.cons_append]
  gi_wp2_with (refine ⟨trivial, ?_⟩; gi_at_call 96; refine (chunk_in _ _ trivial rfl _ _ _ k hk _).mono ?_; rintro e w' ⟨rfl, rfl⟩)
  have hs := cell_new_l w (.int .i64 0) 2
  have hb1 := cell_new_l (w.alloc (.cells #[.int .i64 0] 2)) (.slice A l.length c) 73
  have hb2 := cell_new_l ((w.alloc (.cells #[.int .i64 0] 2)).alloc (.cells #[.slice A l.length c] 73)) (.int .i64 k) 3
  simp only [World.size_alloc] at hb1 hb2
  have hB0 : Below w.heap.size w (((w.alloc (.cells #[.int .i64 0] 2)).alloc (.cells #[.slice A l.length c] 73)).alloc (.cells #[.int .i64 k] 3)) := (((Below.refl _ w).alloc (Nat.le_refl _) _).alloc (by simp) _).alloc (by simp; omega) _
  refine wpIn_rangeFunc_ownF (F := Fence.wide) (n := 3) (ps := #[10]) rfl (by decide) (gf := 117) (lb := #[.pointer (some ⟨w.heap.size + 1, 0, none⟩), .pointer (some ⟨w.heap.size + 1 + 1, 0, none⟩)]) rfl trivial (enters_of Try.func117 (by kernel_rfl) rfl)
    (chunk_stops Fence.wide (3 - 1) trivial rfl (by decide) (w.heap.size + 1) (w.heap.size + 1 + 1) w.heap.size A c k b off l hk (by omega) lc cm _ ⟨by simp, by omega⟩ ⟨by simp, by omega⟩ (cell_alloc_l _ hb1.1) hb2.1 HE.out) (fun h1 h2 => h1.trans h2) (fun W lq o o' hl _ _ _ => KeepB.putObj W lq o' hl) (Below.refl _ _) (fun _ => rfl)
    (fun pre W => ((∀ x ∈ pre, True) ∧ W.cell? ⟨w.heap.size, 0, none⟩ = some (.int .i64 (rungs l k (pre.map fun x => min x (chunkN l.length k - 1)))) ∧ W.frozen? ⟨w.heap.size, 0, none⟩ = false) ∧ Below w.heap.size w W)
    (fun _ _ _ => False)
    (OwnFrom.and (Own.from (fun s A B row hs hg hr => ⟨hs.1, cell_kept hs.2.1 hg hr, (frozen_kept hs.2.1 hg hr).trans hs.2.2⟩) _) (ownFrom_below (Nat.le_refl _) (by simp; omega)))
    (fun _ _ _ _ _ hs _ _ => hs)
    ⟨⟨fun _ _ => trivial, cell_alloc_l _ (cell_alloc_l _ hs.1), frozen_alloc_l _ (cell_alloc_l _ hs.1) (frozen_alloc_l _ hs.1 hs.2)⟩, hB0⟩
    (fun x => { tmps := #[.slice A l.length c, .int .i64 k, undef, undef, .int .i64 0, .pointer (some ⟨w.heap.size, 0, none⟩), chunkV b off l.length k x, .slice A l.length c, .int .i64 k, .func (.func 117) #[] #[.pointer (some ⟨w.heap.size + 1, 0, none⟩), .pointer (some ⟨w.heap.size + 1 + 1, 0, none⟩)], chunkV b off l.length k x, undef, undef, undef, undef, undef, undef], defers := [] }) ?assign ?body ?done ?stop
  case assign =>
    intro lq x W K hK
    gi_wp2
    exact hK
  case body =>
    rintro lq pre x W ⟨⟨_, hc, hf⟩, hB⟩ hpre
    obtain ⟨N, hN⟩ : ∃ N, N = chunkN l.length k := ⟨_, rfl⟩
    have hx : min x (N - 1) < N := by rw [hN]; omega
    have hlt := (chunkN_lt (n := l.length) (by omega : 0 < k) (min x (N - 1))).1 (by rw [← hN]; exact hx)
    have hNl : N ≤ 1000 := by
      rcases Nat.eq_zero_or_pos N with h | h
      · omega
      · have h1 := (chunkN_lt (n := l.length) (by omega : 0 < k) (N - 1)).1 (by rw [← hN]; omega)
        have h2 : (N - 1) * 1 ≤ (N - 1) * k := Nat.mul_le_mul_left _ hk.1
        omega
    have hne : l ≠ [] := by rintro rfl; simp at hlt
    have hv : chunkV b off l.length k x = .slice (some ⟨b, off + min x (N - 1) * k, none⟩) (chunkJ l k (min x (N - 1))).length (chunkJ l k (min x (N - 1))).length := by
      unfold chunkV
      rw [← hN]
      have : (chunkJ l k (min x (N - 1))).length = min k (l.length - min x (N - 1) * k) := by simp [chunkJ]
      rw [this]
    have hS := hid (chunkV_sli (w := w) (HA.out.below hB (Nat.le_refl _)) HE.out k (min x (N - 1)) hne)
    have HCB : Hid (∀ y ∈ chunkJ l k (min x (N - 1)), 0 ≤ y ∧ y ≤ 1000) := chunkJ_b HB.out k _
    have hl1 : 0 < (chunkJ l k (min x (N - 1))).length := by simp [chunkJ]; omega
    have hl2 : (chunkJ l k (min x (N - 1))).length ≤ 1048576 := by simp [chunkJ]; omega
    have hr := rungs_b (by decide : (0 : Int) ≤ 1000) HB.out k (pre.map fun x => min x (chunkN l.length k - 1))
    rw [List.length_map] at hr
    have hsn := rungs_snoc l k (pre.map fun x => min x (chunkN l.length k - 1)) (min x (N - 1))
    have hmp : (pre ++ [x]).map (fun x => min x (chunkN l.length k - 1)) = pre.map (fun x => min x (chunkN l.length k - 1)) ++ [min x (N - 1)] := by rw [List.map_append, ← hN]; rfl
    have HMP := hid (hmp.symm ▸ hsn)
    rw [hv]
    obtain ⟨r, hrr⟩ : ∃ r, r = rungs l k (pre.map fun x => min x (chunkN l.length k - 1)) := ⟨_, rfl⟩
    rw [← hrr] at hc hr HMP
    obtain ⟨cl, hcl⟩ : ∃ cl, cl = chunkJ l k (min x (N - 1)) := ⟨_, rfl⟩
    rw [← hcl] at hS HCB hl1 hl2 HMP ⊢
    have hmb := maxA_b HCB.out 0 (by omega) (by omega)
    have HCM : Hid (∀ W' : World, SlI W' (some ⟨b, off + min x (N - 1) * k, none⟩) cl → Calls Try.prog 97 #[.slice (some ⟨b, off + min x (N - 1) * k, none⟩) cl.length cl.length] W' fun e w' => e = .returned (.int .i64 (maxA 0 cl)) ∧ W' = w') := fun W' h => c_max _ _ cl hl1 hl2 (fun y hy => by have := HCB.out y hy; omega) W' h
    obtain ⟨m, hm⟩ : ∃ m, m = maxA 0 cl := ⟨_, rfl⟩
    rw [← hm] at HCM hmb HMP
    obtain ⟨q, hq⟩ : ∃ q, q = off + min x (N - 1) * k := ⟨_, rfl⟩
    rw [← hq] at HCM hS ⊢
    have hb1 : 0 ≤ r + 2 * m ∧ r + 2 * m ≤ 3000000 := by omega
    clear hm hcl hrr hmp hsn hv hlt hx hNl hne hl1 hl2 hq
    have hmx : Try.prog.follows .mixedOrders = true := by kernel_rfl
    have HBW := hid hB
    clear hB
    gi_wp2
    gi_region_with_o (refine ⟨trivial, ?_⟩; gi_at_call 97; refine (CallsIn.inRound lq (callsIn_wide.2 (HCM.out _ (hS.out.below (below_drewN _ W 1) (Nat.le_refl _))))).mono ?_; rintro e w' ⟨rfl, rfl⟩)
    all_goals
      gi_wp2
      have ew1 : IntKind.i64.wrap (2 * m) = 2 * m := by simp [IntKind.wrap, IntKind.bits, IntKind.signed]; omega
      have ew2 : IntKind.i64.wrap (r + 2 * m) = r + 2 * m := by simp [IntKind.wrap, IntKind.bits, IntKind.signed]; omega
      try rw [ew1, ew2]
      refine ⟨(KeepsOthers.drew W).trans (KeepsOthers.setCell _ _ _), (KeepB.drewN W 1).trans (KeepB.setCell _ 0 _), ⟨⟨fun _ _ => trivial, ?_, ?_⟩, ?_⟩⟩
      · rw [HMP.out]
        exact World.cell?_setCell_same' _ _ _ (by show (W.cell? _).isSome = true; rw [hc]; rfl)
      · rw [World.frozen?_setCell]; exact hf
      · exact ((HBW.out.trans (below_drewN w.heap.size W 1))).setCell (p := ⟨w.heap.size, 0, none⟩) (Nat.le_refl _) _
  case done =>
    rintro D ys W hD rfl ⟨⟨_, hc, _⟩, hB⟩ hK
    have e : (List.range (chunkN l.length k)).map (fun x => min x (chunkN l.length k - 1)) = List.range (chunkN l.length k) := by
      apply List.ext_getElem
      · simp
      · intro i h1 h2; simp at h1 h2 ⊢; omega
    rw [e] at hc
    have hc : W.cell? ⟨w.heap.size, 0, none⟩ = some (.int .i64 (climbsL l k)) := hc
    gi_wp2
    refine ⟨by simp, .inl ⟨_, _, rfl, run_takeDeferred hK, ?_⟩⟩
    exact ⟨_, results_tmp rfl _ _ _, rfl, hB.trans (belowK_b (w := w) (Nat.le_refl _) W D _ _ (by simp at hD; omega) hK rfl rfl)⟩
  case stop =>
    rintro D c pre W _ _ h _
    exact h.elim
end Go.Proofs.Ytfbgldkdlmipoaa

/- each over places, at a function value. -/
namespace Go.Proofs.Ytfbgldkdlmipoaa
open Go.RowKit
set_option linter.unusedSimpArgs false
set_option linter.unusedVariables false

theorem owns_belowE {w w' : World} {base : Nat} {e : TypeId} {size : Nat} {v : Value} {n : Nat} {xs : List Value} (h : w.ownsRow base e size v n xs) (hb : Below w.heap.size w w') : w'.ownsRow base e size v n xs :=
  h.kept (row := none) ⟨hb.os, hb.tape, hb.output, hb.size, fun k hk _ => hb.block k hk⟩ (Classical.em _)
theorem cell_one_newE (W : World) (a : Value) (T : TypeId) : ∀ j u, [a][j]? = some u → (W.alloc (.cells #[a] T)).cell? ((⟨W.heap.size, 0, none⟩ : Addr).add j) = some u := World.news_of_block (block_new1 W (.cells #[a] T) rfl)
/-- A function value that turns the places of a list, in all worlds above a world. -/
def TurnsPI (g : Nat) (fst cap : Array Value) (f : Int × Int → Int) (l : List (Int × Int)) (w : World) : Prop :=
  ∀ (W : World) (p : Int × Int), p ∈ l → Below w.heap.size w W → Calls Try.prog g (fst ++ #[.agg #[.int .i8 p.1, .int .i8 p.2]] ++ cap) W fun e w' => e = .returned (.int .i64 (f p)) ∧ Below W.heap.size W w'
set_option maxHeartbeats 800000 in
set_option maxRecDepth 100000 in
theorem c_eachPI (g : Nat) (fst cap : Array Value) (eg : ∀ args w, (callFunc g args).run Try.prog w = .ok (.enter g args) w) (f : Int × Int → Int) (A : Option Addr) (c : Nat) (l : List (Int × Int)) (hlen : l.length ≤ 1048576) (w : World) (hA : PairsAt .i8 .i8 w A l) (hf : TurnsPI g fst cap f l w) :
    Calls Try.prog 75 #[.slice A l.length c, .func (.func g) fst cap] w fun e w' => ∃ v, e = .returned v ∧ Below w.heap.size w w' ∧ w'.ownsRow w.heap.size 2 1 v (l.map f).length (icells (l.map f)) := by
  obtain ⟨i0, hi, hz0, hz1, hz2⟩ := info_parts Try.infoI64
  have HF := hid hf; clear hf
  have HA := hid hA; clear hA
  go_enter Try.func75, Try.ntmps75
  go_wp2_with fail
  have HB0 : Hid (Below w.heap.size w w) := Below.refl _ _
  go_loopw [5, 10] (fun v i wr => ∃ k : Nat, k ≤ l.length ∧ i = .int .i64 k ∧ Hid (Below w.heap.size w wr) ∧ Hid (wr.ownsRow w.heap.size 2 1 v ((l.take k).map f).length (icells ((l.take k).map f)))) (fun _ i _ => l.length - (intOf i).toNat)
  case atStart => exact ⟨0, by omega, rfl, HB0, World.ownsRow_nil _ _ _ _⟩
  case round =>
    obtain ⟨k, hk, rfl, hb, hO⟩ := hrel
    by_cases hkl : k < l.length
    · have hd : decide ((k : Int) < (l.length : Int)) = true := decide_eq_true (by omega)
      have hkI : (k : Int) < (l.length : Int) := by omega
      have hk0 : (0 : Int) ≤ (k : Int) := by omega
      have hp := List.getElem?_eq_getElem hkl
      obtain ⟨⟨p1, p2⟩, hn⟩ : ∃ n, n = l[k] := ⟨_, rfl⟩
      rw [← hn] at hp
      obtain ⟨b, off, rfl, r1, r2, r3⟩ := HA.out k _ hp
      have c0 := (hb.out.cell (p := ⟨b, _, none⟩) r1).trans r2
      have c1 := (hb.out.cell (p := ⟨b, _, none⟩) r1).trans r3
      dsimp only at c0 c1
      have b1 : Below wr.heap.size wr (wr.alloc (.cells #[.int .i8 p1, .int .i8 p2] 50)) := (Below.refl _ wr).alloc (Nat.le_refl _) _
      have HC := hid (HF.out (wr.alloc (.cells #[.int .i8 p1, .int .i8 p2] 50)) (p1, p2) (by rw [hn]; exact List.getElem_mem hkl) (hb.out.trans (b1.mono hb.out.size)))
      have HO1 := hid (owns_belowE hO.out b1)
      have HB1 := hid (hb.out.trans (b1.mono hb.out.size))
      have HY : Hid ((l.take (k + 1)).map f = (l.take k).map f ++ [f (p1, p2)]) := by
        show _ = _
        rw [List.take_succ_eq_append_getElem hkl, List.map_append, ← hn]; rfl
      have hle : ((l.take k).map f).length ≤ 1048576 := by rw [List.length_map, List.length_take]; omega
      have HLE := hid hle
      clear hp hn r2 r3 b1
      go_wp2_with (first
        | (go_at_fn g; refine HC.out.mono ?_; rintro e w2 ⟨rfl, hb2⟩; have hb2 : Below _ _ w2 := hb2)
        | ((with_reducible refine gate (N := 19) rfl ?_); refine wpList_append_own _ rfl (.tmp 14) (.tmp 18) 73 rfl w.heap.size 2 i0 (.int .i64 0) 1 8 Try.underlying73 hi hz0 hz1 hz2 rfl (by decide) _ _ _ rfl ((owns_belowE HO1.out hb2).alloc _) ⟨w2.heap.size, 0, none⟩ 1 1 [.int .i64 (f (p1, p2))] rfl rfl (cell_one_newE w2 _ _) (by simp [Value.oneCell']) (Nat.le_trans (Nat.add_le_add_right HLE.out 1) (by decide)) (by omega) (Nat.le_trans HB1.out.size (Nat.le_trans hb2.size (by simp))) ?_; intro v' w3 hown3 hgrow _))
      have b2 := HB1.out.trans (hb2.mono HB1.out.size)
      refine ⟨⟨k + 1, by omega, by go_num, (b2.alloc b2.size _).grown hgrow (by have := b2.size; simp; omega) (fun k hk => ((owns_belowE HO1.out hb2).lt k hk).1), ?_⟩, by simp [intOf]; omega⟩
      show World.ownsRow _ _ _ _ _ _ _
      rw [HY.out, List.length_append]
      unfold icells
      rw [List.map_append]; exact hown3
    · obtain rfl : k = l.length := by omega
      have hd : decide ((l.length : Int) < (l.length : Int)) = false := decide_eq_false (by omega)
      rw [List.take_length] at hO
      go_wp2_with fail
      go_ret
      exact ⟨_, rfl, hb.out, hO.out⟩
end Go.Proofs.Ytfbgldkdlmipoaa

/- ClimbTo, the program's and the reference's. -/
namespace Go.Proofs.Ytfbgldkdlmipoaa
open Go.RowKit
set_option linter.unusedSimpArgs false
set_option linter.unusedVariables false

set_option maxRecDepth 100000 in
theorem c_climb (r : Rf) (hr : r.Ok) (c t : Int) (hc : 0 ≤ c ∧ c ≤ 7) (hh : 1 ≤ r.h ∧ r.h ≤ 8) (w : World) : Calls Try.prog 76 #[.agg (rcells r), .agg #[.int .i8 c, .int .i8 t]] w fun e w' => e = .returned (.int .i64 (r.h - c)) ∧ Below w.heap.size w w' := by
  obtain ⟨c1, c2⟩ := hc
  obtain ⟨h1, h2⟩ := hh
  go_enter Try.func76, Try.ntmps76
  go_wp2_with fail
  go_ret
  exact ⟨rfl, ((Below.refl _ w).alloc (Nat.le_refl _) _).alloc (by simp) _⟩
set_option maxRecDepth 100000 in
theorem c_l04Climb (r : Rf) (hr : r.Ok) (b : Nat) (c t : Int) (hc : 0 ≤ c ∧ c ≤ 7) (hh : 1 ≤ r.h ∧ r.h ≤ 8) (w : World) (hb : w.heap[b]? = some (.cells (rcells r) 31 (0,0))) : Calls Try.prog 72 #[.pointer (some ⟨b,0,none⟩), .agg #[.int .i8 c, .int .i8 t]] w fun e w' => e = .returned (.int .i64 (r.h - c)) ∧ Below w.heap.size w w' := by
  have c1 := cell_block hb (rc1 r)
  have hlt := block_lt hb
  have hlt' : b < w.heap.size + 1 := by omega
  clear hb
  have l0 : w.heap.size < w.heap.size + 1 := by omega
  obtain ⟨q1, q2⟩ := hc
  obtain ⟨h1, h2⟩ := hh
  go_enter Try.func72, Try.ntmps72
  go_wp2_with fail
  refine wp_region_ext (w.heap.size + 1) (by kernel_rfl) (by kernel_rfl) ?_
  repeat (go_big_quiet_step (fail))
  refine wpQuiet_nil ?_
  intro x
  go_wp2_with fail
  go_ret
  exact ⟨rfl, ((Below.refl _ w).alloc (Nat.le_refl _) _).trans (x.h.mono (by omega))⟩
/-- What ClimbTo returns. -/
def climbV (r : Rf) (c t : Int) : Int := if codeOf (validB r) (isPl r c t) = 0 then r.h - c else 0
theorem codeL_one (v g : Bool) : codeL v g 1 = codeOf v g := by simp [codeL]
theorem allPl_one (r : Rf) (c t : Int) : allPl r [(c, t)] = isPl r c t := by simp [allPl]
theorem SlP_one {w : World} {b : Nat} {c t : Int} {T : TypeId} (h : w.heap[b]? = some (.cells #[.int .i8 c, .int .i8 t] T (0,0))) : SlP w (some ⟨b, 0, none⟩) [(c, t)] := fun j p hj => by
  cases j with
  | zero =>
    simp at hj; subst hj
    exact ⟨b, 0, rfl, block_lt h, cell_block h rfl, cell_block h rfl⟩
  | succ j => simp at hj
theorem c_asked1 (r : Rf) (hr : r.Ok) (b : Nat) (Ac : Option Addr) (cc : Nat) (bb : Nat) (n : Nat) (c t : Int) (hc : -128 ≤ c ∧ c ≤ 127) (ht : -128 ≤ t ∧ t ≤ 127) (k : Int) (hk : codeOf (validB r) (isPl r c t) = k) (w : World) (hb : w.heap[b]? = some (.cells (rcells r) 31 (0,0)))
    {T : TypeId} (h : w.heap[bb]? = some (.cells #[.int .i8 c, .int .i8 t] T (0,0))) :
    Calls Try.prog 53 #[.pointer (some ⟨b,0,none⟩), .slice Ac 0 cc, .slice (some ⟨bb, 0, none⟩) 1 n, .bool true] w fun e w' => e = .returned (.int .i64 k) ∧ Below w.heap.size w w' := by
  have := c_l04Asked r hr b Ac cc (some ⟨bb, 0, none⟩) n [(c, t)] (fun p hp => by simp at hp; subst hp; exact ⟨hc, ht⟩) (by simp) true w hb (SlP_one h)
  rw [Bool.true_and, allPl_one] at this
  have e : codeL (validB r) (isPl r c t) [(c, t)].length = k := (codeL_one _ _).trans hk
  rw [e] at this
  exact this
end Go.Proofs.Ytfbgldkdlmipoaa

/- A region that draws its order with one operation of unforeknown result, guards among the others. -/
namespace Go.Proofs.Ytfbgldkdlmipoaa
open Go.RowKit
set_option linter.unusedSimpArgs false
set_option linter.unusedVariables false
/-- The slot on which an operation's guard hangs. -/
def gslot (l : List Oper) (o : Oper) : List Nat := match o.guard with
  | none => []
  | some (j, _) => match l[j]? with
    | some oj => oj.dst.toList
    | none => []
def eyesG (l : List Oper) (o : Oper) : List Nat := eyes o ++ gslot l o
theorem eyesG_l {l : List Oper} {o : Oper} {t : Nat} (h : t ∈ eyes o) : t ∈ eyesG l o := List.mem_append.2 (.inl h)
/-- As 'lawB', guards allowed, whose slots are written ahead. -/
def lawG (l : List Oper) (n : Nat) : Bool :=
  l.zipIdx.all fun x => notSelect x.1 && (match x.1.dst with | some d => decide (d < n) | none => true) &&
    (l.zipIdx.all fun y => (y.2 == x.2) || (match y.1.dst with | none => true | some d => x.1.dst != some d)) &&
    (eyesG l x.1).all fun t => l.zipIdx.all fun y => y.1.dst != some t || (decide (y.2 < x.2) && x.1.after.toList.any fun e => Region.binds .any e && e.on == y.2)
theorem lawG_of {l : List Oper} {n : Nat} (h : lawG l n = true) (i : Nat) (o : Oper) (ho : l[i]? = some o) :
    notSelect o = true ∧ (∀ d, o.dst = some d → d < n) ∧ (∀ j o', l[j]? = some o' → j ≠ i → ∀ d, o'.dst = some d → o.dst ≠ some d) ∧
    (∀ t ∈ eyesG l o, ∀ j o', l[j]? = some o' → o'.dst = some t → j < i ∧ ∃ e ∈ o.after, Region.binds .any e = true ∧ e.on = j) := by
  unfold lawG at h
  rw [List.all_eq_true] at h
  have h1 := h (o, i) (by rw [List.mk_mem_zipIdx_iff_getElem?]; exact ho)
  simp only [Bool.and_eq_true, List.all_eq_true] at h1
  obtain ⟨⟨⟨h3, h4⟩, h5⟩, h6⟩ := h1
  refine ⟨h3, ?_, ?_, ?_⟩
  · intro d hd; rw [hd] at h4; simpa using h4
  · intro j o' hj hne d hd
    have := h5 (o', j) (by rw [List.mk_mem_zipIdx_iff_getElem?]; exact hj)
    simp only [hd, Bool.or_eq_true, beq_iff_eq, hne, false_or] at this
    simpa using this
  · intro t ht j o' hj hd
    have := h6 t ht (o', j) (by rw [List.mk_mem_zipIdx_iff_getElem?]; exact hj)
    simp only [hd, bne_self_eq_false, Bool.false_or, Bool.and_eq_true, decide_eq_true_eq, List.any_eq_true, beq_iff_eq, Array.mem_toList_iff] at this
    exact this
theorem wanted_same {l : List Oper} {o : Oper} {a a' : Act} (hs : a.tmps.size = a'.tmps.size) (h : ∀ t ∈ eyesG l o, a.tmps.getD t undef = a'.tmps.getD t undef) : Region.wanted o (yielded l.toArray a.tmps) = Region.wanted o (yielded l.toArray a'.tmps) := by
  unfold Region.wanted
  cases hg : o.guard with
  | none => rfl
  | some g =>
    obtain ⟨j, b⟩ := g
    dsimp only
    have e : yielded l.toArray a.tmps j = yielded l.toArray a'.tmps j := by
      unfold yielded
      simp only [List.getElem?_toArray]
      cases hl : l[j]? with
      | none => rfl
      | some oj =>
        simp only [Option.bind_some]
        cases hd : oj.dst with
        | none => rfl
        | some d =>
          have h1 := h d (List.mem_append.2 (.inr (by unfold gslot; rw [hg]; dsimp only; rw [hl]; dsimp only; rw [hd]; simp)))
          have h2 : a.tmps[d]? = a'.tmps[d]? := by
            rw [Array.getD_eq_getD_getElem?, Array.getD_eq_getD_getElem?] at h1
            rcases Nat.lt_or_ge d a.tmps.size with hlt | hlt
            · rw [Array.getElem?_eq_getElem hlt, Array.getElem?_eq_getElem (hs ▸ hlt)] at h1 ⊢
              simpa using h1
            · rw [Array.getElem?_eq_none (xs := a.tmps) hlt, Array.getElem?_eq_none (xs := a'.tmps) (hs ▸ hlt)]
          simp only [Option.bind_some, h2]
    rw [e]
theorem stepsS_keyG {P : Program} {ops : Array Oper} {C : World → Prop} {l : List Oper} {vs : List Value} {a aσ : Act} (hst : StepsS P ops C l vs a) (hfin : putsS l vs a = aσ) (hd1 : ∀ (i : Nat) (o : Oper) (d : Nat), l[i]? = some o → o.dst = some d → d < a.tmps.size)
    (hone : ∀ (i : Nat) (o : Oper) (j : Nat) (o' : Oper) (d : Nat), l[i]? = some o → l[j]? = some o' → i ≠ j → o.dst = some d → o'.dst ≠ some d) (i : Nat) (o : Oper) (ho : l[i]? = some o) :
    ∃ v ai, YieldsIn P ops C o v ai ∧ (∀ d, o.dst = some d → v = aσ.tmps.getD d undef) ∧ (∀ t : Nat, (∀ (j : Nat) (o' : Oper), l[j]? = some o' → o'.dst ≠ some t) → ai.tmps.getD t undef = a.tmps.getD t undef) ∧
      (∀ (t j : Nat) (o' : Oper), j < i → l[j]? = some o' → o'.dst = some t → ai.tmps.getD t undef = aσ.tmps.getD t undef) ∧ ai.tmps.size = a.tmps.size := by
  obtain ⟨v, ai, k1, k2, k3, k4⟩ := stepsS_at _ _ _ _ _ hst ho
  rw [hfin] at k2
  have hdrop : ∀ t : Nat, (∀ (j : Nat) (o' : Oper), i < j → l[j]? = some o' → o'.dst ≠ some t) → ∀ o' ∈ l.drop (i + 1), o'.dst ≠ some t := by
    intro t ht o' hm' hd
    obtain ⟨k, hk, rfl⟩ := List.getElem_of_mem hm'
    have hk2 := List.getElem?_eq_getElem hk
    rw [List.getElem?_drop] at hk2
    exact ht _ _ (by omega) hk2 hd
  refine ⟨v, ai, k1, ?_, ?_, ?_, k3⟩
  · intro d hd
    rw [k2, putsS_other d _ _ _ (hdrop d fun j o' hj hl => hone i o j o' d ho hl (by omega) hd), hd, put_here _ _ _ (by rw [k3]; exact hd1 i o d ho hd)]
  · intro t ht
    exact k4 t fun j o' _ hl hd => ht j o' hl hd
  · intro t j o' hj hl hd
    have hne : ∀ (j' : Nat) (o'' : Oper), l[j']? = some o'' → j' ≠ j → o''.dst ≠ some t := fun j' o'' hl' hne => hone j o' j' o'' t hl hl' (Ne.symm hne) hd
    rw [k2, putsS_other t _ _ _ (hdrop t fun j' o'' hj' hl' => hne j' o'' hl' (by omega)), put_other _ _ _ _ (hne i o ho (by omega))]
set_option maxHeartbeats 1600000 in
theorem wp_region_wildY {P : Program} {id : Nat} {Q : Exit → Act → World → Prop} {a0 : Act} {W : World} {l : List Oper} (B n : Nat) (aσ : Act) (oc : Oper) (R : Value → World → Prop) (D : World → World → Prop) (hD : ∀ w, D w w)
    (hm : P.follows .mixedOrders = true) (hback : backB l = true) (hn : lawG l a0.tmps.size = true) (hgn : oc.guard = none) (hw : wildB2 l n = true) (hoc : l[n]? = some oc) (hBW : B ≤ W.heap.size)
    (hpre : wpQuiet P l.toArray (fun w' => ∃ x : Ext B W, w' = x.out) (fun a' => a' = aσ) (l.take n) a0)
    (hpre2 : ∀ v w1, R v w1 → wpQuiet P l.toArray (D w1) (fun a' => a' = aσ) (l.take n) a0)
    (hop : ∀ (x : Ext B W) (a : Act) (K : Act → World → Prop) (Q' : Exit → Act → World → Prop), execOp a.eval oc = execOp aσ.eval oc → (∀ v w', R v w' → K (a.put oc.dst v) w') → Oper.wp P oc a x.out K Q')
    (hpost : ∀ v w1, R v w1 → wpQuiet P l.toArray (D w1) (fun a' => ∀ w', D w1 w' → Q .normal a' w') (l.drop (n + 1)) (aσ.put oc.dst v)) :
    (Code.region id l.toArray true).wp P Q a0 W := by
  have hL := fun i o ho => lawG_of hn i o ho
  have hone : ∀ (i : Nat) (o : Oper) (j : Nat) (o' : Oper) (d : Nat), l[i]? = some o → l[j]? = some o' → i ≠ j → o.dst = some d → o'.dst ≠ some d := fun i o j o' d hi hj hne hd => (hL j o' hj).2.2.1 i o hi hne d hd
  have hnl : n < l.length := (List.getElem?_eq_some_iff.1 hoc).1
  have htake : ∀ (i : Nat) (o : Oper), (l.take n)[i]? = some o → l[i]? = some o ∧ i < n := fun i o h => by
    rw [List.getElem?_take] at h
    split at h
    · exact ⟨h, by assumption⟩
    · cases h
  have hdropg : ∀ (i : Nat) (o : Oper), (l.drop (n + 1))[i]? = some o → l[n + 1 + i]? = some o := fun i o h => by rw [List.getElem?_drop] at h; exact h
  obtain ⟨vs0, hst0, hfin0⟩ := stepsS_of _ _ hpre
  have hsize : aσ.tmps.size = a0.tmps.size := by rw [← hfin0, putsS_size]
  have hdef : aσ.defers = a0.defers := by rw [← hfin0, putsS_defers]
  have key0 := fun i o ho => stepsS_keyG hst0 hfin0 (fun i o d h hd => (hL i o (htake i o h).1).2.1 d hd) (fun i o j o' d h h' hne hd => hone i o j o' d (htake i o h).1 (htake j o' h').1 hne hd) i o ho
  have hout0 : ∀ t : Nat, (∀ (i : Nat) (o : Oper), i < n → l[i]? = some o → o.dst ≠ some t) → aσ.tmps.getD t undef = a0.tmps.getD t undef := by
    intro t ht
    rw [← hfin0, putsS_other]
    intro o' hm' hd
    obtain ⟨k, hk, rfl⟩ := List.getElem_of_mem hm'
    have hk2 := htake k _ (List.getElem?_eq_getElem hk)
    exact ht k _ hk2.2 hk2.1 hd
  -- what stands when the call has been made
  let Post : World → Act → Prop := fun w aτ => ∃ v w0 vs, R v w0 ∧ D w0 w ∧ StepsS P l.toArray (D w0) (l.drop (n + 1)) vs (aσ.put oc.dst v) ∧ putsS (l.drop (n + 1)) vs (aσ.put oc.dst v) = aτ ∧ (∀ w', D w0 w' → Q .normal aτ w') ∧ ∀ d, oc.dst = some d → aτ.tmps.getD d undef = v
  have hPost : ∀ w aτ, Post w aτ → aτ.tmps.size = a0.tmps.size ∧ aτ.defers = a0.defers ∧ (∀ t : Nat, (∀ (i : Nat) (o : Oper), l[i]? = some o → o.dst ≠ some t) → aτ.tmps.getD t undef = a0.tmps.getD t undef) ∧
      (∀ (i : Nat) (o : Oper) (d : Nat), l[i]? = some o → i < n → o.dst = some d → aτ.tmps.getD d undef = aσ.tmps.getD d undef) := by
    rintro w aτ ⟨v, w0, vs, _, _, h1, h2, _, _⟩
    have hoth : ∀ t : Nat, (∀ (i : Nat) (o : Oper), n < i → l[i]? = some o → o.dst ≠ some t) → aτ.tmps.getD t undef = (aσ.put oc.dst v).tmps.getD t undef := by
      intro t ht
      rw [← h2, putsS_other]
      intro o' hm' hd
      obtain ⟨k, hk, rfl⟩ := List.getElem_of_mem hm'
      exact ht _ _ (by omega) (hdropg k _ (List.getElem?_eq_getElem hk)) hd
    refine ⟨by rw [← h2, putsS_size, put_size, hsize], by rw [← h2, putsS_defers, put_defers', hdef], fun t ht => ?_, fun i o d hi hin hd => ?_⟩
    · rw [hoth t fun i o _ hi => ht i o hi, put_other _ _ _ _ (ht n oc hoc), hout0 t fun i o _ hi => ht i o hi]
    · rw [hoth d fun j o' hj hj' => hone i o j o' d hi hj' (by omega) hd, put_other _ _ _ _ (hone i o n oc d hi hoc (by omega) hd)]
  refine wp_region_inv hm hback (fun L a w => a.defers = a0.defers ∧ a.tmps.size = a0.tmps.size ∧ (∀ t : Nat, (∀ (i : Nat) (o : Oper), l[i]? = some o → o.dst ≠ some t) → a.tmps.getD t undef = a0.tmps.getD t undef) ∧
    (∀ (j : Nat) (oj : Oper), l[j]? = some oj → L j = true → ∀ e ∈ oj.after, Region.binds .any e = true → L e.on = true) ∧
    (L n = false → (∃ x : Ext B W, w = x.out) ∧ ∀ (i : Nat) (o : Oper) (d : Nat), l[i]? = some o → L i = true → o.dst = some d → a.tmps.getD d undef = aσ.tmps.getD d undef) ∧
    (L n = true → ∃ aτ, Post w aτ ∧ ∀ (i : Nat) (o : Oper) (d : Nat), l[i]? = some o → L i = true → o.dst = some d → a.tmps.getD d undef = aτ.tmps.getD d undef)) ?_ ?_ ?_
  · intro L hL0
    exact ⟨rfl, rfl, fun _ _ => rfl, fun j oj hj hLj => (by rw [hL0 j (List.getElem?_eq_some_iff.1 hj).1] at hLj; cases hLj), fun _ => ⟨⟨⟨_, (Below.refl B W).drew⟩, rfl⟩, fun i o d hi hLi => (by rw [hL0 i (List.getElem?_eq_some_iff.1 hi).1] at hLi; cases hLi)⟩, fun hLn => (by rw [hL0 n hnl] at hLn; cases hLn)⟩
  · intro L a w i o ho hLi hafter ⟨i1, i2, i3, i4, i5, i6⟩
    obtain ⟨hns, hd1, hd2, heyes⟩ := hL i o ho
    have hcl : ∀ (j : Nat) (oj : Oper), l[j]? = some oj → plus L i j = true → ∀ e ∈ oj.after, Region.binds .any e = true → plus L i e.on = true := by
      intro j oj hj hLj e he hb
      unfold plus at hLj ⊢
      by_cases hji : j = i
      · subst hji
        rw [ho] at hj
        obtain rfl := Option.some.inj hj
        split
        · rfl
        · exact hafter e he hb
      · rw [if_neg hji] at hLj
        split
        · rfl
        · exact i4 j oj hj hLj e he hb
    rcases Nat.lt_trichotomy i n with hin | hin | hin
    · -- ahead of the call
      cases hLn : L n with
      | false =>
        obtain ⟨⟨x, hx⟩, i7⟩ := i5 hLn
        have ho' : (l.take n)[i]? = some o := by rw [List.getElem?_take, if_pos hin]; exact ho
        obtain ⟨v, ai, hY, hv, hno, hyes, hz⟩ := key0 i o ho'
        have hag : ∀ t ∈ eyesG l o, a.tmps.getD t undef = ai.tmps.getD t undef := by
          intro t ht
          by_cases hex : ∃ (j : Nat) (o' : Oper), l[j]? = some o' ∧ o'.dst = some t
          · obtain ⟨j, o', hj, hd⟩ := hex
            obtain ⟨hji, e, he, hb, hon⟩ := heyes t ht j o' hj hd
            have hLj : L j = true := hon ▸ hafter e he hb
            rw [hyes t j o' hji (by rw [List.getElem?_take, if_pos (by omega)]; exact hj) hd]
            exact i7 j o' t hj hLj hd
          · have hn' : ∀ (j : Nat) (o' : Oper), l[j]? = some o' → o'.dst ≠ some t := fun j o' hj hd => hex ⟨j, o', hj, hd⟩
            rw [i3 t hn', hno t fun j o' hj => hn' j o' (htake j o' hj).1]
        have he : execOp a.eval o = execOp ai.eval o := execOp_congr o (fun c b hc => by rw [notSelect, hc] at hns; cases hns) (eval_eyes fun t ht => hag t (eyesG_l ht))
        have hwd : Region.wanted o (yielded l.toArray a.tmps) = Region.wanted o (yielded l.toArray ai.tmps) := wanted_same (i2.trans hz.symm) hag
        have hY' := hY.of_same he hwd
        rcases hY' with ⟨hw1, hq⟩ | ⟨hw0, hv0⟩
        · rw [if_pos hw1]
          refine Oper.wp_of_quiet (C := fun w' => ∃ x : Ext B W, w' = x.out) (K := fun a' => a' = a.put o.dst v) ⟨x, hx⟩ ?_ ⟨v, hq, rfl⟩
          rintro a' w' ⟨z, rfl⟩ rfl
          refine ⟨(put_defers' _ _ _).trans i1, (put_size _ _ _).trans i2, fun t ht => ?_, hcl, fun _ => ⟨⟨z, rfl⟩, fun j o' d hj hLj hd => ?_⟩, fun hLp => ?_⟩
          · rw [put_other _ _ _ _ (ht i o ho)]; exact i3 t ht
          · by_cases hji : j = i
            · subst hji
              rw [ho] at hj
              obtain rfl := Option.some.inj hj
              rw [hd, put_here _ _ _ (by rw [i2]; exact hd1 d hd)]
              exact hv d hd
            · have hLj' : L j = true := by unfold plus at hLj; rwa [if_neg hji] at hLj
              rw [put_other _ _ _ _ (hd2 j o' hj hji d hd)]; exact i7 j o' d hj hLj' hd
          · unfold plus at hLp; rw [if_neg (by omega), hLn] at hLp; cases hLp
        · subst hv0
          rw [if_neg (by rw [hw0]; decide)]
          obtain ⟨z, rfl⟩ : ∃ z : Ext B W, w = z.out := ⟨x, hx⟩
          refine ⟨(put_defers' _ _ _).trans i1, (put_size _ _ _).trans i2, fun t ht => ?_, hcl, fun _ => ⟨⟨z, rfl⟩, fun j o' d hj hLj hd => ?_⟩, fun hLp => ?_⟩
          · rw [put_other _ _ _ _ (ht i o ho)]; exact i3 t ht
          · by_cases hji : j = i
            · subst hji
              rw [ho] at hj
              obtain rfl := Option.some.inj hj
              rw [hd, put_here _ _ _ (by rw [i2]; exact hd1 d hd)]
              exact hv d hd
            · have hLj' : L j = true := by unfold plus at hLj; rwa [if_neg hji] at hLj
              rw [put_other _ _ _ _ (hd2 j o' hj hji d hd)]; exact i7 j o' d hj hLj' hd
          · unfold plus at hLp; rw [if_neg (by omega), hLn] at hLp; cases hLp
      | true =>
        obtain ⟨aτ, hP, i7⟩ := i6 hLn
        have hP0 := hP
        obtain ⟨p1, p2, p3, p4⟩ := hPost _ _ hP
        obtain ⟨v1, w0, vs1, hR0, hDw, hst1, hfin1, hQ1, hdv1⟩ := hP
        obtain ⟨vs2, hst2, hfin2⟩ := stepsS_of _ _ (hpre2 v1 w0 hR0)
        have ho' : (l.take n)[i]? = some o := by rw [List.getElem?_take, if_pos hin]; exact ho
        obtain ⟨v, ai, hY, hv, hno, hyes, hz⟩ := stepsS_keyG hst2 hfin2 (fun i o d h hd => (hL i o (htake i o h).1).2.1 d hd) (fun i o j o' d h h' hne hd => hone i o j o' d (htake i o h).1 (htake j o' h').1 hne hd) i o ho'
        have hag : ∀ t ∈ eyesG l o, a.tmps.getD t undef = ai.tmps.getD t undef := by
          intro t ht
          by_cases hex : ∃ (j : Nat) (o' : Oper), l[j]? = some o' ∧ o'.dst = some t
          · obtain ⟨j, o', hj, hd⟩ := hex
            obtain ⟨hji, e, he, hb, hon⟩ := heyes t ht j o' hj hd
            have hLj : L j = true := hon ▸ hafter e he hb
            rw [hyes t j o' hji (by rw [List.getElem?_take, if_pos (by omega)]; exact hj) hd, i7 j o' t hj hLj hd]
            exact p4 j o' t hj (by omega) hd
          · have hn' : ∀ (j : Nat) (o' : Oper), l[j]? = some o' → o'.dst ≠ some t := fun j o' hj hd => hex ⟨j, o', hj, hd⟩
            rw [i3 t hn', hno t fun j o' hj => hn' j o' (htake j o' hj).1]
        have he : execOp a.eval o = execOp ai.eval o := execOp_congr o (fun c b hc => by rw [notSelect, hc] at hns; cases hns) (eval_eyes fun t ht => hag t (eyesG_l ht))
        have hwd : Region.wanted o (yielded l.toArray a.tmps) = Region.wanted o (yielded l.toArray ai.tmps) := wanted_same (i2.trans hz.symm) hag
        have hY' := hY.of_same he hwd
        rcases hY' with ⟨hw1, hq⟩ | ⟨hw0, hv0⟩
        · rw [if_pos hw1]
          refine Oper.wp_of_quiet (C := D w0) (K := fun a' => a' = a.put o.dst v) hDw ?_ ⟨v, hq, rfl⟩
          rintro a' w' hDw' rfl
          refine ⟨(put_defers' _ _ _).trans i1, (put_size _ _ _).trans i2, fun t ht => ?_, hcl, fun hLp => ?_, fun _ => ⟨aτ, ⟨v1, w0, vs1, hR0, hDw', hst1, hfin1, hQ1, hdv1⟩, fun j o' d hj hLj hd => ?_⟩⟩
          · rw [put_other _ _ _ _ (ht i o ho)]; exact i3 t ht
          · unfold plus at hLp; rw [if_neg (by omega), hLn] at hLp; cases hLp
          · by_cases hji : j = i
            · subst hji
              rw [ho] at hj
              obtain rfl := Option.some.inj hj
              rw [hd, put_here _ _ _ (by rw [i2]; exact hd1 d hd)]
              exact (hv d hd).trans (p4 j o d ho hin hd).symm
            · have hLj' : L j = true := by unfold plus at hLj; rwa [if_neg hji] at hLj
              rw [put_other _ _ _ _ (hd2 j o' hj hji d hd)]; exact i7 j o' d hj hLj' hd
        · subst hv0
          rw [if_neg (by rw [hw0]; decide)]
          have hDw' := hDw
          refine ⟨(put_defers' _ _ _).trans i1, (put_size _ _ _).trans i2, fun t ht => ?_, hcl, fun hLp => ?_, fun _ => ⟨aτ, ⟨v1, w0, vs1, hR0, hDw', hst1, hfin1, hQ1, hdv1⟩, fun j o' d hj hLj hd => ?_⟩⟩
          · rw [put_other _ _ _ _ (ht i o ho)]; exact i3 t ht
          · unfold plus at hLp; rw [if_neg (by omega), hLn] at hLp; cases hLp
          · by_cases hji : j = i
            · subst hji
              rw [ho] at hj
              obtain rfl := Option.some.inj hj
              rw [hd, put_here _ _ _ (by rw [i2]; exact hd1 d hd)]
              exact (hv d hd).trans (p4 j o d ho hin hd).symm
            · have hLj' : L j = true := by unfold plus at hLj; rwa [if_neg hji] at hLj
              rw [put_other _ _ _ _ (hd2 j o' hj hji d hd)]; exact i7 j o' d hj hLj' hd
    · -- the call
      subst hin
      rw [hoc] at ho
      obtain rfl := Option.some.inj ho
      obtain ⟨⟨x, hx⟩, i7⟩ := i5 hLi
      rw [if_pos (by simp [Region.wanted, hgn])]
      have he : execOp a.eval oc = execOp aσ.eval oc := by
        refine execOp_congr oc (fun c b hc => by rw [notSelect, hc] at hns; cases hns) (eval_eyes fun t ht0 => ?_)
        have ht := eyesG_l (l := l) ht0
        by_cases hex : ∃ (j : Nat) (o' : Oper), l[j]? = some o' ∧ o'.dst = some t
        · obtain ⟨j, o', hj, hd⟩ := hex
          obtain ⟨hji, e, he, hb, hon⟩ := heyes t ht j o' hj hd
          exact i7 j o' t hj (hon ▸ hafter e he hb) hd
        · have hn' : ∀ (j : Nat) (o' : Oper), l[j]? = some o' → o'.dst ≠ some t := fun j o' hj hd => hex ⟨j, o', hj, hd⟩
          rw [i3 t hn', hout0 t fun j o' _ hj => hn' j o' hj]
      subst hx
      refine hop x a _ _ he ?_
      rintro v w' hR
      obtain ⟨vs, hst, hQ⟩ := stepsS_of _ _ (hpost v w' hR)
      have hdv : ∀ d, oc.dst = some d → (putsS (l.drop (i + 1)) vs (aσ.put oc.dst v)).tmps.getD d undef = v := by
        intro d hd
        rw [putsS_other, hd, put_here _ _ _ (by rw [hsize]; exact hd1 d hd)]
        intro o' hm' hd'
        obtain ⟨k, hk, rfl⟩ := List.getElem_of_mem hm'
        exact hone i oc _ _ d hoc (hdropg k _ (List.getElem?_eq_getElem hk)) (by omega) hd hd'
      have hP : Post w' (putsS (l.drop (i + 1)) vs (aσ.put oc.dst v)) := ⟨v, w', vs, hR, hD _, hst, rfl, hQ, hdv⟩
      obtain ⟨_, _, _, p4⟩ := hPost _ _ hP
      refine ⟨(put_defers' _ _ _).trans i1, (put_size _ _ _).trans i2, fun t ht => ?_, hcl, fun hLn => ?_, fun _ => ⟨_, hP, fun j o' d hj hLj hd => ?_⟩⟩
      · rw [put_other _ _ _ _ (ht i oc hoc)]; exact i3 t ht
      · simp [plus] at hLn
      · by_cases hji : j = i
        · subst hji
          rw [hoc] at hj
          obtain rfl := Option.some.inj hj
          rw [hd, put_here _ _ _ (by rw [i2]; exact hd1 d hd), ← hd, hdv d hd]
        · have hLj' : L j = true := by unfold plus at hLj; rwa [if_neg hji] at hLj
          have hjn : j < i := by
            rcases Nat.lt_trichotomy j i with h | h | h
            · exact h
            · exact absurd h hji
            · exfalso
              have : ∀ d t, t = d → i < t → t < l.length → L t = true → False := by
                intro d
                induction d using Nat.strongRecOn with
                | _ d ih =>
                  intro t htd hit htl hLt
                  obtain ⟨e, he', hb, h1, h2⟩ := wildB2_post hw t _ (List.getElem?_eq_getElem htl) hit
                  have h3 := i4 t _ (List.getElem?_eq_getElem htl) hLt e he' hb
                  rcases Nat.eq_or_lt_of_le h1 with h4 | h4
                  · rw [← h4, hLi] at h3; cases h3
                  · exact ih e.on (by omega) e.on rfl h4 (by omega) h3
              exact this _ j rfl h (List.getElem?_eq_some_iff.1 hj).1 hLj'
          rw [put_other _ _ _ _ (hd2 j o' hj hji d hd), i7 j o' d hj hLj' hd, p4 j o' d hj hjn hd]
    · -- behind the call
      have hLn : L n = true := by
        obtain ⟨e, he, hb, h1, h2⟩ := wildB2_post hw i o ho hin
        have h3 := hafter e he hb
        have : ∀ d t, t = d → n ≤ t → t < l.length → L t = true → L n = true := by
          intro d
          induction d using Nat.strongRecOn with
          | _ d ih =>
            intro t htd hit htl hLt
            rcases Nat.eq_or_lt_of_le hit with h4 | h4
            · rw [h4]; exact hLt
            · obtain ⟨e, he', hb, h1, h2⟩ := wildB2_post hw t _ (List.getElem?_eq_getElem htl) h4
              exact ih e.on (by omega) e.on rfl h1 (by omega) (i4 t _ (List.getElem?_eq_getElem htl) hLt e he' hb)
        exact this _ e.on rfl h1 (by have := (List.getElem?_eq_some_iff.1 ho).1; omega) h3
      obtain ⟨aτ, hP, i7⟩ := i6 hLn
      obtain ⟨p1, p2, p3, p4⟩ := hPost _ _ hP
      obtain ⟨v, w0, vs, hR0, hDw, hst, hfin, hQ, hdv⟩ := hP
      have ho' : (l.drop (n + 1))[i - (n + 1)]? = some o := by rw [List.getElem?_drop]; rw [show n + 1 + (i - (n + 1)) = i by omega]; exact ho
      obtain ⟨u, ai, hY, hv, hno, hyes, hz⟩ := stepsS_keyG hst hfin (fun j o' d h hd => by rw [put_size, hsize]; exact (hL _ o' (hdropg j o' h)).2.1 d hd) (fun j o' k o'' d h h' hne hd => hone _ o' _ o'' d (hdropg j o' h) (hdropg k o'' h') (by omega) hd) _ o ho'
      have hag : ∀ t ∈ eyesG l o, a.tmps.getD t undef = ai.tmps.getD t undef := by
        intro t ht
        by_cases hex : ∃ (j : Nat) (o' : Oper), l[j]? = some o' ∧ o'.dst = some t
        · obtain ⟨j, o', hj, hd⟩ := hex
          obtain ⟨hji, e, he, hb, hon⟩ := heyes t ht j o' hj hd
          have hLj : L j = true := hon ▸ hafter e he hb
          rw [i7 j o' t hj hLj hd]
          by_cases hjn : n < j
          · rw [hyes t (j - (n + 1)) o' (by omega) (by rw [List.getElem?_drop, show n + 1 + (j - (n + 1)) = j by omega]; exact hj) hd]
          · have h9 : ai.tmps.getD t undef = (aσ.put oc.dst v).tmps.getD t undef := hno t fun k o'' hk => hone j o' _ o'' t hj (hdropg k o'' hk) (by omega) hd
            rw [h9]
            rcases Nat.lt_or_ge j n with h10 | h10
            · rw [p4 j o' t hj h10 hd, put_other _ _ _ _ (hone j o' n oc t hj hoc (by omega) hd)]
            · obtain rfl : j = n := by omega
              rw [hoc] at hj
              obtain rfl := Option.some.inj hj
              rw [hdv t hd, hd, put_here _ _ _ (by rw [hsize]; exact (hL j oc hoc).2.1 t hd)]
        · have hn' : ∀ (j : Nat) (o' : Oper), l[j]? = some o' → o'.dst ≠ some t := fun j o' hj hd => hex ⟨j, o', hj, hd⟩
          rw [i3 t hn', hno t fun j o' hj => hn' _ o' (hdropg j o' hj), put_other _ _ _ _ (hn' n oc hoc), hout0 t fun j o' _ hj => hn' j o' hj]
      have he : execOp a.eval o = execOp ai.eval o := execOp_congr o (fun c b hc => by rw [notSelect, hc] at hns; cases hns) (eval_eyes fun t ht => hag t (eyesG_l ht))
      have hwd : Region.wanted o (yielded l.toArray a.tmps) = Region.wanted o (yielded l.toArray ai.tmps) := wanted_same (i2.trans (hz.trans ((put_size _ _ _).trans hsize)).symm) hag
      have hY' := hY.of_same he hwd
      rcases hY' with ⟨hw1, hq⟩ | ⟨hw0, hv0⟩
      · rw [if_pos hw1]
        refine Oper.wp_of_quiet (C := D w0) (K := fun a' => a' = a.put o.dst u) hDw ?_ ⟨u, hq, rfl⟩
        rintro a' w' hDw' rfl
        refine ⟨(put_defers' _ _ _).trans i1, (put_size _ _ _).trans i2, fun t ht => ?_, hcl, fun hLp => ?_, fun _ => ⟨aτ, ⟨v, w0, vs, hR0, hDw', hst, hfin, hQ, hdv⟩, fun j o' d hj hLj hd => ?_⟩⟩
        · rw [put_other _ _ _ _ (ht i o ho)]; exact i3 t ht
        · unfold plus at hLp; rw [if_neg (by omega), hLn] at hLp; cases hLp
        · by_cases hji : j = i
          · subst hji
            rw [ho] at hj
            obtain rfl := Option.some.inj hj
            rw [hd, put_here _ _ _ (by rw [i2]; exact hd1 d hd)]
            exact hv d hd
          · have hLj' : L j = true := by unfold plus at hLj; rwa [if_neg hji] at hLj
            rw [put_other _ _ _ _ (hd2 j o' hj hji d hd)]; exact i7 j o' d hj hLj' hd
      · subst hv0
        rw [if_neg (by rw [hw0]; decide)]
        have hDw' := hDw
        refine ⟨(put_defers' _ _ _).trans i1, (put_size _ _ _).trans i2, fun t ht => ?_, hcl, fun hLp => ?_, fun _ => ⟨aτ, ⟨v, w0, vs, hR0, hDw', hst, hfin, hQ, hdv⟩, fun j o' d hj hLj hd => ?_⟩⟩
        · rw [put_other _ _ _ _ (ht i o ho)]; exact i3 t ht
        · unfold plus at hLp; rw [if_neg (by omega), hLn] at hLp; cases hLp
        · by_cases hji : j = i
          · subst hji
            rw [ho] at hj
            obtain rfl := Option.some.inj hj
            rw [hd, put_here _ _ _ (by rw [i2]; exact hd1 d hd)]
            exact hv d hd
          · have hLj' : L j = true := by unfold plus at hLj; rwa [if_neg hji] at hLj
            rw [put_other _ _ _ _ (hd2 j o' hj hji d hd)]; exact i7 j o' d hj hLj' hd
  · intro L a w hall ⟨i1, i2, i3, i4, i5, i6⟩
    obtain ⟨aτ, hP, i7⟩ := i6 (hall n hnl)
    obtain ⟨p1, p2, p3, p4⟩ := hPost _ _ hP
    obtain ⟨v, w0, vs, hR0, hDw, hst, hfin, hQ, hdv⟩ := hP
    have : a = aτ := by
      refine act_ext (i2.trans p1.symm) (i1.trans p2.symm) fun k => ?_
      by_cases hex : ∃ (j : Nat) (o' : Oper), l[j]? = some o' ∧ o'.dst = some k
      · obtain ⟨j, o', hj, hd⟩ := hex
        exact i7 j o' k hj (hall j (List.getElem?_eq_some_iff.1 hj).1) hd
      · have hn' : ∀ (j : Nat) (o' : Oper), l[j]? = some o' → o'.dst ≠ some k := fun j o' hj hd => hex ⟨j, o', hj, hd⟩
        rw [i3 k hn', p3 k hn']
    rw [this]; exact hQ _ hDw
/-- The same, at one operation of unforeknown result that is no call; what stands behind it, and what may run behind it, turns nothing below the heap that the call has left. -/
theorem wp_region_wildOG {P : Program} {id : Nat} {Q : Exit → Act → World → Prop} {a0 : Act} {W : World} {l : List Oper} (B n : Nat) (aσ : Act) (oc : Oper) (R : Value → World → Prop)
    (hm : P.follows .mixedOrders = true) (hback : backB l = true) (hn : lawG l a0.tmps.size = true) (hgn : oc.guard = none) (hw : wildB2 l n = true) (hoc : l[n]? = some oc) (hBW : B ≤ W.heap.size)
    (hpre : ∀ (B' : Nat) (W' : World), Below B W W' → B ≤ B' → B' ≤ W'.heap.size → wpQuiet P l.toArray (fun w' => ∃ x : Ext B' W', w' = x.out) (fun a' => a' = aσ) (l.take n) a0)
    (hrun : ∀ x : Ext B W, ∃ v w', (execOp aσ.eval oc).run P x.out = .ok (.value v) w' ∧ R v w' ∧ Below B W w')
    (hpost : ∀ v w1, R v w1 → Below B W w1 → wpQuiet P l.toArray (fun w' => ∃ y : Ext w1.heap.size w1, w' = y.out) (fun a' => ∀ w', (∃ y : Ext w1.heap.size w1, w' = y.out) → Q .normal a' w') (l.drop (n + 1)) (aσ.put oc.dst v)) :
    (Code.region id l.toArray true).wp P Q a0 W :=
  wp_region_wildY B n aσ oc (fun v w1 => R v w1 ∧ Below B W w1) (fun w1 w' => ∃ y : Ext w1.heap.size w1, w' = y.out) (fun w => ⟨⟨w, Below.refl _ _⟩, rfl⟩) hm hback hn hgn hw hoc hBW (hpre B W (Below.refl _ _) (Nat.le_refl _) hBW)
    (fun v w1 hR => hpre w1.heap.size w1 hR.2 (Nat.le_trans hBW hR.2.size) (Nat.le_refl _)) (fun x a K Q' he hK => by
      obtain ⟨v, w', h1, h2, h3⟩ := hrun x
      unfold Oper.wp
      rw [he, h1]
      exact hK v w' ⟨h2, h3⟩) (fun v w1 hR => hpost v w1 hR.1 hR.2)
end Go.Proofs.Ytfbgldkdlmipoaa

/- The code of places and of how many tiles are carried; ClimbsFor, the program's. -/
namespace Go.Proofs.Ytfbgldkdlmipoaa
open Go.RowKit
set_option linter.unusedSimpArgs false
set_option linter.unusedVariables false

def hasP (r : Rf) (p : Int × Int) : Bool := hasB r p.1 p.2
/-- A slice of one number, just built. -/
def One (B : Nat) (W : World) (n : Int) (v : Value) (w' : World) : Prop := ∃ x : Ext B W, v = .slice (some ⟨x.out.heap.size, 0, none⟩) 1 1 ∧ w' = x.out.alloc (.cells #[.int .i64 n] 3)
theorem One.sli {B : Nat} {W : World} {n : Int} {v : Value} {w' : World} (h : One B W n v w') : ∃ A, v = .slice A 1 1 ∧ SlI w' A [n] := by
  obtain ⟨x, rfl, rfl⟩ := h
  refine ⟨_, rfl, fun j m hj => ?_⟩
  cases j with
  | zero => simp at hj; subst hj; exact ⟨_, 0, rfl, by simp, cell_block (block_new1 x.out _ rfl) rfl⟩
  | succ j => simp at hj
theorem One.below {B : Nat} {W : World} {n : Int} {v : Value} {w' : World} (h : One B W n v w') (hB : B ≤ W.heap.size) : Below B W w' := by
  obtain ⟨x, _, rfl⟩ := h
  exact x.below.alloc (Nat.le_trans hB x.below.size) _
theorem c_allHas (r : Rf) (hr : r.Ok) (A : Option Addr) (c : Nat) (l : List (Int × Int)) (hB : PlB l) (hlen : l.length ≤ 1048576) (w : World) (hA : PairsAt .i8 .i8 w A l) :
    Calls Try.prog 58 #[.slice A l.length c, .func (.func 59) #[.agg (rcells r)] #[]] w fun e w' => e = .returned (.bool (l.all (hasP r))) ∧ Below w.heap.size w w' :=
  c_areAllP 59 #[.agg (rcells r)] #[] (enters_of Try.func59 (by kernel_rfl) rfl) (hasP r) A c l hlen w hA (fun W p hp _ => c_has r hr p.1 p.2 (hB p hp).1 (hB p hp).2 W)
set_option maxHeartbeats 1600000 in
set_option maxRecDepth 100000 in
theorem c_climbCode (r : Rf) (hr : r.Ok) (A : Option Addr) (c : Nat) (l : List (Int × Int)) (hB : PlB l) (hlen : l.length ≤ 1048576) (n : Int) (w : World) (hA : PairsAt .i8 .i8 w A l) :
    Calls Try.prog 73 #[.agg (rcells r), .slice A l.length c, .int .i64 n] w fun e w' => e = .returned (.int .i64 (jobK (validB r) (l.all (hasP r) && inB n 1 20) (decide ((l.length : Int) ≤ 8)))) ∧ Below w.heap.size w w' := by
  have HX := hid (block_new1 w (.cells (rcells r) 31) rfl)
  obtain ⟨W0, hW0⟩ : ∃ W0, W0 = w.alloc (.cells (rcells r) 31) := ⟨_, rfl⟩
  have B0 : Hid (Below w.heap.size w W0) := by rw [hW0]; exact (Below.refl _ w).alloc (Nat.le_refl _) _
  have HL0 : Hid (w.heap.size + 1 ≤ W0.heap.size) := by rw [hW0]; simp [Hid]
  rw [← hW0] at HX
  have RD := hid hA
  have HC := fun w' h => hid (c_allHas r hr A c l hB hlen w' h)
  have HJ := fun (g : Bool) (A1 : Option Addr) (w' : World) h => hid (c_jobCode r hr g A1 1 [(l.length : Int)] (by simp) w' h)
  obtain ⟨g1, hg1⟩ : ∃ g, g = l.all (hasP r) := ⟨_, rfl⟩
  obtain ⟨g2, hg2⟩ : ∃ g, inB n 1 20 = g := ⟨_, rfl⟩
  have HG := hid hg2
  rw [← hg1] at HC
  rw [← hg1, hg2]
  have hJe : ∀ g : Bool, jobK (validB r) g ([(l.length : Int)].all fun n => decide (n ≤ 8)) = jobK (validB r) g (decide ((l.length : Int) ≤ 8)) := fun g => by simp
  have HJ := fun (g : Bool) (A1 : Option Addr) (w' : World) h => hid ((hJe g) ▸ (HJ g A1 w' h).out)
  have hlI : (l.length : Int) ≤ 1048576 := by omega
  have l0 : w.heap.size < w.heap.size + 1 := by omega
  clear hA hg1 hg2 hB hJe
  go_enter Try.func73, Try.ntmps73
  go_wp2_with fail
  rw [← hW0]
  clear hW0
  cases g1 with
  | true =>
    refine wp_region_wildOG (w.heap.size + 1) 11 ?s1 _ (One (w.heap.size + 1) W0 (l.length : Int)) (by kernel_rfl) (by kernel_rfl) (by kernel_rfl) rfl (by kernel_rfl) rfl HL0.out ?pre1 ?run1 ?post1
    case pre1 =>
      intro B' W' hb hB hS
      have HXb := hid (block_below hb HX.out l0)
      have hlb : w.heap.size < B' := by omega
      have HAb := hid (B0.out.trans (hb.mono (Nat.le_succ _)))
      have HS := hid hS
      have R0 : Hid (∀ x : Ext B' W', (Instr.loadAt 31 (.pointer (some ⟨w.heap.size, 0, none⟩))).run Try.prog x.out = .ok (.agg (rcells r)) x.out) := fun x =>
        run_load_roof 31 Try.underlying31 rfl Try.infoRoof hr (block_below x.below HXb.out hlb)
      simp only [List.take_succ_cons, List.take_zero]
      repeat (first
        | ((with_reducible refine wpQuiet_run (N := 7) rfl rfl (.agg (rcells r)) ?_ ?_); (rintro _ ⟨x, rfl⟩; exact execOp_load rfl rfl (R0.out x)); go_simp)
        | ((with_reducible refine wpQuiet_run (N := 9) rfl rfl (.agg (rcells r)) ?_ ?_); (rintro _ ⟨x, rfl⟩; exact execOp_load rfl rfl (R0.out x)); go_simp)
        | go_big_quiet_step (first
          | (go_at_call 58; exact Calls.ext HS.out (HC _ (RD.out.below (HAb.out.trans ((Ext.below _).mono (by omega))) (Nat.le_refl _))).out)
          | (go_at_call 50; with_reducible exact Calls.ext_same (c_isCarry n _ _ HG.out))))
      refine wpQuiet_nil ?_
      exact rfl
    case run1 =>
      intro x
      refine ⟨_, _, ?_, ⟨x, rfl, rfl⟩, ?_⟩
      · unfold execOp; go_simp
      · exact x.below.alloc (Nat.le_trans HL0.out x.below.size) _
    case post1 =>
      intro v w1 hR hb1
      obtain ⟨A1, rfl, hs1⟩ := hR.sli
      have HS1 := hid hs1
      have HB1 := hid (B0.out.trans (hb1.mono (Nat.le_succ _)))
      clear hR hs1 hb1
      simp only [List.drop_succ_cons, List.drop_zero, Act.put, List.setIfInBounds_toArray, List.set_cons_zero, List.set_cons_succ]
      repeat (go_big_quiet_step ((go_at_call 57; exact Calls.ext (Nat.le_refl _) (HJ _ _ _ (HS1.out.below (Ext.below _) (Nat.le_refl _))).out)))
      refine wpQuiet_nil ?_
      rintro _ ⟨y, rfl⟩
      go_wp2_with fail
      go_ret
      exact ⟨by first | rfl | (rw [Bool.true_and]; rfl) | (rw [Bool.false_and]; rfl), HB1.out.trans (y.below.mono HB1.out.size)⟩
  | false =>
    refine wp_region_wildOG (w.heap.size + 1) 11 ?s2 _ (One (w.heap.size + 1) W0 (l.length : Int)) (by kernel_rfl) (by kernel_rfl) (by kernel_rfl) rfl (by kernel_rfl) rfl HL0.out ?pre2 ?run2 ?post2
    case pre2 =>
      intro B' W' hb hB hS
      have HXb := hid (block_below hb HX.out l0)
      have hlb : w.heap.size < B' := by omega
      have HAb := hid (B0.out.trans (hb.mono (Nat.le_succ _)))
      have HS := hid hS
      have R0 : Hid (∀ x : Ext B' W', (Instr.loadAt 31 (.pointer (some ⟨w.heap.size, 0, none⟩))).run Try.prog x.out = .ok (.agg (rcells r)) x.out) := fun x =>
        run_load_roof 31 Try.underlying31 rfl Try.infoRoof hr (block_below x.below HXb.out hlb)
      simp only [List.take_succ_cons, List.take_zero]
      repeat (first
        | ((with_reducible refine wpQuiet_run (N := 7) rfl rfl (.agg (rcells r)) ?_ ?_); (rintro _ ⟨x, rfl⟩; exact execOp_load rfl rfl (R0.out x)); go_simp)
        | ((with_reducible refine wpQuiet_run (N := 9) rfl rfl (.agg (rcells r)) ?_ ?_); (rintro _ ⟨x, rfl⟩; exact execOp_load rfl rfl (R0.out x)); go_simp)
        | go_big_quiet_step (first
          | (go_at_call 58; exact Calls.ext HS.out (HC _ (RD.out.below (HAb.out.trans ((Ext.below _).mono (by omega))) (Nat.le_refl _))).out)
          | (go_at_call 50; with_reducible exact Calls.ext_same (c_isCarry n _ _ HG.out))))
      refine wpQuiet_nil ?_
      exact rfl
    case run2 =>
      intro x
      refine ⟨_, _, ?_, ⟨x, rfl, rfl⟩, ?_⟩
      · unfold execOp; go_simp
      · exact x.below.alloc (Nat.le_trans HL0.out x.below.size) _
    case post2 =>
      intro v w1 hR hb1
      obtain ⟨A1, rfl, hs1⟩ := hR.sli
      have HS1 := hid hs1
      have HB1 := hid (B0.out.trans (hb1.mono (Nat.le_succ _)))
      clear hR hs1 hb1
      simp only [List.drop_succ_cons, List.drop_zero, Act.put, List.setIfInBounds_toArray, List.set_cons_zero, List.set_cons_succ]
      repeat (go_big_quiet_step ((go_at_call 57; exact Calls.ext (Nat.le_refl _) (HJ _ _ _ (HS1.out.below (Ext.below _) (Nat.le_refl _))).out)))
      refine wpQuiet_nil ?_
      rintro _ ⟨y, rfl⟩
      go_wp2_with fail
      go_ret
      exact ⟨by first | rfl | (rw [Bool.true_and]; rfl) | (rw [Bool.false_and]; rfl), HB1.out.trans (y.below.mono HB1.out.size)⟩
end Go.Proofs.Ytfbgldkdlmipoaa

/- ClimbsFor, the program's. -/
namespace Go.Proofs.Ytfbgldkdlmipoaa
open Go.RowKit
set_option linter.unusedSimpArgs false
set_option linter.unusedVariables false

def climbK (r : Rf) (l : List (Int × Int)) (n : Int) : Int := jobK (validB r) (l.all (hasP r) && inB n 1 20) (decide ((l.length : Int) ≤ 8))
/-- How many rungs there are up to each place. -/
def upsL (r : Rf) (l : List (Int × Int)) : List Int := l.map fun p => r.h - p.1
def climbsV (r : Rf) (l : List (Int × Int)) (n : Int) : Int := if climbK r l n = 0 then climbsL (upsL r l) n.toNat else 0
theorem climbK_zero {r : Rf} {l : List (Int × Int)} {n : Int} (h : climbK r l n = 0) : validB r = true ∧ l.all (hasP r) = true ∧ (1 ≤ n ∧ n ≤ 20) ∧ l.length ≤ 8 := by
  obtain ⟨h1, h2, h3⟩ := jobK_zero h
  rw [Bool.and_eq_true, inB_iff] at h2
  exact ⟨h1, h2.1, h2.2, by have := of_decide_eq_true h3; omega⟩
theorem hasP_pl {r : Rf} {p : Int × Int} (hv : validB r = true) (h : hasP r p = true) : (0 ≤ p.1 ∧ p.1 < r.h) ∧ (0 ≤ p.2 ∧ p.2 < r.w) := by
  have h1 := codeOf_has r p.1 p.2 true
  rw [Bool.and_true, Bool.and_true] at h1
  have h2 : codeOf (validB r) (isPl r p.1 p.2) = 0 := by
    rw [← h1]
    have : hasB r p.1 p.2 = true := h
    rw [this, hv]; rfl
  have := isPl_iff.1 (codeOf_zero h2).2
  omega
theorem ups_b {r : Rf} {l : List (Int × Int)} (hv : validB r = true) (h : l.all (hasP r) = true) : ∀ x ∈ upsL r l, 1 ≤ x ∧ x ≤ 8 := by
  intro x hx
  obtain ⟨p, hp, rfl⟩ := List.mem_map.1 hx
  have h1 := hasP_pl hv (List.all_eq_true.1 h p hp)
  have := valid_head hv
  omega
theorem own_cap {w : World} {base : Nat} {T : TypeId} {s n : Nat} {v : Value} {xs : List Value} (h : w.ownsRow base T s v n xs) : ∀ A c, v = .slice A n c → n ≤ c ∧ c ≤ 9223372036854775807 := by
  intro A c hv
  rcases h.2 with ⟨rfl, rfl⟩ | ⟨g, cap, cur, rfl, _, _, h1, h2, _⟩
  · obtain ⟨_, _, rfl⟩ := Value.slice.inj hv; exact ⟨Nat.le_refl _, by decide⟩
  · obtain ⟨_, _, rfl⟩ := Value.slice.inj hv; exact ⟨h1, Nat.le_trans h2 (by decide)⟩
set_option maxHeartbeats 1600000 in
set_option maxRecDepth 100000 in
theorem c_ClimbsFor (r : Rf) (hr : r.Ok) (A : Option Addr) (c : Nat) (l : List (Int × Int)) (hB : PlB l) (hlen : l.length ≤ 1048576) (n : Int) (w : World) (hA : PairsAt .i8 .i8 w A l) :
    Calls Try.prog 52 #[.agg (rcells r), .slice A l.length c, .int .i64 n] w fun e w' => e = .returned (.tuple #[.int .i64 (climbsV r l n), .int .i64 (climbK r l n)]) ∧ Below w.heap.size w w' := by
  have B0 : Below w.heap.size w (w.alloc (.cells (rcells r) 31)) := (Below.refl _ w).alloc (Nat.le_refl _) _
  have HX := hid (block_new1 w (.cells (rcells r) 31) rfl)
  have HC := fun w' h => hid (c_climbCode r hr A c l hB hlen n w' h)
  have hE : jobK (validB r) (l.all (hasP r) && inB n 1 20) (decide ((l.length : Int) ≤ 8)) = climbK r l n := rfl
  rw [hE] at HC
  have RD := hid hA
  unfold climbsV
  by_cases h0 : climbK r l n = 0
  · rw [if_pos h0, h0]
    rw [h0] at HC
    obtain ⟨hv, hall, hn, h8⟩ := climbK_zero h0
    have hub := ups_b hv hall
    obtain ⟨m, rfl⟩ := Int.eq_ofNat_of_zero_le (by omega : 0 ≤ n)
    rw [Int.toNat_natCast]
    have HE := fun w' h => hid (c_eachPI 76 #[.agg (rcells r)] #[] (enters_of Try.func76 (by kernel_rfl) rfl) (fun p => r.h - p.1) A c l hlen w' h (fun W p hp _ => by
      have h1 := hasP_pl hv (List.all_eq_true.1 hall p hp)
      have := valid_head hv
      exact c_climb r hr p.1 p.2 (by omega) (by omega) W))
    have HM := fun (A1 : Option Addr) (c1 : Nat) (w' : World) (lc : l.length ≤ c1) (cm : c1 ≤ 9223372036854775807) h => hid (c_climbs A1 c1 (upsL r l) (by simp [upsL]; omega) (by simpa [upsL] using lc) cm (fun x hx => by have := hub x hx; omega) m (by omega) w' h)
    have hul : (upsL r l).length = l.length := by simp [upsL]
    rw [hul] at HM
    have hue : l.map (fun p => r.h - p.1) = upsL r l := rfl
    rw [hue] at HE
    have HUL := hid hul
    clear h0 hv hall hub hn h8 hA hul hue
    go_enter Try.func52, Try.ntmps52
    go_wp2_with (first
      | ((with_reducible refine gate (N := 9) rfl ?_); refine wp_roof 31 Try.underlying31 rfl Try.infoRoof rfl (.tmp 3) rfl w.heap.size rfl r hr HX.out ?_)
      | (go_at_call 73; ((with_reducible refine (HC _ (RD.out.below B0 (Nat.le_refl _))).out.mono ?_); rintro e w1 ⟨rfl, hb1⟩); have HX1 := hid (block_below hb1 HX.out (by simp)); have HB1 := hid (B0.trans (hb1.mono (by simp))); clear hb1)
      | ((with_reducible refine gate (N := 17) rfl ?_); refine wp_roof 31 Try.underlying31 rfl Try.infoRoof rfl (.tmp 3) rfl w.heap.size rfl r hr HX1.out ?_)
      | (go_at_call 75; ((with_reducible refine (HE _ (RD.out.below HB1.out (Nat.le_refl _))).out.mono ?_); rintro e w2 ⟨v, rfl, hb2, ho2⟩); have HB2 := hid (HB1.out.trans (hb2.mono HB1.out.size)); have hcap := own_cap ho2; obtain ⟨A2, c2, rfl⟩ := owns_slc ho2; have hs2 := RowI.sli ho2; rw [HUL.out] at ho2 hcap ⊢; have HS2 := hid hs2; have HCap := hid (hcap _ _ rfl); clear hb2 ho2 hs2 hcap)
      | (go_at_call 74; ((with_reducible refine (HM _ _ _ HCap.out.1 HCap.out.2 HS2.out).out.mono ?_); rintro e w3 ⟨rfl, hb3⟩)))
    go_ret2
    exact ⟨rfl, HB2.out.trans (hb3.mono HB2.out.size)⟩
  · rw [if_neg h0]
    have hk := jobK_cases (validB r) (l.all (hasP r) && inB n 1 20) (decide ((l.length : Int) ≤ 8))
    rw [hE] at hk
    obtain ⟨k, hkk⟩ : ∃ k, k = climbK r l n := ⟨_, rfl⟩
    rw [← hkk] at HC hk h0 ⊢
    clear hkk hA hE
    rcases hk with rfl | rfl | rfl | rfl
    case inr.inr.inr => exact absurd rfl h0
    all_goals
      clear h0
      go_enter Try.func52, Try.ntmps52
      go_wp2_with (first
        | ((with_reducible refine gate (N := 9) rfl ?_); refine wp_roof 31 Try.underlying31 rfl Try.infoRoof rfl (.tmp 3) rfl w.heap.size rfl r hr HX.out ?_)
        | (go_at_call 73; ((with_reducible refine (HC _ (RD.out.below B0 (Nat.le_refl _))).out.mono ?_); rintro e w1 ⟨rfl, hb1⟩)))
      go_ret2
      exact ⟨rfl, B0.trans (hb1.mono (by simp))⟩
end Go.Proofs.Ytfbgldkdlmipoaa

/- The code of times and a shift: the program's and the reference's. -/
namespace Go.Proofs.Ytfbgldkdlmipoaa
open Go.RowKit
set_option linter.unusedSimpArgs false
set_option linter.unusedVariables false

def timesC (ts : List Int) (s : Int) : Int := if inB s 1 1000 && ts.all (fun t => inB t 0 1000) then (if 8 < ts.length then 3 else if ts.all (fun t => decide (t ≤ s)) then 0 else 6) else 2
/-- The greatest of 0 and some numbers. -/
def mostL (l : List Int) : Int := l.foldl (fun a t => if a > t then a else t) 0
theorem mostL_succ (l : List Int) (k : Nat) (hk : k < l.length) : mostL (l.take (k + 1)) = if mostL (l.take k) > l[k] then mostL (l.take k) else l[k] := by
  unfold mostL
  rw [List.take_succ_eq_append_getElem hk, List.foldl_append]; rfl
theorem most_le (l : List Int) (s : Int) : ∀ a : Int, decide (l.foldl (fun a t => if a > t then a else t) a ≤ s) = (decide (a ≤ s) && l.all fun t => decide (t ≤ s)) := by
  induction l with
  | nil => intro a; simp
  | cons t l ih =>
    intro a
    rw [List.foldl_cons, ih, List.all_cons]
    by_cases h : a > t
    · rw [if_pos h]
      by_cases h1 : a ≤ s
      · have h2 : t ≤ s := by omega
        simp [h1, h2]
      · simp [h1]
    · rw [if_neg h]
      by_cases h1 : t ≤ s
      · have h2 : a ≤ s := by omega
        simp [h1, h2]
      · simp [h1]
theorem mostL_le {l : List Int} {s : Int} (hs : 0 ≤ s) : decide (mostL l ≤ s) = l.all fun t => decide (t ≤ s) := by
  have := most_le l s 0
  unfold mostL
  rw [this, decide_eq_true hs, Bool.true_and]
set_option maxRecDepth 100000 in
theorem c_l04Each (t : Int) (w : World) : Calls Try.prog 48 #[.int .i64 t] w fun e w' => e = .returned (.bool (inB t 0 1000)) ∧ w = w' := by
  go_enter Try.func48, Try.ntmps48
  go_wp2_with (go_at_call 54; (with_reducible refine (c_l00In _ _ _ _ _ rfl).mono ?_); rintro e w9 ⟨rfl, rfl⟩)
  go_ret
  exact ⟨rfl, rfl⟩
theorem c_l00MaxT (a b : Int) (w : World) : Calls Try.prog 71 #[.int .i64 a, .int .i64 b] w fun e w' => e = .returned (.int .i64 (if a > b then a else b)) ∧ w = w' := by
  by_cases h : a > b
  · rw [if_pos h]
    go_enter Try.func71, Try.ntmps71
    go_wp2_with fail
    go_ret
    exact ⟨rfl, rfl⟩
  · rw [if_neg h]
    go_enter Try.func71, Try.ntmps71
    go_wp2_with fail
    go_ret
    exact ⟨rfl, rfl⟩
end Go.Proofs.Ytfbgldkdlmipoaa

/- ClimbsFor, the reference's. -/
namespace Go.Proofs.Ytfbgldkdlmipoaa
open Go.RowKit
set_option linter.unusedSimpArgs false
set_option linter.unusedVariables false

theorem asked_eq (r : Rf) (l : List (Int × Int)) (g : Bool) : codeL (validB r) (g && allPl r l) l.length = jobK (validB r) (l.all (hasP r) && g) (decide ((l.length : Int) ≤ 8)) := by
  cases hv : validB r with
  | false =>
    have e1 : codeOf false (g && allPl r l) = 1 := rfl
    have e2 : codeOf false (l.all (hasP r) && g) = 1 := rfl
    unfold codeL jobK
    rw [e1, e2]
    rfl
  | true =>
    have e : l.all (hasP r) = allPl r l := by
      unfold allPl
      congr 1
      funext p
      exact hasB_valid hv p.1 p.2
    rw [e, Bool.and_comm]
    unfold codeL jobK
    by_cases h1 : codeOf true (allPl r l && g) = 0
    · rw [if_pos h1]
      by_cases h2 : l.length ≤ 8
      · rw [if_neg (by omega), h1, decide_eq_true (by omega)]; rfl
      · rw [if_pos ⟨h1, by omega⟩, decide_eq_false (by omega)]; rfl
    · rw [if_neg (fun h => h1 h.1), if_neg h1]
theorem c_askedL (r : Rf) (hr : r.Ok) (b : Nat) (Ac : Option Addr) (cc : Nat) (A : Option Addr) (c : Nat) (l : List (Int × Int)) (hB : PlB l) (hlen : l.length ≤ 1048576) (g : Bool) (w : World) (hb : w.heap[b]? = some (.cells (rcells r) 31 (0,0))) (hA : PairsAt .i8 .i8 w A l) :
    Calls Try.prog 53 #[.pointer (some ⟨b,0,none⟩), .slice Ac 0 cc, .slice A l.length c, .bool g] w fun e w' => e = .returned (.int .i64 (jobK (validB r) (l.all (hasP r) && g) (decide ((l.length : Int) ≤ 8)))) ∧ Below w.heap.size w w' := by
  have h := c_l04Asked r hr b Ac cc A c l hB (by omega) g w hb hA
  rw [asked_eq] at h
  exact h
set_option maxRecDepth 100000 in
theorem c_l04Carry (n : Int) (w : World) : Calls Try.prog 47 #[.int .i64 n] w fun e w' => e = .returned (.bool (inB n 1 20)) ∧ w = w' := by
  go_enter Try.func47, Try.ntmps47
  go_wp2_with (go_at_call 54; (with_reducible refine (c_l00In _ _ _ _ _ rfl).mono ?_); rintro e w9 ⟨rfl, rfl⟩)
  go_ret
  exact ⟨rfl, rfl⟩
set_option maxHeartbeats 1600000 in
set_option maxRecDepth 100000 in
theorem c_l04Climbs (r : Rf) (hr : r.Ok) (hh : 1 ≤ r.h ∧ r.h ≤ 8) (b : Nat) (A : Option Addr) (c : Nat) (l : List (Int × Int)) (hlen : l.length ≤ 8) (hc : ∀ p ∈ l, 0 ≤ p.1 ∧ p.1 < r.h) (m : Nat) (hm : 1 ≤ m ∧ m ≤ 20) (w : World) (hb : w.heap[b]? = some (.cells (rcells r) 31 (0,0))) (hA : PairsAt .i8 .i8 w A l) :
    Calls Try.prog 49 #[.pointer (some ⟨b,0,none⟩), .slice A l.length c, .int .i64 m] w fun e w' => e = .returned (.int .i64 (climbsL (upsL r l) m)) ∧ Below w.heap.size w w' := by
  have HX := hid hb
  have HA := hid hA
  have HC := hid hc
  have HU : Hid (∀ x ∈ upsL r l, 0 ≤ x ∧ x ≤ 8) := fun x hx => by
    obtain ⟨p, hp, rfl⟩ := List.mem_map.1 hx
    have := hc p hp; omega
  have hul : (upsL r l).length = l.length := by simp [upsL]
  have HUL := hid hul
  clear hb hA hc hul
  go_enter Try.func49, Try.ntmps49
  go_wp2_with fail
  go_loopw [7, 8, 9] (fun s q i wr => ∃ k : Nat, k ≤ l.length ∧ i = .int .i64 k ∧ s = .int .i64 (walkC m ((upsL r l).take k)).2.1 ∧ q = .int .i64 (walkC m ((upsL r l).take k)).2.2 ∧ Hid (Below w.heap.size w wr)) (fun _ _ i _ => l.length - (intOf i).toNat)
  case atStart => exact ⟨0, by omega, rfl, rfl, rfl, Below.refl _ _⟩
  case round =>
    obtain ⟨k, hk, rfl, rfl, rfl, hb⟩ := hrel
    have hwb := walkC_b (m := 8) (by decide) (l := (upsL r l).take k) (fun x hx => HU.out x (List.mem_of_mem_take hx)) m
    have htl : ((upsL r l).take k).length ≤ 8 := by rw [List.length_take]; omega
    by_cases hkl : k < l.length
    · have hd : decide ((k : Int) < (l.length : Int)) = true := decide_eq_true (by omega)
      have hkI : (k : Int) < (l.length : Int) := by omega
      have hk0 : (0 : Int) ≤ (k : Int) := by omega
      have hp := List.getElem?_eq_getElem hkl
      have hcp := HC.out _ (List.getElem_mem hkl)
      have hst : walkC m ((upsL r l).take (k + 1)) = stepC m (walkC m ((upsL r l).take k)) (r.h - l[k].1) := by
        have hk' : k < (upsL r l).length := by rw [HUL.out]; exact hkl
        rw [List.take_succ_eq_append_getElem hk', walkC_snoc]
        congr 1
        simp [upsL]
      have hl1 := walkC_len m ((upsL r l).take k)
      rw [List.length_take, HUL.out, Nat.min_eq_left hk] at hl1
      obtain ⟨⟨p1, p2⟩, hpp⟩ : ∃ p, p = l[k] := ⟨_, rfl⟩
      rw [← hpp] at hp hcp hst
      obtain ⟨ba, off, rfl, r1, r2, r3⟩ := HA.out.below hb.out (Nat.le_refl _) k _ hp
      dsimp only at r2 r3 hcp hst
      obtain ⟨s, hs⟩ : ∃ s, s = (walkC m ((upsL r l).take k)).2.1 := ⟨_, rfl⟩
      obtain ⟨q, hq⟩ : ∃ s, s = (walkC m ((upsL r l).take k)).2.2 := ⟨_, rfl⟩
      have hst2 : walkC m ((upsL r l).take k) = (k, s, q) := by rw [hs, hq]; exact Prod.ext hl1 rfl
      rw [← hs, ← hq] at hwb ⊢
      rw [hst2] at hst
      have HXw := hid (block_below hb.out HX.out (block_lt HX.out))
      have HQ := hid (c_l04Climb r hr b p1 p2 (by omega) hh wr HXw.out)
      obtain ⟨x, hx⟩ : ∃ x, x = r.h - p1 := ⟨_, rfl⟩
      rw [← hx] at hst HQ
      have hxb : 1 ≤ x ∧ x ≤ 8 := by omega
      have hsb : 0 ≤ s ∧ s ≤ 1000 := by omega
      have hqb : 0 ≤ q ∧ q ≤ 8 := by omega
      clear hp hpp hs hq hst2 hx hl1 hwb htl hcp
      by_cases hz : k % m = 0
      · have hst' : walkC m ((upsL r l).take (k + 1)) = (k + 1, s + 2 * q, if (0 : Int) > x then 0 else x) := by rw [hst]; unfold stepC; rw [if_pos hz]
        have HST := hid hst'
        have hzz : (((k : Int) % (m : Int)) == 0) = true := by rw [beq_iff_eq]; omega
        have m0 : (m : Int) ≠ 0 := by omega
        clear hst hst'
        go_wp2_with (first
          | (go_at_call 72; ((with_reducible refine HQ.out.mono ?_); rintro e w1 ⟨rfl, hb1⟩))
          | (go_at_call 71; (with_reducible refine (c_l00MaxT _ _ _).mono ?_); rintro e w8 ⟨rfl, rfl⟩))
        exact ⟨⟨k + 1, by omega, by go_num, congrArg (Value.int .i64) (by rw [HST.out]), congrArg (Value.int .i64) (by rw [HST.out]), hb.out.trans (hb1.mono hb.out.size)⟩, by simp [intOf]; omega⟩
      · have hst' : walkC m ((upsL r l).take (k + 1)) = (k + 1, s, if q > x then q else x) := by rw [hst]; unfold stepC; rw [if_neg hz]
        have HST := hid hst'
        have hzz : (((k : Int) % (m : Int)) == 0) = false := by rw [beq_eq_false_iff_ne]; omega
        have m0 : (m : Int) ≠ 0 := by omega
        clear hst hst'
        go_wp2_with (first
          | (go_at_call 72; ((with_reducible refine HQ.out.mono ?_); rintro e w1 ⟨rfl, hb1⟩))
          | (go_at_call 71; (with_reducible refine (c_l00MaxT _ _ _).mono ?_); rintro e w8 ⟨rfl, rfl⟩))
        exact ⟨⟨k + 1, by omega, by go_num, congrArg (Value.int .i64) (by rw [HST.out]), congrArg (Value.int .i64) (by rw [HST.out]), hb.out.trans (hb1.mono hb.out.size)⟩, by simp [intOf]; omega⟩
    · obtain rfl : k = l.length := by omega
      have hd : decide ((l.length : Int) < (l.length : Int)) = false := decide_eq_false (by omega)
      have hall := walkC_all (by omega : 0 < m) (upsL r l)
      have ht : (upsL r l).take l.length = upsL r l := List.take_of_length_le (by rw [HUL.out]; exact Nat.le_refl _)
      rw [ht] at hwb ⊢
      obtain ⟨s, hs⟩ : ∃ s, s = (walkC m (upsL r l)).2.1 := ⟨_, rfl⟩
      obtain ⟨q, hq⟩ : ∃ s, s = (walkC m (upsL r l)).2.2 := ⟨_, rfl⟩
      rw [← hs, ← hq] at hwb hall ⊢
      rw [HUL.out] at hwb
      have HALL := hid hall
      have hsb : 0 ≤ s ∧ s ≤ 1000 := by omega
      have hqb : 0 ≤ q ∧ q ≤ 8 := by omega
      clear hall ht hs hq hwb htl
      go_wp2_with fail
      go_ret
      exact ⟨ret_int HALL.out, hb.out⟩
end Go.Proofs.Ytfbgldkdlmipoaa

/- l04Once: the code of places none of which may come twice. -/
namespace Go.Proofs.Ytfbgldkdlmipoaa
open Go.RowKit
set_option linter.unusedSimpArgs false
set_option linter.unusedVariables false

def askK (r : Rf) (l : List (Int × Int)) (g : Bool) : Int := jobK (validB r) (l.all (hasP r) && g) (decide ((l.length : Int) ≤ 8))
/-- The code. -/
def onceK (r : Rf) (l : List (Int × Int)) (g : Bool) : Int := if askK r l g = 0 then (if l.Nodup then 0 else 4) else askK r l g
theorem take_pairs {w : World} {A : Option Addr} {l : List (Int × Int)} (h : PairsAt .i8 .i8 w A l) (k : Nat) : PairsAt .i8 .i8 w A (l.take k) := fun j p hj => by
  rw [List.getElem?_take] at hj
  split at hj
  · exact h j p hj
  · cases hj
set_option maxHeartbeats 1600000 in
set_option maxRecDepth 100000 in
theorem c_l04Once (r : Rf) (hr : r.Ok) (b : Nat) (A : Option Addr) (c : Nat) (l : List (Int × Int)) (hB : PlB l) (hlen : l.length ≤ 1048576) (hlc : l.length ≤ c) (g : Bool) (w : World) (hb : w.heap[b]? = some (.cells (rcells r) 31 (0,0))) (hA : PairsAt .i8 .i8 w A l) :
    Calls Try.prog 24 #[.pointer (some ⟨b,0,none⟩), .slice A l.length c, .bool g] w fun e w' => e = .returned (.int .i64 (onceK r l g)) ∧ Below w.heap.size w w' := by
  have HA := hid hA
  have HX := hid hb
  have HC := fun (Ac : Option Addr) (cc : Nat) (w' : World) h1 h2 => hid (c_askedL r hr b Ac cc A c l hB hlen g w' h1 h2)
  have hlI : (l.length : Int) ≤ (c : Int) := by omega
  unfold onceK
  have hE : jobK (validB r) (l.all (hasP r) && g) (decide ((l.length : Int) ≤ 8)) = askK r l g := rfl
  rw [hE] at HC
  have hcs := jobK_cases (validB r) (l.all (hasP r) && g) (decide ((l.length : Int) ≤ 8))
  rw [hE] at hcs
  by_cases h0 : askK r l g = 0
  · have h8 : l.length ≤ 8 := by have := of_decide_eq_true (jobK_zero h0).2.2; omega
    rw [if_pos h0]
    rw [h0] at HC
    clear h0 hE hcs hb hA hB hlen
    go_enter Try.func24, Try.ntmps24
    go_wp2_with (go_at_call 53; ((with_reducible refine (HC _ _ _ ?_ ?_).out.mono ?_); exact block_alloc HX.out _; exact HA.out.below ((Below.refl _ w).alloc (Nat.le_refl _) _) (Nat.le_refl _)); rintro e w1 ⟨rfl, hb1⟩; have HB1 := hid (((Below.refl _ w).alloc (Nat.le_refl _) _).trans (hb1.mono (by simp))); clear hb1)
    go_loopw [7, 8] (fun q i wr => ∃ (k : Nat) (z : Int), k ≤ l.length ∧ i = .int .i64 k ∧ q = .int .i64 z ∧ Hid (Below w.heap.size w wr) ∧ ((z = 0 ∧ Hid (∀ i (h : i < l.length), i < k → l[i] ∉ l.take i)) ∨ (z = 4 ∧ Hid (¬ l.Nodup)))) (fun _ i _ => l.length - (intOf i).toNat)
    case atStart => exact ⟨0, 0, by omega, rfl, rfl, HB1.out, .inl ⟨rfl, fun i h h2 => absurd h2 (by omega)⟩⟩
    case round =>
      obtain ⟨k, z, hk, rfl, rfl, hb, hz⟩ := hrel
      rcases hz with ⟨rfl, hno⟩ | ⟨rfl, hnd⟩
      · by_cases hkl : k < l.length
        · have hd : decide ((k : Int) < (l.length : Int)) = true := decide_eq_true (by omega)
          have hkI : (k : Int) < (l.length : Int) := by omega
          have hk0 : (0 : Int) ≤ (k : Int) := by omega
          have hkc : (k : Int) ≤ (c : Int) := by omega
          have hp := List.getElem?_eq_getElem hkl
          obtain ⟨⟨p1, p2⟩, hpp⟩ : ∃ p, p = l[k] := ⟨_, rfl⟩
          rw [← hpp] at hp
          have HPP := hid hpp
          obtain ⟨ba, off, rfl, r1, r2, r3⟩ := HA.out.below hb.out (Nat.le_refl _) k _ hp
          dsimp only at r2 r3
          have htl : (l.take k).length = k := by rw [List.length_take]; omega
          have HH := fun W (h : SlP W (some ⟨ba, off, none⟩) (l.take k)) => hid (c_l01Has (some ⟨ba, off, none⟩) c (l.take k) (by omega) p1 p2 W h)
          rw [htl] at HH
          have HAk := hid (take_pairs (HA.out.below hb.out (Nat.le_refl _)) k)
          have LB := hid r1
          cases hq : decide ((p1, p2) ∈ l.take k) with
          | true =>
            have hm : Hid (¬ l.Nodup) := fun hn => nodup_take.2 hn k hkl (by rw [← HPP.out]; exact of_decide_eq_true hq)
            rw [hq] at HH
            have c0 := fun (x : Ext wr.heap.size wr) => (x.below.cell (p := ⟨ba, _, none⟩) LB.out).trans r2
            have c1 := fun (x : Ext wr.heap.size wr) => (x.below.cell (p := ⟨ba, _, none⟩) LB.out).trans r3
            clear hp hpp hq htl
            go_wp2_with fail
            refine wp_region_ext wr.heap.size (by kernel_rfl) (by kernel_rfl) ?_
            repeat (go_big_quiet_step ((go_at_call 36; exact Calls.ext (Nat.le_refl _) (HH _ (HAk.out.below (Ext.below _) (Nat.le_refl _))).out)))
            refine wpQuiet_nil ?_
            intro x
            go_wp2_with fail
            exact ⟨⟨k + 1, 4, by omega, by go_num, rfl, hb.out.trans (x.below.mono hb.out.size), .inr ⟨rfl, hm⟩⟩, by simp [intOf]; omega⟩
          | false =>
            have hm : Hid (l[k] ∉ l.take k) := by rw [← HPP.out]; exact of_decide_eq_false hq
            rw [hq] at HH
            clear hp hpp hq htl
            go_wp2_with fail
            refine wp_region_ext wr.heap.size (by kernel_rfl) (by kernel_rfl) ?_
            repeat (go_big_quiet_step ((go_at_call 36; exact Calls.ext (Nat.le_refl _) (HH _ (HAk.out.below (Ext.below _) (Nat.le_refl _))).out)))
            refine wpQuiet_nil ?_
            intro x
            go_wp2_with fail
            exact ⟨⟨k + 1, 0, by omega, by go_num, rfl, hb.out.trans (x.below.mono hb.out.size), .inl ⟨rfl, fun i h hi => by rcases Nat.lt_succ_iff_lt_or_eq.1 hi with h1 | rfl; exact hno.out i h h1; exact hm.out⟩⟩, by simp [intOf]; omega⟩
        · obtain rfl : k = l.length := by omega
          have hd : decide ((l.length : Int) < (l.length : Int)) = false := decide_eq_false (by omega)
          have hn : Hid (l.Nodup) := nodup_take.1 fun i h => hno.out i h h
          go_wp2_with fail
          go_ret
          exact ⟨by first | rfl | exact ret_int (if_pos hn.out).symm, hb.out⟩
      · by_cases hkl : k < l.length
        · have hd : decide ((k : Int) < (l.length : Int)) = true := decide_eq_true (by omega)
          go_wp2_with fail
          go_ret
          exact ⟨by first | rfl | exact ret_int (if_neg hnd.out).symm, hb.out⟩
        · have hd : decide ((k : Int) < (l.length : Int)) = false := decide_eq_false (by omega)
          go_wp2_with fail
          go_ret
          exact ⟨by first | rfl | exact ret_int (if_neg hnd.out).symm, hb.out⟩
  · rw [if_neg h0]
    obtain ⟨z, hz⟩ : ∃ z, z = askK r l g := ⟨_, rfl⟩
    rw [← hz] at HC h0 hcs ⊢
    have hz0 : (z == 0) = false := by rw [beq_eq_false_iff_ne]; exact h0
    clear hz hE hb hA hB
    have hd : decide ((0 : Int) < (l.length : Int)) = decide ((0 : Int) < (l.length : Int)) := rfl
    go_enter Try.func24, Try.ntmps24
    go_wp2_with (go_at_call 53; ((with_reducible refine (HC _ _ _ ?_ ?_).out.mono ?_); exact block_alloc HX.out _; exact HA.out.below ((Below.refl _ w).alloc (Nat.le_refl _) _) (Nat.le_refl _)); rintro e w1 ⟨rfl, hb1⟩; have HB1 := hid (((Below.refl _ w).alloc (Nat.le_refl _) _).trans (hb1.mono (by simp))); clear hb1)
    go_loopw [7, 8] (fun q i wr => i = .int .i64 0 ∧ q = .int .i64 z ∧ Hid (Below w.heap.size w wr)) (fun _ _ _ => 0)
    case atStart => exact ⟨rfl, rfl, HB1.out⟩
    case round =>
      obtain ⟨rfl, rfl, hb⟩ := hrel
      by_cases hkl : 0 < l.length
      · have hd : decide ((0 : Int) < (l.length : Int)) = true := decide_eq_true (by omega)
        go_wp2_with fail
        go_ret
        exact ⟨rfl, hb.out⟩
      · have hd : decide ((0 : Int) < (l.length : Int)) = false := decide_eq_false (by omega)
        go_wp2_with fail
        go_ret
        exact ⟨rfl, hb.out⟩
end Go.Proofs.Ytfbgldkdlmipoaa

/- What is lifted: the program's and the reference's. -/
namespace Go.Proofs.Ytfbgldkdlmipoaa
open Go.RowKit
set_option linter.unusedSimpArgs false
set_option linter.unusedVariables false

set_option maxHeartbeats 1600000 in
set_option maxRecDepth 100000 in
theorem c_lifted (r : Rf) (hr : r.Ok) (hv : validB r = true) (c t : Int) (hc : 0 ≤ c ∧ c ≤ 7) (ht : 0 ≤ t ∧ t ≤ 7) (A : Option Addr) (cc : Nat) (bef : List (Int × Int)) (hlen : bef.length ≤ 1000000) (w : World) (hA : PairsAt .i8 .i8 w A bef) :
    Calls Try.prog 45 #[.agg (rcells r), .agg #[.int .i8 c, .int .i8 t], .slice A bef.length cc] w fun e w' => e = .returned (.int .i64 (liftP r (c, t) bef)) ∧ Below w.heap.size w w' := by
  have HP := hid (block_alloc (block_new1 w (.cells (rcells r) 31) rfl) (.cells #[.int .i8 c, .int .i8 t] 50))
  have HQ := hid (block_new1 (w.alloc (.cells (rcells r) 31)) (.cells #[.int .i8 c, .int .i8 t] 50) (n := w.heap.size + 1) (by simp))
  have HW : Hid (Below w.heap.size w ((w.alloc (.cells (rcells r) 31)).alloc (.cells #[.int .i8 c, .int .i8 t] 50))) := ((Below.refl _ w).alloc (Nat.le_refl _) _).alloc (by simp) _
  obtain ⟨L, hL⟩ : ∃ L, L = lapL r c t (c - 1) := ⟨_, rfl⟩
  have HL8 : Hid (L.length ≤ 2) := by rw [hL]; exact lapL_len r c t (c - 1)
  have HLM : Hid (∀ p ∈ L, (0 ≤ p.1 ∧ p.1 ≤ 7) ∧ (0 ≤ p.2 ∧ p.2 ≤ 7)) := fun p hp => by
    rw [hL] at hp
    have := lapL_mem hv p hp
    have vh := valid_head hv
    omega
  have HLAP := fun W => hid (c_lapped r hr hv c t (c - 1) hc ht (by omega) W)
  have HE : Hid (liftP r (c, t) bef = liftS r bef L) := by rw [hL]; rfl
  rw [← hL] at HLAP
  have HA := hid hA
  have HCC := fun p1 p2 W h => hid (c_containsP A cc bef hlen p1 p2 W h)
  have HKK := fun p1 p2 h1 h2 W => hid (c_kind r hr p1 p2 h1 h2 W)
  have ec : IntKind.i64.wrap c = c := IntWalk.i64_in _ (by omega)
  have ec1 : IntKind.i64.wrap (c - 1) = c - 1 := IntWalk.i64_in _ (by omega)
  clear hL hA hv
  go_enter Try.func45, Try.ntmps45
  go_wp2_with (first
    | ((with_reducible refine gate (N := 10) rfl ?_); refine wp_roof 31 Try.underlying31 rfl Try.infoRoof rfl (.tmp 3) rfl w.heap.size rfl r hr HP.out ?_)
    | (go_at_call 62; ((with_reducible refine (HLAP _).out.mono ?_); rintro e w2 ⟨v, rfl, hb2, hr2⟩); obtain ⟨Av, cv, rfl⟩ := owns_slc hr2; have HB2 := hid hb2; have HR2 : Hid (RowQ _ w2 (.slice Av L.length cv) L) := hr2; clear hb2 hr2))
  have HW2 := hid (HW.out.trans (HB2.out.mono HW.out.size))
  have HP2 := hid (block_below HB2.out HP.out (block_lt HP.out))
  go_loopw [7, 18] (fun s i wr => ∃ k : Nat, k ≤ L.length ∧ i = .int .i64 k ∧ s = .int .i64 (liftS r bef (L.take k)) ∧ Hid (Below w2.heap.size w2 wr)) (fun _ i _ => L.length - (intOf i).toNat)
  case atStart => exact ⟨0, by omega, rfl, rfl, Below.refl _ _⟩
  case round =>
    obtain ⟨k, hk, rfl, rfl, hb⟩ := hrel
    have HB := hid (HW2.out.trans (hb.out.mono HW2.out.size))
    have HLN : L.length ≤ 2 := HL8.out
    by_cases hkl : k < L.length
    · have hd : decide ((k : Int) < (L.length : Int)) = true := decide_eq_true (by omega)
      have hkI : (k : Int) < (L.length : Int) := by omega
      have hk0 : (0 : Int) ≤ (k : Int) := by omega
      have hp := List.getElem?_eq_getElem hkl
      obtain ⟨⟨p1, p2⟩, hpp⟩ : ∃ p, p = L[k] := ⟨_, rfl⟩
      rw [← hpp] at hp
      have hm := HLM.out (p1, p2) (by rw [hpp]; exact List.getElem_mem hkl)
      have HT := hid (liftS_take r bef L hp)
      have hsb := liftS_b r bef (L.take k)
      have htl : (L.take k).length ≤ 2 := by rw [List.length_take]; omega
      obtain ⟨s, hs⟩ : ∃ s, s = liftS r bef (L.take k) := ⟨_, rfl⟩
      rw [← hs] at HT hsb ⊢
      have hs1 : 0 ≤ s ∧ s ≤ 4 := by omega
      obtain ⟨ba, off, e1, r1, r2, r3⟩ := (HR2.out.below hb.out (Nat.le_refl _)).pairs k _ hp
      subst e1
      dsimp only at r2 r3 hm
      have HXw := hid (block_below hb.out HP2.out (block_lt HP2.out))
      have HAw := hid (HA.out.below (HB.out.trans ((Below.refl w.heap.size wr).alloc HB.out.size (.cells #[.int .i8 p1, .int .i8 p2] 50))) (Nat.le_refl _))
      have HC1 := hid (HCC p1 p2 _ HAw.out).out
      have HNB := hid (block_new1 wr (.cells #[.int .i8 p1, .int .i8 p2] 50) rfl)
      have HBn := hid (HB.out.trans ((Below.refl w.heap.size wr).alloc HB.out.size (.cells #[.int .i8 p1, .int .i8 p2] 50)))
      have Hbn := hid (hb.out.trans ((Below.refl w2.heap.size wr).alloc hb.out.size (.cells #[.int .i8 p1, .int .i8 p2] 50)))
      have es : ∀ d : Int, 0 ≤ d ∧ d ≤ 2 → IntKind.i64.wrap (s + d) = s + d := fun d hd => IntWalk.i64_in _ (by omega)
      have es1 := es 1 (by omega)
      have es2 := es 2 (by omega)
      clear hp hpp htl hs hsb es
      by_cases hin : (p1, p2) ∈ bef
      · have HO : Hid (oneLift r bef (p1, p2) = 2) := by show _ = _; unfold oneLift; rw [if_pos hin]
        have hC := HC1.out
        rw [decide_eq_true hin] at hC
        have HC2 := hid hC
        clear hC HC1 hin
        go_wp2_with (go_at_call 61; ((with_reducible refine HC2.out.mono ?_); rintro e w3 ⟨rfl, hb3⟩); have HB3 := hid hb3; clear hb3)
        exact ⟨⟨k + 1, by omega, by go_num, congrArg (Value.int .i64) (by rw [HT.out, HO.out]), Hbn.out.trans (HB3.out.mono Hbn.out.size)⟩, by simp [intOf]; omega⟩
      · have hC := HC1.out
        rw [decide_eq_false hin] at hC
        have HC2 := hid hC
        have HO : Hid (oneLift r bef (p1, p2) = if r.at p1.toNat p2.toNat = 3 then 0 else 1) := by show _ = _; unfold oneLift; rw [if_neg hin]
        have HK := fun W => hid (HKK p1 p2 hm.1 hm.2 W).out
        obtain ⟨z, hz⟩ : ∃ z, z = r.at p1.toNat p2.toNat := ⟨_, rfl⟩
        rw [← hz] at HK HO
        clear hC HC1 hin hz
        by_cases hz3 : z = 3
        · have HO : Hid (oneLift r bef (p1, p2) = 0) := by rw [HO.out, if_pos hz3]; rfl
          have hz1 : (z != 3) = false := by rw [hz3]; rfl
          have hz2 : (z == 3) = true := by rw [hz3]; rfl
          clear hz3
          go_wp2_with (first
            | ((with_reducible refine gate (N := 29) rfl ?_); refine wp_roof 31 Try.underlying31 rfl Try.infoRoof rfl (.tmp 3) rfl w.heap.size rfl r hr (block_below HB3.out (block_alloc HXw.out _) (by have := block_lt HXw.out; simp; omega)) ?_)
            | (go_at_call 61; ((with_reducible refine HC2.out.mono ?_); rintro e w3 ⟨rfl, hb3⟩); have HB3 := hid hb3; have HN3 := hid (block_below hb3 HNB.out (by simp)); have k0 : w3.cell? ⟨wr.heap.size, 0, none⟩ = some (.int .i8 p1) := cell_block HN3.out rfl; have k1 : w3.cell? ⟨wr.heap.size, 1, none⟩ = some (.int .i8 p2) := cell_block HN3.out rfl; clear hb3)
            | (go_at_call 70; ((with_reducible refine (HK _).out.mono ?_); rintro e w4 ⟨rfl, hb4⟩); have HB4 := hid (HB3.out.trans (hb4.mono HB3.out.size)); clear hb4))
          exact ⟨⟨k + 1, by omega, by go_num, congrArg (Value.int .i64) (by rw [HT.out, HO.out]; omega), Hbn.out.trans (HB4.out.mono Hbn.out.size)⟩, by simp [intOf]; omega⟩
        · have HO : Hid (oneLift r bef (p1, p2) = 1) := by rw [HO.out, if_neg hz3]; rfl
          have hz2 : (z == 3) = false := by rw [beq_eq_false_iff_ne]; exact hz3
          have hz1 : (z != 3) = true := by unfold bne; rw [hz2]; rfl
          clear hz3
          go_wp2_with (first
            | ((with_reducible refine gate (N := 29) rfl ?_); refine wp_roof 31 Try.underlying31 rfl Try.infoRoof rfl (.tmp 3) rfl w.heap.size rfl r hr (block_below HB3.out (block_alloc HXw.out _) (by have := block_lt HXw.out; simp; omega)) ?_)
            | (go_at_call 61; ((with_reducible refine HC2.out.mono ?_); rintro e w3 ⟨rfl, hb3⟩); have HB3 := hid hb3; have HN3 := hid (block_below hb3 HNB.out (by simp)); have k0 : w3.cell? ⟨wr.heap.size, 0, none⟩ = some (.int .i8 p1) := cell_block HN3.out rfl; have k1 : w3.cell? ⟨wr.heap.size, 1, none⟩ = some (.int .i8 p2) := cell_block HN3.out rfl; clear hb3)
            | (go_at_call 70; ((with_reducible refine (HK _).out.mono ?_); rintro e w4 ⟨rfl, hb4⟩); have HB4 := hid (HB3.out.trans (hb4.mono HB3.out.size)); clear hb4))
          exact ⟨⟨k + 1, by omega, by go_num, congrArg (Value.int .i64) (by rw [HT.out, HO.out]), Hbn.out.trans (HB4.out.mono Hbn.out.size)⟩, by simp [intOf]; omega⟩
    · obtain rfl : k = L.length := by omega
      have hd : decide ((L.length : Int) < (L.length : Int)) = false := decide_eq_false (by omega)
      have ht : L.take L.length = L := List.take_length
      rw [ht]
      clear ht
      go_wp2_with fail
      go_ret
      exact ⟨ret_int HE.out.symm, HB.out⟩
set_option maxHeartbeats 1600000 in
set_option maxRecDepth 100000 in
theorem c_liftedFor (r : Rf) (hr : r.Ok) (hv : validB r = true) (A : Option Addr) (cc : Nat) (l : List (Int × Int)) (hlen : l.length ≤ 8) (hlc : l.length ≤ cc) (hM : ∀ p ∈ l, (0 ≤ p.1 ∧ p.1 ≤ 7) ∧ (0 ≤ p.2 ∧ p.2 ≤ 7)) (w : World) (hA : PairsAt .i8 .i8 w A l) :
    Calls Try.prog 34 #[.agg (rcells r), .slice A l.length cc] w fun e w' => e = .returned (.int .i64 (liftN r l l.length)) ∧ Below w.heap.size w w' := by
  have HP := hid (block_new1 w (.cells (rcells r) 31) rfl)
  have HW : Hid (Below w.heap.size w (w.alloc (.cells (rcells r) 31))) := (Below.refl _ w).alloc (Nat.le_refl _) _
  have HA := hid hA
  have HM := hid hM
  have HLF := fun (c t : Int) hc ht (Ab : Option Addr) (cb : Nat) (bef : List (Int × Int)) hl W h => hid (c_lifted r hr hv c t hc ht Ab cb bef hl W h)
  clear hA hM hv
  go_enter Try.func34, Try.ntmps34
  go_wp2_with fail
  go_loopw [5, 10] (fun s i wr => ∃ k : Nat, k ≤ l.length ∧ i = .int .i64 k ∧ s = .int .i64 (liftN r l k) ∧ Hid (Below (w.heap.size + 1) (w.alloc (.cells (rcells r) 31)) wr)) (fun _ i _ => l.length - (intOf i).toNat)
  case atStart => exact ⟨0, by omega, rfl, rfl, Below.refl _ _⟩
  case round =>
    obtain ⟨k, hk, rfl, rfl, hb⟩ := hrel
    have HB := hid (HW.out.trans (hb.out.mono (Nat.le_succ _)))
    by_cases hkl : k < l.length
    · have hd : decide ((k : Int) < (l.length : Int)) = true := decide_eq_true (by omega)
      have hkI : (k : Int) < (l.length : Int) := by omega
      have hk0 : (0 : Int) ≤ (k : Int) := by omega
      have hkc : (k : Int) ≤ (cc : Int) := by omega
      have hp := List.getElem?_eq_getElem hkl
      obtain ⟨⟨p1, p2⟩, hpp⟩ : ∃ p, p = l[k] := ⟨_, rfl⟩
      rw [← hpp] at hp
      have hm := HM.out (p1, p2) (by rw [hpp]; exact List.getElem_mem hkl)
      have HT := hid (liftN_at r l hp)
      have hsb := liftN_b r l k
      have hpb := liftP_b r (p1, p2) (l.take k)
      obtain ⟨s, hs⟩ : ∃ s, s = liftN r l k := ⟨_, rfl⟩
      have htl : (l.take k).length = k := by rw [List.length_take]; omega
      obtain ⟨ba, off, rfl, r1, r2, r3⟩ := HA.out.below HB.out (Nat.le_refl _) k _ hp
      dsimp only at r2 r3 hm
      have HL1 := fun W h => hid (HLF p1 p2 hm.1 hm.2 (some ⟨ba, off, none⟩) cc (l.take k) (by omega) W h).out
      rw [htl] at HL1
      obtain ⟨z, hz⟩ : ∃ z, z = liftP r (p1, p2) (l.take k) := ⟨_, rfl⟩
      rw [← hz] at HL1 hpb HT
      rw [← hs] at HT hsb ⊢
      have esz : IntKind.i64.wrap (s + z) = s + z := IntWalk.i64_in _ (by omega)
      have lw : w.heap.size + 1 ≤ wr.heap.size := by have := hb.out.size; simpa using this
      have HX0 := hid (block_below hb.out HP.out (by omega))
      obtain ⟨W1, hW1⟩ : ∃ W1, W1 = wr.alloc (.cells #[.int .i8 p1, .int .i8 p2] 50) := ⟨_, rfl⟩
      have HX1 : Hid (W1.heap[w.heap.size]? = some (.cells (rcells r) 31 (0,0))) := by rw [hW1]; exact block_alloc HX0.out _
      have HN1 : Hid (W1.heap[wr.heap.size]? = some (.cells #[.int .i8 p1, .int .i8 p2] 50 (0,0))) := by rw [hW1]; exact block_new1 wr _ rfl
      have HB1 : Hid (Below w.heap.size w W1) := by rw [hW1]; exact HB.out.trans ((Below.refl w.heap.size wr).alloc HB.out.size _)
      have Hb1 : Hid (Below (w.heap.size + 1) (w.alloc (.cells (rcells r) 31)) W1) := by rw [hW1]; exact hb.out.trans ((Below.refl _ wr).alloc lw _)
      have HA1 := hid (take_pairs (HA.out.below HB1.out (Nat.le_refl _)) k)
      have LX := hid (block_lt HX1.out)
      have LN := block_lt HN1.out
      have q0 : W1.cell? ⟨wr.heap.size, 0, none⟩ = some (.int .i8 p1) := cell_block HN1.out rfl
      have q1 : W1.cell? ⟨wr.heap.size, 1, none⟩ = some (.int .i8 p2) := cell_block HN1.out rfl
      have R0 : Hid (∀ x : Ext W1.heap.size W1, (Instr.loadAt 31 (.pointer (some ⟨w.heap.size, 0, none⟩))).run Try.prog x.out = .ok (.agg (rcells r)) x.out) := fun x =>
        run_load_roof 31 Try.underlying31 rfl Try.infoRoof hr (block_below x.below HX1.out LX.out)
      clear hp hpp hs hsb hpb hz htl HLF
      go_wp2_with fail
      rw [← hW1]
      clear hW1
      refine wp_region_ext W1.heap.size (by kernel_rfl) (by kernel_rfl) ?_
      repeat (first
        | ((with_reducible refine wpQuiet_run (N := 16) rfl rfl (.agg (rcells r)) ?_ ?_); (rintro _ ⟨x, rfl⟩; exact execOp_load rfl rfl (R0.out x)); go_simp)
        | go_big_quiet_step ((go_at_call 45; exact Calls.ext (Nat.le_refl _) (HL1 _ (HA1.out.below (Ext.below _) (Nat.le_refl _))).out)))
      refine wpQuiet_nil ?_
      intro x
      go_wp2_with fail
      exact ⟨⟨k + 1, by omega, by go_num, congrArg (Value.int .i64) (by rw [HT.out]), Hb1.out.trans (x.below.mono (by have := Hb1.out.size; simpa using this))⟩, by simp [intOf]; omega⟩
    · obtain rfl : k = l.length := by omega
      have hd : decide ((l.length : Int) < (l.length : Int)) = false := decide_eq_false (by omega)
      go_wp2_with fail
      go_ret
      exact ⟨rfl, HB.out⟩
set_option maxHeartbeats 1600000 in
set_option maxRecDepth 100000 in
theorem c_l04Lift (r : Rf) (hr : r.Ok) (hv : validB r = true) (b : Nat) (c t : Int) (hc : 0 ≤ c ∧ c ≤ 7) (ht : 0 ≤ t ∧ t ≤ 7) (A : Option Addr) (cc : Nat) (bef : List (Int × Int)) (hlen : bef.length ≤ 1000000) (w : World) (hb : w.heap[b]? = some (.cells (rcells r) 31 (0,0))) (hA : PairsAt .i8 .i8 w A bef) :
    Calls Try.prog 63 #[.pointer (some ⟨b,0,none⟩), .agg #[.int .i8 c, .int .i8 t], .slice A bef.length cc] w fun e w' => e = .returned (.int .i64 (liftP r (c, t) bef)) ∧ Below w.heap.size w w' := by
  have HX := hid hb
  have HW : Hid (Below w.heap.size w (w.alloc (.cells #[.int .i8 c, .int .i8 t] 50))) := (Below.refl _ w).alloc (Nat.le_refl _) _
  have HX0 := hid (block_alloc hb (.cells #[.int .i8 c, .int .i8 t] 50))
  obtain ⟨L, hL⟩ : ∃ L, L = lapL r c t (c - 1) := ⟨_, rfl⟩
  have HL8 : Hid (L.length ≤ 2) := by rw [hL]; exact lapL_len r c t (c - 1)
  have HLM : Hid (∀ p ∈ L, (0 ≤ p.1 ∧ p.1 ≤ 7) ∧ (0 ≤ p.2 ∧ p.2 ≤ 7)) := fun p hp => by
    rw [hL] at hp
    have := lapL_mem hv p hp
    have vh := valid_head hv
    omega
  have HLAP := fun W h => hid (c_l01Laps r hr hv b c t (-1) hc ht (by omega) W h)
  have HE : Hid (liftP r (c, t) bef = liftS r bef L) := by rw [hL]; rfl
  rw [show c + -1 = c - 1 by omega, ← hL] at HLAP
  have HA := hid hA
  have HCC := fun p1 p2 W h => hid (c_l01Has A cc bef hlen p1 p2 W h)
  have HKK := fun p1 p2 h1 h2 W h => hid (c_l01At r hr b p1 p2 h1 h2 W h)
  clear hL hA hv hb
  go_enter Try.func63, Try.ntmps63
  go_wp2_with (go_at_call 90; ((with_reducible refine (HLAP _ HX0.out).out.mono ?_); rintro e w2 ⟨v, rfl, hb2, hr2⟩); obtain ⟨Av, cv, rfl⟩ := owns_slc hr2; have HB2 := hid hb2; have HR2 : Hid (RowQ _ w2 (.slice Av L.length cv) L) := hr2; clear hb2 hr2)
  have HW2 := hid (HW.out.trans (HB2.out.mono HW.out.size))
  have HP2 := hid (block_below HB2.out HX0.out (block_lt HX0.out))
  go_loopw [7, 9] (fun s i wr => ∃ k : Nat, k ≤ L.length ∧ i = .int .i64 k ∧ s = .int .i64 (liftS r bef (L.take k)) ∧ Hid (Below w2.heap.size w2 wr)) (fun _ i _ => L.length - (intOf i).toNat)
  case atStart => exact ⟨0, by omega, rfl, rfl, Below.refl _ _⟩
  case round =>
    obtain ⟨k, hk, rfl, rfl, hb⟩ := hrel
    have HB := hid (HW2.out.trans (hb.out.mono HW2.out.size))
    have HLN : L.length ≤ 2 := HL8.out
    by_cases hkl : k < L.length
    · have hd : decide ((k : Int) < (L.length : Int)) = true := decide_eq_true (by omega)
      have hkI : (k : Int) < (L.length : Int) := by omega
      have hk0 : (0 : Int) ≤ (k : Int) := by omega
      have hp := List.getElem?_eq_getElem hkl
      obtain ⟨⟨p1, p2⟩, hpp⟩ : ∃ p, p = L[k] := ⟨_, rfl⟩
      rw [← hpp] at hp
      have hm := HLM.out (p1, p2) (by rw [hpp]; exact List.getElem_mem hkl)
      have HT := hid (liftS_take r bef L hp)
      have hsb := liftS_b r bef (L.take k)
      have htl : (L.take k).length ≤ 2 := by rw [List.length_take]; omega
      obtain ⟨s, hs⟩ : ∃ s, s = liftS r bef (L.take k) := ⟨_, rfl⟩
      rw [← hs] at HT hsb ⊢
      have hs1 : 0 ≤ s ∧ s ≤ 4 := by omega
      obtain ⟨ba, off, e1, r1, r2, r3⟩ := (HR2.out.below hb.out (Nat.le_refl _)).pairs k _ hp
      subst e1
      dsimp only at r2 r3 hm
      have HXw := hid (block_below hb.out HP2.out (block_lt HP2.out))
      have HAw := hid (HA.out.below HB.out (Nat.le_refl _))
      have HC1 := hid (HCC p1 p2 _ HAw.out).out
      have es : ∀ d : Int, 0 ≤ d ∧ d ≤ 2 → IntKind.i64.wrap (s + d) = s + d := fun d hd => IntWalk.i64_in _ (by omega)
      have es1 := es 1 (by omega)
      have es2 := es 2 (by omega)
      have R1 := hid r1
      clear hp hpp htl hs hsb es
      by_cases hin : (p1, p2) ∈ bef
      · have HO : Hid (oneLift r bef (p1, p2) = 2) := by show _ = _; unfold oneLift; rw [if_pos hin]
        have hC := HC1.out
        rw [decide_eq_true hin] at hC
        have HC2 := hid hC
        clear hC HC1 hin
        go_wp2_with (go_at_call 36; ((with_reducible refine HC2.out.mono ?_); rintro e w3 ⟨rfl, hb3⟩); have HB3 := hid hb3; clear hb3)
        exact ⟨⟨k + 1, by omega, by go_num, congrArg (Value.int .i64) (by rw [HT.out, HO.out]), hb.out.trans (HB3.out.mono hb.out.size)⟩, by simp [intOf]; omega⟩
      · have hC := HC1.out
        rw [decide_eq_false hin] at hC
        have HC2 := hid hC
        have HO : Hid (oneLift r bef (p1, p2) = if r.at p1.toNat p2.toNat = 3 then 0 else 1) := by show _ = _; unfold oneLift; rw [if_neg hin]
        have HK := fun W h => hid (HKK p1 p2 hm.1 hm.2 W h).out
        obtain ⟨z, hz⟩ : ∃ z, z = r.at p1.toNat p2.toNat := ⟨_, rfl⟩
        rw [← hz] at HK HO
        clear hC HC1 hin hz
        by_cases hz3 : z = 3
        · have HO : Hid (oneLift r bef (p1, p2) = 0) := by rw [HO.out, if_pos hz3]; rfl
          have hz1 : (z != 3) = false := by rw [hz3]; rfl
          have hz2 : (z == 3) = true := by rw [hz3]; rfl
          clear hz3
          go_wp2_with (first
            | (go_at_call 36; ((with_reducible refine HC2.out.mono ?_); rintro e w3 ⟨rfl, hb3⟩); have HB3 := hid hb3; have k0 := (hb3.cell (p := ⟨ba, _, none⟩) R1.out).trans r2; have k1 := (hb3.cell (p := ⟨ba, _, none⟩) R1.out).trans r3; clear hb3)
            | (go_at_call 91; ((with_reducible refine (HK _ (block_below HB3.out HXw.out (block_lt HXw.out))).out.mono ?_); rintro e w4 ⟨rfl, hb4⟩); have HB4 := hid (HB3.out.trans (hb4.mono HB3.out.size)); clear hb4))
          exact ⟨⟨k + 1, by omega, by go_num, congrArg (Value.int .i64) (by rw [HT.out, HO.out]; omega), hb.out.trans (HB4.out.mono hb.out.size)⟩, by simp [intOf]; omega⟩
        · have HO : Hid (oneLift r bef (p1, p2) = 1) := by rw [HO.out, if_neg hz3]; rfl
          have hz2 : (z == 3) = false := by rw [beq_eq_false_iff_ne]; exact hz3
          have hz1 : (z != 3) = true := by unfold bne; rw [hz2]; rfl
          clear hz3
          go_wp2_with (first
            | (go_at_call 36; ((with_reducible refine HC2.out.mono ?_); rintro e w3 ⟨rfl, hb3⟩); have HB3 := hid hb3; have k0 := (hb3.cell (p := ⟨ba, _, none⟩) R1.out).trans r2; have k1 := (hb3.cell (p := ⟨ba, _, none⟩) R1.out).trans r3; clear hb3)
            | (go_at_call 91; ((with_reducible refine (HK _ (block_below HB3.out HXw.out (block_lt HXw.out))).out.mono ?_); rintro e w4 ⟨rfl, hb4⟩); have HB4 := hid (HB3.out.trans (hb4.mono HB3.out.size)); clear hb4))
          exact ⟨⟨k + 1, by omega, by go_num, congrArg (Value.int .i64) (by rw [HT.out, HO.out]), hb.out.trans (HB4.out.mono hb.out.size)⟩, by simp [intOf]; omega⟩
    · obtain rfl : k = L.length := by omega
      have hd : decide ((L.length : Int) < (L.length : Int)) = false := decide_eq_false (by omega)
      have ht : L.take L.length = L := List.take_length
      rw [ht]
      clear ht
      go_wp2_with fail
      go_ret
      exact ⟨ret_int HE.out.symm, HB.out⟩
set_option maxHeartbeats 1600000 in
set_option maxRecDepth 100000 in
theorem c_l04Lifted (r : Rf) (hr : r.Ok) (hv : validB r = true) (b : Nat) (A : Option Addr) (cc : Nat) (l : List (Int × Int)) (hlen : l.length ≤ 8) (hlc : l.length ≤ cc) (hM : ∀ p ∈ l, (0 ≤ p.1 ∧ p.1 ≤ 7) ∧ (0 ≤ p.2 ∧ p.2 ≤ 7)) (w : World) (hb : w.heap[b]? = some (.cells (rcells r) 31 (0,0))) (hA : PairsAt .i8 .i8 w A l) :
    Calls Try.prog 33 #[.pointer (some ⟨b,0,none⟩), .slice A l.length cc] w fun e w' => e = .returned (.int .i64 (liftN r l l.length)) ∧ Below w.heap.size w w' := by
  have HP := hid hb
  have HA := hid hA
  have HM := hid hM
  have HLF := fun (c t : Int) hc ht (Ab : Option Addr) (cb : Nat) (bef : List (Int × Int)) hl W h h' => hid (c_l04Lift r hr hv b c t hc ht Ab cb bef hl W h h')
  clear hA hM hv hb
  go_enter Try.func33, Try.ntmps33
  go_wp2_with fail
  go_loopw [5, 6] (fun s i wr => ∃ k : Nat, k ≤ l.length ∧ i = .int .i64 k ∧ s = .int .i64 (liftN r l k) ∧ Hid (Below w.heap.size w wr)) (fun _ i _ => l.length - (intOf i).toNat)
  case atStart => exact ⟨0, by omega, rfl, rfl, Below.refl _ _⟩
  case round =>
    obtain ⟨k, hk, rfl, rfl, HB⟩ := hrel
    by_cases hkl : k < l.length
    · have hd : decide ((k : Int) < (l.length : Int)) = true := decide_eq_true (by omega)
      have hkI : (k : Int) < (l.length : Int) := by omega
      have hk0 : (0 : Int) ≤ (k : Int) := by omega
      have hkc : (k : Int) ≤ (cc : Int) := by omega
      have hp := List.getElem?_eq_getElem hkl
      obtain ⟨⟨p1, p2⟩, hpp⟩ : ∃ p, p = l[k] := ⟨_, rfl⟩
      rw [← hpp] at hp
      have hm := HM.out (p1, p2) (by rw [hpp]; exact List.getElem_mem hkl)
      have HT := hid (liftN_at r l hp)
      have hsb := liftN_b r l k
      have hpb := liftP_b r (p1, p2) (l.take k)
      obtain ⟨s, hs⟩ : ∃ s, s = liftN r l k := ⟨_, rfl⟩
      have htl : (l.take k).length = k := by rw [List.length_take]; omega
      obtain ⟨ba, off, rfl, r1, r2, r3⟩ := HA.out.below HB.out (Nat.le_refl _) k _ hp
      dsimp only at r2 r3 hm
      have HL1 := fun W h h' => hid (HLF p1 p2 hm.1 hm.2 (some ⟨ba, off, none⟩) cc (l.take k) (by omega) W h h').out
      rw [htl] at HL1
      obtain ⟨z, hz⟩ : ∃ z, z = liftP r (p1, p2) (l.take k) := ⟨_, rfl⟩
      rw [← hz] at HL1 hpb HT
      rw [← hs] at HT hsb ⊢
      have esz : IntKind.i64.wrap (s + z) = s + z := IntWalk.i64_in _ (by omega)
      have HX1 := hid (block_below HB.out HP.out (block_lt HP.out))
      have LX := hid (block_lt HX1.out)
      have HA1 := hid (take_pairs (HA.out.below HB.out (Nat.le_refl _)) k)
      clear hp hpp hs hsb hpb hz htl HLF
      go_wp2_with fail
      refine wp_region_ext wr.heap.size (by kernel_rfl) (by kernel_rfl) ?_
      repeat (go_big_quiet_step ((go_at_call 63; exact Calls.ext (Nat.le_refl _) (HL1 _ (block_below (Ext.below _) HX1.out LX.out) (HA1.out.below (Ext.below _) (Nat.le_refl _))).out)))
      refine wpQuiet_nil ?_
      intro x
      go_wp2_with fail
      exact ⟨⟨k + 1, by omega, by go_num, congrArg (Value.int .i64) (by rw [HT.out]), HB.out.trans (x.below.mono HB.out.size)⟩, by simp [intOf]; omega⟩
    · obtain rfl : k = l.length := by omega
      have hd : decide ((l.length : Int) < (l.length : Int)) = false := decide_eq_false (by omega)
      go_wp2_with fail
      go_ret
      exact ⟨rfl, HB.out⟩
end Go.Proofs.Ytfbgldkdlmipoaa

/- slices.Values over places as an iterator; slices.AppendSeq, slices.Collect. -/
namespace Go.Proofs.Ytfbgldkdlmipoaa
open Go.RowKit Go.Shelf
set_option linter.unusedSimpArgs false
set_option linter.unusedVariables false

attribute [local go_sem] Oper.semAt_some
def encQ (p : Int × Int) : Array Value := #[.agg #[.int .i8 p.1, .int .i8 p.2]]
theorem grown_of_below {W W' : World} (h : Below W.heap.size W W') : W.grownBy W' none := ⟨h.os, h.tape, h.output, h.size, fun k hk _ => h.block k hk⟩
set_option maxRecDepth 100000 in
set_option maxHeartbeats 1000000 in
theorem values1_in (F : Fence) (n : Nat) (hf : F.fn 67) (hro : F.round = none) (hn : 1 ≤ n) (l Bs : Nat) (A : Option Addr) (cap : Nat) (zs : List (Int × Int)) (hlen : zs.length ≤ 1048576) (J Jx : List (Int × Int) → World → Prop) (w0 : World)
    (hY : ∀ pre x W, J pre W → pre.length < zs.length → YieldAt F (n - 1) Try.prog l (encQ x) W fun e W' =>
      (e = .returned (.bool true) ∧ J (pre ++ [x]) W' ∧ Below w0.heap.size W W') ∨ (e = .returned (.bool false) ∧ Jx (pre ++ [x]) W'))
    (W : World) (hW : Below w0.heap.size w0 W) (hJ : AbidesFrom W.heap.size J) (hcs : W.cell? ⟨Bs, 0, none⟩ = some (.slice A zs.length cap)) (hA : PairsAt .i8 .i8 w0 A zs) (h0 : J [] W) :
    CallsIn F n Try.prog 67 #[.func (.yield l) #[] #[], .pointer (some ⟨Bs, 0, none⟩)] W fun e W' => (∃ v, e = .returned v) ∧
      ((∃ ys, ys = zs ∧ J ys W') ∨ (∃ pre, True ∧ Jx pre W')) := by
  have HA := hid hA
  have HYY := hid hY
  have HJ := hid hJ
  clear hA hY hJ
  refine callsIn_of_wp Try.func67 rfl hf ?_ hro
  simp only [Try.ntmps67, List.size_toArray, List.length_cons, List.length_nil, Nat.reduceAdd, Nat.reduceSub, Array.replicate_succ, Array.replicate_zero, List.push_toArray, List.append_toArray, List.nil_append, List.cons_append]
  gi_wp2
  gi_loopw [7] (fun i wr => ∃ j : Nat, j ≤ zs.length ∧ i = .int .i64 j ∧ J (zs.take j) wr ∧ Below w0.heap.size w0 wr) (fun i _ => zs.length - (intOf i).toNat)
  case atStart => exact ⟨0, Nat.zero_le _, rfl, h0, hW⟩
  case round =>
    obtain ⟨j, hj, rfl, hJs, hb⟩ := hrel
    have HJs := hid hJs
    have HBw := hid hb
    clear hJs hb
    by_cases hjl : j < zs.length
    · have hd : decide ((j : Int) < (zs.length : Int)) = true := decide_eq_true (by omega)
      have hkI : (j : Int) < (zs.length : Int) := by omega
      have hk0 : (0 : Int) ≤ (j : Int) := by omega
      have hp := List.getElem?_eq_getElem hjl
      obtain ⟨⟨p1, p2⟩, hpp⟩ : ∃ p, p = zs[j] := ⟨_, rfl⟩
      rw [← hpp] at hp
      have HPP := hid hpp
      obtain ⟨ba, off, rfl, r1, r2, r3⟩ := HA.out.below HBw.out (Nat.le_refl _) j _ hp
      dsimp only at r2 r3
      clear hp hpp hcs
      have HE1 : Hid (zs.take (j + 1) = zs.take j ++ [(p1, p2)]) := by show _ = _; rw [HPP.out]; exact List.take_succ_eq_append_getElem hjl
      have HJ1 := HJ.out _ _ (wr.alloc (.cells #[.int .i8 p1, .int .i8 p2] 50)) none HJs.out (World.grownBy_alloc _ _ none) (fun r e => by cases e)
      obtain ⟨fn, tmps, assign, body, hy, hR⟩ := HYY.out _ (p1, p2) _ HJ1 (by rw [List.length_take]; omega)
      dsimp only [encQ] at hy
      have HR := hid hR
      have HB1 := hid (HBw.out.trans ((Below.refl w0.heap.size wr).alloc HBw.out.size (.cells #[.int .i8 p1, .int .i8 p2] 50)))
      clear hR HJ1
      gi_wp2
      refine HR.out.mono ?_
      rintro e W3 (⟨rfl, hJ3, hk3⟩ | ⟨rfl, hJx3⟩)
      · have HN3 := hid (HB1.out.trans hk3)
        have HJ3 := hid hJ3
        clear hk3 hJ3 HR hy
        gi_wp2
        exact ⟨⟨j + 1, by omega, by go_num, by rw [HE1.out]; exact HJ3.out, HN3.out⟩, by simp [intOf]; omega⟩
      · gi_wp2
        refine bodyPost_ret (results_none rfl _ _ _) rfl ?_
        exact ⟨⟨_, rfl⟩, .inr ⟨_, trivial, hJx3⟩⟩
    · obtain rfl : j = zs.length := by omega
      have hd : decide ((zs.length : Int) < (zs.length : Int)) = false := decide_eq_false (by omega)
      gi_wp2
      go_end0
      exact ⟨⟨_, rfl⟩, .inl ⟨_, rfl, by have := HJs.out; rwa [List.take_length] at this⟩⟩
theorem values_stops (F : Fence) (n : Nat) (hf : F.fn 67) (hro : F.round = none) (hn : 1 ≤ n) (Bs : Nat) (A : Option Addr) (cap : Nat) (zs : List (Int × Int)) (hlen : zs.length ≤ 1048576) (w : World) (hcs : w.cell? ⟨Bs, 0, none⟩ = some (.slice A zs.length cap)) (hBs : Bs < w.heap.size) (hA : PairsAt .i8 .i8 w A zs) :
    SeqStopsK F n Try.prog 67 #[.pointer (some ⟨Bs, 0, none⟩)] encQ (Below w.heap.size) (fun ys => ys = zs) (fun _ => True) zs.length w := fun l J Jx W hW hJ _ hY h0 =>
  values1_in F n hf hro hn l Bs A cap zs hlen J Jx w hY W hW hJ ((hW.cell (p := ⟨Bs, 0, none⟩) hBs).trans hcs) hA h0
set_option maxHeartbeats 1000000 in
theorem c_values (A : Option Addr) (len cap : Nat) (w : World) :
    Calls Try.prog 38 #[.slice A len cap] w fun e w' => e = .returned (.func (.func 67) #[] #[.pointer (some ⟨w.heap.size, 0, none⟩)]) ∧ w' = w.alloc (.cells #[.slice A len cap] 33) := by
  go_enter Try.func38, Try.ntmps38
  go_wp2_with fail
  go_ret
  exact ⟨rfl, rfl⟩
theorem own_row (B B' : Nat) (e : TypeId) (sz _n : Nat) {β : Type} (f : β → List Value) (k : β → Nat) (v : Value) (s : β) {W W' : World} {row : Option Nat} (h : W.ownsRow B e sz v (k s) (f s)) (hg : W.grownBy W' row) (hr : ∀ r, row = some r → B' ≤ r ∧ ∃ o : Obj, W.heap[r]? = some o ∧ o.isCells = false) : W'.ownsRow B e sz v (k s) (f s) := by
  refine h.kept hg ?_
  rcases h.2 with ⟨rfl, _⟩ | ⟨g, cap, cur, rfl, _, hgb, _⟩
  · exact .inl rfl
  · refine .inr fun e' => ?_
    obtain ⟨_, o, ho, hw⟩ := hr g (by simpa [Value.ownBlock] using e'.symm)
    rw [hgb] at ho; cases ho; cases hw
theorem blk_own (B' b : Nat) (c : Array Value) (t : TypeId) {W W' : World} {row : Option Nat} (h : W.heap[b]? = some (.cells c t (0, 0))) (hg : W.grownBy W' row) (hr : ∀ r, row = some r → B' ≤ r ∧ ∃ o : Obj, W.heap[r]? = some o ∧ o.isCells = false) : W'.heap[b]? = some (.cells c t (0, 0)) := by
  refine (hg.block b (block_lt h) fun e => ?_).trans h
  obtain ⟨_, o, ho, hw⟩ := hr b e.symm
  rw [h] at ho; cases ho; cases hw
/-- The box holds a slice that owns what has come. -/
def BoxQ (Bx : Nat) (l : List (Int × Int)) (W : World) : Prop := ∃ v, W.heap[Bx]? = some (.cells #[v] 33 (0, 0)) ∧ RowQ (Bx + 1) W v l
set_option maxRecDepth 100000 in
set_option maxHeartbeats 2000000 in
theorem c_appSeq (Bs : Nat) (A : Option Addr) (cap : Nat) (zs : List (Int × Int)) (hlen : zs.length ≤ 1048576) (w : World) (hcs : w.cell? ⟨Bs, 0, none⟩ = some (.slice A zs.length cap)) (hBs : Bs < w.heap.size) (hA : PairsAt .i8 .i8 w A zs) :
    Calls Try.prog 92 #[.slice none 0 0, .func (.func 67) #[] #[.pointer (some ⟨Bs, 0, none⟩)]] w fun e w' => ∃ v, e = .returned v ∧ Below w.heap.size w w' ∧ RowQ w.heap.size w' v zs := by
  obtain ⟨i0, hi, hz0, hz1, hz2⟩ := info_parts Try.infoPlace
  refine (callsIn_wide (n := 3)).1 ?_
  have HA := hid hA; have HC := hid hcs
  clear hA hcs
  refine callsIn_of_wp_marks Try.func92 rfl trivial ?_ rfl
  simp only [Try.ntmps92, List.size_toArray, List.length_cons, List.length_nil, Nat.reduceAdd, Nat.reduceSub, Array.replicate_succ, Array.replicate_zero, List.push_toArray, List.append_toArray, List.nil_append, List.cons_append]
  gi_wp2
  refine wpIn_rangeFunc_ownH (F := Fence.wide) (n := 3) rfl (by decide) (gf := 67) (lb := #[.pointer (some ⟨Bs, 0, none⟩)]) rfl trivial (enters_of Try.func67 (by kernel_rfl) rfl)
    (values_stops Fence.wide (3 - 1) trivial rfl (by decide) Bs A cap zs (by omega) w HC.out hBs HA.out) belowK_t (belowK_b (by simp)) ((Below.refl _ w).alloc (Nat.le_refl _) _) (fun _ => rfl)
    (fun pre W => BoxQ w.heap.size pre W ∧ Below w.heap.size w W)
    (fun _ _ _ => False) ?hI (fun _ _ _ _ _ hs _ _ => hs) ?h0
    (fun x a W => ∃ q, W.heap[q]? = some (.cells #[.int .i8 x.1, .int .i8 x.2] 50 (0, 0)) ∧ w.heap.size < q ∧ a = { tmps := #[.slice none 0 0, .func (.func 67) #[] #[.pointer (some ⟨Bs, 0, none⟩)], .pointer (some ⟨w.heap.size, 0, none⟩), undef, .slice none 0 0, .pointer (some ⟨q, 0, none⟩), .func (.func 67) #[] #[.pointer (some ⟨Bs, 0, none⟩)], .agg #[.int .i8 x.1, .int .i8 x.2], undef, undef, undef, undef, undef], defers := [] }) ?hAx ?assign ?body ?done ?stop
  case hI =>
    refine OwnFrom.and (fun s W W' row h hg hr => ?_) (ownFrom_below (Nat.le_refl _) (by simp))
    obtain ⟨v, h1, h2⟩ := h
    exact ⟨v, blk_own _ _ _ _ h1 hg hr, own_row _ _ _ _ 0 pcells List.length v s h2 hg hr⟩
  case h0 =>
    exact ⟨⟨_, block_new1 w _ rfl, World.ownsRow_nil _ _ _ _⟩, (Below.refl _ w).alloc (Nat.le_refl _) _⟩
  case hAx =>
    rintro x a' s W W' row ⟨q, h1, h2, h3⟩ hg hr
    exact ⟨q, blk_own _ _ _ _ h1 hg hr, h2, h3⟩
  case assign =>
    intro lq pre x W K hI hK
    obtain ⟨x1, x2⟩ := x
    obtain ⟨⟨v, h1, h2⟩, h3⟩ := hI
    have hs := h3.size
    have hb1 := block_lt h1
    dsimp only [encQ]
    gi_wp2
    refine hK _ _ ((KeepsOthers.alloc W _).from _) ((Below.refl _ W).alloc hs _) ⟨⟨_, block_alloc h1 _, World.ownsRow.alloc h2 _⟩, h3.alloc hs _⟩ ⟨_, block_new1 W _ rfl, by omega, rfl⟩
  case body =>
    rintro lq pre ⟨x1, x2⟩ a' W hl hlr ⟨⟨v, h1, h2⟩, h3⟩ ⟨q, h4, h5, rfl⟩ hN
    dsimp only at h4
    obtain ⟨Av, cv, rfl⟩ := owns_slc h2
    have hcb : W.cell? ⟨w.heap.size, 0, none⟩ = some (.slice Av pre.length cv) := cell_block h1 rfl
    have r0 : W.cell? ⟨q, 0, none⟩ = some (.int .i8 x1) := cell_block h4 rfl
    have r1 : W.cell? ⟨q, 1, none⟩ = some (.int .i8 x2) := cell_block h4 rfl
    have HS2 := hid h2
    have hsz := h3.size
    clear h2
    gi_wp2_with (first
      | (gi_at_builtin; go_loud (refine wpListIn_append_own _ rfl _ _ 33 rfl (w.heap.size + 1) 50 i0 (.agg #[.int .i8 0, .int .i8 0]) 2 2 Try.underlying33 hi hz0 hz1 hz2 rfl (by decide) _ _ _ rfl (World.ownsRow.alloc HS2.out _) ⟨W.heap.size, 0, none⟩ 1 1 [.int .i8 x1, .int .i8 x2] rfl rfl (World.news_of_block (block_new1 W _ rfl)) (by simp [Value.oneCell']) (by unfold maxLen; omega) (by omega) (by simp; omega) ?_); intro v' w3 hown' hg3 hnil3; obtain ⟨Av', cv', rfl⟩ := owns_slc hown'
         have hg4 : (W.alloc (.cells #[.int .i8 x1, .int .i8 x2] 50)).grownBy w3 (Value.slice Av pre.length cv).ownBlock := hg3
         have hbx : w3.heap[w.heap.size]? = some (.cells #[.slice Av pre.length cv] 33 (0, 0)) := (hg4.block w.heap.size (by simp; omega) (fun e => by have := World.ownsRow.lt HS2.out _ e.symm; omega)).trans (block_alloc h1 _)
         have hc3 : w3.cell? ⟨w.heap.size, 0, none⟩ = some (.slice Av pre.length cv) := cell_block hbx rfl
         have hf3 : w3.frozen? ⟨w.heap.size, 0, none⟩ = false := frozen_of_row _ _ _ _ _ hbx
         have HG := hid hg4
         have HO := hid hown'
         clear hg3 hnil3 hg4 hown')
      | (rw [Oper.semAt_eq _ _ _ (fun c h => by cases h)]; go_simp; try go_bits))
    have hg := HG.out
    have hb3 : Below w.heap.size W w3 := ((Below.refl _ W).alloc hsz _).grown hg (by simp; omega) (fun k e => by have := World.ownsRow.lt HS2.out _ e; omega)
    have hb4 := hb3.setCell (p := ⟨w.heap.size, 0, none⟩) (Nat.le_refl _) (.slice Av' (pre.length + 1) cv')
    refine ⟨?_, hb4, ⟨_, heap_setCell_same w3 w.heap.size 0 _ _ _ hbx, ?_⟩, h3.trans hb4⟩
    · refine ((KeepsOthers.alloc W _).from _).trans (KeepsFrom.trans ⟨hg.size, fun k o hB hk ho => (hg.block k (block_lt hk) fun e => ?_).trans hk⟩ ((KeepsOthers.setCell w3 _ _).from _))
      rcases (World.ownsRow.alloc HS2.out (.cells #[.int .i8 x1, .int .i8 x2] 50)).2 with ⟨e1, _⟩ | ⟨g, cap', cur, e1, _, hgb, _⟩
      · rw [e1] at e; simp [Value.ownBlock] at e
      · rw [e1] at e
        simp only [Value.ownBlock, Option.some.injEq] at e
        subst e
        rw [hgb] at hk; cases hk; cases ho
    · have := owns_set_other HO.out (g := w.heap.size) (fun e => by have := World.ownsRow.lt HO.out _ e; omega) 0 (.slice Av' (pre.length + 1) cv')
      unfold RowQ
      rw [List.length_append, pcells_snoc]
      exact this
  case done =>
    rintro D ys W hD rfl ⟨⟨v, h1, h2⟩, hB⟩ hK
    obtain ⟨Av, cv, rfl⟩ := owns_slc h2
    have hcb : W.cell? ⟨w.heap.size, 0, none⟩ = some (.slice Av ys.length cv) := cell_block h1 rfl
    gi_wp2
    refine ⟨by simp, .inl ⟨_, _, rfl, run_takeDeferred hK, ?_⟩⟩
    refine ⟨_, results_tmp rfl _ _ _, _, rfl, hB.trans (belowK_b (w := w) (Nat.le_refl _) W D _ _ (by simp at hD; omega) hK rfl rfl), ?_⟩
    have hr := own_row _ D _ _ 0 pcells List.length _ ys (World.ownsRow.mono h2 (Nat.le_succ _)) (grownBy_putObj' W D (.deferred none)) (fun r e => by cases e; exact ⟨Nat.le_refl _, _, hK, rfl⟩)
    exact hr
  case stop =>
    rintro D c pre W _ _ h
    exact h.elim
end Go.Proofs.Ytfbgldkdlmipoaa

/- cmp.Compare of numbers, and descending order. -/
namespace Go.Proofs.Ytfbgldkdlmipoaa
open Go.RowKit
set_option linter.unusedSimpArgs false
set_option linter.unusedVariables false

def cmpZ (x y : Int) : Int := if x < y then -1 else if y < x then 1 else 0
end Go.Proofs.Ytfbgldkdlmipoaa
