/- Texts of the claim FnExactLeastLifted, part 5 of 7. -/
import Derived.Test.YtfbgldkdlmipoaaGExactLeastLifted4
import Derived.Sort.Grow
import Derived.Sort.LotA
import Derived.Shelf.Small.Bits
import Derived.Shelf.SlSortCmp.NoneTotal
import Derived.Ground.SlsfProg
import Derived.Test.YtfbgldkdlmipoaaProg
import Derived.Lib.SliceRun
import Derived.Deep.RegionLaw
import Derived.Shelf.RegionOpenPlain
/- A region that draws its order, with one operation of unforeknown result: over any class of worlds. -/
namespace Go.Proofs.Ytfbgldkdlmipoaa
open Go.RowKit
set_option linter.unusedSimpArgs false
set_option linter.unusedVariables false
set_option maxHeartbeats 1600000 in
theorem wp_region_wildC {P : Program} {id : Nat} {Q : Exit → Act → World → Prop} {a0 : Act} {W : World} {l : List Oper} (C0 : World → Prop) (hC0 : C0 W.drew) (n : Nat) (aσ : Act) (oc : Oper) (R : Value → World → Prop) (D : World → World → Prop) (hD : ∀ w, D w w)
    (hm : P.follows .mixedOrders = true) (hback : backB l = true) (hn : lawB l a0.tmps.size = true) (hw : wildB2 l n = true) (hoc : l[n]? = some oc)
    (hpre : wpQuiet P l.toArray C0 (fun a' => a' = aσ) (l.take n) a0)
    (hpre2 : ∀ v w1, R v w1 → wpQuiet P l.toArray (D w1) (fun a' => a' = aσ) (l.take n) a0)
    (hop : ∀ (x : World), C0 x → ∀ (a : Act) (K : Act → World → Prop) (Q' : Exit → Act → World → Prop), execOp a.eval oc = execOp aσ.eval oc → (∀ v w', R v w' → K (a.put oc.dst v) w') → Oper.wp P oc a x K Q')
    (hpost : ∀ v w1, R v w1 → wpQuiet P l.toArray (D w1) (fun a' => ∀ w', D w1 w' → Q .normal a' w') (l.drop (n + 1)) (aσ.put oc.dst v)) :
    (Code.region id l.toArray true).wp P Q a0 W := by
  have hL := fun i o ho => lawB_of hn i o ho
  have hone : ∀ (i : Nat) (o : Oper) (j : Nat) (o' : Oper) (d : Nat), l[i]? = some o → l[j]? = some o' → i ≠ j → o.dst = some d → o'.dst ≠ some d := fun i o j o' d hi hj hne hd => (hL j o' hj).2.2.2.1 i o hi hne d hd
  have hnl : n < l.length := (List.getElem?_eq_some_iff.1 hoc).1
  have htake : ∀ (i : Nat) (o : Oper), (l.take n)[i]? = some o → l[i]? = some o ∧ i < n := fun i o h => by
    rw [List.getElem?_take] at h
    split at h
    · exact ⟨h, by assumption⟩
    · cases h
  have hdropg : ∀ (i : Nat) (o : Oper), (l.drop (n + 1))[i]? = some o → l[n + 1 + i]? = some o := fun i o h => by rw [List.getElem?_drop] at h; exact h
  obtain ⟨vs0, hst0, hfin0⟩ := stepsS_of _ _ hpre
  have hsize : aσ.tmps.size = a0.tmps.size := by rw [← hfin0, putsS_size]
  have hdef : aσ.defers = a0.defers := by rw [← hfin0, putsS_defers]
  have key0 := fun i o ho => stepsS_key hst0 hfin0 (fun i o d h hd => (hL i o (htake i o h).1).2.2.1 d hd) (fun i o j o' d h h' hne hd => hone i o j o' d (htake i o h).1 (htake j o' h').1 hne hd) i o ho
  have hout0 : ∀ t : Nat, (∀ (i : Nat) (o : Oper), i < n → l[i]? = some o → o.dst ≠ some t) → aσ.tmps.getD t undef = a0.tmps.getD t undef := by
    intro t ht
    rw [← hfin0, putsS_other]
    intro o' hm' hd
    obtain ⟨k, hk, rfl⟩ := List.getElem_of_mem hm'
    have hk2 := htake k _ (List.getElem?_eq_getElem hk)
    exact ht k _ hk2.2 hk2.1 hd
  -- what stands when the call has been made
  let Post : World → Act → Prop := fun w aτ => ∃ v w0 vs, R v w0 ∧ D w0 w ∧ StepsS P l.toArray (D w0) (l.drop (n + 1)) vs (aσ.put oc.dst v) ∧ putsS (l.drop (n + 1)) vs (aσ.put oc.dst v) = aτ ∧ (∀ w', D w0 w' → Q .normal aτ w') ∧ ∀ d, oc.dst = some d → aτ.tmps.getD d undef = v
  have hPost : ∀ w aτ, Post w aτ → aτ.tmps.size = a0.tmps.size ∧ aτ.defers = a0.defers ∧ (∀ t : Nat, (∀ (i : Nat) (o : Oper), l[i]? = some o → o.dst ≠ some t) → aτ.tmps.getD t undef = a0.tmps.getD t undef) ∧
      (∀ (i : Nat) (o : Oper) (d : Nat), l[i]? = some o → i < n → o.dst = some d → aτ.tmps.getD d undef = aσ.tmps.getD d undef) := by
    rintro w aτ ⟨v, w0, vs, _, _, h1, h2, _, _⟩
    have hoth : ∀ t : Nat, (∀ (i : Nat) (o : Oper), n < i → l[i]? = some o → o.dst ≠ some t) → aτ.tmps.getD t undef = (aσ.put oc.dst v).tmps.getD t undef := by
      intro t ht
      rw [← h2, putsS_other]
      intro o' hm' hd
      obtain ⟨k, hk, rfl⟩ := List.getElem_of_mem hm'
      exact ht _ _ (by omega) (hdropg k _ (List.getElem?_eq_getElem hk)) hd
    refine ⟨by rw [← h2, putsS_size, put_size, hsize], by rw [← h2, putsS_defers, put_defers', hdef], fun t ht => ?_, fun i o d hi hin hd => ?_⟩
    · rw [hoth t fun i o _ hi => ht i o hi, put_other _ _ _ _ (ht n oc hoc), hout0 t fun i o _ hi => ht i o hi]
    · rw [hoth d fun j o' hj hj' => hone i o j o' d hi hj' (by omega) hd, put_other _ _ _ _ (hone i o n oc d hi hoc (by omega) hd)]
  refine wp_region_inv hm hback (fun L a w => a.defers = a0.defers ∧ a.tmps.size = a0.tmps.size ∧ (∀ t : Nat, (∀ (i : Nat) (o : Oper), l[i]? = some o → o.dst ≠ some t) → a.tmps.getD t undef = a0.tmps.getD t undef) ∧
    (∀ (j : Nat) (oj : Oper), l[j]? = some oj → L j = true → ∀ e ∈ oj.after, Region.binds .any e = true → L e.on = true) ∧
    (L n = false → C0 w ∧ ∀ (i : Nat) (o : Oper) (d : Nat), l[i]? = some o → L i = true → o.dst = some d → a.tmps.getD d undef = aσ.tmps.getD d undef) ∧
    (L n = true → ∃ aτ, Post w aτ ∧ ∀ (i : Nat) (o : Oper) (d : Nat), l[i]? = some o → L i = true → o.dst = some d → a.tmps.getD d undef = aτ.tmps.getD d undef)) ?_ ?_ ?_
  · intro L hL0
    exact ⟨rfl, rfl, fun _ _ => rfl, fun j oj hj hLj => (by rw [hL0 j (List.getElem?_eq_some_iff.1 hj).1] at hLj; cases hLj), fun _ => ⟨hC0, fun i o d hi hLi => (by rw [hL0 i (List.getElem?_eq_some_iff.1 hi).1] at hLi; cases hLi)⟩, fun hLn => (by rw [hL0 n hnl] at hLn; cases hLn)⟩
  · intro L a w i o ho hLi hafter ⟨i1, i2, i3, i4, i5, i6⟩
    obtain ⟨hg, hns, hd1, hd2, heyes⟩ := hL i o ho
    rw [if_pos (by simp [Region.wanted, hg])]
    have hcl : ∀ (j : Nat) (oj : Oper), l[j]? = some oj → plus L i j = true → ∀ e ∈ oj.after, Region.binds .any e = true → plus L i e.on = true := by
      intro j oj hj hLj e he hb
      unfold plus at hLj ⊢
      by_cases hji : j = i
      · subst hji
        rw [ho] at hj
        obtain rfl := Option.some.inj hj
        split
        · rfl
        · exact hafter e he hb
      · rw [if_neg hji] at hLj
        split
        · rfl
        · exact i4 j oj hj hLj e he hb
    rcases Nat.lt_trichotomy i n with hin | hin | hin
    · -- ahead of the call
      cases hLn : L n with
      | false =>
        obtain ⟨hx, i7⟩ := i5 hLn
        have ho' : (l.take n)[i]? = some o := by rw [List.getElem?_take, if_pos hin]; exact ho
        obtain ⟨v, ai, hY, hv, hno, hyes⟩ := key0 i o ho'
        have he : execOp a.eval o = execOp ai.eval o := by
          refine execOp_congr o (fun c b hc => by rw [notSelect, hc] at hns; cases hns) (eval_eyes fun t ht => ?_)
          by_cases hex : ∃ (j : Nat) (o' : Oper), l[j]? = some o' ∧ o'.dst = some t
          · obtain ⟨j, o', hj, hd⟩ := hex
            obtain ⟨hji, e, he, hb, hon⟩ := heyes t ht j o' hj hd
            have hLj : L j = true := hon ▸ hafter e he hb
            rw [hyes t j o' hji (by rw [List.getElem?_take, if_pos (by omega)]; exact hj) hd]
            exact i7 j o' t hj hLj hd
          · have hn' : ∀ (j : Nat) (o' : Oper), l[j]? = some o' → o'.dst ≠ some t := fun j o' hj hd => hex ⟨j, o', hj, hd⟩
            rw [i3 t hn', hno t fun j o' hj => hn' j o' (htake j o' hj).1]
        have hY' := hY.of_same he (by simp [Region.wanted, hg])
        rcases hY' with ⟨_, hq⟩ | ⟨hw0, _⟩
        · refine Oper.wp_of_quiet (C := C0) (K := fun a' => a' = a.put o.dst v) hx ?_ ⟨v, hq, rfl⟩
          rintro a' w' hz rfl
          refine ⟨(put_defers' _ _ _).trans i1, (put_size _ _ _).trans i2, fun t ht => ?_, hcl, fun _ => ⟨hz, fun j o' d hj hLj hd => ?_⟩, fun hLp => ?_⟩
          · rw [put_other _ _ _ _ (ht i o ho)]; exact i3 t ht
          · by_cases hji : j = i
            · subst hji
              rw [ho] at hj
              obtain rfl := Option.some.inj hj
              rw [hd, put_here _ _ _ (by rw [i2]; exact hd1 d hd)]
              exact hv d hd
            · have hLj' : L j = true := by unfold plus at hLj; rwa [if_neg hji] at hLj
              rw [put_other _ _ _ _ (hd2 j o' hj hji d hd)]; exact i7 j o' d hj hLj' hd
          · unfold plus at hLp; rw [if_neg (by omega), hLn] at hLp; cases hLp
        · simp [Region.wanted, hg] at hw0
      | true =>
        obtain ⟨aτ, hP, i7⟩ := i6 hLn
        have hP0 := hP
        obtain ⟨p1, p2, p3, p4⟩ := hPost _ _ hP
        obtain ⟨v1, w0, vs1, hR0, hDw, hst1, hfin1, hQ1, hdv1⟩ := hP
        obtain ⟨vs2, hst2, hfin2⟩ := stepsS_of _ _ (hpre2 v1 w0 hR0)
        have ho' : (l.take n)[i]? = some o := by rw [List.getElem?_take, if_pos hin]; exact ho
        obtain ⟨v, ai, hY, hv, hno, hyes⟩ := stepsS_key hst2 hfin2 (fun i o d h hd => (hL i o (htake i o h).1).2.2.1 d hd) (fun i o j o' d h h' hne hd => hone i o j o' d (htake i o h).1 (htake j o' h').1 hne hd) i o ho'
        have he : execOp a.eval o = execOp ai.eval o := by
          refine execOp_congr o (fun c b hc => by rw [notSelect, hc] at hns; cases hns) (eval_eyes fun t ht => ?_)
          by_cases hex : ∃ (j : Nat) (o' : Oper), l[j]? = some o' ∧ o'.dst = some t
          · obtain ⟨j, o', hj, hd⟩ := hex
            obtain ⟨hji, e, he, hb, hon⟩ := heyes t ht j o' hj hd
            have hLj : L j = true := hon ▸ hafter e he hb
            rw [hyes t j o' hji (by rw [List.getElem?_take, if_pos (by omega)]; exact hj) hd, i7 j o' t hj hLj hd]
            exact p4 j o' t hj (by omega) hd
          · have hn' : ∀ (j : Nat) (o' : Oper), l[j]? = some o' → o'.dst ≠ some t := fun j o' hj hd => hex ⟨j, o', hj, hd⟩
            rw [i3 t hn', hno t fun j o' hj => hn' j o' (htake j o' hj).1]
        have hY' := hY.of_same he (by simp [Region.wanted, hg])
        rcases hY' with ⟨_, hq⟩ | ⟨hw0, _⟩
        · refine Oper.wp_of_quiet (C := D w0) (K := fun a' => a' = a.put o.dst v) hDw ?_ ⟨v, hq, rfl⟩
          rintro a' w' hDw' rfl
          refine ⟨(put_defers' _ _ _).trans i1, (put_size _ _ _).trans i2, fun t ht => ?_, hcl, fun hLp => ?_, fun _ => ⟨aτ, ⟨v1, w0, vs1, hR0, hDw', hst1, hfin1, hQ1, hdv1⟩, fun j o' d hj hLj hd => ?_⟩⟩
          · rw [put_other _ _ _ _ (ht i o ho)]; exact i3 t ht
          · unfold plus at hLp; rw [if_neg (by omega), hLn] at hLp; cases hLp
          · by_cases hji : j = i
            · subst hji
              rw [ho] at hj
              obtain rfl := Option.some.inj hj
              rw [hd, put_here _ _ _ (by rw [i2]; exact hd1 d hd), hv d hd]
              exact (p4 j o d ho hin hd).symm
            · have hLj' : L j = true := by unfold plus at hLj; rwa [if_neg hji] at hLj
              rw [put_other _ _ _ _ (hd2 j o' hj hji d hd)]; exact i7 j o' d hj hLj' hd
        · simp [Region.wanted, hg] at hw0
    · -- the call
      subst hin
      rw [hoc] at ho
      obtain rfl := Option.some.inj ho
      obtain ⟨hx, i7⟩ := i5 hLi
      have he : execOp a.eval oc = execOp aσ.eval oc := by
        refine execOp_congr oc (fun c b hc => by rw [notSelect, hc] at hns; cases hns) (eval_eyes fun t ht => ?_)
        by_cases hex : ∃ (j : Nat) (o' : Oper), l[j]? = some o' ∧ o'.dst = some t
        · obtain ⟨j, o', hj, hd⟩ := hex
          obtain ⟨hji, e, he, hb, hon⟩ := heyes t ht j o' hj hd
          exact i7 j o' t hj (hon ▸ hafter e he hb) hd
        · have hn' : ∀ (j : Nat) (o' : Oper), l[j]? = some o' → o'.dst ≠ some t := fun j o' hj hd => hex ⟨j, o', hj, hd⟩
          rw [i3 t hn', hout0 t fun j o' _ hj => hn' j o' hj]
      refine hop _ hx a _ _ he ?_
      rintro v w' hR
      obtain ⟨vs, hst, hQ⟩ := stepsS_of _ _ (hpost v w' hR)
      have hdv : ∀ d, oc.dst = some d → (putsS (l.drop (i + 1)) vs (aσ.put oc.dst v)).tmps.getD d undef = v := by
        intro d hd
        rw [putsS_other, hd, put_here _ _ _ (by rw [hsize]; exact hd1 d hd)]
        intro o' hm' hd'
        obtain ⟨k, hk, rfl⟩ := List.getElem_of_mem hm'
        exact hone i oc _ _ d hoc (hdropg k _ (List.getElem?_eq_getElem hk)) (by omega) hd hd'
      have hP : Post w' (putsS (l.drop (i + 1)) vs (aσ.put oc.dst v)) := ⟨v, w', vs, hR, hD _, hst, rfl, hQ, hdv⟩
      obtain ⟨_, _, _, p4⟩ := hPost _ _ hP
      refine ⟨(put_defers' _ _ _).trans i1, (put_size _ _ _).trans i2, fun t ht => ?_, hcl, fun hLn => ?_, fun _ => ⟨_, hP, fun j o' d hj hLj hd => ?_⟩⟩
      · rw [put_other _ _ _ _ (ht i oc hoc)]; exact i3 t ht
      · simp [plus] at hLn
      · by_cases hji : j = i
        · subst hji
          rw [hoc] at hj
          obtain rfl := Option.some.inj hj
          rw [hd, put_here _ _ _ (by rw [i2]; exact hd1 d hd), ← hd, hdv d hd]
        · have hLj' : L j = true := by unfold plus at hLj; rwa [if_neg hji] at hLj
          have hjn : j < i := by
            rcases Nat.lt_trichotomy j i with h | h | h
            · exact h
            · exact absurd h hji
            · exfalso
              have : ∀ d t, t = d → i < t → t < l.length → L t = true → False := by
                intro d
                induction d using Nat.strongRecOn with
                | _ d ih =>
                  intro t htd hit htl hLt
                  obtain ⟨e, he', hb, h1, h2⟩ := wildB2_post hw t _ (List.getElem?_eq_getElem htl) hit
                  have h3 := i4 t _ (List.getElem?_eq_getElem htl) hLt e he' hb
                  rcases Nat.eq_or_lt_of_le h1 with h4 | h4
                  · rw [← h4, hLi] at h3; cases h3
                  · exact ih e.on (by omega) e.on rfl h4 (by omega) h3
              exact this _ j rfl h (List.getElem?_eq_some_iff.1 hj).1 hLj'
          rw [put_other _ _ _ _ (hd2 j o' hj hji d hd), i7 j o' d hj hLj' hd, p4 j o' d hj hjn hd]
    · -- behind the call
      have hLn : L n = true := by
        obtain ⟨e, he, hb, h1, h2⟩ := wildB2_post hw i o ho hin
        have h3 := hafter e he hb
        have : ∀ d t, t = d → n ≤ t → t < l.length → L t = true → L n = true := by
          intro d
          induction d using Nat.strongRecOn with
          | _ d ih =>
            intro t htd hit htl hLt
            rcases Nat.eq_or_lt_of_le hit with h4 | h4
            · rw [h4]; exact hLt
            · obtain ⟨e, he', hb, h1, h2⟩ := wildB2_post hw t _ (List.getElem?_eq_getElem htl) h4
              exact ih e.on (by omega) e.on rfl h1 (by omega) (i4 t _ (List.getElem?_eq_getElem htl) hLt e he' hb)
        exact this _ e.on rfl h1 (by have := (List.getElem?_eq_some_iff.1 ho).1; omega) h3
      obtain ⟨aτ, hP, i7⟩ := i6 hLn
      obtain ⟨p1, p2, p3, p4⟩ := hPost _ _ hP
      obtain ⟨v, w0, vs, hR0, hDw, hst, hfin, hQ, hdv⟩ := hP
      have ho' : (l.drop (n + 1))[i - (n + 1)]? = some o := by rw [List.getElem?_drop]; rw [show n + 1 + (i - (n + 1)) = i by omega]; exact ho
      obtain ⟨u, ai, hY, hv, hno, hyes⟩ := stepsS_key hst hfin (fun j o' d h hd => by rw [put_size, hsize]; exact (hL _ o' (hdropg j o' h)).2.2.1 d hd) (fun j o' k o'' d h h' hne hd => hone _ o' _ o'' d (hdropg j o' h) (hdropg k o'' h') (by omega) hd) _ o ho'
      have he : execOp a.eval o = execOp ai.eval o := by
        refine execOp_congr o (fun c b hc => by rw [notSelect, hc] at hns; cases hns) (eval_eyes fun t ht => ?_)
        by_cases hex : ∃ (j : Nat) (o' : Oper), l[j]? = some o' ∧ o'.dst = some t
        · obtain ⟨j, o', hj, hd⟩ := hex
          obtain ⟨hji, e, he, hb, hon⟩ := heyes t ht j o' hj hd
          have hLj : L j = true := hon ▸ hafter e he hb
          rw [i7 j o' t hj hLj hd]
          by_cases hjn : n < j
          · rw [hyes t (j - (n + 1)) o' (by omega) (by rw [List.getElem?_drop, show n + 1 + (j - (n + 1)) = j by omega]; exact hj) hd]
          · have h9 : ai.tmps.getD t undef = (aσ.put oc.dst v).tmps.getD t undef := hno t fun k o'' hk => hone j o' _ o'' t hj (hdropg k o'' hk) (by omega) hd
            rw [h9]
            rcases Nat.lt_or_ge j n with h10 | h10
            · rw [p4 j o' t hj h10 hd, put_other _ _ _ _ (hone j o' n oc t hj hoc (by omega) hd)]
            · obtain rfl : j = n := by omega
              rw [hoc] at hj
              obtain rfl := Option.some.inj hj
              rw [hdv t hd, hd, put_here _ _ _ (by rw [hsize]; exact (hL j oc hoc).2.2.1 t hd)]
        · have hn' : ∀ (j : Nat) (o' : Oper), l[j]? = some o' → o'.dst ≠ some t := fun j o' hj hd => hex ⟨j, o', hj, hd⟩
          rw [i3 t hn', hno t fun j o' hj => hn' _ o' (hdropg j o' hj), put_other _ _ _ _ (hn' n oc hoc), hout0 t fun j o' _ hj => hn' j o' hj]
      have hY' := hY.of_same he (by simp [Region.wanted, hg])
      rcases hY' with ⟨_, hq⟩ | ⟨hw0, _⟩
      · refine Oper.wp_of_quiet (C := D w0) (K := fun a' => a' = a.put o.dst u) hDw ?_ ⟨u, hq, rfl⟩
        rintro a' w' hDw' rfl
        refine ⟨(put_defers' _ _ _).trans i1, (put_size _ _ _).trans i2, fun t ht => ?_, hcl, fun hLp => ?_, fun _ => ⟨aτ, ⟨v, w0, vs, hR0, hDw', hst, hfin, hQ, hdv⟩, fun j o' d hj hLj hd => ?_⟩⟩
        · rw [put_other _ _ _ _ (ht i o ho)]; exact i3 t ht
        · unfold plus at hLp; rw [if_neg (by omega), hLn] at hLp; cases hLp
        · by_cases hji : j = i
          · subst hji
            rw [ho] at hj
            obtain rfl := Option.some.inj hj
            rw [hd, put_here _ _ _ (by rw [i2]; exact hd1 d hd)]
            exact hv d hd
          · have hLj' : L j = true := by unfold plus at hLj; rwa [if_neg hji] at hLj
            rw [put_other _ _ _ _ (hd2 j o' hj hji d hd)]; exact i7 j o' d hj hLj' hd
      · simp [Region.wanted, hg] at hw0
  · intro L a w hall ⟨i1, i2, i3, i4, i5, i6⟩
    obtain ⟨aτ, hP, i7⟩ := i6 (hall n hnl)
    obtain ⟨p1, p2, p3, p4⟩ := hPost _ _ hP
    obtain ⟨v, w0, vs, hR0, hDw, hst, hfin, hQ, hdv⟩ := hP
    have : a = aτ := by
      refine act_ext (i2.trans p1.symm) (i1.trans p2.symm) fun k => ?_
      by_cases hex : ∃ (j : Nat) (o' : Oper), l[j]? = some o' ∧ o'.dst = some k
      · obtain ⟨j, o', hj, hd⟩ := hex
        exact i7 j o' k hj (hall j (List.getElem?_eq_some_iff.1 hj).1) hd
      · have hn' : ∀ (j : Nat) (o' : Oper), l[j]? = some o' → o'.dst ≠ some k := fun j o' hj hd => hex ⟨j, o', hj, hd⟩
        rw [i3 k hn', p3 k hn']
    rw [this]; exact hQ _ hDw
/-- The same; the operation is no call. -/
theorem wp_region_wildCO {P : Program} {id : Nat} {Q : Exit → Act → World → Prop} {a0 : Act} {W : World} {l : List Oper} (C0 : World → Prop) (hC0 : C0 W.drew) (n : Nat) (aσ : Act) (oc : Oper) (R : Value → World → Prop) (D : World → World → Prop) (hD : ∀ w, D w w)
    (hm : P.follows .mixedOrders = true) (hback : backB l = true) (hn : lawB l a0.tmps.size = true) (hw : wildB2 l n = true) (hoc : l[n]? = some oc)
    (hpre : wpQuiet P l.toArray C0 (fun a' => a' = aσ) (l.take n) a0)
    (hpre2 : ∀ v w1, R v w1 → wpQuiet P l.toArray (D w1) (fun a' => a' = aσ) (l.take n) a0)
    (hrun : ∀ x, C0 x → ∃ v w', (execOp aσ.eval oc).run P x = .ok (.value v) w' ∧ R v w')
    (hpost : ∀ v w1, R v w1 → wpQuiet P l.toArray (D w1) (fun a' => ∀ w', D w1 w' → Q .normal a' w') (l.drop (n + 1)) (aσ.put oc.dst v)) :
    (Code.region id l.toArray true).wp P Q a0 W :=
  wp_region_wildC C0 hC0 n aσ oc R D hD hm hback hn hw hoc hpre hpre2 (fun x hx a K Q' he hK => by
    obtain ⟨v, w', h1, h2⟩ := hrun x hx
    unfold Oper.wp
    rw [he, h1]
    exact hK v w' h2) hpost
end Go.Proofs.Ytfbgldkdlmipoaa

/- comparePlaces. -/
namespace Go.Proofs.Ytfbgldkdlmipoaa
open Go.RowKit
set_option linter.unusedSimpArgs false
set_option linter.unusedVariables false

def cmpPl (p q : Int × Int) : Int := if cmpZ p.1 q.1 = 0 then cmpZ p.2 q.2 else cmpZ p.1 q.1
set_option maxRecDepth 100000 in
theorem c_isNaN8 (x : Int) (w : World) : Calls Try.prog 95 #[.int .i8 x] w fun e w' => e = .returned (.bool false) ∧ w = w' := by
  have hne : (x != x) = false := by simp
  go_enter Try.func95, Try.ntmps95
  go_wp2_with fail
  go_ret
  exact ⟨rfl, rfl⟩
set_option maxRecDepth 100000 in
theorem c_cmp8 (x y : Int) (w : World) : Calls Try.prog 69 #[.int .i8 x, .int .i8 y] w fun e w' => e = .returned (.int .i64 (cmpZ x y)) ∧ w = w' := by
  have h3 : (x < y ∧ cmpZ x y = -1) ∨ (¬ x < y ∧ y < x ∧ cmpZ x y = 1) ∨ (¬ x < y ∧ ¬ y < x ∧ cmpZ x y = 0) := by
    unfold cmpZ
    by_cases h1 : x < y
    · exact .inl ⟨h1, if_pos h1⟩
    · by_cases h2 : y < x
      · exact .inr (.inl ⟨h1, h2, by rw [if_neg h1, if_pos h2]⟩)
      · exact .inr (.inr ⟨h1, h2, by rw [if_neg h1, if_neg h2]⟩)
  rcases h3 with ⟨h1, h2⟩ | ⟨h1, h2, h3⟩ | ⟨h1, h2, h3⟩
  · rw [h2]
    have d1 : decide (x < y) = true := decide_eq_true h1
    clear h1 h2
    go_enter Try.func69, Try.ntmps69
    go_wp2_with (go_at_call 95; ((with_reducible refine (c_isNaN8 _ _).mono ?_); rintro e w1 ⟨rfl, rfl⟩))
    go_ret
    exact ⟨rfl, rfl⟩
  · rw [h3]
    have d1 : decide (x < y) = false := decide_eq_false h1
    have d2 : decide (x > y) = true := decide_eq_true h2
    clear h1 h2 h3
    go_enter Try.func69, Try.ntmps69
    go_wp2_with (go_at_call 95; ((with_reducible refine (c_isNaN8 _ _).mono ?_); rintro e w1 ⟨rfl, rfl⟩))
    go_ret
    exact ⟨rfl, rfl⟩
  · rw [h3]
    have d1 : decide (x < y) = false := decide_eq_false h1
    have d2 : decide (x > y) = false := decide_eq_false h2
    clear h1 h2 h3
    go_enter Try.func69, Try.ntmps69
    go_wp2_with (go_at_call 95; ((with_reducible refine (c_isNaN8 _ _).mono ?_); rintro e w1 ⟨rfl, rfl⟩))
    go_ret
    exact ⟨rfl, rfl⟩
set_option maxRecDepth 100000 in
theorem c_or (x y : Int) (b c : Nat) (w : World) (hx : w.cell? ⟨b, 0, none⟩ = some (.int .i64 x)) (hy : w.cell? ⟨b, 1, none⟩ = some (.int .i64 y)) :
    Calls Try.prog 68 #[.slice (some ⟨b, 0, none⟩) 2 c] w fun e w' => e = .returned (.int .i64 (if x = 0 then y else x)) ∧ w = w' := by
  by_cases h : x = 0
  · subst h
    rw [if_pos rfl]
    by_cases h2 : y = 0
    · subst h2
      go_enter Try.func68, Try.ntmps68
      go_wp2_with fail
      refine wp_loop_rounds 3 ?_
      rw [rounds_succ]
      go_wp2_with fail
      rw [rounds_succ]
      go_wp2_with fail
      rw [rounds_succ]
      go_wp2_with fail
      go_ret
      exact ⟨rfl, rfl⟩
    · have hn : (y != 0) = true := by simpa using h2
      clear h2
      go_enter Try.func68, Try.ntmps68
      go_wp2_with fail
      refine wp_loop_rounds 2 ?_
      rw [rounds_succ]
      go_wp2_with fail
      rw [rounds_succ]
      go_wp2_with fail
      go_ret
      exact ⟨rfl, rfl⟩
  · rw [if_neg h]
    have hn : (x != 0) = true := by simpa using h
    clear h
    go_enter Try.func68, Try.ntmps68
    go_wp2_with fail
    refine wp_loop_rounds 1 ?_
    rw [rounds_succ]
    go_wp2_with fail
    go_ret
    exact ⟨rfl, rfl⟩
end Go.Proofs.Ytfbgldkdlmipoaa

/- comparePlaces: what it leaves, to the letter. -/
namespace Go.Proofs.Ytfbgldkdlmipoaa
open Go.RowKit
set_option linter.unusedSimpArgs false
set_option linter.unusedVariables false

theorem cell_drewN (W : World) (q : Nat) (a : Addr) : (W.drewN q).cell? a = W.cell? a := by
  induction q generalizing W with
  | zero => rfl
  | succ q ih => first | exact ih W.drew | exact ih W
theorem size_drewN' (W : World) (q : Nat) : (W.drewN q).heap.size = W.heap.size := by
  induction q generalizing W with
  | zero => rfl
  | succ q ih => first | exact ih W.drew | exact ih W
theorem alloc_drewN (W : World) (q : Nat) (o : Obj) : (W.alloc o).drewN q = (W.drewN q).alloc o := by
  induction q generalizing W with
  | zero => rfl
  | succ q ih => first | exact ih W.drew | (show ((W.alloc o).drewN q).drew = _; rw [ih]; rfl)
theorem drewN_add (W : World) (a b : Nat) : (W.drewN a).drewN b = W.drewN (a + b) := by
  have h : ∀ (n : Nat) (V : World), V.drewN n = { V with drawn := V.drawn + n } := by
    intro n
    induction n with
    | zero => intro V; rfl
    | succ n ih => intro V; first | (show V.drew.drewN n = _; rw [ih]; simp [World.drew, Nat.add_assoc, Nat.add_comm]) | (show (V.drewN n).drew = _; rw [ih]; simp [World.drew, Nat.add_assoc])
  rw [h, h, h]
  simp [Nat.add_assoc]
set_option maxHeartbeats 1600000 in
set_option maxRecDepth 100000 in
theorem c_comparePlaces (p1 p2 q1 q2 : Int) (w : World) : Calls Try.prog 39 #[.agg #[.int .i8 p1, .int .i8 p2], .agg #[.int .i8 q1, .int .i8 q2]] w fun e w' =>
    e = .returned (.int .i64 (cmpPl (p1, p2) (q1, q2))) ∧ ∃ (q : Nat) (os : Array Obj), w' = Sort.grow (w.drewN q) os := by
  obtain ⟨r, hr⟩ : ∃ r, r = cmpPl (p1, p2) (q1, q2) := ⟨_, rfl⟩
  rw [← hr]
  have HRr := hid hr
  clear hr
  have HP := hid (block_alloc (block_new1 w (.cells #[.int .i8 p1, .int .i8 p2] 50) rfl) (.cells #[.int .i8 q1, .int .i8 q2] 50))
  have HQ := hid (block_new1 (w.alloc (.cells #[.int .i8 p1, .int .i8 p2] 50)) (.cells #[.int .i8 q1, .int .i8 q2] 50) (n := w.heap.size + 1) (by simp))
  have HC := hid (fun (x y : Int) W => c_cmp8 x y W)
  go_enter Try.func39, Try.ntmps39
  go_wp2_with fail
  obtain ⟨W2, hW2⟩ : ∃ W2, W2 = (w.alloc (.cells #[.int .i8 p1, .int .i8 p2] 50)).alloc (.cells #[.int .i8 q1, .int .i8 q2] 50) := ⟨_, rfl⟩
  have k0 := cell_block HP.out (j := 0) rfl
  have k1 := cell_block HP.out (j := 1) rfl
  have m0 := cell_block HQ.out (j := 0) rfl
  have m1 := cell_block HQ.out (j := 1) rfl
  have HW2 := hid hW2
  have hsz : W2.heap.size = w.heap.size + 2 := by rw [hW2]; simp
  have HSz := hid hsz
  rw [← hW2] at k0 k1 m0 m1 ⊢
  clear hW2 hsz
  refine wp_region_wildCO (fun w' => ∃ q, w' = W2.drewN q) ⟨1, rfl⟩ 10 ?s1 _ (fun v w1 => ∃ q, v = .slice (some ⟨W2.heap.size, 0, none⟩) 2 2 ∧ w1 = (W2.drewN q).alloc (.cells #[.int .i64 (cmpZ p1 q1), .int .i64 (cmpZ p2 q2)] 3)) (fun w1 w' => ∃ q, w' = w1.drewN q) (fun _ => ⟨0, rfl⟩) (by kernel_rfl) (by kernel_rfl) (by kernel_rfl) (by kernel_rfl) rfl ?pre1 ?pre2 ?op1 ?post1
  case pre1 =>
    have K0 : Hid (∀ q, (W2.drewN q).cell? ⟨w.heap.size, 0, none⟩ = some (.int .i8 p1)) := fun q => (cell_drewN W2 q _).trans k0
    simp only [List.take_succ_cons, List.take_zero]
    repeat (go_big_quiet_step ((go_at_call 69; (refine (HC.out _ _ _).mono ?_; rintro e w' ⟨rfl, rfl⟩; exact ⟨rfl, ⟨_, rfl⟩⟩))))
    refine wpQuiet_nil ?_
    exact rfl
  case pre2 =>
    rintro v w1 ⟨q, rfl, rfl⟩
    obtain ⟨O, hO⟩ : ∃ O : Obj, O = .cells #[.int .i64 (cmpZ p1 q1), .int .i64 (cmpZ p2 q2)] 3 := ⟨_, rfl⟩
    rw [← hO]
    have tr : ∀ (b j : Nat) (u : Value), b < W2.heap.size → W2.cell? ⟨b, j, none⟩ = some u → ((W2.drewN q).alloc O).cell? ⟨b, j, none⟩ = some u := fun b j u hb h => (((Below.refl (W2.drewN q).heap.size (W2.drewN q)).alloc (Nat.le_refl _) O).cell (p := ⟨b, j, none⟩) (by rw [size_drewN']; exact hb)).trans ((cell_drewN W2 q _).trans h)
    have e2 := HSz.out
    have t0 := tr _ _ _ (by omega) k0
    have t1 := tr _ _ _ (by omega) k1
    have t2 := tr _ _ _ (by omega) m0
    have t3 := tr _ _ _ (by omega) m1
    obtain ⟨X, hX⟩ : ∃ X, X = (W2.drewN q).alloc O := ⟨_, rfl⟩
    rw [← hX] at t0 t1 t2 t3 ⊢
    clear hX hO tr e2
    simp only [List.take_succ_cons, List.take_zero]
    repeat (go_big_quiet_step ((go_at_call 69; (refine (HC.out _ _ _).mono ?_; rintro e w' ⟨rfl, rfl⟩; exact ⟨rfl, ⟨_, rfl⟩⟩))))
    refine wpQuiet_nil ?_
    exact rfl
  case op1 =>
    rintro x ⟨q, rfl⟩
    refine ⟨_, _, ?_, ⟨q, rfl, rfl⟩⟩
    rw [← size_drewN' W2 q]
    unfold execOp
    go_simp
  case post1 =>
    rintro v w1 ⟨q, rfl, rfl⟩
    have hb := block_new1 (W2.drewN q) (.cells #[.int .i64 (cmpZ p1 q1), .int .i64 (cmpZ p2 q2)] 3) (size_drewN' W2 q)
    have n0 := cell_block hb (j := 0) rfl
    have n1 := cell_block hb (j := 1) rfl
    obtain ⟨X, hX⟩ : ∃ X, X = (W2.drewN q).alloc (.cells #[.int .i64 (cmpZ p1 q1), .int .i64 (cmpZ p2 q2)] 3) := ⟨_, rfl⟩
    rw [← hX] at n0 n1 ⊢
    have HXX := hid hX
    have hO0 := (fun q' => c_or (cmpZ p1 q1) (cmpZ p2 q2) W2.heap.size 2 (X.drewN q') ((cell_drewN X q' _).trans n0) ((cell_drewN X q' _).trans n1))
    have hre : (if cmpZ p1 q1 = 0 then cmpZ p2 q2 else cmpZ p1 q1) = cmpPl (p1, p2) (q1, q2) := rfl
    rw [hre, ← HRr.out] at hO0
    have HO := hid hO0
    clear hre hO0
    clear hX hb n0 n1
    simp only [List.drop_succ_cons, List.drop_zero, Act.put, List.setIfInBounds_toArray, List.set_cons_zero, List.set_cons_succ]
    repeat (go_big_quiet_step ((go_at_call 68; (refine (HO.out _).mono ?_; rintro e w' ⟨rfl, rfl⟩; exact ⟨rfl, ⟨_, rfl⟩⟩))))
    refine wpQuiet_nil ?_
    rintro _ ⟨q', rfl⟩
    go_wp2_with fail
    go_ret
    refine ⟨rfl, q + q', #[.cells #[.int .i8 p1, .int .i8 p2] 50, .cells #[.int .i8 q1, .int .i8 q2] 50, .cells #[.int .i64 (cmpZ p1 q1), .int .i64 (cmpZ p2 q2)] 3], ?_⟩
    rw [HXX.out, HW2.out]
    simp only [alloc_drewN, drewN_add]
    simp only [Sort.alloc_eq_grow, Sort.grow_grow]
    rfl
end Go.Proofs.Ytfbgldkdlmipoaa

/- l04Sorted: places sorted by insertion. -/
namespace Go.Proofs.Ytfbgldkdlmipoaa
open Go.RowKit
set_option linter.unusedSimpArgs false
set_option linter.unusedVariables false

def sortP (l : List (Int × Int)) : List (Int × Int) := (Sort.insertionSort lessP l.toArray 0 l.length).toList
theorem swp_list {α : Type} [Inhabited α] (L : List α) (i j : Nat) (x y : α) (hi : L[i]? = some x) (hj : L[j]? = some y) : (Sort.swp L.toArray i j) = ((L.set i y).set j x).toArray := by
  have h1 : L.toArray[i]! = x := by simp [hi]
  have h2 : L.toArray[j]! = y := by simp [hj]
  unfold Sort.swp
  rw [h1, h2]
  simp
theorem insInner_no {D : List (Int × Int)} {j : Nat} {x y : Int × Int} (hx : D[j + 1]? = some x) (hy : D[j]? = some y) (h : lessP x y = false) : Sort.insInner lessP 0 (j + 1) D.toArray = D.toArray := by
  rw [Sort.insInner]
  have h1 : D.toArray[j + 1]! = x := by simp [hx]
  have h2 : D.toArray[j]! = y := by simp [hy]
  rw [h1, h2, h]
  simp
theorem insInner_yes {D : List (Int × Int)} {j : Nat} {x y : Int × Int} (hx : D[j + 1]? = some x) (hy : D[j]? = some y) (h : lessP x y = true) : Sort.insInner lessP 0 (j + 1) D.toArray = Sort.insInner lessP 0 j ((D.set (j + 1) y).set j x).toArray := by
  rw [Sort.insInner]
  have h1 : D.toArray[j + 1]! = x := by simp [hx]
  have h2 : D.toArray[j]! = y := by simp [hy]
  rw [h1, h2, h, swp_list D (j + 1) j x y hx hy]
  simp
set_option maxHeartbeats 3200000 in
set_option maxRecDepth 100000 in
theorem c_l04Sorted (A : Option Addr) (c : Nat) (l : List (Int × Int)) (hlen : l.length ≤ 1000) (w : World) (hA : PairsAt .i8 .i8 w A l) :
    Calls Try.prog 35 #[.slice A l.length c] w fun e w' => ∃ v, e = .returned v ∧ Below w.heap.size w w' ∧ RowQ w.heap.size w' v (sortP l) := by
  have hF : Sort.insOuter lessP 0 l.length 1 l.toArray = (sortP l).toArray := by unfold sortP Sort.insertionSort; simp
  obtain ⟨F, hFe⟩ : ∃ F, F = sortP l := ⟨_, rfl⟩
  rw [← hFe] at hF ⊢
  have HF := hid hF
  obtain ⟨n, hn⟩ : ∃ n, n = l.length := ⟨_, rfl⟩
  have HNL := hid hn
  have B0 : Below w.heap.size w (w.alloc (.cells #[] 50)) := (Below.refl _ w).alloc (Nat.le_refl _) _
  have HA := hid (hA.below B0 (Nat.le_refl _))
  have HM := hid (RowQ.made (B := w.heap.size) (w := w) (Nat.le_refl _))
  have HB0 := hid B0
  have hn1000 : n ≤ 1000 := by omega
  clear hA hF hFe B0 hn
  go_enter Try.func35, Try.ntmps35
  go_wp2_with ((with_reducible refine gate (N := 9) rfl ?_); (refine wp_appQ rfl (.tmp 7) (.tmp 8) rfl w.heap.size _ [] l HM.out rfl A c HA.out rfl (by simp; omega) HB0.out.size ?_; intro v' w2 hown hg; have HB2 := hid (HB0.out.trans (HM.out.belowG hg HB0.out.size)); rw [List.nil_append] at hown; obtain ⟨A', c', rfl⟩ := hown.slc; have HO2 := hid hown; have HCap := hid hown.cap; clear hown hg))
  rw [← HNL.out]
  rw [← HNL.out] at HO2 HCap HF
  go_loopw [4] (fun i wr => ∃ (i' : Nat) (L : List (Int × Int)), 1 ≤ i' ∧ i' ≤ n + 1 ∧ i = .int .i64 i' ∧ L.length = n ∧ Hid (Below w.heap.size w wr) ∧ Hid (RowQ w.heap.size wr (.slice A' n c') L) ∧ Hid (Sort.insOuter lessP 0 n i' L.toArray = F.toArray)) (fun i _ => n + 1 - (intOf i).toNat)
  case atStart => exact ⟨1, l, by omega, by omega, rfl, HNL.out.symm, HB2.out, HO2.out, HF.out⟩
  case round =>
    obtain ⟨i, L, hi1, hi2, rfl, hL, hb, hO, hI⟩ := hrel
    have HL := hid hL
    clear hL
    by_cases hil : i < n
    · have hd : decide ((i : Int) < (n : Int)) = true := decide_eq_true (by omega)
      rw [Sort.insOuter, if_pos hil] at hI
      go_wp2_with fail
      go_loopw [5, 6] (fun k x6 wr => ∃ (k' : Nat) (D : List (Int × Int)), k' ≤ i ∧ k = .int .i64 k' ∧ Hid (D.length = n) ∧ Hid (Below w.heap.size w wr) ∧ Hid (RowQ w.heap.size wr (.slice A' n c') D) ∧ Hid (Sort.insOuter lessP 0 n (i + 1) (Sort.insInner lessP 0 k' D.toArray) = F.toArray)) (fun k _ _ => (intOf k).toNat)
      case atStart => exact ⟨i, L, Nat.le_refl _, rfl, HL.out, hb.out, hO.out, hI.out⟩
      case round =>
        clear hb hO hI HL
        obtain ⟨k, D, hk, rfl, hD, hb, hO, hI⟩ := hrel
        rcases k with _ | j
        · have hk0 : decide ((0 : Int) > 0) = false := rfl
          rw [Sort.insInner] at hI
          go_wp2_with fail
          refine wp_region_ext wr.heap.size (by kernel_rfl) (by kernel_rfl) ?_
          repeat (go_big_quiet_step (fail))
          refine wpQuiet_nil ?_
          intro x
          go_wp2_with fail
          refine ⟨⟨i + 1, D, by omega, by omega, by go_num, hD.out, hb.out.trans (x.below.mono hb.out.size), hO.out.below x.below (Nat.le_refl _), hI.out⟩, by simp [intOf]; omega⟩
        · have hjn : j + 1 < D.length := by have := hD.out; omega
          obtain ⟨⟨x1, x2⟩, hx⟩ : ∃ x, D[j + 1]? = some x := ⟨_, List.getElem?_eq_getElem hjn⟩
          obtain ⟨⟨y1, y2⟩, hy⟩ : ∃ y, D[j]? = some y := ⟨_, List.getElem?_eq_getElem (by omega)⟩
          obtain ⟨g, cg, eg, p1, p2, p3, p4, p5, p6⟩ := hO.out.cell hx
          obtain ⟨g', cg', eg', q1, q2, q3, q4, q5, q6⟩ := hO.out.cell hy
          obtain ⟨rfl, rfl⟩ : g = g' ∧ cg = cg' := by rw [eg] at eg'; simpa using eg'
          obtain ⟨rfl, rfl⟩ : A' = some ⟨g, 0, none⟩ ∧ cg = c' := by simp at eg; exact ⟨eg.1, eg.2.2.symm⟩
          clear eg eg'
          have hcap := HCap.out
          have s1 : (j : Int) + 1 > 0 := by omega
          have hkpos : decide ((j : Int) + 1 > 0) = true := decide_eq_true s1
          have s2 : (0 : Int) ≤ (j : Int) := by omega
          have s3 : j + 1 + 1 ≤ cg := by have := hD.out; omega
          have s4 : j + 1 ≤ cg := by omega
          obtain ⟨bl, hbl⟩ : ∃ bl, lessP (x1, x2) (y1, y2) = bl := ⟨_, rfl⟩
          have HL3 : Hid (∀ (c1 c2 : Nat) (x : Ext wr.heap.size wr), Calls Try.prog 64 #[.slice (some ⟨g, (j + 1) * 2, none⟩) 1 c1, .slice (some ⟨g, j * 2, none⟩) 1 c2] x.out fun e w' => e = .returned (.bool bl) ∧ Below x.out.heap.size x.out w') := fun c1 c2 x => by
            rw [← hbl]
            exact c_l03Less1 x1 x2 y1 y2 g _ g _ c1 c2 x.out ((x.below.cell (p := ⟨g, _, none⟩) p2).trans p3) ((x.below.cell (p := ⟨g, _, none⟩) p2).trans p4) ((x.below.cell (p := ⟨g, _, none⟩) p2).trans q3) ((x.below.cell (p := ⟨g, _, none⟩) p2).trans q4) (Nat.lt_of_lt_of_le p2 x.below.size) (Nat.lt_of_lt_of_le p2 x.below.size)
          have HBL := hid hbl
          have HX := hid hx
          have HY := hid hy
          clear hx hy hbl hcap hjn
          cases bl
          · go_wp2_with fail
            refine wp_region_ext wr.heap.size (by kernel_rfl) (by kernel_rfl) ?_
            repeat (go_big_quiet_step ((go_at_call 64; with_reducible exact Calls.ext (Nat.le_refl _) (HL3.out _ _ _))))
            refine wpQuiet_nil ?_
            intro x
            rw [Hid, insInner_no HX.out HY.out HBL.out] at hI
            go_wp2_with fail
            refine ⟨⟨i + 1, D, by omega, by omega, by go_num, hD.out, hb.out.trans (x.below.mono hb.out.size), hO.out.below x.below (Nat.le_refl _), hI⟩, by simp [intOf]; omega⟩
          · go_wp2_with fail
            refine wp_region_ext wr.heap.size (by kernel_rfl) (by kernel_rfl) ?_
            repeat (go_big_quiet_step ((go_at_call 64; with_reducible exact Calls.ext (Nat.le_refl _) (HL3.out _ _ _))))
            refine wpQuiet_nil ?_
            intro x
            rw [Hid, insInner_yes HX.out HY.out HBL.out] at hI
            have HI := hid hI
            have HOx := hid (hO.out.below x.below (Nat.le_refl _))
            have HBx := hid (hb.out.trans (x.below.mono hb.out.size))
            have P3 := (x.below.cell (p := ⟨g, _, none⟩) p2).trans p3
            have P4 := (x.below.cell (p := ⟨g, _, none⟩) p2).trans p4
            have Q3 := (x.below.cell (p := ⟨g, _, none⟩) p2).trans q3
            have Q4 := (x.below.cell (p := ⟨g, _, none⟩) p2).trans q4
            have P5 := (x.below.frozen (p := ⟨g, _, none⟩) p2).trans p5
            have P6 := (x.below.frozen (p := ⟨g, _, none⟩) p2).trans p6
            have Q5 := (x.below.frozen (p := ⟨g, _, none⟩) p2).trans q5
            have Q6 := (x.below.frozen (p := ⟨g, _, none⟩) p2).trans q6
            have hg : g < x.out.heap.size := Nat.lt_of_lt_of_le p2 x.below.size
            obtain ⟨X, hXX⟩ : ∃ X, X = x.out := ⟨_, rfl⟩
            rw [← hXX] at HOx HBx P3 P4 Q3 Q4 P5 P6 Q5 Q6 hg ⊢
            have hgne : g ≠ X.heap.size := by omega
            clear hXX p2 p3 p4 p5 p6 q2 q3 q4 q5 q6 hO hb hI
            go_wp2_with fail
            have hDl : D.length = n := hD.out
            have hR := (HOx.out.set2 (k := j + 1) (by omega) y1 y2).set2 (k := j) (by rw [List.length_set]; omega) x1 x2
            have hBl := (((HBx.out.setCell (p := ⟨g, (j + 1) * 2, none⟩) p1 (.int .i8 y1)).setCell (p := ⟨g, (j + 1) * 2 + 1, none⟩) p1 (.int .i8 y2)).setCell (p := ⟨g, j * 2, none⟩) p1 (.int .i8 x1)).setCell (p := ⟨g, j * 2 + 1, none⟩) p1 (.int .i8 x2)
            refine ⟨⟨j, (D.set (j + 1) (y1, y2)).set j (x1, x2), by omega, rfl, by rw [Hid, List.length_set, List.length_set]; exact hDl, hBl.alloc hBl.size _, hR.alloc _, HI.out⟩, by simp [intOf]⟩
    · have hd : decide ((i : Int) < (n : Int)) = false := decide_eq_false (by omega)
      rw [Sort.insOuter, if_neg hil] at hI
      go_wp2_with fail
      go_ret
      obtain rfl : L = F := by have := congrArg Array.toList hI.out; simpa using this
      exact ⟨_, rfl, hb.out, hO.out⟩
end Go.Proofs.Ytfbgldkdlmipoaa

/- Library contracts laid at the round b5 (numbers of that seat). -/
namespace Go.Proofs
open Go.Shelf
def Try.lays129_ren : Go.Shelf.Ren := ⟨fun | 129 => 116 | n => n, fun | 53 => 135 | 3 => 3 | 4 => 4 | 46 => 112 | 5 => 5 | 9 => 9 | n => n, fun | n => n⟩
theorem Try.lays129 : Go.Proofs.Lays.n129 Try.prog Try.lays129_ren := {
  mixed := by kernel_rfl
  f129 := Try.func116.trans (congrArg some (by kernel_rfl))
  t3 := Try.underlying3
  a3 := Try.isAgg3
  z3 := Try.sizeOf3
  v3 := Try.zeroValue3
  t4 := Try.underlying4
  a4 := Try.isAgg4
  z4 := Try.sizeOf4
  v4 := Try.zeroValue4
  t5 := Try.underlying5
  a5 := Try.isAgg5
  z5 := Try.sizeOf5
  v5 := Try.zeroValue5
  t9 := Try.underlying9
  a9 := Try.isAgg9
  z9 := Try.sizeOf9
  v9 := Try.zeroValue9
  t46 := Try.underlying112
  a46 := Try.isAgg112
  z46 := Try.sizeOf112
  v46 := Try.zeroValue112
  t53 := Try.underlying135
  a53 := Try.isAgg135
  z53 := Try.sizeOf135
  v53 := Try.zeroValue135 }
def Try.lays125_ren : Go.Shelf.Ren := ⟨fun | 125 => 94 | 128 => 115 | 129 => 116 | n => n, fun | 46 => 112 | 3 => 3 | 51 => 133 | 53 => 135 | 4 => 4 | 5 => 5 | 9 => 9 | n => n, fun | n => n⟩
theorem Try.lays125 : Go.Proofs.Lays.n125 Try.prog Try.lays125_ren := {
  mixed := by kernel_rfl
  f125 := Try.func94.trans (congrArg some (by kernel_rfl))
  f128 := Try.func115.trans (congrArg some (by kernel_rfl))
  f129 := Try.func116.trans (congrArg some (by kernel_rfl))
  t3 := Try.underlying3
  a3 := Try.isAgg3
  z3 := Try.sizeOf3
  v3 := Try.zeroValue3
  t4 := Try.underlying4
  a4 := Try.isAgg4
  z4 := Try.sizeOf4
  v4 := Try.zeroValue4
  t5 := Try.underlying5
  a5 := Try.isAgg5
  z5 := Try.sizeOf5
  v5 := Try.zeroValue5
  t9 := Try.underlying9
  a9 := Try.isAgg9
  z9 := Try.sizeOf9
  v9 := Try.zeroValue9
  t46 := Try.underlying112
  a46 := Try.isAgg112
  z46 := Try.sizeOf112
  v46 := Try.zeroValue112
  t51 := Try.underlying133
  a51 := Try.isAgg133
  z51 := Try.sizeOf133
  v51 := Try.zeroValue133
  t53 := Try.underlying135
  a53 := Try.isAgg135
  z53 := Try.sizeOf135
  v53 := Try.zeroValue135 }
def Try.laysQ6_ren : Go.Shelf.Ren := ⟨fun | 6 => 66 | 15 => 94 | 14 => 93 | 28 => 115 | 29 => 116 | 20 => 107 | 21 => 108 | 22 => 109 | 23 => 110 | 24 => 111 | 25 => 112 | 26 => 113 | 27 => 114 | 46 => 120 | 47 => 121 | 48 => 122 | 49 => 123 | 50 => 124 | 57 => 125 | n => n, fun | 22 => 33 | 24 => 50 | 25 => 66 | 3 => 3 | 39 => 112 | 0 => 0 | 53 => 133 | 55 => 135 | 4 => 4 | 46 => 126 | 45 => 125 | 50 => 130 | 5 => 5 | 9 => 9 | 66 => 138 | 70 => 142 | 76 => 144 | 77 => 145 | n => n, fun | n => n⟩
theorem Try.laysQ6 : Go.Proofs.SlLaysF0.n6 Try.prog Try.laysQ6_ren := {
  mixed := by kernel_rfl
  f6 := ⟨Try.f66.name, by decide, Try.func66.trans (congrArg some (by kernel_rfl))⟩
  f14 := ⟨Try.f93.name, by decide, Try.func93.trans (congrArg some (by kernel_rfl))⟩
  f15 := Try.func94.trans (congrArg some (by kernel_rfl))
  f20 := ⟨Try.f107.name, by decide, Try.func107.trans (congrArg some (by kernel_rfl))⟩
  f21 := ⟨Try.f108.name, by decide, Try.func108.trans (congrArg some (by kernel_rfl))⟩
  f22 := ⟨Try.f109.name, by decide, Try.func109.trans (congrArg some (by kernel_rfl))⟩
  f23 := ⟨Try.f110.name, by decide, Try.func110.trans (congrArg some (by kernel_rfl))⟩
  f24 := ⟨Try.f111.name, by decide, Try.func111.trans (congrArg some (by kernel_rfl))⟩
  f25 := ⟨Try.f112.name, by decide, Try.func112.trans (congrArg some (by kernel_rfl))⟩
  f26 := ⟨Try.f113.name, by decide, Try.func113.trans (congrArg some (by kernel_rfl))⟩
  f27 := ⟨Try.f114.name, by decide, Try.func114.trans (congrArg some (by kernel_rfl))⟩
  f28 := Try.func115.trans (congrArg some (by kernel_rfl))
  f29 := Try.func116.trans (congrArg some (by kernel_rfl))
  f46 := ⟨Try.f120.name, by decide, Try.func120.trans (congrArg some (by kernel_rfl))⟩
  f47 := Try.func121.trans (congrArg some (by kernel_rfl))
  f48 := Try.func122.trans (congrArg some (by kernel_rfl))
  f49 := ⟨Try.f123.name, by decide, Try.func123.trans (congrArg some (by kernel_rfl))⟩
  f50 := ⟨Try.f124.name, by decide, Try.func124.trans (congrArg some (by kernel_rfl))⟩
  f57 := ⟨Try.f125.name, by decide, Try.func125.trans (congrArg some (by kernel_rfl))⟩
  t0 := Try.underlying0
  a0 := Try.isAgg0
  z0 := Try.sizeOf0
  v0 := Try.zeroValue0
  t3 := Try.underlying3
  a3 := Try.isAgg3
  z3 := Try.sizeOf3
  v3 := Try.zeroValue3
  t4 := Try.underlying4
  a4 := Try.isAgg4
  z4 := Try.sizeOf4
  v4 := Try.zeroValue4
  t5 := Try.underlying5
  a5 := Try.isAgg5
  z5 := Try.sizeOf5
  v5 := Try.zeroValue5
  t9 := Try.underlying9
  a9 := Try.isAgg9
  z9 := Try.sizeOf9
  v9 := Try.zeroValue9
  t22 := Try.underlying33
  a22 := Try.isAgg33
  z22 := Try.sizeOf33
  v22 := Try.zeroValue33
  t25 := Try.underlying66
  a25 := Try.isAgg66
  z25 := Try.sizeOf66
  v25 := Try.zeroValue66
  t39 := Try.underlying112
  a39 := Try.isAgg112
  z39 := Try.sizeOf112
  v39 := Try.zeroValue112
  t45 := Try.underlying125
  a45 := Try.isAgg125
  z45 := Try.sizeOf125
  v45 := Try.zeroValue125
  t46 := Try.underlying126
  a46 := Try.isAgg126
  z46 := Try.sizeOf126
  v46 := Try.zeroValue126
  t50 := Try.underlying130
  a50 := Try.isAgg130
  z50 := Try.sizeOf130
  v50 := Try.zeroValue130
  t53 := Try.underlying133
  a53 := Try.isAgg133
  z53 := Try.sizeOf133
  v53 := Try.zeroValue133
  t55 := Try.underlying135
  a55 := Try.isAgg135
  z55 := Try.sizeOf135
  v55 := Try.zeroValue135
  t66 := Try.underlying138
  a66 := Try.isAgg138
  z66 := Try.sizeOf138
  v66 := Try.zeroValue138
  t70 := Try.underlying142
  a70 := Try.isAgg142
  z70 := Try.sizeOf142
  v70 := Try.zeroValue142
  t76 := Try.underlying144
  a76 := Try.isAgg144
  z76 := Try.sizeOf144
  v76 := Try.zeroValue144
  t77 := Try.underlying145
  a77 := Try.isAgg145
  z77 := Try.sizeOf145
  v77 := Try.zeroValue145 }
end Go.Proofs

/- slices.SortFunc over places, by comparePlaces. -/
namespace Go.Proofs.Ytfbgldkdlmipoaa
open Go.RowKit Go.Shelf
set_option linter.unusedSimpArgs false
set_option linter.unusedVariables false

def encP (p : Int × Int) : List Value := [.int .i8 p.1, .int .i8 p.2]
theorem flat_pcells (l : List (Int × Int)) : Sort.flatK encP 2 l.toArray = (pcells l).toArray := by
  apply Array.ext
  · simp [pcells_len]
  · intro t h1 h2
    have h1' : t < l.length * 2 := by simpa using h1
    have e1 := Sort.get_flatK encP 2 l.toArray t (by simpa using h1')
    rw [getElem!_pos _ t h1] at e1
    rw [e1]
    have hi : t / 2 < l.length := by omega
    have hg := pcells_get l (t / 2) _ (List.getElem?_eq_getElem hi)
    have hx : l.toArray[t / 2]! = l[t / 2] := by simp [hi]
    rw [hx]
    rcases Nat.mod_two_eq_zero_or_one t with h | h
    · have e : t / 2 * 2 = t := by omega
      rw [e] at hg
      have := List.getElem?_eq_some_iff.1 hg.1
      simp [encP, h, this.2]
    · have e : t / 2 * 2 + 1 = t := by omega
      rw [e] at hg
      have := List.getElem?_eq_some_iff.1 hg.2
      simp [encP, h, this.2]
theorem ltP_eq (x y : Int × Int) : ltOf cmpPl x y = lessP x y := by
  unfold ltOf cmpPl cmpZ lessP
  by_cases h1 : x.1 < y.1
  · simp [h1]
  · by_cases h2 : y.1 < x.1
    · have h3 : ¬ x.1 = y.1 := by omega
      simp [h1, h2, h3]
    · have h3 : x.1 = y.1 := by omega
      by_cases h4 : x.2 < y.2
      · simp [h3, h4]
      · by_cases h5 : y.2 < x.2 <;> simp [h3, h4, h5]
theorem holds_rowQ {B : Nat} {w : World} {g n c : Nat} {l : List (Int × Int)} (h : RowQ B w (.slice (some ⟨g, 0, none⟩) n c) l) : Sort.HoldsK encP 2 w g 0 l.toArray := by
  unfold Sort.HoldsK
  rw [flat_pcells]
  intro j hj
  have hj' : j < (pcells l).length := by simpa using hj
  obtain ⟨g', c', e, _, _, h1, h2⟩ := owns_cell h (List.getElem?_eq_getElem hj')
  obtain ⟨rfl, _, _⟩ : g = g' ∧ n = l.length ∧ c = c' := by simpa using e
  rw [Nat.zero_add]
  refine ⟨?_, h2⟩
  rw [h1, getElem!_pos _ j hj]
  simp
theorem putRow_owns {w : World} {B : Nat} {e : TypeId} {size g n c : Nat} {xs F : List Value} (h : w.ownsRow B e size (.slice (some ⟨g, 0, none⟩) n c) n xs) (hF : F.length = xs.length) : (Sort.putRow id w g 0 F.toArray).ownsRow B e size (.slice (some ⟨g, 0, none⟩) n c) n F := by
  refine ⟨by rw [hF]; exact h.1, ?_⟩
  have hl := h.1
  rcases h.2 with ⟨e1, _⟩ | ⟨g', cap, cur, e1, hb, hgg, hc, hm, hs, ht⟩
  · simp at e1
  · simp only [Value.slice.injEq, Option.some.injEq, Addr.mk.injEq, and_true, true_and] at e1
    obtain ⟨rfl, rfl⟩ := e1
    refine .inr ⟨g, c, Sort.putCells id 0 F.toArray cur, rfl, hb, ?_, hc, hm, by simp [Sort.putCells, hs], ?_⟩
    · unfold Sort.putRow Sort.mapBlock
      simp only [Array.getElem?_modify, hgg, if_true, Option.map_some]
      rfl
    · have hle : n * size ≤ cur.size := by rw [hs]; exact Nat.mul_le_mul_right _ hc
      apply List.ext_getElem?
      intro j
      by_cases hj : j < F.length
      · have hjc : j < cur.size := by omega
        rw [List.getElem?_take, if_pos (by omega)]
        simp only [Sort.putCells, Array.getElem?_toList, Array.getElem?_mapIdx, Array.getElem?_eq_getElem hjc, Option.map_some]
        rw [if_pos ⟨Nat.zero_le _, by simpa using hj⟩, List.getElem?_eq_getElem hj]
        simp [hj]
      · have e2 : F[j]? = none := List.getElem?_eq_none (by omega)
        rw [e2, List.getElem?_eq_none]
        simp only [List.length_take]
        omega
theorem below_putRowV {B : Nat} (w : World) (g : Nat) (hg : B ≤ g) (d : Array Value) : Below B w (Sort.putRow id w g 0 d) :=
  ⟨rfl, rfl, rfl, by simp, fun k hk => by
    unfold Sort.putRow Sort.mapBlock
    simp only [Array.getElem?_modify, if_neg (show ¬ g = k by omega)]⟩
theorem below_grow (w : World) (os : Array Obj) : Below w.heap.size w (Sort.grow w os) :=
  ⟨rfl, rfl, rfl, by simp [Sort.grow], fun k hk => by
    unfold Sort.grow
    simp only [Array.getElem?_append, hk, if_true]⟩
theorem swo_lessQ : Sort.SWO lessP where
  irrefl := fun x => by simp [lessP]
  trans := fun x y z h1 h2 => by simp [lessP] at *; omega
  ntrans := fun x y z h1 h2 => by simp [lessP] at *; omega
theorem lessP_tot (x y : Int × Int) (h1 : lessP x y = false) (h2 : lessP y x = false) : x = y := by
  simp [lessP] at h1 h2
  apply Prod.ext <;> omega
theorem sortP_merge (l : List (Int × Int)) : l.mergeSort (fun x y => !lessP y x) = sortP l := by
  have h := Sort.insertionSort_holds (lt := lessP) swo_lessQ l.toArray 0 l.length (Nat.zero_le _) (by simp)
  have := Sort.sorted_unique_holds swo_lessQ lessP_tot l.toArray (Sort.insertionSort lessP l.toArray 0 l.length) (by simpa using h.1) (by simpa using h.2)
  simpa [sortP] using this.symm
theorem sortP_lenQ (l : List (Int × Int)) : (sortP l).length = l.length := by
  rw [← sortP_merge, List.length_mergeSort]
theorem ltP_fun : ltOf cmpPl = lessP := by funext x y; exact ltP_eq x y
theorem c_sortQ (B : Nat) (A : Option Addr) (c : Nat) (l : List (Int × Int)) (hlen : l.length ≤ 4000000) (w : World) (hO : RowQ B w (.slice A l.length c) l) :
    Calls Try.prog 66 #[.slice A l.length c, .func (.func 39) #[] #[]] w fun e w' => e = .returned (.tuple #[]) ∧ Below B w w' ∧ RowQ B w' (.slice A l.length c) (sortP l) := by
  cases l with
  | nil =>
    have h := AnyF.slices_SortFunc_none Try.laysQ6 A c (.func (.func 39) #[] #[]) w
    refine h.mono ?_
    rintro e w' ⟨rfl, rfl⟩
    exact ⟨rfl, Below.refl _ _, by have : sortP [] = [] := List.eq_nil_of_length_eq_zero (sortP_lenQ []); rw [this]; exact hO⟩
  | cons p l =>
    obtain ⟨g, c', e, hg, hgl, _⟩ := hO.cell (j := 0) rfl
    obtain ⟨rfl, rfl⟩ : A = some ⟨g, 0, none⟩ ∧ c = c' := by simpa using e
    have h := AnyQ.slices_SortFunc_total Try.laysQ6 2 (fun w => by kernel_rfl) (fun w => by kernel_rfl) encP (fun _ => rfl) (fun x v hv => by simp [encP] at hv; rcases hv with rfl | rfl <;> rfl) cmpPl (by rw [ltP_fun]; exact swo_lessQ) 39 #[] g 0 c (p :: l).toArray w (enters_of Try.func39 (by kernel_rfl) rfl)
      (fun m os dk _ x y => c_comparePlaces x.1 x.2 y.1 y.2 _) (holds_rowQ hO) hgl (by simp at hlen ⊢; omega) (by rw [ltP_fun]; exact lessP_tot)
    refine h.mono ?_
    rintro e w' ⟨rfl, n, os, rfl⟩
    rw [ltP_fun]
    have he : ((p :: l).toArray.toList.mergeSort fun x y => !lessP y x).toArray = (sortP (p :: l)).toArray := by rw [← sortP_merge]
    rw [he]
    unfold sortWorldK Sort.putRowK
    rw [flat_pcells]
    have hw : RowQ B (Sort.ahead w n) (.slice (some ⟨g, 0, none⟩) (p :: l).length c) (p :: l) := hO
    have h1 := putRow_owns (F := pcells (sortP (p :: l))) hw (by rw [pcells_len, pcells_len, sortP_lenQ])
    have h2 : RowQ B (Sort.putRow id (Sort.ahead w n) g 0 (pcells (sortP (p :: l))).toArray) (.slice (some ⟨g, 0, none⟩) (p :: l).length c) (sortP (p :: l)) := by
      unfold RowQ
      rw [sortP_lenQ]
      exact h1
    have hb0 : Below B w (Sort.ahead w n) := ⟨rfl, rfl, rfl, Nat.le_refl _, fun _ _ => rfl⟩
    have hb1 := hb0.trans (below_putRowV (Sort.ahead w n) g hg (pcells (sortP (p :: l))).toArray)
    have hb2 := below_grow (Sort.putRow id (Sort.ahead w n) g 0 (pcells (sortP (p :: l))).toArray) os
    have hBw : B ≤ (Sort.putRow id (Sort.ahead w n) g 0 (pcells (sortP (p :: l))).toArray).heap.size := by simp; omega
    exact ⟨rfl, hb1.trans (hb2.mono hBw), h2.below hb2 (Nat.le_refl _)⟩
end Go.Proofs.Ytfbgldkdlmipoaa

/- slices.Collect, slices.SortedFunc over places. -/
namespace Go.Proofs.Ytfbgldkdlmipoaa
open Go.RowKit
set_option linter.unusedSimpArgs false
set_option linter.unusedVariables false

theorem sortP_perm (l : List (Int × Int)) : (sortP l).Perm l := by rw [← sortP_merge]; exact List.mergeSort_perm l _
theorem sortP_pair (l : List (Int × Int)) : (sortP l).Pairwise fun x y => lessP y x = false := by
  rw [← sortP_merge]
  have h := List.pairwise_mergeSort (le := fun x y => !lessP y x) (fun a b c h1 h2 => by simp [lessP] at *; omega) (fun a b => by simp [lessP]; omega) l
  exact h.imp fun h => by simpa using h
theorem sortP_nodup (l : List (Int × Int)) : (sortP l).Nodup ↔ l.Nodup := (sortP_perm l).nodup_iff
theorem sortP_adj (l : List (Int × Int)) : adjEq (sortP l) = !decide l.Nodup := by
  rw [adj_nodup (sortP_pair l)]
  congr 1
  exact decide_eq_decide.2 (sortP_nodup l)
theorem c_collectQ (Bs : Nat) (A : Option Addr) (cap : Nat) (zs : List (Int × Int)) (hlen : zs.length ≤ 1048576) (w : World) (hcs : w.cell? ⟨Bs, 0, none⟩ = some (.slice A zs.length cap)) (hBs : Bs < w.heap.size) (hA : PairsAt .i8 .i8 w A zs) :
    Calls Try.prog 65 #[.func (.func 67) #[] #[.pointer (some ⟨Bs, 0, none⟩)]] w fun e w' => ∃ v, e = .returned v ∧ Below w.heap.size w w' ∧ RowQ w.heap.size w' v zs := by
  have HC := hid (c_appSeq Bs A cap zs hlen w hcs hBs hA)
  clear hcs hA
  go_enter Try.func65, Try.ntmps65
  go_wp2_with (go_at_call 92; ((with_reducible refine HC.out.mono ?_); rintro e w1 ⟨v, rfl, hb1, hr1⟩); have HB := hid hb1; have HR := hid hr1; clear hb1 hr1)
  go_ret
  exact ⟨_, rfl, HB.out, HR.out⟩
theorem c_sortedQ (Bs : Nat) (A : Option Addr) (cap : Nat) (zs : List (Int × Int)) (hlen : zs.length ≤ 1048576) (w : World) (hcs : w.cell? ⟨Bs, 0, none⟩ = some (.slice A zs.length cap)) (hBs : Bs < w.heap.size) (hA : PairsAt .i8 .i8 w A zs) :
    Calls Try.prog 37 #[.func (.func 67) #[] #[.pointer (some ⟨Bs, 0, none⟩)], .func (.func 39) #[] #[]] w fun e w' => ∃ v, e = .returned v ∧ Below w.heap.size w w' ∧ RowQ w.heap.size w' v (sortP zs) := by
  have HC := hid (c_collectQ Bs A cap zs hlen w hcs hBs hA)
  clear hcs hA
  go_enter Try.func37, Try.ntmps37
  go_wp2_with (first
    | (go_at_call 65; ((with_reducible refine HC.out.mono ?_); rintro e w1 ⟨v, rfl, hb1, hr1⟩); obtain ⟨Av, cv, rfl⟩ := owns_slc hr1; have HB := hid hb1; have HR := hid hr1; clear hb1 hr1)
    | (go_at_call 66; ((with_reducible refine (c_sortQ w.heap.size Av cv zs (by omega) _ HR.out).mono ?_); rintro e w2 ⟨rfl, hb2, hr2⟩); have HB2 := hid hb2; have HR2 := hid hr2; clear hb2 hr2))
  go_ret
  exact ⟨_, rfl, HB.out.trans HB2.out, HR2.out⟩
end Go.Proofs.Ytfbgldkdlmipoaa

/- slices.Compact over places: how long what it returns is; clear over places. -/
namespace Go.Proofs.Ytfbgldkdlmipoaa
open Go.RowKit
set_option linter.unusedSimpArgs false
set_option linter.unusedVariables false

/-- 'clear(s)', s a slice of n > 0 places: all cells hold zero. -/
theorem run_clear_q (w : World) (ty : TypeId) (b o n c : Nat) (hn : 0 < n) (hc : ∀ j, j < n * 2 → (w.cell? ⟨b, o + j, none⟩).isSome = true) (hf : ∀ j, j < n * 2 → w.frozen? ⟨b, o + j, none⟩ = false) :
    (Builtin.clear_ #[33] ty #[.slice (some ⟨b, o, none⟩) n c]).run Try.prog w = .ok (.tuple #[]) (w.setCells b o (List.replicate (n * 2) (.int .i8 0))) := by
  have hz : ∀ w, (zeroValue 50).run Try.prog w = .ok (.agg #[.int .i8 0, .int .i8 0]) w := fun w => by kernel_rfl
  have hzc : (Builtin.zeroCells (Value.agg #[.int .i8 0, .int .i8 0]).cells n).toList = List.replicate (n * 2) (.int .i8 0) := by
    simp only [Builtin.zeroCells, Value.cells]
    apply List.ext_getElem
    · simp
    · intro i h1 h2
      simp
      have : i % 2 = 0 ∨ i % 2 = 1 := by omega
      rcases this with h | h <;> simp [h]
  have hst := run_storeCells_cells (P := Try.prog) b o (List.replicate (n * 2) (.int .i8 0)) 0 w (by simpa using hc) (by simpa using hf) (by intro v hv'; rw [List.eq_of_mem_replicate hv']; rfl)
  simp only [Nat.add_zero] at hst
  obtain ⟨m, rfl⟩ : ∃ m, n = m + 1 := ⟨n - 1, by omega⟩
  simp [Builtin.clear_, run_underlying Try.underlying33, hz, hzc, hst]
theorem below_setCellsQ {B g : Nat} (hg : B ≤ g) : ∀ (vs : List Value) (o : Nat) (w : World), Below B w (w.setCells g o vs)
  | [], _, w => Below.refl _ _
  | v :: vs, o, w => ((Below.refl B w).setCell (p := ⟨g, o, none⟩) hg v).trans (below_setCellsQ hg vs (o + 1) _)
/-- The cells of such a row from an element on. -/
theorem RowQ.free {B : Nat} {w : World} {g n c : Nat} {l : List (Int × Int)} (h : RowQ B w (.slice (some ⟨g, 0, none⟩) n c) l) (k : Nat) : ∀ j, j < (l.length - k) * 2 → (w.cell? ⟨g, k * 2 + j, none⟩).isSome = true ∧ w.frozen? ⟨g, k * 2 + j, none⟩ = false := fun j hj => by
  have hj' : k * 2 + j < (pcells l).length := by rw [pcells_len]; omega
  obtain ⟨g', c', e, _, _, h1, h2⟩ := owns_cell h (List.getElem?_eq_getElem hj')
  obtain ⟨rfl, _, _⟩ : g = g' ∧ n = l.length ∧ c = c' := by simpa using e
  exact ⟨by rw [h1]; rfl, h2⟩
theorem adjEq_short {l : List (Int × Int)} (h : l.length < 2) : adjEq l = false := by
  unfold adjEq
  rw [show l.length - 1 = 0 by omega]; rfl
set_option maxHeartbeats 4000000 in
set_option maxRecDepth 100000 in
theorem c_compactQ (B : Nat) (A : Option Addr) (c : Nat) (l : List (Int × Int)) (hlen : l.length ≤ 1048576) (w : World) (hO : RowQ B w (.slice A l.length c) l) :
    Calls Try.prog 60 #[.slice A l.length c] w fun e w' => ∃ m : Nat, e = .returned (.slice A m c) ∧ Below B w w' ∧ decide ((m : Int) < (l.length : Int)) = adjEq l := by
  have HO := hid hO
  have hcap := hO.cap.1
  by_cases h2 : l.length < 2
  · have HR : Hid (decide ((l.length : Int) < (l.length : Int)) = adjEq l) := by
      show _ = _
      rw [adjEq_short h2]; exact decide_eq_false (by omega)
    have hd : decide ((l.length : Int) < 2) = true := decide_eq_true (by omega)
    clear hO
    go_enter Try.func60, Try.ntmps60
    go_wp2_with fail
    go_ret
    exact ⟨_, rfl, Below.refl _ _, HR.out⟩
  · obtain ⟨g, c', e, hg, hgl, _⟩ := hO.cell (j := 0) (List.getElem?_eq_getElem (by omega))
    obtain ⟨rfl, rfl⟩ : A = some ⟨g, 0, none⟩ ∧ c = c' := by simpa using e
    have hd : decide ((l.length : Int) < 2) = false := decide_eq_false (by omega)
    have hBw : B ≤ w.heap.size := by omega
    clear hO e
    go_enter Try.func60, Try.ntmps60
    go_wp2_with fail
    go_loopw [3] (fun i wr => ∃ k : Nat, 1 ≤ k ∧ k ≤ l.length ∧ i = .int .i64 k ∧ Hid (Below w.heap.size w wr) ∧ Hid (∀ j, j + 1 < k → l[j]? ≠ l[j + 1]?)) (fun i _ => l.length - (intOf i).toNat)
    case atStart => exact ⟨1, by omega, by omega, rfl, Below.refl _ _, fun j h => absurd h (by omega)⟩
    case round =>
      obtain ⟨k, hk1, hk, rfl, hb, hno⟩ := hrel
      have HOw := hid (HO.out.below hb.out (Nat.le_refl _))
      by_cases hkl : k < l.length
      · have hd1 : decide ((k : Int) < (l.length : Int)) = true := decide_eq_true (by omega)
        have hkI : (k : Int) < (l.length : Int) := by omega
        have hk0 : (0 : Int) ≤ (k : Int) := by omega
        obtain ⟨m, hm⟩ : ∃ m, k = m + 1 := ⟨k - 1, by omega⟩
        have hm1 : (k : Int) - 1 = (m : Int) := by omega
        have hmI : (m : Int) < (l.length : Int) := by omega
        have hm0 : (0 : Int) ≤ (m : Int) := by omega
        have hp := List.getElem?_eq_getElem hkl
        have hq := List.getElem?_eq_getElem (by omega : m < l.length)
        obtain ⟨⟨p1, p2⟩, hpp⟩ : ∃ p, p = l[k] := ⟨_, rfl⟩
        obtain ⟨⟨q1, q2⟩, hqq⟩ : ∃ p, p = l[m] := ⟨_, rfl⟩
        rw [← hpp] at hp
        rw [← hqq] at hq
        obtain ⟨g1, c1, e1, _, lg, r1, r2, _, _⟩ := HOw.out.cell hp
        obtain ⟨rfl, rfl⟩ : g = g1 ∧ c = c1 := by simpa using e1
        obtain ⟨g1, c1, e2, _, _, s1, s2, _, _⟩ := HOw.out.cell hq
        obtain ⟨rfl, rfl⟩ : g = g1 ∧ c = c1 := by simpa using e2
        dsimp only at r1 r2 s1 s2
        have HM := hid hm
        have HPQ : Hid (l[k]? = some (p1, p2) ∧ l[m]? = some (q1, q2)) := ⟨hp, hq⟩
        clear hp hq hpp hqq e1 e2 hm
        have run : ∀ (g : Bool), decide ((p1, p2) = (q1, q2)) = g → ∀ W : World, (binOp .eql 50 (.agg #[.int .i8 p1, .int .i8 p2]) (.agg #[.int .i8 q1, .int .i8 q2])).run Try.prog W = .ok (.bool g) W := fun g hg W => by rw [run_eql_place, hg]
        by_cases he : (p1, p2) = (q1, q2)
        · have R := hid (run true (decide_eq_true he))
          have HE := hid he
          clear run he
          have hsl0 : (k : Int) ≤ (l.length : Int) := by omega
          have hcI : (l.length : Int) ≤ (c : Int) := by omega
          go_wp2_with fail
          refine wp_region_ext wr.heap.size (by kernel_rfl) (by kernel_rfl) ?_
          repeat (first
            | ((with_reducible refine wpQuiet_run (N := 25) rfl rfl (.bool true) ?_ ?_); (rintro _ ⟨x, rfl⟩; exact execOp_eql rfl rfl rfl (by kernel_rfl) (R.out x.out)); go_simp)
            | go_big_quiet_step (fail))
          refine wpQuiet_nil ?_
          intro x
          go_wp2_with fail
          have HAD : Hid (adjEq l = true) := (adjEq_iff l).2 ⟨m, by have := HM.out; omega, by rw [← HM.out, HPQ.out.1, HPQ.out.2]; exact congrArg some HE.out.symm⟩
          have hbx := hb.out.trans (x.below.mono hb.out.size)
          have HBX := hid (hbx.mono hBw)
          have HOx := hid (HO.out.below hbx (Nat.le_refl _))
          obtain ⟨W2, hW2⟩ : ∃ W2, W2 = x.out := ⟨_, rfl⟩
          rw [← hW2] at HBX HOx ⊢
          obtain ⟨n2, hn2⟩ : ∃ n2, n2 = l.length - k := ⟨_, rfl⟩
          rw [← hn2]
          clear hb hno R HPQ HE HOw r1 r2 s1 s2 hm1 hmI hm0 hW2 hbx x lg
          have HN2 := hid (show k + n2 = l.length by omega)
          have hn21 : 1 ≤ n2 := by omega
          clear hn2
          go_loopw [3, 5] (fun i j wr => ∃ kk k2 : Nat, k ≤ kk ∧ 1 ≤ k2 ∧ k2 ≤ n2 ∧ kk + 1 ≤ k + k2 ∧ i = .int .i64 kk ∧ j = .int .i64 k2 ∧ Hid (Below B w wr) ∧ Hid (∃ l' : List (Int × Int), l'.length = l.length ∧ RowQ B wr (.slice (some ⟨g, 0, none⟩) l.length c) l')) (fun _ j _ => n2 - (intOf j).toNat)
          case atStart => exact ⟨k, 1, by omega, by omega, by omega, by omega, rfl, rfl, HBX.out, l, rfl, HOx.out⟩
          case round =>
            obtain ⟨kk, k2, h1, h3, h4, h5, rfl, rfl, hb, hrow⟩ := hrel
            obtain ⟨l', hl', hR'⟩ := hrow.out
            have HR' := hid hR'
            have HL := hid hl'
            have hn2k := HN2.out
            clear hrow hR'
            by_cases hk2 : k2 < n2
            · have hd2 : decide ((k2 : Int) < (n2 : Int)) = true := decide_eq_true (by omega)
              have hk2I : (k2 : Int) < (n2 : Int) := by omega
              have hk20 : (0 : Int) ≤ (k2 : Int) := by omega
              obtain ⟨m, hm⟩ : ∃ m, k2 = m + 1 := ⟨k2 - 1, by omega⟩
              have hm1 : (k2 : Int) - 1 = (m : Int) := by omega
              have hmI : (m : Int) < (n2 : Int) := by omega
              have hm0 : (0 : Int) ≤ (m : Int) := by omega
              have hkkI : (kk : Int) < (l.length : Int) := by omega
              have hkk0 : (0 : Int) ≤ (kk : Int) := by omega
              have hmm : (m : Int) ≤ 1048576 := by omega
              have hkm : (k2 : Int) ≤ 1048576 := by omega
              have hp := List.getElem?_eq_getElem (by omega : k + k2 < l'.length)
              have hq := List.getElem?_eq_getElem (by omega : k + m < l'.length)
              have ht := List.getElem?_eq_getElem (by omega : kk < l'.length)
              obtain ⟨⟨p1, p2⟩, hpp⟩ : ∃ p, p = l'[k + k2] := ⟨_, rfl⟩
              obtain ⟨⟨q1, q2⟩, hqq⟩ : ∃ p, p = l'[k + m] := ⟨_, rfl⟩
              obtain ⟨⟨t1, t2⟩, htt⟩ : ∃ p, p = l'[kk] := ⟨_, rfl⟩
              rw [← hpp] at hp
              rw [← hqq] at hq
              rw [← htt] at ht
              obtain ⟨g1, c1, e1, _, lg, r1, r2, _, _⟩ := HR'.out.cell hp
              obtain ⟨rfl, -, rfl⟩ : g = g1 ∧ l.length = l'.length ∧ c = c1 := by simpa using e1
              obtain ⟨g1, c1, e2, _, _, s1, s2, _, _⟩ := HR'.out.cell hq
              obtain ⟨rfl, -, rfl⟩ : g = g1 ∧ l.length = l'.length ∧ c = c1 := by simpa using e2
              obtain ⟨g1, c1, e3, _, _, z1, z2, z3, z4⟩ := HR'.out.cell ht
              obtain ⟨rfl, -, rfl⟩ : g = g1 ∧ l.length = l'.length ∧ c = c1 := by simpa using e3
              dsimp only at r1 r2 s1 s2 z1 z2
              rw [Nat.add_mul] at r1 r2 s1 s2
              clear hp hq ht hpp hqq htt e1 e2 e3
              have HMM := hid hm
              clear hl' hm hn2k
              by_cases he : (p1, p2) = (q1, q2)
              · have R : Hid (∀ W : World, (binOp .neq 50 (.agg #[.int .i8 p1, .int .i8 p2]) (.agg #[.int .i8 q1, .int .i8 q2])).run Try.prog W = .ok (.bool false) W) := fun W => by rw [run_neq_place, decide_eq_true he]; rfl
                clear he z1 z2 z3 z4
                go_wp2_with fail
                refine wp_region_ext wr.heap.size (by kernel_rfl) (by kernel_rfl) ?_
                repeat (first
                  | ((with_reducible refine wpQuiet_run (N := 44) rfl rfl (.bool false) ?_ ?_); (rintro _ ⟨x, rfl⟩; exact execOp_neq rfl rfl rfl (by kernel_rfl) (R.out x.out)); go_simp)
                  | go_big_quiet_step (fail))
                refine wpQuiet_nil ?_
                intro x
                go_wp2_with fail
                have hn2k := HN2.out
                go_roundw
                case rel => exact ⟨kk, k2 + 1, by omega, by omega, by omega, by omega, rfl, by go_num, hb.out.trans (x.below.mono (by have := hb.out.size; omega)), l', HL.out, HR'.out.below x.below (Nat.le_refl _)⟩
                case measure => simp [intOf]; omega
              · have R : Hid (∀ W : World, (binOp .neq 50 (.agg #[.int .i8 p1, .int .i8 p2]) (.agg #[.int .i8 q1, .int .i8 q2])).run Try.prog W = .ok (.bool true) W) := fun W => by rw [run_neq_place, decide_eq_false he]; rfl
                have c0 := fun (x : Ext wr.heap.size wr) => (x.below.cell (p := ⟨g, _, none⟩) lg).trans r1
                have c1 := fun (x : Ext wr.heap.size wr) => (x.below.cell (p := ⟨g, _, none⟩) lg).trans r2
                have d0 := fun (x : Ext wr.heap.size wr) => (x.below.cell (p := ⟨g, _, none⟩) lg).trans z1
                have d1 := fun (x : Ext wr.heap.size wr) => (x.below.cell (p := ⟨g, _, none⟩) lg).trans z2
                have d2 := fun (x : Ext wr.heap.size wr) => (World.frozen?_of_block (x.below.block g lg) (a := ⟨g, kk * 2, none⟩)).trans z3
                have d3 := fun (x : Ext wr.heap.size wr) => (World.frozen?_of_block (x.below.block g lg) (a := ⟨g, kk * 2 + 1, none⟩)).trans z4
                clear he
                go_wp2_with fail
                refine wp_region_ext wr.heap.size (by kernel_rfl) (by kernel_rfl) ?_
                repeat (first
                  | ((with_reducible refine wpQuiet_run (N := 44) rfl rfl (.bool true) ?_ ?_); (rintro _ ⟨x, rfl⟩; exact execOp_neq rfl rfl rfl (by kernel_rfl) (R.out x.out)); go_simp)
                  | go_big_quiet_step (fail))
                refine wpQuiet_nil ?_
                intro x
                have c0 := c0 x
                have c1 := c1 x
                have d0 := d0 x
                have d1 := d1 x
                have d2 := d2 x
                have d3 := d3 x
                go_wp2_with fail
                have hbx := hb.out.trans (x.below.mono (by have := hb.out.size; omega))
                have hn2k := HN2.out
                go_roundw
                case rel => exact ⟨kk + 1, k2 + 1, by omega, by omega, by omega, by omega, by go_num, by go_num, (hbx.setCell hg _).setCell hg _, l'.set kk (p1, p2), by rw [List.length_set]; exact HL.out, (HR'.out.below x.below (Nat.le_refl _)).set2 (by have := HL.out; omega) p1 p2⟩
                case measure => simp [intOf]; omega
            · obtain rfl : k2 = n2 := by omega
              have hd2 : decide ((k2 : Int) < (k2 : Int)) = false := decide_eq_false (by omega)
              have hfr := RowQ.free (by rw [← hl'] at *; exact HR'.out) kk
              have hcl := fun ty => run_clear_q wr ty g (kk * 2) (l'.length - kk) (c - kk) (by omega) (fun j hj => (hfr j hj).1) (fun j hj => (hfr j hj).2)
              rw [hl'] at hcl
              have hkkI : (kk : Int) ≤ (l.length : Int) := by omega
              have hkkc : (kk : Int) ≤ (c : Int) := by omega
              have hkk0 : (0 : Int) ≤ (kk : Int) := by omega
              have hlc : (l.length : Int) ≤ (c : Int) := by omega
              have HF := hid (show kk < l.length by omega)
              clear hfr hl' hn2k
              have hne : ¬ c = kk := by have := HF.out; omega
              go_wp2_with fail
              go_ret
              refine ⟨kk, rfl, hb.out.trans (below_setCellsQ hg _ _ _), ?_⟩
              rw [HAD.out]
              exact decide_eq_true (by have := HF.out; omega)
        · have R := hid (run false (decide_eq_false he))
          have HE := hid he
          clear run he
          go_wp2_with fail
          refine wp_region_ext wr.heap.size (by kernel_rfl) (by kernel_rfl) ?_
          repeat (first
            | ((with_reducible refine wpQuiet_run (N := 25) rfl rfl (.bool false) ?_ ?_); (rintro _ ⟨x, rfl⟩; exact execOp_eql rfl rfl rfl (by kernel_rfl) (R.out x.out)); go_simp)
            | go_big_quiet_step (fail))
          refine wpQuiet_nil ?_
          intro x
          go_wp2_with fail
          refine ⟨⟨k + 1, by omega, by omega, by go_num, hb.out.trans (x.below.mono hb.out.size), fun j hj => ?_⟩, by simp [intOf]; omega⟩
          by_cases h : j + 1 < k
          · exact hno.out j h
          · obtain rfl : j = m := by have := HM.out; omega
            rw [show j + 1 = k from HM.out.symm, HPQ.out.1, HPQ.out.2]
            exact fun h => HE.out (Option.some.inj h).symm
      · obtain rfl : k = l.length := by omega
        have hd1 : decide ((l.length : Int) < (l.length : Int)) = false := decide_eq_false (by omega)
        have HR : Hid (decide ((l.length : Int) < (l.length : Int)) = adjEq l) := by
          show _ = _
          rw [hd1]
          cases h : adjEq l with
          | false => rfl
          | true =>
            obtain ⟨i, hi, e⟩ := (adjEq_iff l).1 h
            exact absurd e (hno.out i hi)
        go_wp2_with fail
        go_ret
        exact ⟨_, rfl, hb.out.mono hBw, HR.out⟩
end Go.Proofs.Ytfbgldkdlmipoaa

/- orderCode: the code of places none of which may come twice, the program's. -/
namespace Go.Proofs.Ytfbgldkdlmipoaa
open Go.RowKit
set_option linter.unusedSimpArgs false
set_option linter.unusedVariables false

set_option maxHeartbeats 4000000 in
set_option maxRecDepth 100000 in
theorem c_orderCode (r : Rf) (hr : r.Ok) (A : Option Addr) (c : Nat) (l : List (Int × Int)) (hB : PlB l) (hlen : l.length ≤ 1048576) (g : Bool) (w : World) (hA : PairsAt .i8 .i8 w A l) :
    Calls Try.prog 28 #[.agg (rcells r), .slice A l.length c, .bool g] w fun e w' => e = .returned (.int .i64 (onceK r l g)) ∧ Below w.heap.size w w' := by
  have HX := hid (block_new1 w (.cells (rcells r) 31) rfl)
  obtain ⟨W0, hW0⟩ : ∃ W0, W0 = w.alloc (.cells (rcells r) 31) := ⟨_, rfl⟩
  have B0 : Hid (Below w.heap.size w W0) := by rw [hW0]; exact (Below.refl _ w).alloc (Nat.le_refl _) _
  have HL0 : Hid (w.heap.size + 1 ≤ W0.heap.size) := by rw [hW0]; simp [Hid]
  rw [← hW0] at HX
  have RD := hid hA
  have HC := fun w' h => hid (c_allHas r hr A c l hB (by omega) w' h)
  have HJ := fun (g : Bool) (A1 : Option Addr) (w' : World) h => hid (c_jobCode r hr g A1 1 [(l.length : Int)] (by simp) w' h)
  obtain ⟨g1, hg1⟩ : ∃ g, g = l.all (hasP r) := ⟨_, rfl⟩
  have HK : Hid (∀ z, z = jobK (validB r) (g1 && g) (decide ((l.length : Int) ≤ 8)) → onceK r l g = if z = 0 then (if l.Nodup then 0 else 4) else z) := fun z hz => by
    unfold onceK askK; rw [← hg1, ← hz]
  rw [← hg1] at HC
  obtain ⟨K, hK⟩ : ∃ K, K = onceK r l g := ⟨_, rfl⟩
  rw [← hK] at HK ⊢
  have hJe : ∀ g : Bool, jobK (validB r) g ([(l.length : Int)].all fun n => decide (n ≤ 8)) = jobK (validB r) g (decide ((l.length : Int) ≤ 8)) := fun g => by simp
  have HJ := fun (g : Bool) (A1 : Option Addr) (w' : World) h => hid ((hJe g) ▸ (HJ g A1 w' h).out)
  obtain ⟨z, hz⟩ : ∃ z, z = jobK (validB r) (g1 && g) (decide ((l.length : Int) ≤ 8)) := ⟨_, rfl⟩
  have HKz := hid (HK.out z hz)
  have HJz := fun (A1 : Option Addr) (w' : World) h => hid (hz ▸ (HJ (g1 && g) A1 w' h).out)
  have hlI : (l.length : Int) ≤ 1048576 := by omega
  have l0 : w.heap.size < w.heap.size + 1 := by omega
  have HLN := hid hlen
  clear hA hg1 hB hJe hK HK HJ hz
  go_enter Try.func28, Try.ntmps28
  go_wp2_with fail
  rw [← hW0]
  clear hW0
  by_cases hz0 : z = 0
  · subst hz0
    by_cases hn : l.Nodup
    · have hnd : (!decide l.Nodup) = false := by rw [decide_eq_true hn]; rfl
      have HKK : Hid (K = 0) := by have := HKz.out; rw [if_pos rfl, if_pos hn] at this; exact this
      clear hn
      cases g1 with
      | true =>
        refine wp_region_wildOG (w.heap.size + 1) 10 ?s1 _ (One (w.heap.size + 1) W0 (l.length : Int)) (by kernel_rfl) (by kernel_rfl) (by kernel_rfl) rfl (by kernel_rfl) rfl HL0.out ?pre1 ?run1 ?post1
        case pre1 =>
          intro B' W' hb hB hS
          have HXb := hid (block_below hb HX.out l0)
          have hlb : w.heap.size < B' := by omega
          have HAb := hid (B0.out.trans (hb.mono (Nat.le_succ _)))
          have HS := hid hS
          have R0 : Hid (∀ x : Ext B' W', (Instr.loadAt 31 (.pointer (some ⟨w.heap.size, 0, none⟩))).run Try.prog x.out = .ok (.agg (rcells r)) x.out) := fun x =>
            run_load_roof 31 Try.underlying31 rfl Try.infoRoof hr (block_below x.below HXb.out hlb)
          simp only [List.take_succ_cons, List.take_zero]
          repeat (first
            | ((with_reducible refine wpQuiet_run (N := 9) rfl rfl (.agg (rcells r)) ?_ ?_); (rintro _ ⟨x, rfl⟩; exact execOp_load rfl rfl (R0.out x)); go_simp)
            | ((with_reducible refine wpQuiet_run (N := 11) rfl rfl (.agg (rcells r)) ?_ ?_); (rintro _ ⟨x, rfl⟩; exact execOp_load rfl rfl (R0.out x)); go_simp)
            | go_big_quiet_step ((go_at_call 58; exact Calls.ext HS.out (HC _ (RD.out.below (HAb.out.trans ((Ext.below _).mono (by omega))) (Nat.le_refl _))).out)))
          refine wpQuiet_nil ?_
          exact rfl
        case run1 =>
          intro x
          refine ⟨_, _, ?_, ⟨x, rfl, rfl⟩, ?_⟩
          · unfold execOp; go_simp
          · exact x.below.alloc (Nat.le_trans HL0.out x.below.size) _
        case post1 =>
          intro v w1 hR hb1
          obtain ⟨A1, rfl, hs1⟩ := hR.sli
          have HS1 := hid hs1
          have HB1 := hid (B0.out.trans (hb1.mono (Nat.le_succ _)))
          clear hR hs1 hb1
          simp only [List.drop_succ_cons, List.drop_zero, Act.put, List.setIfInBounds_toArray, List.set_cons_zero, List.set_cons_succ]
          repeat (go_big_quiet_step ((go_at_call 57; exact Calls.ext (Nat.le_refl _) (HJz _ _ (HS1.out.below (Ext.below _) (Nat.le_refl _))).out)))
          refine wpQuiet_nil ?_
          rintro _ ⟨y, rfl⟩
          have HBy := hid (HB1.out.trans (y.below.mono HB1.out.size))
          obtain ⟨W1, hW1⟩ : ∃ W1, W1 = y.out := ⟨_, rfl⟩
          rw [← hW1] at HBy ⊢
          clear hW1 y HS1 HB1
          have HSL := hid (Nat.le_trans (Nat.le_of_eq (sortP_lenQ l)) HLN.out)
          have HCQ : Hid (∀ (Bq : Nat) (w3 : World) (Av : Option Addr) (cv : Nat), RowQ Bq w3 (.slice Av (sortP l).length cv) (sortP l) → Calls Try.prog 60 #[.slice Av (sortP l).length cv] w3 fun e w' => ∃ m : Nat, e = .returned (.slice Av m cv) ∧ Below Bq w3 w' ∧ decide (m < l.length) = false) := fun Bq w3 Av cv h => (c_compactQ Bq Av cv (sortP l) HSL.out w3 h).mono fun e w' ⟨m, h1, h2, h3⟩ => ⟨m, h1, h2, by rw [sortP_adj, sortP_lenQ, hnd] at h3; simpa using h3⟩
          have RA := hid (RD.out.below (HBy.out.trans ((Below.refl w.heap.size W1).alloc HBy.out.size (.cells #[.slice A l.length c] 33))) (Nat.le_refl _))
          have HQ := hid (c_sortedQ W1.heap.size A c l HLN.out (W1.alloc (.cells #[.slice A l.length c] 33)) (cell_block (block_new1 W1 _ rfl) rfl) (by simp) RA.out)
          have HBv := hid (HBy.out.trans ((Below.refl w.heap.size W1).alloc HBy.out.size (.cells #[.slice A l.length c] 33)))
          go_wp2_with (first
            | (go_at_call 38; ((with_reducible refine (c_values A l.length c W1).mono ?_); rintro e w2 ⟨rfl, rfl⟩))
            | (go_at_call 37; ((with_reducible refine HQ.out.mono ?_); rintro e w3 ⟨v, rfl, hb3, hr3⟩); obtain ⟨Av, cv, rfl⟩ := owns_slc hr3; have HB3 := hid (HBv.out.trans (hb3.mono HBv.out.size)); have HR3 := hid hr3; clear hb3 hr3)
            | (go_at_call 60; ((with_reducible refine (HCQ.out _ _ _ _ HR3.out).mono ?_); rintro e w4 ⟨m, rfl, hb4, hm⟩); have HB4 := hid (HB3.out.trans (hb4.mono HBv.out.size)); clear hb4))
          go_ret
          exact ⟨by first | rfl | exact ret_int HKK.out.symm, HB4.out⟩
      | false =>
        refine wp_region_wildOG (w.heap.size + 1) 10 ?s2 _ (One (w.heap.size + 1) W0 (l.length : Int)) (by kernel_rfl) (by kernel_rfl) (by kernel_rfl) rfl (by kernel_rfl) rfl HL0.out ?pre2 ?run2 ?post2
        case pre2 =>
          intro B' W' hb hB hS
          have HXb := hid (block_below hb HX.out l0)
          have hlb : w.heap.size < B' := by omega
          have HAb := hid (B0.out.trans (hb.mono (Nat.le_succ _)))
          have HS := hid hS
          have R0 : Hid (∀ x : Ext B' W', (Instr.loadAt 31 (.pointer (some ⟨w.heap.size, 0, none⟩))).run Try.prog x.out = .ok (.agg (rcells r)) x.out) := fun x =>
            run_load_roof 31 Try.underlying31 rfl Try.infoRoof hr (block_below x.below HXb.out hlb)
          simp only [List.take_succ_cons, List.take_zero]
          repeat (first
            | ((with_reducible refine wpQuiet_run (N := 9) rfl rfl (.agg (rcells r)) ?_ ?_); (rintro _ ⟨x, rfl⟩; exact execOp_load rfl rfl (R0.out x)); go_simp)
            | ((with_reducible refine wpQuiet_run (N := 11) rfl rfl (.agg (rcells r)) ?_ ?_); (rintro _ ⟨x, rfl⟩; exact execOp_load rfl rfl (R0.out x)); go_simp)
            | go_big_quiet_step ((go_at_call 58; exact Calls.ext HS.out (HC _ (RD.out.below (HAb.out.trans ((Ext.below _).mono (by omega))) (Nat.le_refl _))).out)))
          refine wpQuiet_nil ?_
          exact rfl
        case run2 =>
          intro x
          refine ⟨_, _, ?_, ⟨x, rfl, rfl⟩, ?_⟩
          · unfold execOp; go_simp
          · exact x.below.alloc (Nat.le_trans HL0.out x.below.size) _
        case post2 =>
          intro v w1 hR hb1
          obtain ⟨A1, rfl, hs1⟩ := hR.sli
          have HS1 := hid hs1
          have HB1 := hid (B0.out.trans (hb1.mono (Nat.le_succ _)))
          clear hR hs1 hb1
          simp only [List.drop_succ_cons, List.drop_zero, Act.put, List.setIfInBounds_toArray, List.set_cons_zero, List.set_cons_succ]
          repeat (go_big_quiet_step ((go_at_call 57; exact Calls.ext (Nat.le_refl _) (HJz _ _ (HS1.out.below (Ext.below _) (Nat.le_refl _))).out)))
          refine wpQuiet_nil ?_
          rintro _ ⟨y, rfl⟩
          have HBy := hid (HB1.out.trans (y.below.mono HB1.out.size))
          obtain ⟨W1, hW1⟩ : ∃ W1, W1 = y.out := ⟨_, rfl⟩
          rw [← hW1] at HBy ⊢
          clear hW1 y HS1 HB1
          have HSL := hid (Nat.le_trans (Nat.le_of_eq (sortP_lenQ l)) HLN.out)
          have HCQ : Hid (∀ (Bq : Nat) (w3 : World) (Av : Option Addr) (cv : Nat), RowQ Bq w3 (.slice Av (sortP l).length cv) (sortP l) → Calls Try.prog 60 #[.slice Av (sortP l).length cv] w3 fun e w' => ∃ m : Nat, e = .returned (.slice Av m cv) ∧ Below Bq w3 w' ∧ decide (m < l.length) = false) := fun Bq w3 Av cv h => (c_compactQ Bq Av cv (sortP l) HSL.out w3 h).mono fun e w' ⟨m, h1, h2, h3⟩ => ⟨m, h1, h2, by rw [sortP_adj, sortP_lenQ, hnd] at h3; simpa using h3⟩
          have RA := hid (RD.out.below (HBy.out.trans ((Below.refl w.heap.size W1).alloc HBy.out.size (.cells #[.slice A l.length c] 33))) (Nat.le_refl _))
          have HQ := hid (c_sortedQ W1.heap.size A c l HLN.out (W1.alloc (.cells #[.slice A l.length c] 33)) (cell_block (block_new1 W1 _ rfl) rfl) (by simp) RA.out)
          have HBv := hid (HBy.out.trans ((Below.refl w.heap.size W1).alloc HBy.out.size (.cells #[.slice A l.length c] 33)))
          go_wp2_with (first
            | (go_at_call 38; ((with_reducible refine (c_values A l.length c W1).mono ?_); rintro e w2 ⟨rfl, rfl⟩))
            | (go_at_call 37; ((with_reducible refine HQ.out.mono ?_); rintro e w3 ⟨v, rfl, hb3, hr3⟩); obtain ⟨Av, cv, rfl⟩ := owns_slc hr3; have HB3 := hid (HBv.out.trans (hb3.mono HBv.out.size)); have HR3 := hid hr3; clear hb3 hr3)
            | (go_at_call 60; ((with_reducible refine (HCQ.out _ _ _ _ HR3.out).mono ?_); rintro e w4 ⟨m, rfl, hb4, hm⟩); have HB4 := hid (HB3.out.trans (hb4.mono HBv.out.size)); clear hb4))
          go_ret
          exact ⟨by first | rfl | exact ret_int HKK.out.symm, HB4.out⟩
    · have hnd : (!decide l.Nodup) = true := by rw [decide_eq_false hn]; rfl
      have HKK : Hid (K = 4) := by have := HKz.out; rw [if_pos rfl, if_neg hn] at this; exact this
      clear hn
      cases g1 with
      | true =>
        refine wp_region_wildOG (w.heap.size + 1) 10 ?s3 _ (One (w.heap.size + 1) W0 (l.length : Int)) (by kernel_rfl) (by kernel_rfl) (by kernel_rfl) rfl (by kernel_rfl) rfl HL0.out ?pre3 ?run3 ?post3
        case pre3 =>
          intro B' W' hb hB hS
          have HXb := hid (block_below hb HX.out l0)
          have hlb : w.heap.size < B' := by omega
          have HAb := hid (B0.out.trans (hb.mono (Nat.le_succ _)))
          have HS := hid hS
          have R0 : Hid (∀ x : Ext B' W', (Instr.loadAt 31 (.pointer (some ⟨w.heap.size, 0, none⟩))).run Try.prog x.out = .ok (.agg (rcells r)) x.out) := fun x =>
            run_load_roof 31 Try.underlying31 rfl Try.infoRoof hr (block_below x.below HXb.out hlb)
          simp only [List.take_succ_cons, List.take_zero]
          repeat (first
            | ((with_reducible refine wpQuiet_run (N := 9) rfl rfl (.agg (rcells r)) ?_ ?_); (rintro _ ⟨x, rfl⟩; exact execOp_load rfl rfl (R0.out x)); go_simp)
            | ((with_reducible refine wpQuiet_run (N := 11) rfl rfl (.agg (rcells r)) ?_ ?_); (rintro _ ⟨x, rfl⟩; exact execOp_load rfl rfl (R0.out x)); go_simp)
            | go_big_quiet_step ((go_at_call 58; exact Calls.ext HS.out (HC _ (RD.out.below (HAb.out.trans ((Ext.below _).mono (by omega))) (Nat.le_refl _))).out)))
          refine wpQuiet_nil ?_
          exact rfl
        case run3 =>
          intro x
          refine ⟨_, _, ?_, ⟨x, rfl, rfl⟩, ?_⟩
          · unfold execOp; go_simp
          · exact x.below.alloc (Nat.le_trans HL0.out x.below.size) _
        case post3 =>
          intro v w1 hR hb1
          obtain ⟨A1, rfl, hs1⟩ := hR.sli
          have HS1 := hid hs1
          have HB1 := hid (B0.out.trans (hb1.mono (Nat.le_succ _)))
          clear hR hs1 hb1
          simp only [List.drop_succ_cons, List.drop_zero, Act.put, List.setIfInBounds_toArray, List.set_cons_zero, List.set_cons_succ]
          repeat (go_big_quiet_step ((go_at_call 57; exact Calls.ext (Nat.le_refl _) (HJz _ _ (HS1.out.below (Ext.below _) (Nat.le_refl _))).out)))
          refine wpQuiet_nil ?_
          rintro _ ⟨y, rfl⟩
          have HBy := hid (HB1.out.trans (y.below.mono HB1.out.size))
          obtain ⟨W1, hW1⟩ : ∃ W1, W1 = y.out := ⟨_, rfl⟩
          rw [← hW1] at HBy ⊢
          clear hW1 y HS1 HB1
          have HSL := hid (Nat.le_trans (Nat.le_of_eq (sortP_lenQ l)) HLN.out)
          have HCQ : Hid (∀ (Bq : Nat) (w3 : World) (Av : Option Addr) (cv : Nat), RowQ Bq w3 (.slice Av (sortP l).length cv) (sortP l) → Calls Try.prog 60 #[.slice Av (sortP l).length cv] w3 fun e w' => ∃ m : Nat, e = .returned (.slice Av m cv) ∧ Below Bq w3 w' ∧ decide (m < l.length) = true) := fun Bq w3 Av cv h => (c_compactQ Bq Av cv (sortP l) HSL.out w3 h).mono fun e w' ⟨m, h1, h2, h3⟩ => ⟨m, h1, h2, by rw [sortP_adj, sortP_lenQ, hnd] at h3; simpa using h3⟩
          have RA := hid (RD.out.below (HBy.out.trans ((Below.refl w.heap.size W1).alloc HBy.out.size (.cells #[.slice A l.length c] 33))) (Nat.le_refl _))
          have HQ := hid (c_sortedQ W1.heap.size A c l HLN.out (W1.alloc (.cells #[.slice A l.length c] 33)) (cell_block (block_new1 W1 _ rfl) rfl) (by simp) RA.out)
          have HBv := hid (HBy.out.trans ((Below.refl w.heap.size W1).alloc HBy.out.size (.cells #[.slice A l.length c] 33)))
          go_wp2_with (first
            | (go_at_call 38; ((with_reducible refine (c_values A l.length c W1).mono ?_); rintro e w2 ⟨rfl, rfl⟩))
            | (go_at_call 37; ((with_reducible refine HQ.out.mono ?_); rintro e w3 ⟨v, rfl, hb3, hr3⟩); obtain ⟨Av, cv, rfl⟩ := owns_slc hr3; have HB3 := hid (HBv.out.trans (hb3.mono HBv.out.size)); have HR3 := hid hr3; clear hb3 hr3)
            | (go_at_call 60; ((with_reducible refine (HCQ.out _ _ _ _ HR3.out).mono ?_); rintro e w4 ⟨m, rfl, hb4, hm⟩); have HB4 := hid (HB3.out.trans (hb4.mono HBv.out.size)); clear hb4))
          go_ret
          exact ⟨by first | rfl | exact ret_int HKK.out.symm, HB4.out⟩
      | false =>
        refine wp_region_wildOG (w.heap.size + 1) 10 ?s4 _ (One (w.heap.size + 1) W0 (l.length : Int)) (by kernel_rfl) (by kernel_rfl) (by kernel_rfl) rfl (by kernel_rfl) rfl HL0.out ?pre4 ?run4 ?post4
        case pre4 =>
          intro B' W' hb hB hS
          have HXb := hid (block_below hb HX.out l0)
          have hlb : w.heap.size < B' := by omega
          have HAb := hid (B0.out.trans (hb.mono (Nat.le_succ _)))
          have HS := hid hS
          have R0 : Hid (∀ x : Ext B' W', (Instr.loadAt 31 (.pointer (some ⟨w.heap.size, 0, none⟩))).run Try.prog x.out = .ok (.agg (rcells r)) x.out) := fun x =>
            run_load_roof 31 Try.underlying31 rfl Try.infoRoof hr (block_below x.below HXb.out hlb)
          simp only [List.take_succ_cons, List.take_zero]
          repeat (first
            | ((with_reducible refine wpQuiet_run (N := 9) rfl rfl (.agg (rcells r)) ?_ ?_); (rintro _ ⟨x, rfl⟩; exact execOp_load rfl rfl (R0.out x)); go_simp)
            | ((with_reducible refine wpQuiet_run (N := 11) rfl rfl (.agg (rcells r)) ?_ ?_); (rintro _ ⟨x, rfl⟩; exact execOp_load rfl rfl (R0.out x)); go_simp)
            | go_big_quiet_step ((go_at_call 58; exact Calls.ext HS.out (HC _ (RD.out.below (HAb.out.trans ((Ext.below _).mono (by omega))) (Nat.le_refl _))).out)))
          refine wpQuiet_nil ?_
          exact rfl
        case run4 =>
          intro x
          refine ⟨_, _, ?_, ⟨x, rfl, rfl⟩, ?_⟩
          · unfold execOp; go_simp
          · exact x.below.alloc (Nat.le_trans HL0.out x.below.size) _
        case post4 =>
          intro v w1 hR hb1
          obtain ⟨A1, rfl, hs1⟩ := hR.sli
          have HS1 := hid hs1
          have HB1 := hid (B0.out.trans (hb1.mono (Nat.le_succ _)))
          clear hR hs1 hb1
          simp only [List.drop_succ_cons, List.drop_zero, Act.put, List.setIfInBounds_toArray, List.set_cons_zero, List.set_cons_succ]
          repeat (go_big_quiet_step ((go_at_call 57; exact Calls.ext (Nat.le_refl _) (HJz _ _ (HS1.out.below (Ext.below _) (Nat.le_refl _))).out)))
          refine wpQuiet_nil ?_
          rintro _ ⟨y, rfl⟩
          have HBy := hid (HB1.out.trans (y.below.mono HB1.out.size))
          obtain ⟨W1, hW1⟩ : ∃ W1, W1 = y.out := ⟨_, rfl⟩
          rw [← hW1] at HBy ⊢
          clear hW1 y HS1 HB1
          have HSL := hid (Nat.le_trans (Nat.le_of_eq (sortP_lenQ l)) HLN.out)
          have HCQ : Hid (∀ (Bq : Nat) (w3 : World) (Av : Option Addr) (cv : Nat), RowQ Bq w3 (.slice Av (sortP l).length cv) (sortP l) → Calls Try.prog 60 #[.slice Av (sortP l).length cv] w3 fun e w' => ∃ m : Nat, e = .returned (.slice Av m cv) ∧ Below Bq w3 w' ∧ decide (m < l.length) = true) := fun Bq w3 Av cv h => (c_compactQ Bq Av cv (sortP l) HSL.out w3 h).mono fun e w' ⟨m, h1, h2, h3⟩ => ⟨m, h1, h2, by rw [sortP_adj, sortP_lenQ, hnd] at h3; simpa using h3⟩
          have RA := hid (RD.out.below (HBy.out.trans ((Below.refl w.heap.size W1).alloc HBy.out.size (.cells #[.slice A l.length c] 33))) (Nat.le_refl _))
          have HQ := hid (c_sortedQ W1.heap.size A c l HLN.out (W1.alloc (.cells #[.slice A l.length c] 33)) (cell_block (block_new1 W1 _ rfl) rfl) (by simp) RA.out)
          have HBv := hid (HBy.out.trans ((Below.refl w.heap.size W1).alloc HBy.out.size (.cells #[.slice A l.length c] 33)))
          go_wp2_with (first
            | (go_at_call 38; ((with_reducible refine (c_values A l.length c W1).mono ?_); rintro e w2 ⟨rfl, rfl⟩))
            | (go_at_call 37; ((with_reducible refine HQ.out.mono ?_); rintro e w3 ⟨v, rfl, hb3, hr3⟩); obtain ⟨Av, cv, rfl⟩ := owns_slc hr3; have HB3 := hid (HBv.out.trans (hb3.mono HBv.out.size)); have HR3 := hid hr3; clear hb3 hr3)
            | (go_at_call 60; ((with_reducible refine (HCQ.out _ _ _ _ HR3.out).mono ?_); rintro e w4 ⟨m, rfl, hb4, hm⟩); have HB4 := hid (HB3.out.trans (hb4.mono HBv.out.size)); clear hb4))
          go_ret
          exact ⟨by first | rfl | exact ret_int HKK.out.symm, HB4.out⟩
  · have hzb : (z == 0) = false := by rw [beq_eq_false_iff_ne]; exact hz0
    have HKK : Hid (K = z) := by have := HKz.out; rw [if_neg hz0] at this; exact this
    clear hz0
    cases g1 with
    | true =>
      refine wp_region_wildOG (w.heap.size + 1) 10 ?s5 _ (One (w.heap.size + 1) W0 (l.length : Int)) (by kernel_rfl) (by kernel_rfl) (by kernel_rfl) rfl (by kernel_rfl) rfl HL0.out ?pre5 ?run5 ?post5
      case pre5 =>
        intro B' W' hb hB hS
        have HXb := hid (block_below hb HX.out l0)
        have hlb : w.heap.size < B' := by omega
        have HAb := hid (B0.out.trans (hb.mono (Nat.le_succ _)))
        have HS := hid hS
        have R0 : Hid (∀ x : Ext B' W', (Instr.loadAt 31 (.pointer (some ⟨w.heap.size, 0, none⟩))).run Try.prog x.out = .ok (.agg (rcells r)) x.out) := fun x =>
          run_load_roof 31 Try.underlying31 rfl Try.infoRoof hr (block_below x.below HXb.out hlb)
        simp only [List.take_succ_cons, List.take_zero]
        repeat (first
          | ((with_reducible refine wpQuiet_run (N := 9) rfl rfl (.agg (rcells r)) ?_ ?_); (rintro _ ⟨x, rfl⟩; exact execOp_load rfl rfl (R0.out x)); go_simp)
          | ((with_reducible refine wpQuiet_run (N := 11) rfl rfl (.agg (rcells r)) ?_ ?_); (rintro _ ⟨x, rfl⟩; exact execOp_load rfl rfl (R0.out x)); go_simp)
          | go_big_quiet_step ((go_at_call 58; exact Calls.ext HS.out (HC _ (RD.out.below (HAb.out.trans ((Ext.below _).mono (by omega))) (Nat.le_refl _))).out)))
        refine wpQuiet_nil ?_
        exact rfl
      case run5 =>
        intro x
        refine ⟨_, _, ?_, ⟨x, rfl, rfl⟩, ?_⟩
        · unfold execOp; go_simp
        · exact x.below.alloc (Nat.le_trans HL0.out x.below.size) _
      case post5 =>
        intro v w1 hR hb1
        obtain ⟨A1, rfl, hs1⟩ := hR.sli
        have HS1 := hid hs1
        have HB1 := hid (B0.out.trans (hb1.mono (Nat.le_succ _)))
        clear hR hs1 hb1
        simp only [List.drop_succ_cons, List.drop_zero, Act.put, List.setIfInBounds_toArray, List.set_cons_zero, List.set_cons_succ]
        repeat (go_big_quiet_step ((go_at_call 57; exact Calls.ext (Nat.le_refl _) (HJz _ _ (HS1.out.below (Ext.below _) (Nat.le_refl _))).out)))
        refine wpQuiet_nil ?_
        rintro _ ⟨y, rfl⟩
        have HBy := hid (HB1.out.trans (y.below.mono HB1.out.size))
        obtain ⟨W1, hW1⟩ : ∃ W1, W1 = y.out := ⟨_, rfl⟩
        rw [← hW1] at HBy ⊢
        clear hW1 y HS1 HB1
        go_wp2_with fail
        go_ret
        exact ⟨by first | rfl | exact ret_int HKK.out.symm, HBy.out⟩
    | false =>
      refine wp_region_wildOG (w.heap.size + 1) 10 ?s6 _ (One (w.heap.size + 1) W0 (l.length : Int)) (by kernel_rfl) (by kernel_rfl) (by kernel_rfl) rfl (by kernel_rfl) rfl HL0.out ?pre6 ?run6 ?post6
      case pre6 =>
        intro B' W' hb hB hS
        have HXb := hid (block_below hb HX.out l0)
        have hlb : w.heap.size < B' := by omega
        have HAb := hid (B0.out.trans (hb.mono (Nat.le_succ _)))
        have HS := hid hS
        have R0 : Hid (∀ x : Ext B' W', (Instr.loadAt 31 (.pointer (some ⟨w.heap.size, 0, none⟩))).run Try.prog x.out = .ok (.agg (rcells r)) x.out) := fun x =>
          run_load_roof 31 Try.underlying31 rfl Try.infoRoof hr (block_below x.below HXb.out hlb)
        simp only [List.take_succ_cons, List.take_zero]
        repeat (first
          | ((with_reducible refine wpQuiet_run (N := 9) rfl rfl (.agg (rcells r)) ?_ ?_); (rintro _ ⟨x, rfl⟩; exact execOp_load rfl rfl (R0.out x)); go_simp)
          | ((with_reducible refine wpQuiet_run (N := 11) rfl rfl (.agg (rcells r)) ?_ ?_); (rintro _ ⟨x, rfl⟩; exact execOp_load rfl rfl (R0.out x)); go_simp)
          | go_big_quiet_step ((go_at_call 58; exact Calls.ext HS.out (HC _ (RD.out.below (HAb.out.trans ((Ext.below _).mono (by omega))) (Nat.le_refl _))).out)))
        refine wpQuiet_nil ?_
        exact rfl
      case run6 =>
        intro x
        refine ⟨_, _, ?_, ⟨x, rfl, rfl⟩, ?_⟩
        · unfold execOp; go_simp
        · exact x.below.alloc (Nat.le_trans HL0.out x.below.size) _
      case post6 =>
        intro v w1 hR hb1
        obtain ⟨A1, rfl, hs1⟩ := hR.sli
        have HS1 := hid hs1
        have HB1 := hid (B0.out.trans (hb1.mono (Nat.le_succ _)))
        clear hR hs1 hb1
        simp only [List.drop_succ_cons, List.drop_zero, Act.put, List.setIfInBounds_toArray, List.set_cons_zero, List.set_cons_succ]
        repeat (go_big_quiet_step ((go_at_call 57; exact Calls.ext (Nat.le_refl _) (HJz _ _ (HS1.out.below (Ext.below _) (Nat.le_refl _))).out)))
        refine wpQuiet_nil ?_
        rintro _ ⟨y, rfl⟩
        have HBy := hid (HB1.out.trans (y.below.mono HB1.out.size))
        obtain ⟨W1, hW1⟩ : ∃ W1, W1 = y.out := ⟨_, rfl⟩
        rw [← hW1] at HBy ⊢
        clear hW1 y HS1 HB1
        go_wp2_with fail
        go_ret
        exact ⟨by first | rfl | exact ret_int HKK.out.symm, HBy.out⟩
end Go.Proofs.Ytfbgldkdlmipoaa

/- LiftedFor, the program's and the reference's. -/
namespace Go.Proofs.Ytfbgldkdlmipoaa
open Go.RowKit
set_option linter.unusedSimpArgs false
set_option linter.unusedVariables false

def liftV (r : Rf) (l : List (Int × Int)) : Int := if onceK r l true = 0 then liftN r l l.length else 0
theorem onceK_zero {r : Rf} {l : List (Int × Int)} {g : Bool} (h : onceK r l g = 0) : validB r = true ∧ l.all (hasP r) = true ∧ g = true ∧ l.length ≤ 8 ∧ l.Nodup ∧ askK r l g = 0 := by
  unfold onceK at h
  split at h
  · rename_i h0
    split at h
    · rename_i hn
      obtain ⟨h1, h2, h3⟩ := jobK_zero h0
      rw [Bool.and_eq_true] at h2
      exact ⟨h1, h2.1, h2.2, by have := of_decide_eq_true h3; omega, hn, h0⟩
    · simp at h
  · rename_i h0; exact absurd h h0
theorem onceK_cases (r : Rf) (l : List (Int × Int)) (g : Bool) : onceK r l g = 0 ∨ onceK r l g = 1 ∨ onceK r l g = 2 ∨ onceK r l g = 3 ∨ onceK r l g = 4 := by
  unfold onceK
  split
  · split <;> simp
  · have := jobK_cases (validB r) (l.all (hasP r) && g) (decide ((l.length : Int) ≤ 8))
    unfold askK; omega
theorem all_pl {r : Rf} {l : List (Int × Int)} (hv : validB r = true) (h : l.all (hasP r) = true) : ∀ p ∈ l, (0 ≤ p.1 ∧ p.1 ≤ 7) ∧ (0 ≤ p.2 ∧ p.2 ≤ 7) := fun p hp => by
  have h1 := hasP_pl hv (List.all_eq_true.1 h p hp)
  have vh := valid_head hv
  omega
set_option maxHeartbeats 1600000 in
set_option maxRecDepth 100000 in
theorem c_LiftedFor (r : Rf) (hr : r.Ok) (A : Option Addr) (c : Nat) (l : List (Int × Int)) (hB : PlB l) (hlen : l.length ≤ 1048576) (hlc : l.length ≤ c) (w : World) (hA : PairsAt .i8 .i8 w A l) :
    Calls Try.prog 15 #[.agg (rcells r), .slice A l.length c] w fun e w' => e = .returned (.tuple #[.int .i64 (liftV r l), .int .i64 (onceK r l true)]) ∧ Below w.heap.size w w' := by
  have HX := hid (block_new1 w (.cells (rcells r) 31) rfl)
  have HW : Hid (Below w.heap.size w (w.alloc (.cells (rcells r) 31))) := (Below.refl _ w).alloc (Nat.le_refl _) _
  have RD := hid hA
  have HC := fun W h => hid (c_orderCode r hr A c l hB hlen true W h)
  unfold liftV
  by_cases h0 : onceK r l true = 0
  · rw [if_pos h0, h0]
    rw [h0] at HC
    obtain ⟨hv, hall, _, h8, _, _⟩ := onceK_zero h0
    have HF := fun W h => hid (c_liftedFor r hr hv A c l h8 hlc (all_pl hv hall) W h)
    clear h0 hv hall hA h8 hB
    go_enter Try.func15, Try.ntmps15
    go_wp2_with (first
      | ((with_reducible refine gate (N := 7) rfl ?_); refine wp_roof 31 Try.underlying31 rfl Try.infoRoof rfl (.tmp 2) rfl w.heap.size rfl r hr HX.out ?_)
      | ((with_reducible refine gate (N := 13) rfl ?_); refine wp_roof 31 Try.underlying31 rfl Try.infoRoof rfl (.tmp 2) rfl w.heap.size rfl r hr (block_below B1.out HX.out (by simp)) ?_)
      | (go_at_call 28; ((with_reducible refine (HC _ (RD.out.below HW.out (Nat.le_refl _))).out.mono ?_); rintro e w1 ⟨rfl, hb1⟩); have B1 := hid hb1; have B2 := hid (HW.out.trans (hb1.mono HW.out.size)); clear hb1)
      | (go_at_call 34; ((with_reducible refine (HF _ (RD.out.below B2.out (Nat.le_refl _))).out.mono ?_); rintro e w2 ⟨rfl, hb2⟩); have B3 := hid (B2.out.trans (hb2.mono B2.out.size)); clear hb2))
    go_ret2
    exact ⟨rfl, B3.out⟩
  · rw [if_neg h0]
    have hk := onceK_cases r l true
    obtain ⟨k, hkk⟩ : ∃ k, k = onceK r l true := ⟨_, rfl⟩
    rw [← hkk] at HC hk h0 ⊢
    clear hkk hA hB
    rcases hk with rfl | rfl | rfl | rfl | rfl
    case inl => exact absurd rfl h0
    all_goals
      clear h0
      go_enter Try.func15, Try.ntmps15
      go_wp2_with (first
        | ((with_reducible refine gate (N := 7) rfl ?_); refine wp_roof 31 Try.underlying31 rfl Try.infoRoof rfl (.tmp 2) rfl w.heap.size rfl r hr HX.out ?_)
        | (go_at_call 28; ((with_reducible refine (HC _ (RD.out.below HW.out (Nat.le_refl _))).out.mono ?_); rintro e w1 ⟨rfl, hb1⟩); have B2 := hid (HW.out.trans (hb1.mono HW.out.size)); clear hb1))
      go_ret2
      exact ⟨rfl, B2.out⟩
set_option maxHeartbeats 1600000 in
set_option maxRecDepth 100000 in
theorem c_sLiftedFor (r : Rf) (hr : r.Ok) (A : Option Addr) (c : Nat) (l : List (Int × Int)) (hB : PlB l) (hlen : l.length ≤ 1048576) (hlc : l.length ≤ c) (w : World) (hA : PairsAt .i8 .i8 w A l) :
    Calls Try.prog 14 #[.agg (rcells r), .slice A l.length c] w fun e w' => e = .returned (.tuple #[.int .i64 (liftV r l), .int .i64 (onceK r l true)]) ∧ Below w.heap.size w w' := by
  have HX := hid (block_new1 w (.cells (rcells r) 31) rfl)
  have HW : Hid (Below w.heap.size w (w.alloc (.cells (rcells r) 31))) := (Below.refl _ w).alloc (Nat.le_refl _) _
  have RD := hid hA
  have HC := fun W h1 h2 => hid (c_l04Once r hr w.heap.size A c l hB hlen hlc true W h1 h2)
  unfold liftV
  by_cases h0 : onceK r l true = 0
  · rw [if_pos h0, h0]
    rw [h0] at HC
    obtain ⟨hv, hall, _, h8, _, _⟩ := onceK_zero h0
    have HF := fun W h1 h2 => hid (c_l04Lifted r hr hv w.heap.size A c l h8 hlc (all_pl hv hall) W h1 h2)
    clear h0 hv hall hA h8 hB
    go_enter Try.func14, Try.ntmps14
    go_wp2_with (first
      | (go_at_call 24; ((with_reducible refine (HC _ HX.out (RD.out.below HW.out (Nat.le_refl _))).out.mono ?_); rintro e w1 ⟨rfl, hb1⟩); have HX1 := hid (block_below hb1 HX.out (by simp)); have B2 := hid (HW.out.trans (hb1.mono HW.out.size)); clear hb1)
      | (go_at_call 33; ((with_reducible refine (HF _ HX1.out (RD.out.below B2.out (Nat.le_refl _))).out.mono ?_); rintro e w2 ⟨rfl, hb2⟩); have B3 := hid (B2.out.trans (hb2.mono B2.out.size)); clear hb2))
    go_ret2
    exact ⟨rfl, B3.out⟩
  · rw [if_neg h0]
    have hk := onceK_cases r l true
    obtain ⟨k, hkk⟩ : ∃ k, k = onceK r l true := ⟨_, rfl⟩
    rw [← hkk] at HC hk h0 ⊢
    clear hkk hA hB
    rcases hk with rfl | rfl | rfl | rfl | rfl
    case inl => exact absurd rfl h0
    all_goals
      clear h0
      go_enter Try.func14, Try.ntmps14
      go_wp2_with (go_at_call 24; ((with_reducible refine (HC _ HX.out (RD.out.below HW.out (Nat.le_refl _))).out.mono ?_); rintro e w1 ⟨rfl, hb1⟩); have B2 := hid (HW.out.trans (hb1.mono HW.out.size)); clear hb1)
      go_ret2
      exact ⟨rfl, B2.out⟩
end Go.Proofs.Ytfbgldkdlmipoaa

/- A tile laps over another: the program's way and the reference's, plain. -/
namespace Go.Proofs.Ytfbgldkdlmipoaa
set_option linter.unusedSimpArgs false
set_option linter.unusedVariables false

/-- A tile laps over another one. -/
def overB (r : Rf) (a b : Int × Int) : Bool := decide (a.1 + 1 = b.1) && inB (firstOf r a.1 a.2 - firstOf r b.1 b.2) (-1) 1
theorem lapK_iff (r : Rf) (c t d : Int) : ∀ (n : Nat) (p : Int × Int), p ∈ lapK r c t d n ↔ p.1 = d ∧ p.2 ≠ -1 ∧ ∃ j : Nat, j < n ∧ p.2 = tileOf r d (firstOf r c t + j)
  | 0, p => by simp [lapK]
  | n + 1, p => by
    have ih := lapK_iff r c t d n
    simp only [lapK, lapStep]
    constructor
    · intro h
      split at h
      · rename_i hc
        rcases List.mem_append.1 h with h | h
        · obtain ⟨h1, h2, j, hj, h3⟩ := (ih p).1 h
          exact ⟨h1, h2, j, by omega, h3⟩
        · rw [List.mem_singleton] at h
          subst h
          exact ⟨rfl, hc.1, n, by omega, rfl⟩
      · obtain ⟨h1, h2, j, hj, h3⟩ := (ih p).1 h
        exact ⟨h1, h2, j, by omega, h3⟩
    · rintro ⟨h1, h2, j, hj, h3⟩
      by_cases hjn : j < n
      · have hm := (ih p).2 ⟨h1, h2, j, hjn, h3⟩
        split
        · exact List.mem_append.2 (.inl hm)
        · exact hm
      · obtain rfl : j = n := by omega
        have hp : p = (d, tileOf r d (firstOf r c t + j)) := Prod.ext h1 h3
        split
        · exact List.mem_append.2 (.inr (by rw [hp]; exact List.mem_singleton.2 rfl))
        · rename_i hc
          rw [hp]
          by_cases hin : (d, tileOf r d (firstOf r c t + j)) ∈ lapK r c t d j
          · exact hin
          · exact absurd ⟨by rw [← h3]; exact h2, hin⟩ hc
theorem over_lap {r : Rf} (hv : validB r = true) {a b : Int × Int} (ha : hasP r a = true) (hb : hasP r b = true) : decide (b ∈ lapL r a.1 a.2 (a.1 + 1)) = overB r a b := by
  have h1 := hasP_pl hv ha
  have h2 := hasP_pl hv hb
  have vh := valid_head hv
  have hs := shiftOf_01 r (a.1 + 1)
  rw [Bool.eq_iff_iff, decide_eq_true_iff]
  unfold overB lapL
  have hio : inB (firstOf r a.1 a.2 - firstOf r b.1 b.2) (-1) 1 = true ↔ _ := inB_iff
  rw [Bool.and_eq_true, decide_eq_true_iff, hio]
  by_cases hin : inB (a.1 + 1) 0 (r.h - 1) = true
  · rw [if_pos hin, lapK_iff]
    rw [inB_iff] at hin
    unfold firstOf
    constructor
    · rintro ⟨e1, e2, j, hj, e3⟩
      refine ⟨e1.symm, ?_⟩
      rw [e1]
      unfold tileOf at e3
      obtain ⟨s, hs'⟩ : ∃ s, s = shiftOf r (a.1 + 1) := ⟨_, rfl⟩
      rw [← hs'] at e3 hs ⊢
      split at e3 <;> omega
    · rintro ⟨e1, e2⟩
      rw [← e1] at e2 ⊢
      refine ⟨rfl, by omega, ?_⟩
      unfold tileOf
      obtain ⟨s, hs'⟩ : ∃ s, s = shiftOf r (a.1 + 1) := ⟨_, rfl⟩
      rw [← hs'] at e2 hs ⊢
      by_cases h0 : 2 * a.2 + shiftOf r a.1 - (2 * b.2 + s) = -1
      · refine ⟨1, by omega, ?_⟩
        rw [if_pos (by omega)]; omega
      · refine ⟨0, by omega, ?_⟩
        rw [if_pos (by omega)]; omega
  · rw [if_neg hin]
    constructor
    · intro h; simp at h
    · rintro ⟨e1, e2⟩
      exfalso
      apply hin
      rw [inB_iff]; omega
/-- No place laps over a later one. -/
def upB (r : Rf) (l : List (Int × Int)) : Bool := decide (l.Pairwise fun a b => overB r a b = false)
theorem upB_yes {r : Rf} {l : List (Int × Int)} (h : ∀ i (hi : i < l.length), ∀ j (hj : j < l.length), i < j → overB r l[i] l[j] = false) : upB r l = true :=
  decide_eq_true (List.pairwise_iff_getElem.2 fun i j hi hj hij => h i hi j hj hij)
theorem upB_no {r : Rf} {l : List (Int × Int)} {i j : Nat} (hi : i < l.length) (hj : j < l.length) (hij : i < j) (h : overB r l[i] l[j] = true) : upB r l = false :=
  decide_eq_false fun hp => by have := List.pairwise_iff_getElem.1 hp i j hi hj hij; rw [h] at this; cases this
end Go.Proofs.Ytfbgldkdlmipoaa

/- The first upward order: plain. -/
namespace Go.Proofs.Ytfbgldkdlmipoaa
set_option linter.unusedSimpArgs false
set_option linter.unusedVariables false

/-- p laps over none of L. -/
def freeIn (r : Rf) (L : List (Int × Int)) (p : Int × Int) : Bool := !L.any (overB r p)
/-- Those of S that are not in out. -/
def leftOf (S out : List (Int × Int)) : List (Int × Int) := S.filter fun p => !decide (p ∈ out)
theorem top_ex : ∀ (L : List (Int × Int)), L ≠ [] → ∃ p ∈ L, ∀ q ∈ L, q.1 ≤ p.1
  | [], h => absurd rfl h
  | [p], _ => ⟨p, by simp, fun q hq => by simp at hq; rw [hq]; exact Int.le_refl _⟩
  | p :: p' :: L, _ => by
    obtain ⟨t, ht, hm⟩ := top_ex (p' :: L) (by simp)
    by_cases h : t.1 ≤ p.1
    · exact ⟨p, by simp, fun q hq => by
        rcases List.mem_cons.1 hq with rfl | hq
        · exact Int.le_refl _
        · exact Int.le_trans (hm q hq) h⟩
    · exact ⟨t, List.mem_cons_of_mem _ ht, fun q hq => by
        rcases List.mem_cons.1 hq with rfl | hq
        · omega
        · exact hm q hq⟩
theorem free_ex (r : Rf) {L : List (Int × Int)} (h : L ≠ []) : L.any (freeIn r L) = true := by
  obtain ⟨p, hp, hm⟩ := top_ex L h
  refine List.any_eq_true.2 ⟨p, hp, ?_⟩
  unfold freeIn
  rw [Bool.not_eq_true']
  refine List.any_eq_false.2 fun q hq ho => ?_
  unfold overB at ho
  rw [Bool.and_eq_true, decide_eq_true_iff] at ho
  have := hm q hq
  omega
/-- The order: always the first one that laps over none that is left. -/
def firL (r : Rf) : Nat → List (Int × Int) → List (Int × Int)
  | 0, _ => []
  | n + 1, L => match L[L.findIdx (freeIn r L)]? with
    | none => []
    | some p => p :: firL r n (L.eraseIdx (L.findIdx (freeIn r L)))
theorem firL_step (r : Rf) {L : List (Int × Int)} {i : Nat} {p : Int × Int} (hi : i = L.findIdx (freeIn r L)) (hp : L[i]? = some p) : firL r L.length L = p :: firL r (L.eraseIdx i).length (L.eraseIdx i) := by
  have hl := (List.getElem?_eq_some_iff.1 hp).1
  rw [List.length_eraseIdx_of_lt hl]
  obtain ⟨n, hn⟩ : ∃ n, L.length = n + 1 := ⟨L.length - 1, by omega⟩
  rw [hn, Nat.add_sub_cancel]
  show (match L[L.findIdx (freeIn r L)]? with | none => [] | some p => p :: firL r n (L.eraseIdx (L.findIdx (freeIn r L)))) = _
  rw [← hi, hp]
theorem findIdx_lt {f : Int × Int → Bool} {L : List (Int × Int)} (h : L.any f = true) : L.findIdx f < L.length := by
  rw [List.findIdx_lt_length]
  obtain ⟨x, hx, hf⟩ := List.any_eq_true.1 h
  exact ⟨x, hx, hf⟩
theorem erase_filter : ∀ (L : List (Int × Int)) (_ : L.Nodup) (i : Nat) (p : Int × Int) (_ : L[i]? = some p), L.eraseIdx i = L.filter fun q => !decide (q = p)
  | [], _, i, p, h => by simp at h
  | a :: L, hn, 0, p, h => by
    rw [List.nodup_cons] at hn
    simp only [List.getElem?_cons_zero, Option.some.injEq] at h
    subst h
    rw [List.eraseIdx_cons_zero, List.filter_cons_of_neg (by simp)]
    symm
    rw [List.filter_eq_self]
    intro q hq
    simp only [Bool.not_eq_true', decide_eq_false_iff_not]
    rintro rfl
    exact hn.1 hq
  | a :: L, hn, i + 1, p, h => by
    rw [List.nodup_cons] at hn
    rw [List.getElem?_cons_succ] at h
    rw [List.eraseIdx_cons_succ, List.filter_cons_of_pos, erase_filter L hn.2 i p h]
    simp only [Bool.not_eq_true', decide_eq_false_iff_not]
    rintro rfl
    exact hn.1 (List.mem_of_getElem? h)
theorem left_snoc {S out : List (Int × Int)} (hn : S.Nodup) {i : Nat} (hi : i < (leftOf S out).length) : leftOf S (out ++ [(leftOf S out)[i]]) = (leftOf S out).eraseIdx i := by
  have hnl : (leftOf S out).Nodup := hn.sublist List.filter_sublist
  rw [erase_filter _ hnl i _ (List.getElem?_eq_getElem hi)]
  obtain ⟨p, hp⟩ : ∃ p, p = (leftOf S out)[i] := ⟨_, rfl⟩
  rw [← hp]
  unfold leftOf
  rw [List.filter_filter]
  congr 1
  funext q
  by_cases h1 : q ∈ out <;> by_cases h2 : q = p <;> simp [h1, h2]
theorem left_nil (S : List (Int × Int)) : leftOf S [] = S := by
  unfold leftOf
  rw [List.filter_eq_self]
  intro q _; simp
/-- What the reference asks of a place. -/
def freeS (r : Rf) (S out : List (Int × Int)) (p : Int × Int) : Bool := !decide (p ∈ out) && S.all fun q => decide (q ∈ out) || !overB r p q
theorem freeS_eq (r : Rf) (S out : List (Int × Int)) (p : Int × Int) : freeS r S out p = (!decide (p ∈ out) && freeIn r (leftOf S out) p) := by
  unfold freeS freeIn leftOf
  congr 1
  rw [Bool.eq_iff_iff, Bool.not_eq_true', List.all_eq_true, List.any_eq_false]
  constructor
  · intro h q hq ho
    rw [List.mem_filter] at hq
    have := h q hq.1
    rw [ho] at this
    simp at this hq
    exact hq.2 this
  · intro h q hq
    by_cases hm : q ∈ out
    · simp [hm]
    · have := h q (List.mem_filter.2 ⟨hq, by simp [hm]⟩)
      simp [hm]
      simpa using this
/-- The first of S that is free is the one that the program takes. -/
theorem pick_eq (r : Rf) {S out : List (Int × Int)} {k : Nat} (hk : k < S.length) (hf : freeS r S out S[k] = true) (hb : ∀ j (hj : j < S.length), j < k → freeS r S out S[j] = false) :
    (leftOf S out)[(leftOf S out).findIdx (freeIn r (leftOf S out))]? = some S[k] := by
  have h1 : S.find? (freeS r S out) = some S[k] := by
    rw [List.find?_eq_some_iff_getElem]
    exact ⟨hf, k, hk, rfl, fun j hj => by rw [hb j (by omega) hj]; rfl⟩
  have h2 : (leftOf S out).find? (freeIn r (leftOf S out)) = some S[k] := by
    obtain ⟨L, hL⟩ : ∃ L, L = leftOf S out := ⟨_, rfl⟩
    have e : (fun p => !decide (p ∈ out) && freeIn r (leftOf S out) p) = freeS r S out := by funext p; exact (freeS_eq r S out p).symm
    show (S.filter fun p => !decide (p ∈ out)).find? (freeIn r (leftOf S out)) = some S[k]
    rw [List.find?_filter, ← h1, ← e]
    congr 1
    funext q
    simp
  rw [List.find?_eq_some_iff_getElem] at h2
  obtain ⟨hp, i, hi, he, hno⟩ := h2
  have h3 : (leftOf S out).findIdx (freeIn r (leftOf S out)) = i := by
    rw [List.findIdx_eq hi]
    exact ⟨by rw [he]; exact hp, fun j hj => by have := hno j hj; simpa using this⟩
  rw [h3, List.getElem?_eq_getElem hi, he]
theorem left_free (r : Rf) {S out : List (Int × Int)} (h : out.length < S.length) (hl : out.length + (leftOf S out).length = S.length) : ∃ k, ∃ hk : k < S.length, freeS r S out S[k] = true := by
  have hne : leftOf S out ≠ [] := fun e => by rw [e] at hl; simp at hl; omega
  obtain ⟨p, hp, hf⟩ := List.any_eq_true.1 (free_ex r hne)
  unfold leftOf at hp
  rw [List.mem_filter] at hp
  obtain ⟨k, hk, e⟩ := List.getElem_of_mem hp.1
  exact ⟨k, hk, by rw [e, freeS_eq, hf, Bool.and_true]; exact hp.2⟩
end Go.Proofs.Ytfbgldkdlmipoaa

/- slices.Delete of one place. -/
namespace Go.Proofs.Ytfbgldkdlmipoaa
open Go.RowKit Go.Lib Go.Shelf
set_option linter.unusedSimpArgs false
set_option linter.unusedVariables false

theorem row_del {B : Nat} {w : World} {g n c : Nat} {l : List (Int × Int)} (h : RowQ B w (.slice (some ⟨g, 0, none⟩) n c) l) {i : Nat} (hi : i < l.length) :
    RowQ B ((w.setCells g (i * 2) (pcells (l.drop (i + 1)))).setCells g ((l.length - 1) * 2) (List.replicate 2 (.int .i8 0))) (.slice (some ⟨g, 0, none⟩) (l.length - 1) c) (l.eraseIdx i) := by
  rcases h.2 with ⟨e, _⟩ | ⟨g', cap, cur, e, hB, hgg, hc, hm, hs, ht⟩
  · simp at e
  obtain ⟨rfl, -, rfl⟩ : g = g' ∧ n = l.length ∧ c = cap := by simpa using e
  have n1 := setCells_heap g 50 (pcells (l.drop (i + 1))) (i * 2) w cur hgg
  have n2 := setCells_heap g 50 (List.replicate 2 (Value.int .i8 0)) ((l.length - 1) * 2) _ _ n1.1
  have hel : (l.eraseIdx i).length = l.length - 1 := List.length_eraseIdx_of_lt hi
  have hnl : (pcells (l.drop (i + 1))).length = (l.length - (i + 1)) * 2 := by rw [pcells_len, List.length_drop]
  have hcs : l.length * 2 ≤ cur.size := by rw [hs]; exact Nat.mul_le_mul_right _ hc
  refine ⟨by rw [pcells_len], .inr ⟨g, c, _, by rw [hel], hB, n2.1, by rw [hel]; omega, hm, by rw [size_setAll, size_setAll]; exact hs, ?_⟩⟩
  rw [hel, List.eraseIdx_eq_take_drop_succ, pcells_app]
  have ht2 : (pcells (l.take i)).length = i * 2 := by rw [pcells_len, List.length_take]; omega
  have hcur : ∀ j, j < l.length * 2 → cur[j]? = (pcells l)[j]? := fun j hj => by
    rw [← ht, List.getElem?_take, if_pos hj, Array.getElem?_toList]
  have hsp : pcells l = pcells (l.take i) ++ pcells (l.drop i) := by rw [← pcells_app, List.take_append_drop]
  apply List.ext_getElem?
  intro j
  by_cases hj : j < (l.length - 1) * 2
  · rw [List.getElem?_take, if_pos hj, Array.getElem?_toList, setAll_get _ _ _ _ (by rw [size_setAll, List.length_replicate]; omega), if_neg (by omega), setAll_get _ _ _ _ (by rw [hnl]; omega), hnl]
    by_cases hji : j < i * 2
    · rw [if_neg (by omega), hcur j (by omega), hsp, List.getElem?_append_left (by omega), List.getElem?_append_left (by omega)]
    · rw [if_pos (by omega), List.getElem?_append_right (by omega), ht2]
  · rw [List.getElem?_take, if_neg hj, List.getElem?_eq_none]
    rw [List.length_append, ht2, hnl]; omega
theorem set_keep {g : Nat} : ∀ (vs : List Value) (o : Nat) (w : World) {b : Nat} {x : Obj}, b ≠ g → w.heap[b]? = some x → (w.setCells g o vs).heap[b]? = some x
  | [], _, w, b, x, _, h => h
  | v :: vs, o, w, b, x, hb, h => set_keep vs (o + 1) _ hb (block_set_other h (a := ⟨g, o, none⟩) v hb)
set_option maxHeartbeats 4000000 in
set_option maxRecDepth 100000 in
theorem c_deleteQ (B : Nat) (g c : Nat) (l : List (Int × Int)) (hlen : l.length ≤ 1000000) (i j : Nat) (hi : i < l.length) (hj : j = i + 1) (w : World) (hO : RowQ B w (.slice (some ⟨g, 0, none⟩) l.length c) l) :
    Calls Try.prog 43 #[.slice (some ⟨g, 0, none⟩) l.length c, .int .i64 i, .int .i64 j] w fun e w' => e = .returned (.slice (some ⟨g, 0, none⟩) (l.length - 1) c) ∧ Below B w w' ∧ (∀ (b : Nat) (o : Obj), b ≠ g → w.heap[b]? = some o → w'.heap[b]? = some o) ∧ RowQ B w' (.slice (some ⟨g, 0, none⟩) (l.length - 1) c) (l.eraseIdx i) := by
  obtain ⟨i0, hi0, hz0, hz1, hz2⟩ := info_parts Try.infoPlace
  have t22 := Try.underlying33
  have hcap := hO.cap
  have hm : c ≤ 9223372036854775807 := hcap.2
  have hlc := hcap.1
  obtain ⟨news, hnews⟩ : ∃ news, news = pcells (l.drop j) := ⟨_, rfl⟩
  have hnl : news.length = (l.length - j) * 2 := by rw [hnews, pcells_len, List.length_drop]
  have hOd : RowQ B w.drew (.slice (some ⟨g, 0, none⟩) l.length c) l := hO
  obtain ⟨gB, gl⟩ : B ≤ g ∧ g < w.heap.size := hO.lt g rfl
  have hsp : pcells l = pcells (l.take j) ++ news := by rw [hnews, ← pcells_app, List.take_append_drop]
  have htj : (pcells (l.take j)).length = j * 2 := by rw [pcells_len, List.length_take]; omega
  obtain ⟨A, hA, hsrc⟩ : ∃ A : Addr, (if c = j then (some ⟨g, 0, none⟩ : Option Addr) else some ⟨g, j * 2, none⟩) = some A ∧ Hid (∀ t u, news[t]? = some u → w.drew.cell? (A.add t) = some u) := by
    by_cases h : c = j
    · refine ⟨⟨g, 0, none⟩, by simp [h], fun t u hu => ?_⟩
      have h0 : news.length = 0 := by rw [hnl]; omega
      rw [List.length_eq_zero_iff.1 h0] at hu
      simp at hu
    · refine ⟨⟨g, j * 2, none⟩, by simp [h], fun t u hu => ?_⟩
      have hx : (pcells l)[j * 2 + t]? = some u := by rw [hsp, List.getElem?_append_right (by omega), htj, Nat.add_sub_cancel_left]; exact hu
      obtain ⟨g', c', e, _, _, h1, _⟩ := owns_cell hO hx
      obtain ⟨rfl, _⟩ : g = g' ∧ c = c' := by simpa using e
      rw [Addr.add_lit]
      exact h1
  have s1 : Hid (news.length = (l.length - j) * 2) := hnl
  have s2 : Hid (∀ u ∈ news, u.oneCell' = true) := by rw [hnews]; exact pcells_one _
  have s3 : Hid (∀ t, t < news.length → (w.drew.cell? ⟨g, 0 + i * 2 + t, none⟩).isSome = true ∧ w.drew.frozen? ⟨g, 0 + i * 2 + t, none⟩ = false) := fun t ht => by
    rw [Nat.zero_add]
    exact hOd.free i t (by rw [hnl] at ht; omega)
  obtain ⟨W1, hW1⟩ : ∃ W1, W1 = w.drew.setCells g (0 + i * 2) news := ⟨_, rfl⟩
  have hB1 : Below B w W1 := by rw [hW1]; exact ((Below.refl B w).drew).trans (below_setCellsQ gB _ _ _)
  have hfree : ∀ t, t < (l.length - (l.length - 1)) * 2 → (W1.cell? ⟨g, (l.length - 1) * 2 + t, none⟩).isSome = true ∧ W1.frozen? ⟨g, (l.length - 1) * 2 + t, none⟩ = false := fun t ht => by
    rcases hOd.2 with ⟨e, _⟩ | ⟨g', cap, cur, e, _, hgg, hc', _, hs', _⟩
    · simp at e
    obtain ⟨rfl, rfl⟩ : g = g' ∧ c = cap := by simpa using e
    have n1 := (setCells_heap g 50 news (0 + i * 2) w.drew cur hgg).1
    rw [← hW1] at n1
    have hcs : l.length * 2 ≤ cur.size := by rw [hs']; exact Nat.mul_le_mul_right _ hc'
    refine ⟨?_, frozen_of_row _ _ _ _ _ n1⟩
    rw [cell_of_row _ _ _ _ _ _ n1, Array.getElem?_eq_getElem (by rw [size_setAll]; omega)]; rfl
  have eij : i + (l.length - j) = l.length - 1 := by omega
  have hcl : ∀ ty, (Builtin.clear_ #[33] ty #[.slice (some ⟨g, (i + (l.length - j)) * 2, none⟩) (l.length - (i + (l.length - j))) (c - (i + (l.length - j)))]).run Try.prog W1 = .ok (.tuple #[]) (W1.setCells g ((i + (l.length - j)) * 2) (List.replicate ((l.length - (i + (l.length - j))) * 2) (.int .i8 0))) := fun ty => by
    rw [eij]
    exact run_clear_q W1 ty g ((l.length - 1) * 2) _ _ (by omega) (fun t ht => (hfree t ht).1) (fun t ht => (hfree t ht).2)
  have HR : Hid (RowQ B (W1.setCells g ((i + (l.length - j)) * 2) (List.replicate ((l.length - (i + (l.length - j))) * 2) (.int .i8 0))) (.slice (some ⟨g, 0, none⟩) (l.length - 1) c) (l.eraseIdx i)) := by
    rw [eij, show (l.length - (l.length - 1)) * 2 = 2 by omega, hW1, Nat.zero_add, hnews, hj]
    exact row_del hOd hi
  have HB : Hid (Below B w (W1.setCells g ((i + (l.length - j)) * 2) (List.replicate ((l.length - (i + (l.length - j))) * 2) (.int .i8 0)))) := hB1.trans (below_setCellsQ gB _ _ _)
  have HK : Hid (∀ (b : Nat) (o : Obj), b ≠ g → w.heap[b]? = some o → (W1.setCells g ((i + (l.length - j)) * 2) (List.replicate ((l.length - (i + (l.length - j))) * 2) (.int .i8 0))).heap[b]? = some o) := fun b o hb h => by
    rw [hW1]
    exact set_keep _ _ _ hb (set_keep _ _ _ hb h)
  have hW : Hid (W1 = w.drew.setCells g (0 + i * 2) news) := hW1
  have HE := hid eij
  have hij : ((i : Int) == (j : Int)) = false := by rw [beq_eq_false_iff_ne]; omega
  have hij2 : i ≤ j := by omega
  have hjl : j ≤ l.length := by omega
  have hic : i ≤ c := by omega
  have hjc : j ≤ c := by omega
  have hne : ¬ i = j := by omega
  have hcn : ¬ c = i + (l.length - j) := by omega
  have hsm : i + (l.length - j) ≤ l.length := by omega
  clear hW1 hO hOd hnews hfree hnl hsp htj hj eij hcap hB1
  go_enter Try.func43, Try.ntmps43
  go_wp2_with fail
  have hmx : Try.prog.follows .mixedOrders = true := by kernel_rfl
  go_region_law_o (refine step_append_room rfl (.tmp 22) (.tmp 25) 33 rfl 50 i0 2 t22 hi0 hz1 g 0 i c (by simp [Act.eval, Act.put]) A (l.length - j) (c - j) news (by simp [Act.eval, Act.put]) s1.out hsrc.out s2.out (by omega) s3.out ?_; rw [← hW.out])
  go_wp2
  go_ret
  exact ⟨by rw [HE.out]; rfl, HB.out, HK.out, HR.out⟩
end Go.Proofs.Ytfbgldkdlmipoaa

/- A region that draws its order with one call of unforeknown result; what stands ahead of it may run behind it, and m operations right behind it may run ahead of it. -/
namespace Go.Proofs.Ytfbgldkdlmipoaa
open Go.RowKit
set_option linter.unusedSimpArgs false
set_option linter.unusedVariables false
/-- Each operation behind number n + m waits for number n, or for one behind n + m; those between wait not for n. -/
def wildB3 (l : List Oper) (n m : Nat) : Bool := (List.range l.length).all fun t => decide (t ≤ n) || (match l[t]? with
  | some o => if t ≤ n + m then o.after.toList.all fun e => !(e.on == n) else o.after.toList.any fun e => Region.binds .any e && (e.on == n || decide (n + m < e.on)) && decide (e.on < t)
  | none => true)
theorem wildB3_post {l : List Oper} {n m : Nat} (h : wildB3 l n m = true) (t : Nat) (o : Oper) (ho : l[t]? = some o) (ht : n + m < t) : ∃ e ∈ o.after, Region.binds .any e = true ∧ (e.on = n ∨ n + m < e.on) ∧ e.on < t := by
  have h1 := List.all_eq_true.1 h t (List.mem_range.2 (List.getElem?_eq_some_iff.1 ho).1)
  rw [ho] at h1
  simp only [Bool.or_eq_true, decide_eq_true_eq] at h1
  rcases h1 with h1 | h1
  · omega
  · rw [if_neg (by omega)] at h1
    obtain ⟨e, he, h5⟩ := List.any_eq_true.1 h1
    simp only [Bool.and_eq_true, Bool.or_eq_true, decide_eq_true_eq, beq_iff_eq] at h5
    exact ⟨e, by simpa using he, h5.1.1, h5.1.2, h5.2⟩
theorem wildB3_free {l : List Oper} {n m : Nat} (h : wildB3 l n m = true) (t : Nat) (o : Oper) (ho : l[t]? = some o) (ht : n < t) (ht2 : t ≤ n + m) : ∀ e ∈ o.after, e.on ≠ n := by
  have h1 := List.all_eq_true.1 h t (List.mem_range.2 (List.getElem?_eq_some_iff.1 ho).1)
  rw [ho] at h1
  simp only [Bool.or_eq_true, decide_eq_true_eq] at h1
  rcases h1 with h1 | h1
  · omega
  · rw [if_pos ht2] at h1
    intro e he
    have := List.all_eq_true.1 h1 e (by simpa using he)
    simpa using this
/-- What may run ahead of the call. -/
def preL (l : List Oper) (n m : Nat) : List Oper := l.take n ++ (l.drop (n + 1)).take m
theorem preL_get {l : List Oper} {n m : Nat} (hnl : n < l.length) (i : Nat) (hi : i < n ∨ (n < i ∧ i ≤ n + m)) : (preL l n m)[if i < n then i else i - 1]? = l[i]? := by
  unfold preL
  by_cases h : i < n
  · rw [if_pos h, List.getElem?_append_left (by rw [List.length_take]; omega), List.getElem?_take, if_pos h]
  · rw [if_neg h, List.getElem?_append_right (by rw [List.length_take]; omega), List.length_take, List.getElem?_take, if_pos (by omega), List.getElem?_drop]
    congr 1; omega
theorem preL_inv {l : List Oper} {n m : Nat} (hnl : n < l.length) (k : Nat) (o : Oper) (h : (preL l n m)[k]? = some o) : ∃ i, (i < n ∨ (n < i ∧ i ≤ n + m)) ∧ k = (if i < n then i else i - 1) ∧ l[i]? = some o := by
  by_cases hk : k < n
  · refine ⟨k, .inl hk, by rw [if_pos hk], ?_⟩
    have := preL_get (m := m) hnl k (.inl hk)
    rw [if_pos hk] at this
    rw [← this]; exact h
  · have hk2 : k + 1 ≤ n + m := by
      have h1 := (List.getElem?_eq_some_iff.1 h).1
      unfold preL at h1
      rw [List.length_append, List.length_take, List.length_take] at h1
      omega
    refine ⟨k + 1, .inr ⟨by omega, hk2⟩, by rw [if_neg (by omega)]; omega, ?_⟩
    have := preL_get (m := m) hnl (k + 1) (.inr ⟨by omega, hk2⟩)
    rw [if_neg (by omega), Nat.add_sub_cancel] at this
    rw [← this]; exact h
set_option maxHeartbeats 1600000 in
theorem wp_region_wildHF {P : Program} {id : Nat} {Q : Exit → Act → World → Prop} {a0 : Act} {W : World} {l : List Oper} (B n m : Nat) (aσ : Act) (oc : Oper) (f : FuncId) (args : Array Value) (R : Value → World → Prop) (D : World → World → Prop) (hD : ∀ w, D w w)
    (hm : P.follows .mixedOrders = true) (hback : backB l = true) (hn : lawB l a0.tmps.size = true) (hw : wildB3 l n m = true) (hoc : l[n]? = some oc) (hBW : B ≤ W.heap.size)
    (hpre : wpQuiet P l.toArray (fun w' => ∃ x : Ext B W, w' = x.out) (fun a' => a' = aσ) (preL l n m) a0)
    (hpre2 : ∀ v w1, R v w1 → wpQuiet P l.toArray (D w1) (fun a' => a' = aσ) (preL l n m) a0)
    (hent : ∀ w, (execOp aσ.eval oc).run P w = .ok (.enter f args) w)
    (hcall : ∀ x : Ext B W, Calls P f args x.out fun e w' => ∃ v, e = .returned v ∧ R v w')
    (hpost : ∀ v w1, R v w1 → wpQuiet P l.toArray (D w1) (fun a' => ∀ w', D w1 w' → Q .normal a' w') (l.drop (n + 1 + m)) (aσ.put oc.dst v)) :
    (Code.region id l.toArray true).wp P Q a0 W := by
  have hL := fun i o ho => lawB_of hn i o ho
  have hone : ∀ (i : Nat) (o : Oper) (j : Nat) (o' : Oper) (d : Nat), l[i]? = some o → l[j]? = some o' → i ≠ j → o.dst = some d → o'.dst ≠ some d := fun i o j o' d hi hj hne hd => (hL j o' hj).2.2.2.1 i o hi hne d hd
  have hnl : n < l.length := (List.getElem?_eq_some_iff.1 hoc).1
  have htake : ∀ (k : Nat) (o : Oper), (preL l n m)[k]? = some o → ∃ i, (i < n ∨ (n < i ∧ i ≤ n + m)) ∧ k = (if i < n then i else i - 1) ∧ l[i]? = some o := fun k o h => preL_inv hnl k o h
  have hpget : ∀ (i : Nat) (o : Oper), (i < n ∨ (n < i ∧ i ≤ n + m)) → l[i]? = some o → (preL l n m)[if i < n then i else i - 1]? = some o := fun i o hf h => by rw [preL_get hnl i hf]; exact h
  have hd1p : ∀ (k : Nat) (o : Oper) (d : Nat), (preL l n m)[k]? = some o → o.dst = some d → d < a0.tmps.size := fun k o d h hd => by
    obtain ⟨i, _, _, hi⟩ := htake k o h
    exact (hL i o hi).2.2.1 d hd
  have honep : ∀ (k : Nat) (o : Oper) (j : Nat) (o' : Oper) (d : Nat), (preL l n m)[k]? = some o → (preL l n m)[j]? = some o' → k ≠ j → o.dst = some d → o'.dst ≠ some d := fun k o j o' d h h' hne hd => by
    obtain ⟨i1, _, e1, h1⟩ := htake k o h
    obtain ⟨i2, _, e2, h2⟩ := htake j o' h'
    exact hone i1 o i2 o' d h1 h2 (by rintro rfl; exact hne (e1.trans e2.symm)) hd
  have hposlt : ∀ i j : Nat, (i < n ∨ (n < i ∧ i ≤ n + m)) → (j < n ∨ (n < j ∧ j ≤ n + m)) → j < i → (if j < n then j else j - 1) < (if i < n then i else i - 1) := fun i j hi hj h => by split <;> split <;> omega
  have hdropg : ∀ (i : Nat) (o : Oper), (l.drop (n + 1 + m))[i]? = some o → l[n + 1 + m + i]? = some o := fun i o h => by rw [List.getElem?_drop] at h; exact h
  obtain ⟨vs0, hst0, hfin0⟩ := stepsS_of _ _ hpre
  have hsize : aσ.tmps.size = a0.tmps.size := by rw [← hfin0, putsS_size]
  have hdef : aσ.defers = a0.defers := by rw [← hfin0, putsS_defers]
  have key0 := fun i o ho => stepsS_key hst0 hfin0 hd1p honep i o ho
  have hout0 : ∀ t : Nat, (∀ (i : Nat) (o : Oper), (i < n ∨ (n < i ∧ i ≤ n + m)) → l[i]? = some o → o.dst ≠ some t) → aσ.tmps.getD t undef = a0.tmps.getD t undef := by
    intro t ht
    rw [← hfin0, putsS_other]
    intro o' hm' hd
    obtain ⟨k, hk, rfl⟩ := List.getElem_of_mem hm'
    obtain ⟨i, hf, _, hi⟩ := htake k _ (List.getElem?_eq_getElem hk)
    exact ht i _ hf hi hd
  -- what stands when the call has been made
  let Post : World → Act → Prop := fun w aτ => ∃ v w0 vs, R v w0 ∧ D w0 w ∧ StepsS P l.toArray (D w0) (l.drop (n + 1 + m)) vs (aσ.put oc.dst v) ∧ putsS (l.drop (n + 1 + m)) vs (aσ.put oc.dst v) = aτ ∧ (∀ w', D w0 w' → Q .normal aτ w') ∧ ∀ d, oc.dst = some d → aτ.tmps.getD d undef = v
  have hPost : ∀ w aτ, Post w aτ → aτ.tmps.size = a0.tmps.size ∧ aτ.defers = a0.defers ∧ (∀ t : Nat, (∀ (i : Nat) (o : Oper), l[i]? = some o → o.dst ≠ some t) → aτ.tmps.getD t undef = a0.tmps.getD t undef) ∧
      (∀ (i : Nat) (o : Oper) (d : Nat), l[i]? = some o → (i < n ∨ (n < i ∧ i ≤ n + m)) → o.dst = some d → aτ.tmps.getD d undef = aσ.tmps.getD d undef) := by
    rintro w aτ ⟨v, w0, vs, _, _, h1, h2, _, _⟩
    have hoth : ∀ t : Nat, (∀ (i : Nat) (o : Oper), n + m < i → l[i]? = some o → o.dst ≠ some t) → aτ.tmps.getD t undef = (aσ.put oc.dst v).tmps.getD t undef := by
      intro t ht
      rw [← h2, putsS_other]
      intro o' hm' hd
      obtain ⟨k, hk, rfl⟩ := List.getElem_of_mem hm'
      exact ht _ _ (by omega) (hdropg k _ (List.getElem?_eq_getElem hk)) hd
    refine ⟨by rw [← h2, putsS_size, put_size, hsize], by rw [← h2, putsS_defers, put_defers', hdef], fun t ht => ?_, fun i o d hi hin hd => ?_⟩
    · rw [hoth t fun i o _ hi => ht i o hi, put_other _ _ _ _ (ht n oc hoc), hout0 t fun i o _ hi => ht i o hi]
    · rw [hoth d fun j o' hj hj' => hone i o j o' d hi hj' (by omega) hd, put_other _ _ _ _ (hone i o n oc d hi hoc (by omega) hd)]
  refine wp_region_inv hm hback (fun L a w => a.defers = a0.defers ∧ a.tmps.size = a0.tmps.size ∧ (∀ t : Nat, (∀ (i : Nat) (o : Oper), l[i]? = some o → o.dst ≠ some t) → a.tmps.getD t undef = a0.tmps.getD t undef) ∧
    (∀ (j : Nat) (oj : Oper), l[j]? = some oj → L j = true → ∀ e ∈ oj.after, Region.binds .any e = true → L e.on = true) ∧
    (L n = false → (∃ x : Ext B W, w = x.out) ∧ ∀ (i : Nat) (o : Oper) (d : Nat), l[i]? = some o → L i = true → o.dst = some d → a.tmps.getD d undef = aσ.tmps.getD d undef) ∧
    (L n = true → ∃ aτ, Post w aτ ∧ ∀ (i : Nat) (o : Oper) (d : Nat), l[i]? = some o → L i = true → o.dst = some d → a.tmps.getD d undef = aτ.tmps.getD d undef)) ?_ ?_ ?_
  · intro L hL0
    exact ⟨rfl, rfl, fun _ _ => rfl, fun j oj hj hLj => (by rw [hL0 j (List.getElem?_eq_some_iff.1 hj).1] at hLj; cases hLj), fun _ => ⟨⟨⟨_, (Below.refl B W).drew⟩, rfl⟩, fun i o d hi hLi => (by rw [hL0 i (List.getElem?_eq_some_iff.1 hi).1] at hLi; cases hLi)⟩, fun hLn => (by rw [hL0 n hnl] at hLn; cases hLn)⟩
  · intro L a w i o ho hLi hafter ⟨i1, i2, i3, i4, i5, i6⟩
    obtain ⟨hg, hns, hd1, hd2, heyes⟩ := hL i o ho
    rw [if_pos (by simp [Region.wanted, hg])]
    have hcl : ∀ (j : Nat) (oj : Oper), l[j]? = some oj → plus L i j = true → ∀ e ∈ oj.after, Region.binds .any e = true → plus L i e.on = true := by
      intro j oj hj hLj e he hb
      unfold plus at hLj ⊢
      by_cases hji : j = i
      · subst hji
        rw [ho] at hj
        obtain rfl := Option.some.inj hj
        split
        · rfl
        · exact hafter e he hb
      · rw [if_neg hji] at hLj
        split
        · rfl
        · exact i4 j oj hj hLj e he hb
    have hsplit : (i < n ∨ (n < i ∧ i ≤ n + m)) ∨ i = n ∨ n + m < i := by omega
    rcases hsplit with hin | hin | hin
    · -- ahead of the call
      cases hLn : L n with
      | false =>
        obtain ⟨⟨x, hx⟩, i7⟩ := i5 hLn
        have ho' := hpget i o hin ho
        obtain ⟨v, ai, hY, hv, hno, hyes⟩ := key0 _ o ho'
        have he : execOp a.eval o = execOp ai.eval o := by
          refine execOp_congr o (fun c b hc => by rw [notSelect, hc] at hns; cases hns) (eval_eyes fun t ht => ?_)
          by_cases hex : ∃ (j : Nat) (o' : Oper), l[j]? = some o' ∧ o'.dst = some t
          · obtain ⟨j, o', hj, hd⟩ := hex
            obtain ⟨hji, e, he, hb, hon⟩ := heyes t ht j o' hj hd
            have hLj : L j = true := hon ▸ hafter e he hb
            have hjf : j < n ∨ (n < j ∧ j ≤ n + m) := by
              rcases hin with h1 | h1
              · omega
              · have := wildB3_free hw i o ho h1.1 h1.2 e he; omega
            rw [hyes t _ o' (hposlt i j hin hjf hji) (hpget j o' hjf hj) hd]
            exact i7 j o' t hj hLj hd
          · have hn' : ∀ (j : Nat) (o' : Oper), l[j]? = some o' → o'.dst ≠ some t := fun j o' hj hd => hex ⟨j, o', hj, hd⟩
            rw [i3 t hn', hno t fun k o' hk => by obtain ⟨j, _, _, hj⟩ := htake k o' hk; exact hn' j o' hj]
        have hY' := hY.of_same he (by simp [Region.wanted, hg])
        rcases hY' with ⟨_, hq⟩ | ⟨hw0, _⟩
        · refine Oper.wp_of_quiet (C := fun w' => ∃ x : Ext B W, w' = x.out) (K := fun a' => a' = a.put o.dst v) ⟨x, hx⟩ ?_ ⟨v, hq, rfl⟩
          rintro a' w' ⟨z, rfl⟩ rfl
          refine ⟨(put_defers' _ _ _).trans i1, (put_size _ _ _).trans i2, fun t ht => ?_, hcl, fun _ => ⟨⟨z, rfl⟩, fun j o' d hj hLj hd => ?_⟩, fun hLp => ?_⟩
          · rw [put_other _ _ _ _ (ht i o ho)]; exact i3 t ht
          · by_cases hji : j = i
            · subst hji
              rw [ho] at hj
              obtain rfl := Option.some.inj hj
              rw [hd, put_here _ _ _ (by rw [i2]; exact hd1 d hd)]
              exact hv d hd
            · have hLj' : L j = true := by unfold plus at hLj; rwa [if_neg hji] at hLj
              rw [put_other _ _ _ _ (hd2 j o' hj hji d hd)]; exact i7 j o' d hj hLj' hd
          · unfold plus at hLp; rw [if_neg (by omega), hLn] at hLp; cases hLp
        · simp [Region.wanted, hg] at hw0
      | true =>
        obtain ⟨aτ, hP, i7⟩ := i6 hLn
        have hP0 := hP
        obtain ⟨p1, p2, p3, p4⟩ := hPost _ _ hP
        obtain ⟨v1, w0, vs1, hR0, hDw, hst1, hfin1, hQ1, hdv1⟩ := hP
        obtain ⟨vs2, hst2, hfin2⟩ := stepsS_of _ _ (hpre2 v1 w0 hR0)
        have ho' := hpget i o hin ho
        obtain ⟨v, ai, hY, hv, hno, hyes⟩ := stepsS_key hst2 hfin2 hd1p honep _ o ho'
        have he : execOp a.eval o = execOp ai.eval o := by
          refine execOp_congr o (fun c b hc => by rw [notSelect, hc] at hns; cases hns) (eval_eyes fun t ht => ?_)
          by_cases hex : ∃ (j : Nat) (o' : Oper), l[j]? = some o' ∧ o'.dst = some t
          · obtain ⟨j, o', hj, hd⟩ := hex
            obtain ⟨hji, e, he, hb, hon⟩ := heyes t ht j o' hj hd
            have hLj : L j = true := hon ▸ hafter e he hb
            have hjf : j < n ∨ (n < j ∧ j ≤ n + m) := by
              rcases hin with h1 | h1
              · omega
              · have := wildB3_free hw i o ho h1.1 h1.2 e he; omega
            rw [hyes t _ o' (hposlt i j hin hjf hji) (hpget j o' hjf hj) hd, i7 j o' t hj hLj hd]
            exact p4 j o' t hj hjf hd
          · have hn' : ∀ (j : Nat) (o' : Oper), l[j]? = some o' → o'.dst ≠ some t := fun j o' hj hd => hex ⟨j, o', hj, hd⟩
            rw [i3 t hn', hno t fun k o' hk => by obtain ⟨j, _, _, hj⟩ := htake k o' hk; exact hn' j o' hj]
        have hY' := hY.of_same he (by simp [Region.wanted, hg])
        rcases hY' with ⟨_, hq⟩ | ⟨hw0, _⟩
        · refine Oper.wp_of_quiet (C := D w0) (K := fun a' => a' = a.put o.dst v) hDw ?_ ⟨v, hq, rfl⟩
          rintro a' w' hDw' rfl
          refine ⟨(put_defers' _ _ _).trans i1, (put_size _ _ _).trans i2, fun t ht => ?_, hcl, fun hLp => ?_, fun _ => ⟨aτ, ⟨v1, w0, vs1, hR0, hDw', hst1, hfin1, hQ1, hdv1⟩, fun j o' d hj hLj hd => ?_⟩⟩
          · rw [put_other _ _ _ _ (ht i o ho)]; exact i3 t ht
          · unfold plus at hLp; rw [if_neg (by omega), hLn] at hLp; cases hLp
          · by_cases hji : j = i
            · subst hji
              rw [ho] at hj
              obtain rfl := Option.some.inj hj
              rw [hd, put_here _ _ _ (by rw [i2]; exact hd1 d hd), hv d hd]
              exact (p4 j o d ho hin hd).symm
            · have hLj' : L j = true := by unfold plus at hLj; rwa [if_neg hji] at hLj
              rw [put_other _ _ _ _ (hd2 j o' hj hji d hd)]; exact i7 j o' d hj hLj' hd
        · simp [Region.wanted, hg] at hw0
    · -- the call
      subst hin
      rw [hoc] at ho
      obtain rfl := Option.some.inj ho
      obtain ⟨⟨x, hx⟩, i7⟩ := i5 hLi
      have he : execOp a.eval oc = execOp aσ.eval oc := by
        refine execOp_congr oc (fun c b hc => by rw [notSelect, hc] at hns; cases hns) (eval_eyes fun t ht => ?_)
        by_cases hex : ∃ (j : Nat) (o' : Oper), l[j]? = some o' ∧ o'.dst = some t
        · obtain ⟨j, o', hj, hd⟩ := hex
          obtain ⟨hji, e, he, hb, hon⟩ := heyes t ht j o' hj hd
          exact i7 j o' t hj (hon ▸ hafter e he hb) hd
        · have hn' : ∀ (j : Nat) (o' : Oper), l[j]? = some o' → o'.dst ≠ some t := fun j o' hj hd => hex ⟨j, o', hj, hd⟩
          rw [i3 t hn', hout0 t fun j o' _ hj => hn' j o' hj]
      subst hx
      unfold Oper.wp
      rw [he, hent]
      simp only [Oper.upon]
      refine (hcall x).mono ?_
      rintro e w' ⟨v, rfl, hR⟩
      obtain ⟨vs, hst, hQ⟩ := stepsS_of _ _ (hpost v w' hR)
      have hdv : ∀ d, oc.dst = some d → (putsS (l.drop (i + 1 + m)) vs (aσ.put oc.dst v)).tmps.getD d undef = v := by
        intro d hd
        rw [putsS_other, hd, put_here _ _ _ (by rw [hsize]; exact hd1 d hd)]
        intro o' hm' hd'
        obtain ⟨k, hk, rfl⟩ := List.getElem_of_mem hm'
        exact hone i oc _ _ d hoc (hdropg k _ (List.getElem?_eq_getElem hk)) (by omega) hd hd'
      have hP : Post w' (putsS (l.drop (i + 1 + m)) vs (aσ.put oc.dst v)) := ⟨v, w', vs, hR, hD _, hst, rfl, hQ, hdv⟩
      obtain ⟨_, _, _, p4⟩ := hPost _ _ hP
      refine ⟨(put_defers' _ _ _).trans i1, (put_size _ _ _).trans i2, fun t ht => ?_, hcl, fun hLn => ?_, fun _ => ⟨_, hP, fun j o' d hj hLj hd => ?_⟩⟩
      · rw [put_other _ _ _ _ (ht i oc hoc)]; exact i3 t ht
      · simp [plus] at hLn
      · by_cases hji : j = i
        · subst hji
          rw [hoc] at hj
          obtain rfl := Option.some.inj hj
          rw [hd, put_here _ _ _ (by rw [i2]; exact hd1 d hd), ← hd, hdv d hd]
        · have hLj' : L j = true := by unfold plus at hLj; rwa [if_neg hji] at hLj
          have hjn : j < i ∨ (i < j ∧ j ≤ i + m) := by
            rcases (by omega : (j < i ∨ (i < j ∧ j ≤ i + m)) ∨ i + m < j) with h | h
            · exact h
            · exfalso
              have : ∀ d t, t = d → i + m < t → t < l.length → L t = true → False := by
                intro d
                induction d using Nat.strongRecOn with
                | _ d ih =>
                  intro t htd hit htl hLt
                  obtain ⟨e, he', hb, h1, h2⟩ := wildB3_post hw t _ (List.getElem?_eq_getElem htl) hit
                  have h3 := i4 t _ (List.getElem?_eq_getElem htl) hLt e he' hb
                  rcases h1 with h4 | h4
                  · rw [h4, hLi] at h3; cases h3
                  · exact ih e.on (by omega) e.on rfl h4 (by omega) h3
              exact this _ j rfl h (List.getElem?_eq_some_iff.1 hj).1 hLj'
          rw [put_other _ _ _ _ (hd2 j o' hj hji d hd), i7 j o' d hj hLj' hd, p4 j o' d hj hjn hd]
    · -- behind the call
      have hLn : L n = true := by
        obtain ⟨e, he, hb, h1, h2⟩ := wildB3_post hw i o ho hin
        have h3 := hafter e he hb
        have : ∀ d t, t = d → (t = n ∨ n + m < t) → t < l.length → L t = true → L n = true := by
          intro d
          induction d using Nat.strongRecOn with
          | _ d ih =>
            intro t htd hit htl hLt
            rcases hit with h4 | h4
            · rw [← h4]; exact hLt
            · obtain ⟨e, he', hb, h1, h2⟩ := wildB3_post hw t _ (List.getElem?_eq_getElem htl) h4
              exact ih e.on (by omega) e.on rfl h1 (by omega) (i4 t _ (List.getElem?_eq_getElem htl) hLt e he' hb)
        exact this _ e.on rfl h1 (by have := (List.getElem?_eq_some_iff.1 ho).1; omega) h3
      obtain ⟨aτ, hP, i7⟩ := i6 hLn
      obtain ⟨p1, p2, p3, p4⟩ := hPost _ _ hP
      obtain ⟨v, w0, vs, hR0, hDw, hst, hfin, hQ, hdv⟩ := hP
      have ho' : (l.drop (n + 1 + m))[i - (n + 1 + m)]? = some o := by rw [List.getElem?_drop]; rw [show n + 1 + m + (i - (n + 1 + m)) = i by omega]; exact ho
      obtain ⟨u, ai, hY, hv, hno, hyes⟩ := stepsS_key hst hfin (fun j o' d h hd => by rw [put_size, hsize]; exact (hL _ o' (hdropg j o' h)).2.2.1 d hd) (fun j o' k o'' d h h' hne hd => hone _ o' _ o'' d (hdropg j o' h) (hdropg k o'' h') (by omega) hd) _ o ho'
      have he : execOp a.eval o = execOp ai.eval o := by
        refine execOp_congr o (fun c b hc => by rw [notSelect, hc] at hns; cases hns) (eval_eyes fun t ht => ?_)
        by_cases hex : ∃ (j : Nat) (o' : Oper), l[j]? = some o' ∧ o'.dst = some t
        · obtain ⟨j, o', hj, hd⟩ := hex
          obtain ⟨hji, e, he, hb, hon⟩ := heyes t ht j o' hj hd
          have hLj : L j = true := hon ▸ hafter e he hb
          rw [i7 j o' t hj hLj hd]
          by_cases hjn : n + m < j
          · rw [hyes t (j - (n + 1 + m)) o' (by omega) (by rw [List.getElem?_drop, show n + 1 + m + (j - (n + 1 + m)) = j by omega]; exact hj) hd]
          · have h9 : ai.tmps.getD t undef = (aσ.put oc.dst v).tmps.getD t undef := hno t fun k o'' hk => hone j o' _ o'' t hj (hdropg k o'' hk) (by omega) hd
            rw [h9]
            rcases (by omega : (j < n ∨ (n < j ∧ j ≤ n + m)) ∨ j = n) with h10 | h10
            · rw [p4 j o' t hj h10 hd, put_other _ _ _ _ (hone j o' n oc t hj hoc (by omega) hd)]
            · obtain rfl := h10
              rw [hoc] at hj
              obtain rfl := Option.some.inj hj
              rw [hdv t hd, hd, put_here _ _ _ (by rw [hsize]; exact (hL j oc hoc).2.2.1 t hd)]
        · have hn' : ∀ (j : Nat) (o' : Oper), l[j]? = some o' → o'.dst ≠ some t := fun j o' hj hd => hex ⟨j, o', hj, hd⟩
          rw [i3 t hn', hno t fun j o' hj => hn' _ o' (hdropg j o' hj), put_other _ _ _ _ (hn' n oc hoc), hout0 t fun j o' _ hj => hn' j o' hj]
      have hY' := hY.of_same he (by simp [Region.wanted, hg])
      rcases hY' with ⟨_, hq⟩ | ⟨hw0, _⟩
      · refine Oper.wp_of_quiet (C := D w0) (K := fun a' => a' = a.put o.dst u) hDw ?_ ⟨u, hq, rfl⟩
        rintro a' w' hDw' rfl
        refine ⟨(put_defers' _ _ _).trans i1, (put_size _ _ _).trans i2, fun t ht => ?_, hcl, fun hLp => ?_, fun _ => ⟨aτ, ⟨v, w0, vs, hR0, hDw', hst, hfin, hQ, hdv⟩, fun j o' d hj hLj hd => ?_⟩⟩
        · rw [put_other _ _ _ _ (ht i o ho)]; exact i3 t ht
        · unfold plus at hLp; rw [if_neg (by omega), hLn] at hLp; cases hLp
        · by_cases hji : j = i
          · subst hji
            rw [ho] at hj
            obtain rfl := Option.some.inj hj
            rw [hd, put_here _ _ _ (by rw [i2]; exact hd1 d hd)]
            exact hv d hd
          · have hLj' : L j = true := by unfold plus at hLj; rwa [if_neg hji] at hLj
            rw [put_other _ _ _ _ (hd2 j o' hj hji d hd)]; exact i7 j o' d hj hLj' hd
      · simp [Region.wanted, hg] at hw0
  · intro L a w hall ⟨i1, i2, i3, i4, i5, i6⟩
    obtain ⟨aτ, hP, i7⟩ := i6 (hall n hnl)
    obtain ⟨p1, p2, p3, p4⟩ := hPost _ _ hP
    obtain ⟨v, w0, vs, hR0, hDw, hst, hfin, hQ, hdv⟩ := hP
    have : a = aτ := by
      refine act_ext (i2.trans p1.symm) (i1.trans p2.symm) fun k => ?_
      by_cases hex : ∃ (j : Nat) (o' : Oper), l[j]? = some o' ∧ o'.dst = some k
      · obtain ⟨j, o', hj, hd⟩ := hex
        exact i7 j o' k hj (hall j (List.getElem?_eq_some_iff.1 hj).1) hd
      · have hn' : ∀ (j : Nat) (o' : Oper), l[j]? = some o' → o'.dst ≠ some k := fun j o' hj hd => hex ⟨j, o', hj, hd⟩
        rw [i3 k hn', p3 k hn']
    rw [this]; exact hQ _ hDw
/-- The same; what stands behind the call, and what may run behind it, turns nothing below the heap that the call has left. -/
theorem wp_region_wildH {P : Program} {id : Nat} {Q : Exit → Act → World → Prop} {a0 : Act} {W : World} {l : List Oper} (B n m : Nat) (aσ : Act) (oc : Oper) (f : FuncId) (args : Array Value) (R : Value → World → Prop)
    (hm : P.follows .mixedOrders = true) (hback : backB l = true) (hn : lawB l a0.tmps.size = true) (hw : wildB3 l n m = true) (hoc : l[n]? = some oc) (hBW : B ≤ W.heap.size)
    (hpre : ∀ (B' : Nat) (W' : World), Below B W W' → B ≤ B' → B' ≤ W'.heap.size → wpQuiet P l.toArray (fun w' => ∃ x : Ext B' W', w' = x.out) (fun a' => a' = aσ) (preL l n m) a0)
    (hent : ∀ w, (execOp aσ.eval oc).run P w = .ok (.enter f args) w)
    (hcall : ∀ x : Ext B W, Calls P f args x.out fun e w' => ∃ v, e = .returned v ∧ R v w' ∧ Below B W w')
    (hpost : ∀ v w1, R v w1 → Below B W w1 → wpQuiet P l.toArray (fun w' => ∃ y : Ext w1.heap.size w1, w' = y.out) (fun a' => ∀ w', (∃ y : Ext w1.heap.size w1, w' = y.out) → Q .normal a' w') (l.drop (n + 1 + m)) (aσ.put oc.dst v)) :
    (Code.region id l.toArray true).wp P Q a0 W :=
  wp_region_wildHF B n m aσ oc f args (fun v w1 => R v w1 ∧ Below B W w1) (fun w1 w' => ∃ y : Ext w1.heap.size w1, w' = y.out) (fun w => ⟨⟨w, Below.refl _ _⟩, rfl⟩) hm hback hn hw hoc hBW (hpre B W (Below.refl _ _) (Nat.le_refl _) hBW)
    (fun v w1 hR => hpre w1.heap.size w1 hR.2 (Nat.le_trans hBW hR.2.size) (Nat.le_refl _)) hent hcall (fun v w1 hR => hpost v w1 hR.1 hR.2)
end Go.Proofs.Ytfbgldkdlmipoaa
