/- Texts of the claim FnExactOffcutsOf, part 4 of 5. -/
import Derived.Test.YtgbihaliiogboaaGExactOffcutsOf3
import Derived.Maps.AppendAt
import Derived.Lib.SlFresh
/- A region that draws its order with one call of unforeknown result; what stands ahead of it may run behind it. -/
namespace Go.Proofs.Ytgbihaliiogboaa
open Go.RowKit
set_option linter.unusedSimpArgs false
set_option linter.unusedVariables false
/-- Each operation behind number n waits for it, or for one behind it. -/
def wildB2 (l : List Oper) (n : Nat) : Bool := (List.range l.length).all fun t => decide (t ≤ n) || (match l[t]? with | some o => o.after.toList.any fun e => Region.binds .any e && decide (n ≤ e.on) && decide (e.on < t) | none => true)
theorem wildB2_post {l : List Oper} {n : Nat} (h : wildB2 l n = true) (t : Nat) (o : Oper) (ho : l[t]? = some o) (ht : n < t) : ∃ e ∈ o.after, Region.binds .any e = true ∧ n ≤ e.on ∧ e.on < t := by
  have h1 := List.all_eq_true.1 h t (List.mem_range.2 (List.getElem?_eq_some_iff.1 ho).1)
  rw [ho] at h1
  simp only [Bool.or_eq_true, decide_eq_true_eq] at h1
  rcases h1 with h1 | h1
  · omega
  · obtain ⟨e, he, h5⟩ := List.any_eq_true.1 h1
    simp only [Bool.and_eq_true, decide_eq_true_eq] at h5
    exact ⟨e, by simpa using he, h5.1.1, h5.1.2, h5.2⟩
set_option maxHeartbeats 1600000 in
theorem wp_region_wildF {P : Program} {id : Nat} {Q : Exit → Act → World → Prop} {a0 : Act} {W : World} {l : List Oper} (B n : Nat) (aσ : Act) (oc : Oper) (f : FuncId) (args : Array Value) (R : Value → World → Prop) (D : World → World → Prop) (hD : ∀ w, D w w)
    (hm : P.follows .mixedOrders = true) (hback : backB l = true) (hn : lawB l a0.tmps.size = true) (hw : wildB2 l n = true) (hoc : l[n]? = some oc) (hBW : B ≤ W.heap.size)
    (hpre : wpQuiet P l.toArray (fun w' => ∃ x : Ext B W, w' = x.out) (fun a' => a' = aσ) (l.take n) a0)
    (hpre2 : ∀ v w1, R v w1 → wpQuiet P l.toArray (D w1) (fun a' => a' = aσ) (l.take n) a0)
    (hent : ∀ w, (execOp aσ.eval oc).run P w = .ok (.enter f args) w)
    (hcall : ∀ x : Ext B W, Calls P f args x.out fun e w' => ∃ v, e = .returned v ∧ R v w')
    (hpost : ∀ v w1, R v w1 → wpQuiet P l.toArray (D w1) (fun a' => ∀ w', D w1 w' → Q .normal a' w') (l.drop (n + 1)) (aσ.put oc.dst v)) :
    (Code.region id l.toArray true).wp P Q a0 W := by
  have hL := fun i o ho => lawB_of hn i o ho
  have hone : ∀ (i : Nat) (o : Oper) (j : Nat) (o' : Oper) (d : Nat), l[i]? = some o → l[j]? = some o' → i ≠ j → o.dst = some d → o'.dst ≠ some d := fun i o j o' d hi hj hne hd => (hL j o' hj).2.2.2.1 i o hi hne d hd
  have hnl : n < l.length := (List.getElem?_eq_some_iff.1 hoc).1
  have htake : ∀ (i : Nat) (o : Oper), (l.take n)[i]? = some o → l[i]? = some o ∧ i < n := fun i o h => by
    rw [List.getElem?_take] at h
    split at h
    · exact ⟨h, by assumption⟩
    · cases h
  have hdropg : ∀ (i : Nat) (o : Oper), (l.drop (n + 1))[i]? = some o → l[n + 1 + i]? = some o := fun i o h => by rw [List.getElem?_drop] at h; exact h
  obtain ⟨vs0, hst0, hfin0⟩ := stepsS_of _ _ hpre
  have hsize : aσ.tmps.size = a0.tmps.size := by rw [← hfin0, putsS_size]
  have hdef : aσ.defers = a0.defers := by rw [← hfin0, putsS_defers]
  have key0 := fun i o ho => stepsS_key hst0 hfin0 (fun i o d h hd => (hL i o (htake i o h).1).2.2.1 d hd) (fun i o j o' d h h' hne hd => hone i o j o' d (htake i o h).1 (htake j o' h').1 hne hd) i o ho
  have hout0 : ∀ t : Nat, (∀ (i : Nat) (o : Oper), i < n → l[i]? = some o → o.dst ≠ some t) → aσ.tmps.getD t undef = a0.tmps.getD t undef := by
    intro t ht
    rw [← hfin0, putsS_other]
    intro o' hm' hd
    obtain ⟨k, hk, rfl⟩ := List.getElem_of_mem hm'
    have hk2 := htake k _ (List.getElem?_eq_getElem hk)
    exact ht k _ hk2.2 hk2.1 hd
  -- what stands when the call has been made
  let Post : World → Act → Prop := fun w aτ => ∃ v w0 vs, R v w0 ∧ D w0 w ∧ StepsS P l.toArray (D w0) (l.drop (n + 1)) vs (aσ.put oc.dst v) ∧ putsS (l.drop (n + 1)) vs (aσ.put oc.dst v) = aτ ∧ (∀ w', D w0 w' → Q .normal aτ w') ∧ ∀ d, oc.dst = some d → aτ.tmps.getD d undef = v
  have hPost : ∀ w aτ, Post w aτ → aτ.tmps.size = a0.tmps.size ∧ aτ.defers = a0.defers ∧ (∀ t : Nat, (∀ (i : Nat) (o : Oper), l[i]? = some o → o.dst ≠ some t) → aτ.tmps.getD t undef = a0.tmps.getD t undef) ∧
      (∀ (i : Nat) (o : Oper) (d : Nat), l[i]? = some o → i < n → o.dst = some d → aτ.tmps.getD d undef = aσ.tmps.getD d undef) := by
    rintro w aτ ⟨v, w0, vs, _, _, h1, h2, _, _⟩
    have hoth : ∀ t : Nat, (∀ (i : Nat) (o : Oper), n < i → l[i]? = some o → o.dst ≠ some t) → aτ.tmps.getD t undef = (aσ.put oc.dst v).tmps.getD t undef := by
      intro t ht
      rw [← h2, putsS_other]
      intro o' hm' hd
      obtain ⟨k, hk, rfl⟩ := List.getElem_of_mem hm'
      exact ht _ _ (by omega) (hdropg k _ (List.getElem?_eq_getElem hk)) hd
    refine ⟨by rw [← h2, putsS_size, put_size, hsize], by rw [← h2, putsS_defers, put_defers', hdef], fun t ht => ?_, fun i o d hi hin hd => ?_⟩
    · rw [hoth t fun i o _ hi => ht i o hi, put_other _ _ _ _ (ht n oc hoc), hout0 t fun i o _ hi => ht i o hi]
    · rw [hoth d fun j o' hj hj' => hone i o j o' d hi hj' (by omega) hd, put_other _ _ _ _ (hone i o n oc d hi hoc (by omega) hd)]
  refine wp_region_inv hm hback (fun L a w => a.defers = a0.defers ∧ a.tmps.size = a0.tmps.size ∧ (∀ t : Nat, (∀ (i : Nat) (o : Oper), l[i]? = some o → o.dst ≠ some t) → a.tmps.getD t undef = a0.tmps.getD t undef) ∧
    (∀ (j : Nat) (oj : Oper), l[j]? = some oj → L j = true → ∀ e ∈ oj.after, Region.binds .any e = true → L e.on = true) ∧
    (L n = false → (∃ x : Ext B W, w = x.out) ∧ ∀ (i : Nat) (o : Oper) (d : Nat), l[i]? = some o → L i = true → o.dst = some d → a.tmps.getD d undef = aσ.tmps.getD d undef) ∧
    (L n = true → ∃ aτ, Post w aτ ∧ ∀ (i : Nat) (o : Oper) (d : Nat), l[i]? = some o → L i = true → o.dst = some d → a.tmps.getD d undef = aτ.tmps.getD d undef)) ?_ ?_ ?_
  · intro L hL0
    exact ⟨rfl, rfl, fun _ _ => rfl, fun j oj hj hLj => (by rw [hL0 j (List.getElem?_eq_some_iff.1 hj).1] at hLj; cases hLj), fun _ => ⟨⟨⟨_, (Below.refl B W).drew⟩, rfl⟩, fun i o d hi hLi => (by rw [hL0 i (List.getElem?_eq_some_iff.1 hi).1] at hLi; cases hLi)⟩, fun hLn => (by rw [hL0 n hnl] at hLn; cases hLn)⟩
  · intro L a w i o ho hLi hafter ⟨i1, i2, i3, i4, i5, i6⟩
    obtain ⟨hg, hns, hd1, hd2, heyes⟩ := hL i o ho
    rw [if_pos (by simp [Region.wanted, hg])]
    have hcl : ∀ (j : Nat) (oj : Oper), l[j]? = some oj → plus L i j = true → ∀ e ∈ oj.after, Region.binds .any e = true → plus L i e.on = true := by
      intro j oj hj hLj e he hb
      unfold plus at hLj ⊢
      by_cases hji : j = i
      · subst hji
        rw [ho] at hj
        obtain rfl := Option.some.inj hj
        split
        · rfl
        · exact hafter e he hb
      · rw [if_neg hji] at hLj
        split
        · rfl
        · exact i4 j oj hj hLj e he hb
    rcases Nat.lt_trichotomy i n with hin | hin | hin
    · -- ahead of the call
      cases hLn : L n with
      | false =>
        obtain ⟨⟨x, hx⟩, i7⟩ := i5 hLn
        have ho' : (l.take n)[i]? = some o := by rw [List.getElem?_take, if_pos hin]; exact ho
        obtain ⟨v, ai, hY, hv, hno, hyes⟩ := key0 i o ho'
        have he : execOp a.eval o = execOp ai.eval o := by
          refine execOp_congr o (fun c b hc => by rw [notSelect, hc] at hns; cases hns) (eval_eyes fun t ht => ?_)
          by_cases hex : ∃ (j : Nat) (o' : Oper), l[j]? = some o' ∧ o'.dst = some t
          · obtain ⟨j, o', hj, hd⟩ := hex
            obtain ⟨hji, e, he, hb, hon⟩ := heyes t ht j o' hj hd
            have hLj : L j = true := hon ▸ hafter e he hb
            rw [hyes t j o' hji (by rw [List.getElem?_take, if_pos (by omega)]; exact hj) hd]
            exact i7 j o' t hj hLj hd
          · have hn' : ∀ (j : Nat) (o' : Oper), l[j]? = some o' → o'.dst ≠ some t := fun j o' hj hd => hex ⟨j, o', hj, hd⟩
            rw [i3 t hn', hno t fun j o' hj => hn' j o' (htake j o' hj).1]
        have hY' := hY.of_same he (by simp [Region.wanted, hg])
        rcases hY' with ⟨_, hq⟩ | ⟨hw0, _⟩
        · refine Oper.wp_of_quiet (C := fun w' => ∃ x : Ext B W, w' = x.out) (K := fun a' => a' = a.put o.dst v) ⟨x, hx⟩ ?_ ⟨v, hq, rfl⟩
          rintro a' w' ⟨z, rfl⟩ rfl
          refine ⟨(put_defers' _ _ _).trans i1, (put_size _ _ _).trans i2, fun t ht => ?_, hcl, fun _ => ⟨⟨z, rfl⟩, fun j o' d hj hLj hd => ?_⟩, fun hLp => ?_⟩
          · rw [put_other _ _ _ _ (ht i o ho)]; exact i3 t ht
          · by_cases hji : j = i
            · subst hji
              rw [ho] at hj
              obtain rfl := Option.some.inj hj
              rw [hd, put_here _ _ _ (by rw [i2]; exact hd1 d hd)]
              exact hv d hd
            · have hLj' : L j = true := by unfold plus at hLj; rwa [if_neg hji] at hLj
              rw [put_other _ _ _ _ (hd2 j o' hj hji d hd)]; exact i7 j o' d hj hLj' hd
          · unfold plus at hLp; rw [if_neg (by omega), hLn] at hLp; cases hLp
        · simp [Region.wanted, hg] at hw0
      | true =>
        obtain ⟨aτ, hP, i7⟩ := i6 hLn
        have hP0 := hP
        obtain ⟨p1, p2, p3, p4⟩ := hPost _ _ hP
        obtain ⟨v1, w0, vs1, hR0, hDw, hst1, hfin1, hQ1, hdv1⟩ := hP
        obtain ⟨vs2, hst2, hfin2⟩ := stepsS_of _ _ (hpre2 v1 w0 hR0)
        have ho' : (l.take n)[i]? = some o := by rw [List.getElem?_take, if_pos hin]; exact ho
        obtain ⟨v, ai, hY, hv, hno, hyes⟩ := stepsS_key hst2 hfin2 (fun i o d h hd => (hL i o (htake i o h).1).2.2.1 d hd) (fun i o j o' d h h' hne hd => hone i o j o' d (htake i o h).1 (htake j o' h').1 hne hd) i o ho'
        have he : execOp a.eval o = execOp ai.eval o := by
          refine execOp_congr o (fun c b hc => by rw [notSelect, hc] at hns; cases hns) (eval_eyes fun t ht => ?_)
          by_cases hex : ∃ (j : Nat) (o' : Oper), l[j]? = some o' ∧ o'.dst = some t
          · obtain ⟨j, o', hj, hd⟩ := hex
            obtain ⟨hji, e, he, hb, hon⟩ := heyes t ht j o' hj hd
            have hLj : L j = true := hon ▸ hafter e he hb
            rw [hyes t j o' hji (by rw [List.getElem?_take, if_pos (by omega)]; exact hj) hd, i7 j o' t hj hLj hd]
            exact p4 j o' t hj (by omega) hd
          · have hn' : ∀ (j : Nat) (o' : Oper), l[j]? = some o' → o'.dst ≠ some t := fun j o' hj hd => hex ⟨j, o', hj, hd⟩
            rw [i3 t hn', hno t fun j o' hj => hn' j o' (htake j o' hj).1]
        have hY' := hY.of_same he (by simp [Region.wanted, hg])
        rcases hY' with ⟨_, hq⟩ | ⟨hw0, _⟩
        · refine Oper.wp_of_quiet (C := D w0) (K := fun a' => a' = a.put o.dst v) hDw ?_ ⟨v, hq, rfl⟩
          rintro a' w' hDw' rfl
          refine ⟨(put_defers' _ _ _).trans i1, (put_size _ _ _).trans i2, fun t ht => ?_, hcl, fun hLp => ?_, fun _ => ⟨aτ, ⟨v1, w0, vs1, hR0, hDw', hst1, hfin1, hQ1, hdv1⟩, fun j o' d hj hLj hd => ?_⟩⟩
          · rw [put_other _ _ _ _ (ht i o ho)]; exact i3 t ht
          · unfold plus at hLp; rw [if_neg (by omega), hLn] at hLp; cases hLp
          · by_cases hji : j = i
            · subst hji
              rw [ho] at hj
              obtain rfl := Option.some.inj hj
              rw [hd, put_here _ _ _ (by rw [i2]; exact hd1 d hd), hv d hd]
              exact (p4 j o d ho hin hd).symm
            · have hLj' : L j = true := by unfold plus at hLj; rwa [if_neg hji] at hLj
              rw [put_other _ _ _ _ (hd2 j o' hj hji d hd)]; exact i7 j o' d hj hLj' hd
        · simp [Region.wanted, hg] at hw0
    · -- the call
      subst hin
      rw [hoc] at ho
      obtain rfl := Option.some.inj ho
      obtain ⟨⟨x, hx⟩, i7⟩ := i5 hLi
      have he : execOp a.eval oc = execOp aσ.eval oc := by
        refine execOp_congr oc (fun c b hc => by rw [notSelect, hc] at hns; cases hns) (eval_eyes fun t ht => ?_)
        by_cases hex : ∃ (j : Nat) (o' : Oper), l[j]? = some o' ∧ o'.dst = some t
        · obtain ⟨j, o', hj, hd⟩ := hex
          obtain ⟨hji, e, he, hb, hon⟩ := heyes t ht j o' hj hd
          exact i7 j o' t hj (hon ▸ hafter e he hb) hd
        · have hn' : ∀ (j : Nat) (o' : Oper), l[j]? = some o' → o'.dst ≠ some t := fun j o' hj hd => hex ⟨j, o', hj, hd⟩
          rw [i3 t hn', hout0 t fun j o' _ hj => hn' j o' hj]
      subst hx
      unfold Oper.wp
      rw [he, hent]
      simp only [Oper.upon]
      refine (hcall x).mono ?_
      rintro e w' ⟨v, rfl, hR⟩
      obtain ⟨vs, hst, hQ⟩ := stepsS_of _ _ (hpost v w' hR)
      have hdv : ∀ d, oc.dst = some d → (putsS (l.drop (i + 1)) vs (aσ.put oc.dst v)).tmps.getD d undef = v := by
        intro d hd
        rw [putsS_other, hd, put_here _ _ _ (by rw [hsize]; exact hd1 d hd)]
        intro o' hm' hd'
        obtain ⟨k, hk, rfl⟩ := List.getElem_of_mem hm'
        exact hone i oc _ _ d hoc (hdropg k _ (List.getElem?_eq_getElem hk)) (by omega) hd hd'
      have hP : Post w' (putsS (l.drop (i + 1)) vs (aσ.put oc.dst v)) := ⟨v, w', vs, hR, hD _, hst, rfl, hQ, hdv⟩
      obtain ⟨_, _, _, p4⟩ := hPost _ _ hP
      refine ⟨(put_defers' _ _ _).trans i1, (put_size _ _ _).trans i2, fun t ht => ?_, hcl, fun hLn => ?_, fun _ => ⟨_, hP, fun j o' d hj hLj hd => ?_⟩⟩
      · rw [put_other _ _ _ _ (ht i oc hoc)]; exact i3 t ht
      · simp [plus] at hLn
      · by_cases hji : j = i
        · subst hji
          rw [hoc] at hj
          obtain rfl := Option.some.inj hj
          rw [hd, put_here _ _ _ (by rw [i2]; exact hd1 d hd), ← hd, hdv d hd]
        · have hLj' : L j = true := by unfold plus at hLj; rwa [if_neg hji] at hLj
          have hjn : j < i := by
            rcases Nat.lt_trichotomy j i with h | h | h
            · exact h
            · exact absurd h hji
            · exfalso
              have : ∀ d t, t = d → i < t → t < l.length → L t = true → False := by
                intro d
                induction d using Nat.strongRecOn with
                | _ d ih =>
                  intro t htd hit htl hLt
                  obtain ⟨e, he', hb, h1, h2⟩ := wildB2_post hw t _ (List.getElem?_eq_getElem htl) hit
                  have h3 := i4 t _ (List.getElem?_eq_getElem htl) hLt e he' hb
                  rcases Nat.eq_or_lt_of_le h1 with h4 | h4
                  · rw [← h4, hLi] at h3; cases h3
                  · exact ih e.on (by omega) e.on rfl h4 (by omega) h3
              exact this _ j rfl h (List.getElem?_eq_some_iff.1 hj).1 hLj'
          rw [put_other _ _ _ _ (hd2 j o' hj hji d hd), i7 j o' d hj hLj' hd, p4 j o' d hj hjn hd]
    · -- behind the call
      have hLn : L n = true := by
        obtain ⟨e, he, hb, h1, h2⟩ := wildB2_post hw i o ho hin
        have h3 := hafter e he hb
        have : ∀ d t, t = d → n ≤ t → t < l.length → L t = true → L n = true := by
          intro d
          induction d using Nat.strongRecOn with
          | _ d ih =>
            intro t htd hit htl hLt
            rcases Nat.eq_or_lt_of_le hit with h4 | h4
            · rw [h4]; exact hLt
            · obtain ⟨e, he', hb, h1, h2⟩ := wildB2_post hw t _ (List.getElem?_eq_getElem htl) h4
              exact ih e.on (by omega) e.on rfl h1 (by omega) (i4 t _ (List.getElem?_eq_getElem htl) hLt e he' hb)
        exact this _ e.on rfl h1 (by have := (List.getElem?_eq_some_iff.1 ho).1; omega) h3
      obtain ⟨aτ, hP, i7⟩ := i6 hLn
      obtain ⟨p1, p2, p3, p4⟩ := hPost _ _ hP
      obtain ⟨v, w0, vs, hR0, hDw, hst, hfin, hQ, hdv⟩ := hP
      have ho' : (l.drop (n + 1))[i - (n + 1)]? = some o := by rw [List.getElem?_drop]; rw [show n + 1 + (i - (n + 1)) = i by omega]; exact ho
      obtain ⟨u, ai, hY, hv, hno, hyes⟩ := stepsS_key hst hfin (fun j o' d h hd => by rw [put_size, hsize]; exact (hL _ o' (hdropg j o' h)).2.2.1 d hd) (fun j o' k o'' d h h' hne hd => hone _ o' _ o'' d (hdropg j o' h) (hdropg k o'' h') (by omega) hd) _ o ho'
      have he : execOp a.eval o = execOp ai.eval o := by
        refine execOp_congr o (fun c b hc => by rw [notSelect, hc] at hns; cases hns) (eval_eyes fun t ht => ?_)
        by_cases hex : ∃ (j : Nat) (o' : Oper), l[j]? = some o' ∧ o'.dst = some t
        · obtain ⟨j, o', hj, hd⟩ := hex
          obtain ⟨hji, e, he, hb, hon⟩ := heyes t ht j o' hj hd
          have hLj : L j = true := hon ▸ hafter e he hb
          rw [i7 j o' t hj hLj hd]
          by_cases hjn : n < j
          · rw [hyes t (j - (n + 1)) o' (by omega) (by rw [List.getElem?_drop, show n + 1 + (j - (n + 1)) = j by omega]; exact hj) hd]
          · have h9 : ai.tmps.getD t undef = (aσ.put oc.dst v).tmps.getD t undef := hno t fun k o'' hk => hone j o' _ o'' t hj (hdropg k o'' hk) (by omega) hd
            rw [h9]
            rcases Nat.lt_or_ge j n with h10 | h10
            · rw [p4 j o' t hj h10 hd, put_other _ _ _ _ (hone j o' n oc t hj hoc (by omega) hd)]
            · obtain rfl : j = n := by omega
              rw [hoc] at hj
              obtain rfl := Option.some.inj hj
              rw [hdv t hd, hd, put_here _ _ _ (by rw [hsize]; exact (hL j oc hoc).2.2.1 t hd)]
        · have hn' : ∀ (j : Nat) (o' : Oper), l[j]? = some o' → o'.dst ≠ some t := fun j o' hj hd => hex ⟨j, o', hj, hd⟩
          rw [i3 t hn', hno t fun j o' hj => hn' _ o' (hdropg j o' hj), put_other _ _ _ _ (hn' n oc hoc), hout0 t fun j o' _ hj => hn' j o' hj]
      have hY' := hY.of_same he (by simp [Region.wanted, hg])
      rcases hY' with ⟨_, hq⟩ | ⟨hw0, _⟩
      · refine Oper.wp_of_quiet (C := D w0) (K := fun a' => a' = a.put o.dst u) hDw ?_ ⟨u, hq, rfl⟩
        rintro a' w' hDw' rfl
        refine ⟨(put_defers' _ _ _).trans i1, (put_size _ _ _).trans i2, fun t ht => ?_, hcl, fun hLp => ?_, fun _ => ⟨aτ, ⟨v, w0, vs, hR0, hDw', hst, hfin, hQ, hdv⟩, fun j o' d hj hLj hd => ?_⟩⟩
        · rw [put_other _ _ _ _ (ht i o ho)]; exact i3 t ht
        · unfold plus at hLp; rw [if_neg (by omega), hLn] at hLp; cases hLp
        · by_cases hji : j = i
          · subst hji
            rw [ho] at hj
            obtain rfl := Option.some.inj hj
            rw [hd, put_here _ _ _ (by rw [i2]; exact hd1 d hd)]
            exact hv d hd
          · have hLj' : L j = true := by unfold plus at hLj; rwa [if_neg hji] at hLj
            rw [put_other _ _ _ _ (hd2 j o' hj hji d hd)]; exact i7 j o' d hj hLj' hd
      · simp [Region.wanted, hg] at hw0
  · intro L a w hall ⟨i1, i2, i3, i4, i5, i6⟩
    obtain ⟨aτ, hP, i7⟩ := i6 (hall n hnl)
    obtain ⟨p1, p2, p3, p4⟩ := hPost _ _ hP
    obtain ⟨v, w0, vs, hR0, hDw, hst, hfin, hQ, hdv⟩ := hP
    have : a = aτ := by
      refine act_ext (i2.trans p1.symm) (i1.trans p2.symm) fun k => ?_
      by_cases hex : ∃ (j : Nat) (o' : Oper), l[j]? = some o' ∧ o'.dst = some k
      · obtain ⟨j, o', hj, hd⟩ := hex
        exact i7 j o' k hj (hall j (List.getElem?_eq_some_iff.1 hj).1) hd
      · have hn' : ∀ (j : Nat) (o' : Oper), l[j]? = some o' → o'.dst ≠ some k := fun j o' hj hd => hex ⟨j, o', hj, hd⟩
        rw [i3 k hn', p3 k hn']
    rw [this]; exact hQ _ hDw
/-- The same; what stands behind the call, and what may run behind it, turns nothing below the heap that the call has left. -/
theorem wp_region_wildG {P : Program} {id : Nat} {Q : Exit → Act → World → Prop} {a0 : Act} {W : World} {l : List Oper} (B n : Nat) (aσ : Act) (oc : Oper) (f : FuncId) (args : Array Value) (R : Value → World → Prop)
    (hm : P.follows .mixedOrders = true) (hback : backB l = true) (hn : lawB l a0.tmps.size = true) (hw : wildB2 l n = true) (hoc : l[n]? = some oc) (hBW : B ≤ W.heap.size)
    (hpre : ∀ (B' : Nat) (W' : World), Below B W W' → B ≤ B' → B' ≤ W'.heap.size → wpQuiet P l.toArray (fun w' => ∃ x : Ext B' W', w' = x.out) (fun a' => a' = aσ) (l.take n) a0)
    (hent : ∀ w, (execOp aσ.eval oc).run P w = .ok (.enter f args) w)
    (hcall : ∀ x : Ext B W, Calls P f args x.out fun e w' => ∃ v, e = .returned v ∧ R v w' ∧ Below B W w')
    (hpost : ∀ v w1, R v w1 → Below B W w1 → wpQuiet P l.toArray (fun w' => ∃ y : Ext w1.heap.size w1, w' = y.out) (fun a' => ∀ w', (∃ y : Ext w1.heap.size w1, w' = y.out) → Q .normal a' w') (l.drop (n + 1)) (aσ.put oc.dst v)) :
    (Code.region id l.toArray true).wp P Q a0 W :=
  wp_region_wildF B n aσ oc f args (fun v w1 => R v w1 ∧ Below B W w1) (fun w1 w' => ∃ y : Ext w1.heap.size w1, w' = y.out) (fun w => ⟨⟨w, Below.refl _ _⟩, rfl⟩) hm hback hn hw hoc hBW (hpre B W (Below.refl _ _) (Nat.le_refl _) hBW)
    (fun v w1 hR => hpre w1.heap.size w1 hR.2 (Nat.le_trans hBW hR.2.size) (Nat.le_refl _)) hent hcall (fun v w1 hR => hpost v w1 hR.1 hR.2)
end Go.Proofs.Ytgbihaliiogboaa

/- A region that draws its order: some operations of unforeknown result, in whatever order their edges leave open; all others of foreknown values. -/
namespace Go.Proofs.Ytgbihaliiogboaa
open Go.RowKit
set_option linter.unusedSimpArgs false
set_option linter.unusedVariables false

def dstOf (l : List Oper) (j : Nat) : Option Nat := match l[j]? with | some o => o.dst | none => none
theorem dstOf_some {l : List Oper} {j : Nat} {o : Oper} (h : l[j]? = some o) : dstOf l j = o.dst := by unfold dstOf; rw [h]
theorem dstOf_inv {l : List Oper} {j t : Nat} (h : dstOf l j = some t) : ∃ o, l[j]? = some o ∧ o.dst = some t := by
  unfold dstOf at h
  cases hl : l[j]? with
  | none => rw [hl] at h; cases h
  | some o => rw [hl] at h; exact ⟨o, rfl, h⟩
/-- qi: the numbers of the foreknown ones, wi: of the others; what a foreknown one looks at no other one writes. -/
def chainB (l : List Oper) (qi wi : List Nat) : Bool :=
  ((List.range l.length).all fun i => qi.contains i != wi.contains i) && (qi.all fun i => decide (i < l.length)) && (wi.all fun i => decide (i < l.length)) && decide (qi.Pairwise (· < ·)) && decide (wi.Pairwise (· < ·)) &&
  (qi.all fun i => match l[i]? with | some o => (eyes o).all fun t => wi.all fun j => !(dstOf l j == some t) | none => true)
theorem chainB_of {l : List Oper} {qi wi : List Nat} (h : chainB l qi wi = true) :
    (∀ i, i < l.length → (i ∈ qi ∧ i ∉ wi) ∨ (i ∈ wi ∧ i ∉ qi)) ∧ (∀ i ∈ qi, i < l.length) ∧ (∀ i ∈ wi, i < l.length) ∧ qi.Pairwise (· < ·) ∧ wi.Pairwise (· < ·) ∧
    (∀ i ∈ qi, ∀ o, l[i]? = some o → ∀ t ∈ eyes o, ∀ j ∈ wi, dstOf l j ≠ some t) := by
  unfold chainB at h
  simp only [Bool.and_eq_true, List.all_eq_true, decide_eq_true_eq] at h
  obtain ⟨⟨⟨⟨⟨h1, h2⟩, h3⟩, h4⟩, h5⟩, h6⟩ := h
  refine ⟨fun i hi => ?_, h2, h3, h4, h5, fun i hi o ho t ht j hj hd => ?_⟩
  · have := h1 i (List.mem_range.2 hi)
    by_cases a : i ∈ qi <;> by_cases b : i ∈ wi <;> simp [a, b] at this ⊢
  · have := h6 i hi
    rw [ho] at this
    simp only [List.all_eq_true] at this
    have := this t ht j hj
    rw [hd] at this
    simp at this
theorem pick_get (l : List Oper) : ∀ (qi : List Nat) (_ : ∀ i ∈ qi, i < l.length) (k : Nat), (qi.filterMap fun i => l[i]?)[k]? = (qi[k]?).bind fun i => l[i]?
  | [], _, k => by simp
  | i :: qi, h, k => by
    have hi := h i (by simp)
    rw [List.filterMap_cons, List.getElem?_eq_getElem hi]
    cases k with
    | zero => simp [List.getElem?_eq_getElem hi]
    | succ k =>
      simp only [List.getElem?_cons_succ]
      exact pick_get l qi (fun j hj => h j (by simp [hj])) k
def updR (res : Nat → Option Value) (i : Nat) (v : Value) : Nat → Option Value := fun j => if j = i then some v else res j
def putW (l : List Oper) (val : Nat → Value) (ws : List Nat) (a : Act) : Act := ws.foldl (fun a j => a.put (dstOf l j) (val j)) a
theorem putW_size (l : List Oper) (val : Nat → Value) : ∀ (ws : List Nat) (a : Act), (putW l val ws a).tmps.size = a.tmps.size ∧ (putW l val ws a).defers = a.defers
  | [], a => ⟨rfl, rfl⟩
  | j :: ws, a => by
    have := putW_size l val ws (a.put (dstOf l j) (val j))
    rw [put_size, put_defers'] at this
    exact this
theorem putW_other (l : List Oper) (val : Nat → Value) (t : Nat) : ∀ (ws : List Nat) (a : Act), (∀ j ∈ ws, dstOf l j ≠ some t) → (putW l val ws a).tmps.getD t undef = a.tmps.getD t undef
  | [], a, _ => rfl
  | j :: ws, a, h => by
    have := putW_other l val t ws (a.put (dstOf l j) (val j)) (fun j' hj' => h j' (by simp [hj']))
    rw [put_other _ _ _ _ (h j (by simp))] at this
    exact this
theorem putW_here (l : List Oper) (val : Nat → Value) (t j0 : Nat) (hd : dstOf l j0 = some t) : ∀ (ws : List Nat) (a : Act), j0 ∈ ws → (∀ j ∈ ws, j ≠ j0 → dstOf l j ≠ some t) → t < a.tmps.size → (putW l val ws a).tmps.getD t undef = val j0
  | [], a, h, _, _ => by simp at h
  | j :: ws, a, h, h1, hs => by
    by_cases hin : j0 ∈ ws
    · exact putW_here l val t j0 hd ws (a.put (dstOf l j) (val j)) hin (fun j' hj' => h1 j' (by simp [hj'])) (by rw [put_size]; exact hs)
    · obtain rfl : j0 = j := by rcases List.mem_cons.1 h with h | h; exact h; exact absurd h hin
      have := putW_other l val t ws (a.put (dstOf l j0) (val j0)) (fun j' hj' => h1 j' (by simp [hj']) (by rintro rfl; exact hin hj'))
      show (putW l val ws (a.put (dstOf l j0) (val j0))).tmps.getD t undef = val j0
      rw [this, hd, put_here _ _ _ hs]
set_option maxHeartbeats 1600000 in
theorem wp_region_wildK {P : Program} {id : Nat} {Q : Exit → Act → World → Prop} {a0 : Act} {W : World} {l : List Oper} (B : Nat) (qi wi : List Nat) (aσ : Act) (R : (Nat → Option Value) → World → Prop)
    (hm : P.follows .mixedOrders = true) (hback : backB l = true) (hn : lawB l a0.tmps.size = true) (hc : chainB l qi wi = true) (hBW : B ≤ W.heap.size)
    (hpre : ∀ (B' : Nat) (W' : World), Below B W W' → B ≤ B' → B' ≤ W'.heap.size → wpQuiet P l.toArray (fun w' => ∃ x : Ext B' W', w' = x.out) (fun a' => a' = aσ) (qi.filterMap fun i => l[i]?) a0)
    (h0 : ∀ w, Below W.heap.size W w → R (fun _ => none) w)
    (hR : ∀ res V V', R res V → Below V.heap.size V V' → R res V')
    (hstep : ∀ (i : Nat) (o : Oper), i ∈ wi → l[i]? = some o → ∀ (res : Nat → Option Value) (a : Act) (w : World), res i = none → R res w → Below B W w → B ≤ w.heap.size →
      (∀ t ∈ eyes o, (∀ j ∈ wi, dstOf l j = some t → res j = some (a.tmps.getD t undef)) ∧ ((∀ j ∈ wi, dstOf l j ≠ some t) → a.tmps.getD t undef = aσ.tmps.getD t undef)) →
      (∀ e ∈ o.after, Region.binds .any e = true → e.on ∈ wi → (res e.on).isSome = true) →
      (∃ f args, (∀ w, (execOp a.eval o).run P w = .ok (.enter f args) w) ∧ Calls P f args w fun e w' => ∃ v, e = .returned v ∧ R (updR res i v) w' ∧ Below B W w') ∨
      (∃ v w', (execOp a.eval o).run P w = .ok (.value v) w' ∧ R (updR res i v) w' ∧ Below B W w') ∨
      (∃ w', (execOp a.eval o).run P w = .ok .skip w' ∧ R (updR res i undef) w' ∧ Below B W w'))
    (hend : ∀ (val : Nat → Value) (w : World), R (fun j => if j ∈ wi then some (val j) else none) w → Below B W w → Q .normal (putW l val wi aσ) w) :
    (Code.region id l.toArray true).wp P Q a0 W := by
  obtain ⟨hcov, hqi, hwi, hqp, hwp, hqe⟩ := chainB_of hc
  have hL := fun i o ho => lawB_of hn i o ho
  have hone : ∀ (i : Nat) (o : Oper) (j : Nat) (o' : Oper) (d : Nat), l[i]? = some o → l[j]? = some o' → i ≠ j → o.dst = some d → o'.dst ≠ some d := fun i o j o' d hi hj hne hd => (hL j o' hj).2.2.2.1 i o hi hne d hd
  obtain ⟨ql, hql⟩ : ∃ ql, ql = qi.filterMap fun i => l[i]? := ⟨_, rfl⟩
  rw [← hql] at hpre
  have hget : ∀ k, ql[k]? = (qi[k]?).bind fun i => l[i]? := fun k => by rw [hql]; exact pick_get l qi hqi k
  have htake : ∀ (k : Nat) (o : Oper), ql[k]? = some o → ∃ i, qi[k]? = some i ∧ l[i]? = some o := fun k o h => by
    rw [hget k] at h
    cases hk : qi[k]? with
    | none => rw [hk] at h; cases h
    | some i => rw [hk] at h; exact ⟨i, rfl, h⟩
  have hpos : ∀ (i : Nat) (o : Oper), i ∈ qi → l[i]? = some o → ∃ k, qi[k]? = some i ∧ ql[k]? = some o := fun i o hi ho => by
    obtain ⟨k, hk, e⟩ := List.getElem_of_mem hi
    have : qi[k]? = some i := by rw [List.getElem?_eq_getElem hk, e]
    exact ⟨k, this, by rw [hget k, this]; exact ho⟩
  have hord : ∀ k k' i i' : Nat, qi[k]? = some i → qi[k']? = some i' → i' < i → k' < k := fun k k' i i' h h' hlt => by
    obtain ⟨h1, rfl⟩ := List.getElem?_eq_some_iff.1 h
    obtain ⟨h2, rfl⟩ := List.getElem?_eq_some_iff.1 h'
    rcases Nat.lt_trichotomy k' k with h3 | h3 | h3
    · exact h3
    · subst h3; omega
    · have := List.pairwise_iff_getElem.1 hqp k k' h1 h2 h3; omega
  have hinj : ∀ k k' i : Nat, qi[k]? = some i → qi[k']? = some i → k = k' := fun k k' i h h' => by
    obtain ⟨h1, e1⟩ := List.getElem?_eq_some_iff.1 h
    obtain ⟨h2, e2⟩ := List.getElem?_eq_some_iff.1 h'
    rcases Nat.lt_trichotomy k' k with h3 | h3 | h3
    · have := List.pairwise_iff_getElem.1 hqp k' k h2 h1 h3; omega
    · exact h3.symm
    · have := List.pairwise_iff_getElem.1 hqp k k' h1 h2 h3; omega
  have hd1 : ∀ (k : Nat) (o : Oper) (d : Nat), ql[k]? = some o → o.dst = some d → d < a0.tmps.size := fun k o d h hd => by
    obtain ⟨i, _, hi⟩ := htake k o h
    exact (hL i o hi).2.2.1 d hd
  have honeq : ∀ (k : Nat) (o : Oper) (j : Nat) (o' : Oper) (d : Nat), ql[k]? = some o → ql[j]? = some o' → k ≠ j → o.dst = some d → o'.dst ≠ some d := fun k o j o' d h h' hne hd => by
    obtain ⟨i1, e1, h1⟩ := htake k o h
    obtain ⟨i2, e2, h2⟩ := htake j o' h'
    exact hone i1 o i2 o' d h1 h2 (by rintro rfl; exact hne (hinj _ _ _ e1 e2)) hd
  obtain ⟨vs0, hst0, hfin0⟩ := stepsS_of _ _ (hpre B W (Below.refl _ _) (Nat.le_refl _) hBW)
  have hsize : aσ.tmps.size = a0.tmps.size := by rw [← hfin0, putsS_size]
  have hdef : aσ.defers = a0.defers := by rw [← hfin0, putsS_defers]
  have hout0 : ∀ t : Nat, (∀ i ∈ qi, dstOf l i ≠ some t) → aσ.tmps.getD t undef = a0.tmps.getD t undef := by
    intro t ht
    rw [← hfin0, putsS_other]
    intro o' hm' hd
    obtain ⟨k, hk, rfl⟩ := List.getElem_of_mem hm'
    obtain ⟨i, e1, hi⟩ := htake k _ (List.getElem?_eq_getElem hk)
    exact ht i (List.mem_of_getElem? e1) (by rw [dstOf_some hi]; exact hd)
  refine wp_region_inv hm hback (fun L a w => a.defers = a0.defers ∧ a.tmps.size = a0.tmps.size ∧ (∀ t : Nat, (∀ (i : Nat) (o : Oper), l[i]? = some o → o.dst ≠ some t) → a.tmps.getD t undef = a0.tmps.getD t undef) ∧
    (∀ i ∈ qi, ∀ (o : Oper) (d : Nat), l[i]? = some o → L i = true → o.dst = some d → a.tmps.getD d undef = aσ.tmps.getD d undef) ∧
    ∃ res : Nat → Option Value, R res w ∧ Below B W w ∧ (∀ j, (res j).isSome = true ↔ (j ∈ wi ∧ L j = true)) ∧ (∀ (j : Nat) (o : Oper) (d : Nat) (v : Value), l[j]? = some o → o.dst = some d → res j = some v → a.tmps.getD d undef = v)) ?_ ?_ ?_
  · intro L hL0
    refine ⟨rfl, rfl, fun _ _ => rfl, fun i hi o d ho hLi => (by rw [hL0 i (hqi i hi)] at hLi; cases hLi), fun _ => none, h0 _ ((Below.refl _ W).drew), (Below.refl B W).drew, fun j => ⟨fun h => by simp at h, fun h => ?_⟩, fun j o d v _ _ h => by cases h⟩
    rw [hL0 j (hwi j h.1)] at h
    exact absurd h.2 (by simp)
  · intro L a w i o ho hLi hafter ⟨i1, i2, i3, i4, res, i5, i6, i7, i8⟩
    obtain ⟨hg, hns, hdl, hd2, heyes⟩ := hL i o ho
    have hil := (List.getElem?_eq_some_iff.1 ho).1
    have hBw : B ≤ w.heap.size := Nat.le_trans hBW i6.size
    rw [if_pos (by simp [Region.wanted, hg])]
    rcases hcov i hil with ⟨hq, hnw⟩ | ⟨hw, hnq⟩
    · -- a foreknown one
      obtain ⟨k, hk, hkl⟩ := hpos i o hq ho
      obtain ⟨vs, hst, hfin⟩ := stepsS_of _ _ (hpre w.heap.size w i6 hBw (Nat.le_refl _))
      obtain ⟨v, ai, hY, hv, hno, hyes⟩ := stepsS_key hst hfin hd1 honeq k o hkl
      have he : execOp a.eval o = execOp ai.eval o := by
        refine execOp_congr o (fun c b hc => by rw [notSelect, hc] at hns; cases hns) (eval_eyes fun t ht => ?_)
        by_cases hex : ∃ (j : Nat) (o' : Oper), l[j]? = some o' ∧ o'.dst = some t
        · obtain ⟨j, o', hj, hd⟩ := hex
          obtain ⟨hji, e, he, hb, hon⟩ := heyes t ht j o' hj hd
          have hLj : L j = true := hon ▸ hafter e he hb
          have hjq : j ∈ qi := by
            rcases hcov j (List.getElem?_eq_some_iff.1 hj).1 with h | h
            · exact h.1
            · exact absurd ((dstOf_some hj).trans hd) (hqe i hq o ho t ht j h.1)
          obtain ⟨k', hk', hkl'⟩ := hpos j o' hjq hj
          rw [hyes t k' o' (hord k k' i j hk hk' hji) hkl' hd]
          exact i4 j hjq o' t hj hLj hd
        · have hn' : ∀ (j : Nat) (o' : Oper), l[j]? = some o' → o'.dst ≠ some t := fun j o' hj hd => hex ⟨j, o', hj, hd⟩
          rw [i3 t hn', hno t fun k' o' hk' => by obtain ⟨j, _, hj⟩ := htake k' o' hk'; exact hn' j o' hj]
      have hY' := hY.of_same he (by simp [Region.wanted, hg])
      rcases hY' with ⟨_, hqv⟩ | ⟨hw0, _⟩
      · refine Oper.wp_of_quiet (C := fun w' => ∃ x : Ext w.heap.size w, w' = x.out) (K := fun a' => a' = a.put o.dst v) ⟨⟨w, Below.refl _ _⟩, rfl⟩ ?_ ⟨v, hqv, rfl⟩
        rintro a' w' ⟨z, rfl⟩ rfl
        refine ⟨(put_defers' _ _ _).trans i1, (put_size _ _ _).trans i2, fun t ht => ?_, fun j hj o' d hj' hLj hd => ?_, res, hR res w _ i5 z.below, i6.trans (z.below.mono hBw), fun j => ?_, fun j o' d u hj hd hr => ?_⟩
        · rw [put_other _ _ _ _ (ht i o ho)]; exact i3 t ht
        · by_cases hji : j = i
          · subst hji
            rw [ho] at hj'
            obtain rfl := Option.some.inj hj'
            rw [hd, put_here _ _ _ (by rw [i2]; exact hdl d hd)]
            exact hv d hd
          · have hLj' : L j = true := by unfold plus at hLj; rwa [if_neg hji] at hLj
            rw [put_other _ _ _ _ (hd2 j o' hj' hji d hd)]; exact i4 j hj o' d hj' hLj' hd
        · rw [i7 j]
          unfold plus
          constructor
          · rintro ⟨h1, h2⟩; exact ⟨h1, by rw [h2]; simp⟩
          · rintro ⟨h1, h2⟩
            refine ⟨h1, ?_⟩
            by_cases hji : j = i
            · subst hji; exact absurd h1 hnw
            · rwa [if_neg hji] at h2
        · have hji : j ≠ i := by
            rintro rfl
            have := (i7 j).1 (by rw [hr]; rfl)
            exact hnw this.1
          rw [put_other _ _ _ _ (hd2 j o' hj hji d hd)]; exact i8 j o' d u hj hd hr
      · simp [Region.wanted, hg] at hw0
    · -- one of unforeknown result
      have hri : res i = none := by
        cases h : res i with
        | none => rfl
        | some v => have := (i7 i).1 (by rw [h]; rfl); rw [hLi] at this; exact absurd this.2 (by simp)
      have hey : ∀ t ∈ eyes o, (∀ j ∈ wi, dstOf l j = some t → res j = some (a.tmps.getD t undef)) ∧ ((∀ j ∈ wi, dstOf l j ≠ some t) → a.tmps.getD t undef = aσ.tmps.getD t undef) := by
        intro t ht
        constructor
        · intro j hj hd
          obtain ⟨o', hj', hd'⟩ := dstOf_inv hd
          obtain ⟨hji, e, he, hb, hon⟩ := heyes t ht j o' hj' hd'
          have hLj : L j = true := hon ▸ hafter e he hb
          have := (i7 j).2 ⟨hj, hLj⟩
          obtain ⟨v, hv⟩ := Option.isSome_iff_exists.1 this
          rw [hv, i8 j o' t v hj' hd' hv]
        · intro hno
          by_cases hex : ∃ j ∈ qi, dstOf l j = some t
          · obtain ⟨j, hj, hd⟩ := hex
            obtain ⟨o', hj', hd'⟩ := dstOf_inv hd
            obtain ⟨hji, e, he, hb, hon⟩ := heyes t ht j o' hj' hd'
            exact i4 j hj o' t hj' (hon ▸ hafter e he hb) hd'
          · have hnq' : ∀ j ∈ qi, dstOf l j ≠ some t := fun j hj hd => hex ⟨j, hj, hd⟩
            rw [hout0 t hnq']
            refine i3 t fun j o' hj hd => ?_
            rcases hcov j (List.getElem?_eq_some_iff.1 hj).1 with h | h
            · exact hnq' j h.1 ((dstOf_some hj).trans hd)
            · exact hno j h.1 ((dstOf_some hj).trans hd)
      have hdep : ∀ e ∈ o.after, Region.binds .any e = true → e.on ∈ wi → (res e.on).isSome = true := fun e he hb hin => (i7 e.on).2 ⟨hin, hafter e he hb⟩
      have key : ∀ v w', R (updR res i v) w' → Below B W w' → (fun L a w => a.defers = a0.defers ∧ a.tmps.size = a0.tmps.size ∧ (∀ t : Nat, (∀ (i : Nat) (o : Oper), l[i]? = some o → o.dst ≠ some t) → a.tmps.getD t undef = a0.tmps.getD t undef) ∧
          (∀ i ∈ qi, ∀ (o : Oper) (d : Nat), l[i]? = some o → L i = true → o.dst = some d → a.tmps.getD d undef = aσ.tmps.getD d undef) ∧
          ∃ res : Nat → Option Value, R res w ∧ Below B W w ∧ (∀ j, (res j).isSome = true ↔ (j ∈ wi ∧ L j = true)) ∧ (∀ (j : Nat) (o : Oper) (d : Nat) (v : Value), l[j]? = some o → o.dst = some d → res j = some v → a.tmps.getD d undef = v)) (plus L i) (a.put o.dst v) w' := by
        intro v w' hR' hB'
        refine ⟨(put_defers' _ _ _).trans i1, (put_size _ _ _).trans i2, fun t ht => ?_, fun j hj o' d hj' hLj hd => ?_, updR res i v, hR', hB', fun j => ?_, fun j o' d u hj hd hr => ?_⟩
        · rw [put_other _ _ _ _ (ht i o ho)]; exact i3 t ht
        · have hji : j ≠ i := by rintro rfl; exact hnq hj
          have hLj' : L j = true := by unfold plus at hLj; rwa [if_neg hji] at hLj
          rw [put_other _ _ _ _ (hd2 j o' hj' hji d hd)]; exact i4 j hj o' d hj' hLj' hd
        · unfold updR plus
          by_cases hji : j = i
          · subst hji; simp [hw]
          · rw [if_neg hji, if_neg hji]; exact i7 j
        · unfold updR at hr
          by_cases hji : j = i
          · subst hji
            rw [if_pos rfl] at hr
            obtain rfl := Option.some.inj hr
            rw [ho] at hj
            obtain rfl := Option.some.inj hj
            rw [hd, put_here _ _ _ (by rw [i2]; exact hdl d hd)]
          · rw [if_neg hji] at hr
            rw [put_other _ _ _ _ (hd2 j o' hj hji d hd)]; exact i8 j o' d u hj hd hr
      rcases hstep i o hw ho res a w hri i5 i6 hBw hey hdep with ⟨f, args, h1, h2⟩ | ⟨v, w', h1, h2, h3⟩ | ⟨w', h1, h2, h3⟩
      · unfold Oper.wp
        rw [h1]
        simp only [Oper.upon]
        refine h2.mono ?_
        rintro e w' ⟨v, rfl, h3, h4⟩
        exact key v w' h3 h4
      · unfold Oper.wp
        rw [h1]
        exact key v w' h2 h3
      · unfold Oper.wp
        rw [h1]
        exact key undef w' h2 h3
  · intro L a w hall ⟨i1, i2, i3, i4, res, i5, i6, i7, i8⟩
    have hres : res = fun j => if j ∈ wi then some ((res j).getD undef) else none := by
      funext j
      by_cases hj : j ∈ wi
      · obtain ⟨v, hv⟩ := Option.isSome_iff_exists.1 ((i7 j).2 ⟨hj, hall j (hwi j hj)⟩)
        rw [if_pos hj, hv]; rfl
      · rw [if_neg hj]
        cases h : res j with
        | none => rfl
        | some v => exact absurd ((i7 j).1 (by rw [h]; rfl)).1 hj
    have : a = putW l (fun j => (res j).getD undef) wi aσ := by
      obtain ⟨p1, p2⟩ := putW_size l (fun j => (res j).getD undef) wi aσ
      refine act_ext (i2.trans (hsize.symm.trans p1.symm)) (i1.trans (hdef.symm.trans p2.symm)) fun t => ?_
      by_cases hw : ∃ j ∈ wi, dstOf l j = some t
      · obtain ⟨j, hj, hd⟩ := hw
        obtain ⟨o, ho, hdo⟩ := dstOf_inv hd
        rw [putW_here l _ t j hd wi aσ hj (fun j' hj' hne hd' => by
          obtain ⟨o', ho', hdo'⟩ := dstOf_inv hd'
          exact hone j o j' o' t ho ho' (Ne.symm hne) hdo hdo') (by rw [hsize]; exact (hL j o ho).2.2.1 t hdo)]
        obtain ⟨v, hv⟩ := Option.isSome_iff_exists.1 ((i7 j).2 ⟨hj, hall j (hwi j hj)⟩)
        rw [i8 j o t v ho hdo hv, hv]; rfl
      · rw [putW_other l _ t wi aσ fun j hj hd => hw ⟨j, hj, hd⟩]
        by_cases hq : ∃ j ∈ qi, dstOf l j = some t
        · obtain ⟨j, hj, hd⟩ := hq
          obtain ⟨o, ho, hdo⟩ := dstOf_inv hd
          exact i4 j hj o t ho (hall j (hqi j hj)) hdo
        · rw [hout0 t fun j hj hd => hq ⟨j, hj, hd⟩]
          refine i3 t fun j o' hj hd => ?_
          rcases hcov j (List.getElem?_eq_some_iff.1 hj).1 with h | h
          · exact hq ⟨j, h.1, (dstOf_some hj).trans hd⟩
          · exact hw ⟨j, h.1, (dstOf_some hj).trans hd⟩
    rw [this]
    exact hend _ w (by rw [← hres]; exact i5) i6
end Go.Proofs.Ytgbihaliiogboaa

/- As WildK, over any class of worlds. -/
namespace Go.Proofs.Ytgbihaliiogboaa
open Go.RowKit
set_option linter.unusedSimpArgs false
set_option linter.unusedVariables false
set_option maxHeartbeats 1600000 in
theorem wp_region_wildR {P : Program} {id : Nat} {Q : Exit → Act → World → Prop} {a0 : Act} {W : World} {l : List Oper} (qi wi : List Nat) (aσ : Act) (K : World → Prop) (R : (Nat → Option Value) → World → Prop)
    (hm : P.follows .mixedOrders = true) (hback : backB l = true) (hn : lawB l a0.tmps.size = true) (hc : chainB l qi wi = true) (hK0 : K W.drew) (hKx : ∀ w w', K w → Below w.heap.size w w' → K w')
    (hpre : ∀ (W' : World), K W' → wpQuiet P l.toArray (fun w' => ∃ x : Ext W'.heap.size W', w' = x.out) (fun a' => a' = aσ) (qi.filterMap fun i => l[i]?) a0)
    (h0 : R (fun _ => none) W.drew)
    (hR : ∀ res V V', R res V → Below V.heap.size V V' → R res V')
    (hstep : ∀ (i : Nat) (o : Oper), i ∈ wi → l[i]? = some o → ∀ (res : Nat → Option Value) (a : Act) (w : World), res i = none → R res w → K w →
      (∀ t ∈ eyes o, (∀ j ∈ wi, dstOf l j = some t → res j = some (a.tmps.getD t undef)) ∧ ((∀ j ∈ wi, dstOf l j ≠ some t) → a.tmps.getD t undef = aσ.tmps.getD t undef)) →
      (∀ e ∈ o.after, Region.binds .any e = true → e.on ∈ wi → (res e.on).isSome = true) →
      (∃ f args, (∀ w, (execOp a.eval o).run P w = .ok (.enter f args) w) ∧ Calls P f args w fun e w' => ∃ v, e = .returned v ∧ R (updR res i v) w' ∧ K w') ∨
      (∃ v w', (execOp a.eval o).run P w = .ok (.value v) w' ∧ R (updR res i v) w' ∧ K w') ∨
      (∃ w', (execOp a.eval o).run P w = .ok .skip w' ∧ R (updR res i undef) w' ∧ K w'))
    (hend : ∀ (val : Nat → Value) (w : World), R (fun j => if j ∈ wi then some (val j) else none) w → K w → Q .normal (putW l val wi aσ) w) :
    (Code.region id l.toArray true).wp P Q a0 W := by
  obtain ⟨hcov, hqi, hwi, hqp, hwp, hqe⟩ := chainB_of hc
  have hL := fun i o ho => lawB_of hn i o ho
  have hone : ∀ (i : Nat) (o : Oper) (j : Nat) (o' : Oper) (d : Nat), l[i]? = some o → l[j]? = some o' → i ≠ j → o.dst = some d → o'.dst ≠ some d := fun i o j o' d hi hj hne hd => (hL j o' hj).2.2.2.1 i o hi hne d hd
  obtain ⟨ql, hql⟩ : ∃ ql, ql = qi.filterMap fun i => l[i]? := ⟨_, rfl⟩
  rw [← hql] at hpre
  have hget : ∀ k, ql[k]? = (qi[k]?).bind fun i => l[i]? := fun k => by rw [hql]; exact pick_get l qi hqi k
  have htake : ∀ (k : Nat) (o : Oper), ql[k]? = some o → ∃ i, qi[k]? = some i ∧ l[i]? = some o := fun k o h => by
    rw [hget k] at h
    cases hk : qi[k]? with
    | none => rw [hk] at h; cases h
    | some i => rw [hk] at h; exact ⟨i, rfl, h⟩
  have hpos : ∀ (i : Nat) (o : Oper), i ∈ qi → l[i]? = some o → ∃ k, qi[k]? = some i ∧ ql[k]? = some o := fun i o hi ho => by
    obtain ⟨k, hk, e⟩ := List.getElem_of_mem hi
    have : qi[k]? = some i := by rw [List.getElem?_eq_getElem hk, e]
    exact ⟨k, this, by rw [hget k, this]; exact ho⟩
  have hord : ∀ k k' i i' : Nat, qi[k]? = some i → qi[k']? = some i' → i' < i → k' < k := fun k k' i i' h h' hlt => by
    obtain ⟨h1, rfl⟩ := List.getElem?_eq_some_iff.1 h
    obtain ⟨h2, rfl⟩ := List.getElem?_eq_some_iff.1 h'
    rcases Nat.lt_trichotomy k' k with h3 | h3 | h3
    · exact h3
    · subst h3; omega
    · have := List.pairwise_iff_getElem.1 hqp k k' h1 h2 h3; omega
  have hinj : ∀ k k' i : Nat, qi[k]? = some i → qi[k']? = some i → k = k' := fun k k' i h h' => by
    obtain ⟨h1, e1⟩ := List.getElem?_eq_some_iff.1 h
    obtain ⟨h2, e2⟩ := List.getElem?_eq_some_iff.1 h'
    rcases Nat.lt_trichotomy k' k with h3 | h3 | h3
    · have := List.pairwise_iff_getElem.1 hqp k' k h2 h1 h3; omega
    · exact h3.symm
    · have := List.pairwise_iff_getElem.1 hqp k k' h1 h2 h3; omega
  have hd1 : ∀ (k : Nat) (o : Oper) (d : Nat), ql[k]? = some o → o.dst = some d → d < a0.tmps.size := fun k o d h hd => by
    obtain ⟨i, _, hi⟩ := htake k o h
    exact (hL i o hi).2.2.1 d hd
  have honeq : ∀ (k : Nat) (o : Oper) (j : Nat) (o' : Oper) (d : Nat), ql[k]? = some o → ql[j]? = some o' → k ≠ j → o.dst = some d → o'.dst ≠ some d := fun k o j o' d h h' hne hd => by
    obtain ⟨i1, e1, h1⟩ := htake k o h
    obtain ⟨i2, e2, h2⟩ := htake j o' h'
    exact hone i1 o i2 o' d h1 h2 (by rintro rfl; exact hne (hinj _ _ _ e1 e2)) hd
  obtain ⟨vs0, hst0, hfin0⟩ := stepsS_of _ _ (hpre _ hK0)
  have hsize : aσ.tmps.size = a0.tmps.size := by rw [← hfin0, putsS_size]
  have hdef : aσ.defers = a0.defers := by rw [← hfin0, putsS_defers]
  have hout0 : ∀ t : Nat, (∀ i ∈ qi, dstOf l i ≠ some t) → aσ.tmps.getD t undef = a0.tmps.getD t undef := by
    intro t ht
    rw [← hfin0, putsS_other]
    intro o' hm' hd
    obtain ⟨k, hk, rfl⟩ := List.getElem_of_mem hm'
    obtain ⟨i, e1, hi⟩ := htake k _ (List.getElem?_eq_getElem hk)
    exact ht i (List.mem_of_getElem? e1) (by rw [dstOf_some hi]; exact hd)
  refine wp_region_inv hm hback (fun L a w => a.defers = a0.defers ∧ a.tmps.size = a0.tmps.size ∧ (∀ t : Nat, (∀ (i : Nat) (o : Oper), l[i]? = some o → o.dst ≠ some t) → a.tmps.getD t undef = a0.tmps.getD t undef) ∧
    (∀ i ∈ qi, ∀ (o : Oper) (d : Nat), l[i]? = some o → L i = true → o.dst = some d → a.tmps.getD d undef = aσ.tmps.getD d undef) ∧
    ∃ res : Nat → Option Value, R res w ∧ K w ∧ (∀ j, (res j).isSome = true ↔ (j ∈ wi ∧ L j = true)) ∧ (∀ (j : Nat) (o : Oper) (d : Nat) (v : Value), l[j]? = some o → o.dst = some d → res j = some v → a.tmps.getD d undef = v)) ?_ ?_ ?_
  · intro L hL0
    refine ⟨rfl, rfl, fun _ _ => rfl, fun i hi o d ho hLi => (by rw [hL0 i (hqi i hi)] at hLi; cases hLi), fun _ => none, h0, hK0, fun j => ⟨fun h => by simp at h, fun h => ?_⟩, fun j o d v _ _ h => by cases h⟩
    rw [hL0 j (hwi j h.1)] at h
    exact absurd h.2 (by simp)
  · intro L a w i o ho hLi hafter ⟨i1, i2, i3, i4, res, i5, i6, i7, i8⟩
    obtain ⟨hg, hns, hdl, hd2, heyes⟩ := hL i o ho
    have hil := (List.getElem?_eq_some_iff.1 ho).1
    rw [if_pos (by simp [Region.wanted, hg])]
    rcases hcov i hil with ⟨hq, hnw⟩ | ⟨hw, hnq⟩
    · -- a foreknown one
      obtain ⟨k, hk, hkl⟩ := hpos i o hq ho
      obtain ⟨vs, hst, hfin⟩ := stepsS_of _ _ (hpre w i6)
      obtain ⟨v, ai, hY, hv, hno, hyes⟩ := stepsS_key hst hfin hd1 honeq k o hkl
      have he : execOp a.eval o = execOp ai.eval o := by
        refine execOp_congr o (fun c b hc => by rw [notSelect, hc] at hns; cases hns) (eval_eyes fun t ht => ?_)
        by_cases hex : ∃ (j : Nat) (o' : Oper), l[j]? = some o' ∧ o'.dst = some t
        · obtain ⟨j, o', hj, hd⟩ := hex
          obtain ⟨hji, e, he, hb, hon⟩ := heyes t ht j o' hj hd
          have hLj : L j = true := hon ▸ hafter e he hb
          have hjq : j ∈ qi := by
            rcases hcov j (List.getElem?_eq_some_iff.1 hj).1 with h | h
            · exact h.1
            · exact absurd ((dstOf_some hj).trans hd) (hqe i hq o ho t ht j h.1)
          obtain ⟨k', hk', hkl'⟩ := hpos j o' hjq hj
          rw [hyes t k' o' (hord k k' i j hk hk' hji) hkl' hd]
          exact i4 j hjq o' t hj hLj hd
        · have hn' : ∀ (j : Nat) (o' : Oper), l[j]? = some o' → o'.dst ≠ some t := fun j o' hj hd => hex ⟨j, o', hj, hd⟩
          rw [i3 t hn', hno t fun k' o' hk' => by obtain ⟨j, _, hj⟩ := htake k' o' hk'; exact hn' j o' hj]
      have hY' := hY.of_same he (by simp [Region.wanted, hg])
      rcases hY' with ⟨_, hqv⟩ | ⟨hw0, _⟩
      · refine Oper.wp_of_quiet (C := fun w' => ∃ x : Ext w.heap.size w, w' = x.out) (K := fun a' => a' = a.put o.dst v) ⟨⟨w, Below.refl _ _⟩, rfl⟩ ?_ ⟨v, hqv, rfl⟩
        rintro a' w' ⟨z, rfl⟩ rfl
        refine ⟨(put_defers' _ _ _).trans i1, (put_size _ _ _).trans i2, fun t ht => ?_, fun j hj o' d hj' hLj hd => ?_, res, hR res w _ i5 z.below, hKx w _ i6 z.below, fun j => ?_, fun j o' d u hj hd hr => ?_⟩
        · rw [put_other _ _ _ _ (ht i o ho)]; exact i3 t ht
        · by_cases hji : j = i
          · subst hji
            rw [ho] at hj'
            obtain rfl := Option.some.inj hj'
            rw [hd, put_here _ _ _ (by rw [i2]; exact hdl d hd)]
            exact hv d hd
          · have hLj' : L j = true := by unfold plus at hLj; rwa [if_neg hji] at hLj
            rw [put_other _ _ _ _ (hd2 j o' hj' hji d hd)]; exact i4 j hj o' d hj' hLj' hd
        · rw [i7 j]
          unfold plus
          constructor
          · rintro ⟨h1, h2⟩; exact ⟨h1, by rw [h2]; simp⟩
          · rintro ⟨h1, h2⟩
            refine ⟨h1, ?_⟩
            by_cases hji : j = i
            · subst hji; exact absurd h1 hnw
            · rwa [if_neg hji] at h2
        · have hji : j ≠ i := by
            rintro rfl
            have := (i7 j).1 (by rw [hr]; rfl)
            exact hnw this.1
          rw [put_other _ _ _ _ (hd2 j o' hj hji d hd)]; exact i8 j o' d u hj hd hr
      · simp [Region.wanted, hg] at hw0
    · -- one of unforeknown result
      have hri : res i = none := by
        cases h : res i with
        | none => rfl
        | some v => have := (i7 i).1 (by rw [h]; rfl); rw [hLi] at this; exact absurd this.2 (by simp)
      have hey : ∀ t ∈ eyes o, (∀ j ∈ wi, dstOf l j = some t → res j = some (a.tmps.getD t undef)) ∧ ((∀ j ∈ wi, dstOf l j ≠ some t) → a.tmps.getD t undef = aσ.tmps.getD t undef) := by
        intro t ht
        constructor
        · intro j hj hd
          obtain ⟨o', hj', hd'⟩ := dstOf_inv hd
          obtain ⟨hji, e, he, hb, hon⟩ := heyes t ht j o' hj' hd'
          have hLj : L j = true := hon ▸ hafter e he hb
          have := (i7 j).2 ⟨hj, hLj⟩
          obtain ⟨v, hv⟩ := Option.isSome_iff_exists.1 this
          rw [hv, i8 j o' t v hj' hd' hv]
        · intro hno
          by_cases hex : ∃ j ∈ qi, dstOf l j = some t
          · obtain ⟨j, hj, hd⟩ := hex
            obtain ⟨o', hj', hd'⟩ := dstOf_inv hd
            obtain ⟨hji, e, he, hb, hon⟩ := heyes t ht j o' hj' hd'
            exact i4 j hj o' t hj' (hon ▸ hafter e he hb) hd'
          · have hnq' : ∀ j ∈ qi, dstOf l j ≠ some t := fun j hj hd => hex ⟨j, hj, hd⟩
            rw [hout0 t hnq']
            refine i3 t fun j o' hj hd => ?_
            rcases hcov j (List.getElem?_eq_some_iff.1 hj).1 with h | h
            · exact hnq' j h.1 ((dstOf_some hj).trans hd)
            · exact hno j h.1 ((dstOf_some hj).trans hd)
      have hdep : ∀ e ∈ o.after, Region.binds .any e = true → e.on ∈ wi → (res e.on).isSome = true := fun e he hb hin => (i7 e.on).2 ⟨hin, hafter e he hb⟩
      have key : ∀ v w', R (updR res i v) w' → K w' → (fun L a w => a.defers = a0.defers ∧ a.tmps.size = a0.tmps.size ∧ (∀ t : Nat, (∀ (i : Nat) (o : Oper), l[i]? = some o → o.dst ≠ some t) → a.tmps.getD t undef = a0.tmps.getD t undef) ∧
          (∀ i ∈ qi, ∀ (o : Oper) (d : Nat), l[i]? = some o → L i = true → o.dst = some d → a.tmps.getD d undef = aσ.tmps.getD d undef) ∧
          ∃ res : Nat → Option Value, R res w ∧ K w ∧ (∀ j, (res j).isSome = true ↔ (j ∈ wi ∧ L j = true)) ∧ (∀ (j : Nat) (o : Oper) (d : Nat) (v : Value), l[j]? = some o → o.dst = some d → res j = some v → a.tmps.getD d undef = v)) (plus L i) (a.put o.dst v) w' := by
        intro v w' hR' hB'
        refine ⟨(put_defers' _ _ _).trans i1, (put_size _ _ _).trans i2, fun t ht => ?_, fun j hj o' d hj' hLj hd => ?_, updR res i v, hR', hB', fun j => ?_, fun j o' d u hj hd hr => ?_⟩
        · rw [put_other _ _ _ _ (ht i o ho)]; exact i3 t ht
        · have hji : j ≠ i := by rintro rfl; exact hnq hj
          have hLj' : L j = true := by unfold plus at hLj; rwa [if_neg hji] at hLj
          rw [put_other _ _ _ _ (hd2 j o' hj' hji d hd)]; exact i4 j hj o' d hj' hLj' hd
        · unfold updR plus
          by_cases hji : j = i
          · subst hji; simp [hw]
          · rw [if_neg hji, if_neg hji]; exact i7 j
        · unfold updR at hr
          by_cases hji : j = i
          · subst hji
            rw [if_pos rfl] at hr
            obtain rfl := Option.some.inj hr
            rw [ho] at hj
            obtain rfl := Option.some.inj hj
            rw [hd, put_here _ _ _ (by rw [i2]; exact hdl d hd)]
          · rw [if_neg hji] at hr
            rw [put_other _ _ _ _ (hd2 j o' hj hji d hd)]; exact i8 j o' d u hj hd hr
      rcases hstep i o hw ho res a w hri i5 i6 hey hdep with ⟨f, args, h1, h2⟩ | ⟨v, w', h1, h2, h3⟩ | ⟨w', h1, h2, h3⟩
      · unfold Oper.wp
        rw [h1]
        simp only [Oper.upon]
        refine h2.mono ?_
        rintro e w' ⟨v, rfl, h3, h4⟩
        exact key v w' h3 h4
      · unfold Oper.wp
        rw [h1]
        exact key v w' h2 h3
      · unfold Oper.wp
        rw [h1]
        exact key undef w' h2 h3
  · intro L a w hall ⟨i1, i2, i3, i4, res, i5, i6, i7, i8⟩
    have hres : res = fun j => if j ∈ wi then some ((res j).getD undef) else none := by
      funext j
      by_cases hj : j ∈ wi
      · obtain ⟨v, hv⟩ := Option.isSome_iff_exists.1 ((i7 j).2 ⟨hj, hall j (hwi j hj)⟩)
        rw [if_pos hj, hv]; rfl
      · rw [if_neg hj]
        cases h : res j with
        | none => rfl
        | some v => exact absurd ((i7 j).1 (by rw [h]; rfl)).1 hj
    have : a = putW l (fun j => (res j).getD undef) wi aσ := by
      obtain ⟨p1, p2⟩ := putW_size l (fun j => (res j).getD undef) wi aσ
      refine act_ext (i2.trans (hsize.symm.trans p1.symm)) (i1.trans (hdef.symm.trans p2.symm)) fun t => ?_
      by_cases hw : ∃ j ∈ wi, dstOf l j = some t
      · obtain ⟨j, hj, hd⟩ := hw
        obtain ⟨o, ho, hdo⟩ := dstOf_inv hd
        rw [putW_here l _ t j hd wi aσ hj (fun j' hj' hne hd' => by
          obtain ⟨o', ho', hdo'⟩ := dstOf_inv hd'
          exact hone j o j' o' t ho ho' (Ne.symm hne) hdo hdo') (by rw [hsize]; exact (hL j o ho).2.2.1 t hdo)]
        obtain ⟨v, hv⟩ := Option.isSome_iff_exists.1 ((i7 j).2 ⟨hj, hall j (hwi j hj)⟩)
        rw [i8 j o t v ho hdo hv, hv]; rfl
      · rw [putW_other l _ t wi aσ fun j hj hd => hw ⟨j, hj, hd⟩]
        by_cases hq : ∃ j ∈ qi, dstOf l j = some t
        · obtain ⟨j, hj, hd⟩ := hq
          obtain ⟨o, ho, hdo⟩ := dstOf_inv hd
          exact i4 j hj o t ho (hall j (hqi j hj)) hdo
        · rw [hout0 t fun j hj hd => hq ⟨j, hj, hd⟩]
          refine i3 t fun j o' hj hd => ?_
          rcases hcov j (List.getElem?_eq_some_iff.1 hj).1 with h | h
          · exact hq ⟨j, h.1, (dstOf_some hj).trans hd⟩
          · exact hw ⟨j, h.1, (dstOf_some hj).trans hd⟩
    rw [this]
    exact hend _ w (by rw [← hres]; exact i5) i6
end Go.Proofs.Ytgbihaliiogboaa

/- A region that draws its order: some operations of unforeknown result, and a quiet one that comes last (it may write a slot that others read). -/
namespace Go.Proofs.Ytgbihaliiogboaa
open Go.RowKit
set_option linter.unusedSimpArgs false
set_option linter.unusedVariables false

/-- Number n is the last; it has no guard; each other one is waited for by a later one. -/
def lastB (l : List Oper) (n : Nat) : Bool :=
  decide (l.length = n + 1) && (match l[n]? with | some o => o.guard.isNone | none => false) && ((List.range n).all fun i => (List.range (n + 1)).any fun j => decide (i < j) && match l[j]? with | some o => o.after.toList.any fun e => Region.binds .any e && decide (e.on = i) | none => false)
theorem lastB_of {l : List Oper} {n : Nat} (h : lastB l n = true) : l.length = n + 1 ∧ (∀ o, l[n]? = some o → o.guard = none) ∧ (∀ i, i < n → ∃ j, i < j ∧ j ≤ n ∧ ∃ o, l[j]? = some o ∧ ∃ e ∈ o.after, Region.binds .any e = true ∧ e.on = i) := by
  unfold lastB at h
  simp only [Bool.and_eq_true, List.all_eq_true, decide_eq_true_eq] at h
  obtain ⟨⟨h0, h1⟩, h7⟩ := h
  refine ⟨h0, fun o ho => by rw [ho] at h1; simpa using h1, fun i hi => ?_⟩
  obtain ⟨j, hj, hj2⟩ := List.any_eq_true.1 (h7 i (List.mem_range.2 hi))
  rw [Bool.and_eq_true, decide_eq_true_eq] at hj2
  obtain ⟨hij, hj3⟩ := hj2
  have := List.mem_range.1 hj
  cases ho : l[j]? with
  | none => rw [ho] at hj3; cases hj3
  | some o =>
    rw [ho] at hj3
    obtain ⟨e, he, h8⟩ := List.any_eq_true.1 hj3
    rw [Bool.and_eq_true, decide_eq_true_eq] at h8
    exact ⟨j, hij, by omega, o, ho, e, by simpa using he, h8.1, h8.2⟩
set_option maxHeartbeats 1600000 in
theorem wp_region_wildT {P : Program} {id : Nat} {Q : Exit → Act → World → Prop} {a0 : Act} {W : World} {l : List Oper} (n : Nat) (qi wi : List Nat) (aσ : Act) (K : World → Prop) (R : (Nat → Option Value) → World → Prop)
    (hm : P.follows .mixedOrders = true) (hback : backB l = true) (hn : lawB (l.take n) a0.tmps.size = true) (hc : chainB (l.take n) qi wi = true) (hlb : lastB l n = true) (hK0 : K W.drew) (hKx : ∀ w w', K w → Below w.heap.size w w' → K w')
    (hpre : ∀ (W' : World), K W' → wpQuiet P l.toArray (fun w' => ∃ x : Ext W'.heap.size W', w' = x.out) (fun a' => a' = aσ) (qi.filterMap fun i => (l.take n)[i]?) a0)
    (h0 : R (fun _ => none) W.drew)
    (hR : ∀ res V V', R res V → Below V.heap.size V V' → R res V')
    (hstep : ∀ (i : Nat) (o : Oper), i ∈ wi → (l.take n)[i]? = some o → ∀ (res : Nat → Option Value) (a : Act) (w : World), res i = none → R res w → K w →
      (∀ t ∈ eyes o, (∀ j ∈ wi, dstOf (l.take n) j = some t → res j = some (a.tmps.getD t undef)) ∧ ((∀ j ∈ wi, dstOf (l.take n) j ≠ some t) → a.tmps.getD t undef = aσ.tmps.getD t undef)) →
      (∀ e ∈ o.after, Region.binds .any e = true → e.on ∈ wi → (res e.on).isSome = true) →
      (∃ f args, (∀ w, (execOp a.eval o).run P w = .ok (.enter f args) w) ∧ Calls P f args w fun e w' => ∃ v, e = .returned v ∧ R (updR res i v) w' ∧ K w') ∨
      (∃ v w', (execOp a.eval o).run P w = .ok (.value v) w' ∧ R (updR res i v) w' ∧ K w') ∨
      (∃ w', (execOp a.eval o).run P w = .ok .skip w' ∧ R (updR res i undef) w' ∧ K w'))
    (hlast : ∀ (ol : Oper), l[n]? = some ol → ∀ (val : Nat → Value) (w : World), R (fun j => if j ∈ wi then some (val j) else none) w → K w →
      ∃ v, (execOp (putW (l.take n) val wi aσ).eval ol).run P w = .ok (.value v) w ∧ Q .normal ((putW (l.take n) val wi aσ).put ol.dst v) w) :
    (Code.region id l.toArray true).wp P Q a0 W := by
  obtain ⟨hlen, hglast, hwait⟩ := lastB_of hlb
  obtain ⟨hcov0, hqi0, hwi0, hqp, hwp, hqe⟩ := chainB_of hc
  obtain ⟨pl, hpl⟩ : ∃ pl, pl = l.take n := ⟨_, rfl⟩
  have hpll : pl.length = n := by rw [hpl, List.length_take]; omega
  have hl1 : ∀ (i : Nat) (o : Oper), l[i]? = some o → i < n → pl[i]? = some o := fun i o h hi => by rw [hpl, List.getElem?_take, if_pos hi]; exact h
  rw [← hpl] at hn hc hpre hstep hlast hcov0 hqi0 hwi0 hqe
  rw [hpll] at hcov0 hqi0 hwi0
  have hcov := hcov0
  have hqi := hqi0
  have hwi := hwi0
  have hnl : n < l.length := by omega
  obtain ⟨ol, hol⟩ : ∃ ol, l[n]? = some ol := ⟨_, List.getElem?_eq_getElem hnl⟩
  have hL := fun i o ho => lawB_of hn i o ho
  have hone : ∀ (i : Nat) (o : Oper) (j : Nat) (o' : Oper) (d : Nat), pl[i]? = some o → pl[j]? = some o' → i ≠ j → o.dst = some d → o'.dst ≠ some d := fun i o j o' d hi hj hne hd => (hL j o' hj).2.2.2.1 i o hi hne d hd
  obtain ⟨ql, hql⟩ : ∃ ql, ql = qi.filterMap fun i => pl[i]? := ⟨_, rfl⟩
  rw [← hql] at hpre
  have hget : ∀ k, ql[k]? = (qi[k]?).bind fun i => pl[i]? := fun k => by rw [hql]; exact pick_get pl qi (fun i hi => by rw [hpll]; exact hqi i hi) k
  have htake : ∀ (k : Nat) (o : Oper), ql[k]? = some o → ∃ i, qi[k]? = some i ∧ pl[i]? = some o := fun k o h => by
    rw [hget k] at h
    cases hk : qi[k]? with
    | none => rw [hk] at h; cases h
    | some i => rw [hk] at h; exact ⟨i, rfl, h⟩
  have hpos : ∀ (i : Nat) (o : Oper), i ∈ qi → pl[i]? = some o → ∃ k, qi[k]? = some i ∧ ql[k]? = some o := fun i o hi ho => by
    obtain ⟨k, hk, e⟩ := List.getElem_of_mem hi
    have : qi[k]? = some i := by rw [List.getElem?_eq_getElem hk, e]
    exact ⟨k, this, by rw [hget k, this]; exact ho⟩
  have hord : ∀ k k' i i' : Nat, qi[k]? = some i → qi[k']? = some i' → i' < i → k' < k := fun k k' i i' h h' hlt => by
    obtain ⟨h1, rfl⟩ := List.getElem?_eq_some_iff.1 h
    obtain ⟨h2, rfl⟩ := List.getElem?_eq_some_iff.1 h'
    rcases Nat.lt_trichotomy k' k with h3 | h3 | h3
    · exact h3
    · subst h3; omega
    · have := List.pairwise_iff_getElem.1 hqp k k' h1 h2 h3; omega
  have hinj : ∀ k k' i : Nat, qi[k]? = some i → qi[k']? = some i → k = k' := fun k k' i h h' => by
    obtain ⟨h1, e1⟩ := List.getElem?_eq_some_iff.1 h
    obtain ⟨h2, e2⟩ := List.getElem?_eq_some_iff.1 h'
    rcases Nat.lt_trichotomy k' k with h3 | h3 | h3
    · have := List.pairwise_iff_getElem.1 hqp k' k h2 h1 h3; omega
    · exact h3.symm
    · have := List.pairwise_iff_getElem.1 hqp k k' h1 h2 h3; omega
  have hd1 : ∀ (k : Nat) (o : Oper) (d : Nat), ql[k]? = some o → o.dst = some d → d < a0.tmps.size := fun k o d h hd => by
    obtain ⟨i, _, hi⟩ := htake k o h
    exact (hL i o hi).2.2.1 d hd
  have honeq : ∀ (k : Nat) (o : Oper) (j : Nat) (o' : Oper) (d : Nat), ql[k]? = some o → ql[j]? = some o' → k ≠ j → o.dst = some d → o'.dst ≠ some d := fun k o j o' d h h' hne hd => by
    obtain ⟨i1, e1, h1⟩ := htake k o h
    obtain ⟨i2, e2, h2⟩ := htake j o' h'
    exact hone i1 o i2 o' d h1 h2 (by rintro rfl; exact hne (hinj _ _ _ e1 e2)) hd
  obtain ⟨vs0, hst0, hfin0⟩ := stepsS_of _ _ (hpre _ hK0)
  have hsize : aσ.tmps.size = a0.tmps.size := by rw [← hfin0, putsS_size]
  have hdef : aσ.defers = a0.defers := by rw [← hfin0, putsS_defers]
  have hout0 : ∀ t : Nat, (∀ i ∈ qi, dstOf pl i ≠ some t) → aσ.tmps.getD t undef = a0.tmps.getD t undef := by
    intro t ht
    rw [← hfin0, putsS_other]
    intro o' hm' hd
    obtain ⟨k, hk, rfl⟩ := List.getElem_of_mem hm'
    obtain ⟨i, e1, hi⟩ := htake k _ (List.getElem?_eq_getElem hk)
    exact ht i (List.mem_of_getElem? e1) (by rw [dstOf_some hi]; exact hd)
  let I0 : (Nat → Bool) → Act → World → Prop := fun L a w => a.defers = a0.defers ∧ a.tmps.size = a0.tmps.size ∧ (∀ t : Nat, (∀ (i : Nat) (o : Oper), pl[i]? = some o → o.dst ≠ some t) → a.tmps.getD t undef = a0.tmps.getD t undef) ∧
    (∀ i ∈ qi, ∀ (o : Oper) (d : Nat), pl[i]? = some o → L i = true → o.dst = some d → a.tmps.getD d undef = aσ.tmps.getD d undef) ∧
    ∃ res : Nat → Option Value, R res w ∧ K w ∧ (∀ j, (res j).isSome = true ↔ (j ∈ wi ∧ L j = true)) ∧ (∀ (j : Nat) (o : Oper) (d : Nat) (v : Value), pl[j]? = some o → o.dst = some d → res j = some v → a.tmps.getD d undef = v)
  refine wp_region_inv hm hback (fun L a w => (∀ (j : Nat) (oj : Oper), l[j]? = some oj → L j = true → ∀ e ∈ oj.after, Region.binds .any e = true → L e.on = true) ∧ (L n = false → I0 L a w) ∧ (L n = true → Q .normal a w)) ?_ ?_ ?_
  · intro L hL0
    refine ⟨fun j oj hj hLj => (by rw [hL0 j (List.getElem?_eq_some_iff.1 hj).1] at hLj; cases hLj), fun _ => ?_, fun hLn => (by rw [hL0 n hnl] at hLn; cases hLn)⟩
    refine ⟨rfl, rfl, fun _ _ => rfl, fun i hi o d ho hLi => (by rw [hL0 i (by have := hqi i hi; omega)] at hLi; cases hLi), fun _ => none, h0, hK0, fun j => ⟨fun h => by simp at h, fun h => ?_⟩, fun j o d v _ _ h => by cases h⟩
    rw [hL0 j (by have := hwi j h.1; omega)] at h
    exact absurd h.2 (by simp)
  · intro L a w i o ho hLi hafter ⟨hcl, hI, hQ⟩
    have hil := (List.getElem?_eq_some_iff.1 ho).1
    have hall : L n = true → ∀ k i, i + k = n → L i = true := fun hLn k => by
      induction k using Nat.strongRecOn with
      | _ k ih =>
        intro i hik
        rcases Nat.eq_zero_or_pos k with h | h
        · obtain rfl : i = n := by omega
          exact hLn
        · obtain ⟨j, h1, h2, oj, h3, e, h4, h5, h6⟩ := hwait i (by omega)
          rw [← h6]
          exact hcl j oj h3 (ih (n - j) (by omega) j (by omega)) e h4 h5
    have hLnf : L n = false := by
      cases h : L n with
      | false => rfl
      | true => have := hall h (n - i) i (by omega); rw [hLi] at this; cases this
    obtain ⟨i1, i2, i3, i4, res, i5, i6, i7, i8⟩ := hI hLnf
    have hcl' : ∀ (j : Nat) (oj : Oper), l[j]? = some oj → plus L i j = true → ∀ e ∈ oj.after, Region.binds .any e = true → plus L i e.on = true := by
      intro j oj hj hLj e he hb
      unfold plus at hLj ⊢
      by_cases hji : j = i
      · subst hji
        rw [ho] at hj
        obtain rfl := Option.some.inj hj
        split
        · rfl
        · exact hafter e he hb
      · rw [if_neg hji] at hLj
        split
        · rfl
        · exact hcl j oj hj hLj e he hb
    by_cases hin : i = n
    · -- the last one
      subst hin
      rw [hol] at ho
      obtain rfl := Option.some.inj ho
      have hg := hglast _ hol
      rw [if_pos (by simp [Region.wanted, hg])]
      have hbef : ∀ k j, j + k = i → 0 < k → L j = true := fun k => by
        induction k using Nat.strongRecOn with
        | _ k ih =>
          intro j hjk hk
          obtain ⟨j', h1, h2, oj, h3, e, h4, h5, h6⟩ := hwait j (by omega)
          by_cases hji : j' = i
          · subst hji
            rw [hol] at h3
            obtain rfl := Option.some.inj h3
            rw [← h6]; exact hafter e h4 h5
          · rw [← h6]; exact hcl j' oj h3 (ih (i - j') (by omega) j' (by omega) (by omega)) e h4 h5
      have hall2 : ∀ j, j < i → L j = true := fun j hj => hbef (i - j) j (by omega) (by omega)
      have hres : res = fun j => if j ∈ wi then some ((res j).getD undef) else none := by
        funext j
        by_cases hj : j ∈ wi
        · obtain ⟨v, hv⟩ := Option.isSome_iff_exists.1 ((i7 j).2 ⟨hj, hall2 j (hwi j hj)⟩)
          rw [if_pos hj, hv]; rfl
        · rw [if_neg hj]
          cases h : res j with
          | none => rfl
          | some v => exact absurd ((i7 j).1 (by rw [h]; rfl)).1 hj
      obtain ⟨val, hval⟩ : ∃ val : Nat → Value, val = fun j => (res j).getD undef := ⟨_, rfl⟩
      obtain ⟨p1, p2⟩ := putW_size pl val wi aσ
      have hat : a = putW pl val wi aσ := by
        refine act_ext (i2.trans (hsize.symm.trans p1.symm)) (i1.trans (hdef.symm.trans p2.symm)) fun t => ?_
        by_cases hw : ∃ j ∈ wi, dstOf pl j = some t
        · obtain ⟨j, hj, hd⟩ := hw
          obtain ⟨o', ho', hdo⟩ := dstOf_inv hd
          rw [putW_here pl _ t j hd wi aσ hj (fun j' hj' hne hd' => by
            obtain ⟨o'', ho'', hdo''⟩ := dstOf_inv hd'
            exact hone j o' j' o'' t ho' ho'' (Ne.symm hne) hdo hdo'') (by rw [hsize]; exact (hL j o' ho').2.2.1 t hdo)]
          obtain ⟨v, hv⟩ := Option.isSome_iff_exists.1 ((i7 j).2 ⟨hj, hall2 j (hwi j hj)⟩)
          rw [i8 j o' t v ho' hdo hv, hval]
          show _ = (res j).getD undef
          rw [hv]; rfl
        · rw [putW_other pl _ t wi aσ fun j hj hd => hw ⟨j, hj, hd⟩]
          by_cases hq : ∃ j ∈ qi, dstOf pl j = some t
          · obtain ⟨j, hj, hd⟩ := hq
            obtain ⟨o', ho', hdo⟩ := dstOf_inv hd
            exact i4 j hj o' t ho' (hall2 j (hqi j hj)) hdo
          · rw [hout0 t fun j hj hd => hq ⟨j, hj, hd⟩]
            refine i3 t fun j o' hj hd => ?_
            have hjl := (List.getElem?_eq_some_iff.1 hj).1
            rcases hcov j (by omega) with h | h
            · exact hq ⟨j, h.1, (dstOf_some hj).trans hd⟩
            · exact hw ⟨j, h.1, (dstOf_some hj).trans hd⟩
      obtain ⟨v, h1, h2⟩ := hlast ol hol val w (by rw [hval, ← hres]; exact i5) i6
      rw [← hat] at h1 h2
      unfold Oper.wp
      rw [h1]
      refine ⟨hcl', fun h => ?_, fun _ => ?_⟩
      · unfold plus at h; simp at h
      · exact h2
    have hin2 : i < n := by omega
    have ho := hl1 i o ho hin2
    obtain ⟨hg, hns, hdl, hd2, heyes⟩ := hL i o ho
    rw [if_pos (by simp [Region.wanted, hg])]
    have hplus : plus L i n = false := by unfold plus; rw [if_neg (fun e => hin e.symm)]; exact hLnf
    rcases hcov i (by omega) with ⟨hq, hnw⟩ | ⟨hw, hnq⟩
    · -- a foreknown one
      obtain ⟨k, hk, hkl⟩ := hpos i o hq ho
      obtain ⟨vs, hst, hfin⟩ := stepsS_of _ _ (hpre w i6)
      obtain ⟨v, ai, hY, hv, hno, hyes⟩ := stepsS_key hst hfin hd1 honeq k o hkl
      have he : execOp a.eval o = execOp ai.eval o := by
        refine execOp_congr o (fun c b hc => by rw [notSelect, hc] at hns; cases hns) (eval_eyes fun t ht => ?_)
        by_cases hex : ∃ (j : Nat) (o' : Oper), pl[j]? = some o' ∧ o'.dst = some t
        · obtain ⟨j, o', hj, hd⟩ := hex
          obtain ⟨hji, e, he, hb, hon⟩ := heyes t ht j o' hj hd
          have hLj : L j = true := hon ▸ hafter e he hb
          have hjq : j ∈ qi := by
            rcases hcov j (by omega) with h | h
            · exact h.1
            · exact absurd ((dstOf_some hj).trans hd) (hqe i hq o ho t ht j h.1)
          obtain ⟨k', hk', hkl'⟩ := hpos j o' hjq hj
          rw [hyes t k' o' (hord k k' i j hk hk' hji) hkl' hd]
          exact i4 j hjq o' t hj hLj hd
        · have hn' : ∀ (j : Nat) (o' : Oper), pl[j]? = some o' → o'.dst ≠ some t := fun j o' hj hd => hex ⟨j, o', hj, hd⟩
          rw [i3 t hn', hno t fun k' o' hk' => by obtain ⟨j, _, hj⟩ := htake k' o' hk'; exact hn' j o' hj]
      have hY' := hY.of_same he (by simp [Region.wanted, hg])
      rcases hY' with ⟨_, hqv⟩ | ⟨hw0, _⟩
      · refine Oper.wp_of_quiet (C := fun w' => ∃ x : Ext w.heap.size w, w' = x.out) (K := fun a' => a' = a.put o.dst v) ⟨⟨w, Below.refl _ _⟩, rfl⟩ ?_ ⟨v, hqv, rfl⟩
        rintro a' w' ⟨z, rfl⟩ rfl
        refine ⟨hcl', fun _ => ?_, fun h => (by rw [hplus] at h; cases h)⟩
        refine ⟨(put_defers' _ _ _).trans i1, (put_size _ _ _).trans i2, fun t ht => ?_, fun j hj o' d hj' hLj hd => ?_, res, hR res w _ i5 z.below, hKx w _ i6 z.below, fun j => ?_, fun j o' d u hj hd hr => ?_⟩
        · rw [put_other _ _ _ _ (ht i o ho)]; exact i3 t ht
        · by_cases hji : j = i
          · subst hji
            rw [ho] at hj'
            obtain rfl := Option.some.inj hj'
            rw [hd, put_here _ _ _ (by rw [i2]; exact hdl d hd)]
            exact hv d hd
          · have hLj' : L j = true := by unfold plus at hLj; rwa [if_neg hji] at hLj
            rw [put_other _ _ _ _ (hd2 j o' hj' hji d hd)]; exact i4 j hj o' d hj' hLj' hd
        · rw [i7 j]
          unfold plus
          constructor
          · rintro ⟨h1, h2⟩; exact ⟨h1, by rw [h2]; simp⟩
          · rintro ⟨h1, h2⟩
            refine ⟨h1, ?_⟩
            by_cases hji : j = i
            · subst hji; exact absurd h1 hnw
            · rwa [if_neg hji] at h2
        · have hji : j ≠ i := by
            rintro rfl
            have := (i7 j).1 (by rw [hr]; rfl)
            exact hnw this.1
          rw [put_other _ _ _ _ (hd2 j o' hj hji d hd)]; exact i8 j o' d u hj hd hr
      · simp [Region.wanted, hg] at hw0
    · -- one of unforeknown result
      have hri : res i = none := by
        cases h : res i with
        | none => rfl
        | some v => have := (i7 i).1 (by rw [h]; rfl); rw [hLi] at this; exact absurd this.2 (by simp)
      have hey : ∀ t ∈ eyes o, (∀ j ∈ wi, dstOf pl j = some t → res j = some (a.tmps.getD t undef)) ∧ ((∀ j ∈ wi, dstOf pl j ≠ some t) → a.tmps.getD t undef = aσ.tmps.getD t undef) := by
        intro t ht
        constructor
        · intro j hj hd
          obtain ⟨o', hj', hd'⟩ := dstOf_inv hd
          obtain ⟨hji, e, he, hb, hon⟩ := heyes t ht j o' hj' hd'
          have hLj : L j = true := hon ▸ hafter e he hb
          have := (i7 j).2 ⟨hj, hLj⟩
          obtain ⟨v, hv⟩ := Option.isSome_iff_exists.1 this
          rw [hv, i8 j o' t v hj' hd' hv]
        · intro hno
          by_cases hex : ∃ j ∈ qi, dstOf pl j = some t
          · obtain ⟨j, hj, hd⟩ := hex
            obtain ⟨o', hj', hd'⟩ := dstOf_inv hd
            obtain ⟨hji, e, he, hb, hon⟩ := heyes t ht j o' hj' hd'
            exact i4 j hj o' t hj' (hon ▸ hafter e he hb) hd'
          · have hnq' : ∀ j ∈ qi, dstOf pl j ≠ some t := fun j hj hd => hex ⟨j, hj, hd⟩
            rw [hout0 t hnq']
            refine i3 t fun j o' hj hd => ?_
            have hji := (heyes t ht j o' hj hd).1
            rcases hcov j (by omega) with h | h
            · exact hnq' j h.1 ((dstOf_some hj).trans hd)
            · exact hno j h.1 ((dstOf_some hj).trans hd)
      have hdep : ∀ e ∈ o.after, Region.binds .any e = true → e.on ∈ wi → (res e.on).isSome = true := fun e he hb hin => (i7 e.on).2 ⟨hin, hafter e he hb⟩
      have key : ∀ v w', R (updR res i v) w' → K w' → (fun L a w => (∀ (j : Nat) (oj : Oper), l[j]? = some oj → L j = true → ∀ e ∈ oj.after, Region.binds .any e = true → L e.on = true) ∧ (L n = false → I0 L a w) ∧ (L n = true → Q .normal a w)) (plus L i) (a.put o.dst v) w' := by
        intro v w' hR' hB'
        refine ⟨hcl', fun _ => ?_, fun h => (by rw [hplus] at h; cases h)⟩
        refine ⟨(put_defers' _ _ _).trans i1, (put_size _ _ _).trans i2, fun t ht => ?_, fun j hj o' d hj' hLj hd => ?_, updR res i v, hR', hB', fun j => ?_, fun j o' d u hj hd hr => ?_⟩
        · rw [put_other _ _ _ _ (ht i o ho)]; exact i3 t ht
        · have hji : j ≠ i := by rintro rfl; exact hnq hj
          have hLj' : L j = true := by unfold plus at hLj; rwa [if_neg hji] at hLj
          rw [put_other _ _ _ _ (hd2 j o' hj' hji d hd)]; exact i4 j hj o' d hj' hLj' hd
        · unfold updR plus
          by_cases hji : j = i
          · subst hji; simp [hw]
          · rw [if_neg hji, if_neg hji]; exact i7 j
        · unfold updR at hr
          by_cases hji : j = i
          · subst hji
            rw [if_pos rfl] at hr
            obtain rfl := Option.some.inj hr
            rw [ho] at hj
            obtain rfl := Option.some.inj hj
            rw [hd, put_here _ _ _ (by rw [i2]; exact hdl d hd)]
          · rw [if_neg hji] at hr
            rw [put_other _ _ _ _ (hd2 j o' hj hji d hd)]; exact i8 j o' d u hj hd hr
      rcases hstep i o hw ho res a w hri i5 i6 hey hdep with ⟨f, args, h1, h2⟩ | ⟨v, w', h1, h2, h3⟩ | ⟨w', h1, h2, h3⟩
      · unfold Oper.wp
        rw [h1]
        simp only [Oper.upon]
        refine h2.mono ?_
        rintro e w' ⟨v, rfl, h3, h4⟩
        exact key v w' h3 h4
      · unfold Oper.wp
        rw [h1]
        exact key v w' h2 h3
      · unfold Oper.wp
        rw [h1]
        exact key undef w' h2 h3
  · intro L a w hall ⟨hcl, hI, hQ⟩
    exact hQ (hall n hnl)
end Go.Proofs.Ytgbihaliiogboaa

/- Rows of rows that a call owns. -/
namespace Go.Proofs.Ytgbihaliiogboaa
open Go.RowKit
set_option linter.unusedSimpArgs false
set_option linter.unusedVariables false

/-- Slices, each with an array of its own, none of them that of vout; slice j holds the cells xss[j]. -/
structure RowsG (B : Nat) (T : TypeId) (sz : Nat) (w : World) (vout : Value) (vs : List Value) (xss : List (Nat × List Value)) : Prop where
  len : vs.length = xss.length
  row : ∀ (j : Nat) (v : Value) (x : Nat × List Value), vs[j]? = some v → xss[j]? = some x → w.ownsRow B T sz v x.1 x.2 ∧ Apart v vout
  sep : ∀ (i j : Nat) (v v' : Value), i ≠ j → vs[i]? = some v → vs[j]? = some v' → Apart v v'
theorem RowsG.nil (B : Nat) (T : TypeId) (sz : Nat) (w : World) (vout : Value) : RowsG B T sz w vout [] [] := ⟨rfl, fun j v x h => by simp at h, fun i j v v' _ h => by simp at h⟩
theorem RowsG.below {B B' : Nat} {T : TypeId} {sz : Nat} {w w' : World} {vout : Value} {vs : List Value} {xss : List (Nat × List Value)} (h : RowsG B T sz w vout vs xss) (hb : Below B' w w') (hB : w.heap.size ≤ B') : RowsG B T sz w' vout vs xss :=
  ⟨h.len, fun j v x hv hx => ⟨owns_below2 (h.row j v x hv hx).1 hb hB, (h.row j v x hv hx).2⟩, h.sep⟩
/-- The outer slice has grown. -/
theorem RowsG.grew {B : Nat} {T : TypeId} {sz : Nat} {w w' : World} {vout vout' : Value} {vs : List Value} {xss : List (Nat × List Value)} (h : RowsG B T sz w vout vs xss) (hg : Grew vout vout' w w') : RowsG B T sz w' vout' vs xss :=
  ⟨h.len, fun j v x hv hx => ⟨hg.row (h.row j v x hv hx).1 (h.row j v x hv hx).2, hg.apart (h.row j v x hv hx).1 (h.row j v x hv hx).2⟩, h.sep⟩
theorem RowsG.lt {B : Nat} {T : TypeId} {sz : Nat} {w : World} {vout : Value} {vs : List Value} {xss : List (Nat × List Value)} (h : RowsG B T sz w vout vs xss) {j : Nat} {v : Value} (hv : vs[j]? = some v) : ∀ g, v.ownBlock = some g → B ≤ g ∧ g < w.heap.size := by
  have hj := (List.getElem?_eq_some_iff.1 hv).1
  have hx := List.getElem?_eq_getElem (h.len ▸ hj : j < xss.length)
  exact (h.row j v _ hv hx).1.lt
/-- One slice more, with an array from block H on. -/
theorem RowsG.snoc {B H : Nat} {T : TypeId} {sz : Nat} {w : World} {vout : Value} {vs : List Value} {xss : List (Nat × List Value)} (h : RowsG B T sz w vout vs xss) {v : Value} {x : Nat × List Value} (hv : w.ownsRow B T sz v x.1 x.2) (hnew : ∀ g, v.ownBlock = some g → H ≤ g)
    (hold : ∀ (j : Nat) (u : Value) (g : Nat), vs[j]? = some u → u.ownBlock = some g → g < H) (hout : ∀ g, vout.ownBlock = some g → g < H) : RowsG B T sz w vout (vs ++ [v]) (xss ++ [x]) := by
  have hva : ∀ (j : Nat) (u : Value), vs[j]? = some u → Apart u v := fun j u hu g h1 h2 => by have := hold j u g hu h1; have := hnew g h2; omega
  refine ⟨by simp [h.len], ?_, ?_⟩
  · intro j u y hu hy
    by_cases hj : j < vs.length
    · rw [List.getElem?_append_left hj] at hu
      rw [List.getElem?_append_left (h.len ▸ hj)] at hy
      exact h.row j u y hu hy
    · have hj2 : j < vs.length + 1 := by have := (List.getElem?_eq_some_iff.1 hu).1; simpa using this
      have hj3 : j = vs.length := by omega
      rw [List.getElem?_append_right (by omega), hj3] at hu
      rw [List.getElem?_append_right (by have := h.len; omega), hj3, h.len] at hy
      simp at hu hy
      subst hu hy
      exact ⟨hv, fun g h1 h2 => by have := hnew g h1; have := hout g h2; omega⟩
  · intro i j u u' hij hu hu'
    have key : ∀ (i : Nat) (u : Value), (vs ++ [v])[i]? = some u → (i < vs.length ∧ vs[i]? = some u) ∨ (i = vs.length ∧ u = v) := by
      intro i u hu
      by_cases hi : i < vs.length
      · left; rw [List.getElem?_append_left hi] at hu; exact ⟨hi, hu⟩
      · right
        have hi2 : i < vs.length + 1 := by have := (List.getElem?_eq_some_iff.1 hu).1; simpa using this
        have hi3 : i = vs.length := by omega
        rw [List.getElem?_append_right (by omega), hi3] at hu
        simp at hu
        exact ⟨hi3, hu.symm⟩
    rcases key i u hu with ⟨_, h1⟩ | ⟨h1, h2⟩ <;> rcases key j u' hu' with ⟨_, h3⟩ | ⟨h3, h4⟩
    · exact h.sep i j u u' hij h1 h3
    · subst h4; exact hva i u h1
    · subst h2; exact (hva j u' h3).symm
    · omega

theorem owns_one {w : World} {base : Nat} {T : TypeId} {s n : Nat} {v : Value} {xs : List Value} (h : w.ownsRow base T s v n xs) : v.oneCell' = true := by
  obtain ⟨A, c, rfl⟩ := owns_slc h; rfl
end Go.Proofs.Ytgbihaliiogboaa

/- A whole slice appended to a row that a call owns. -/
namespace Go.Proofs.Ytgbihaliiogboaa
open Go.RowKit
set_option linter.unusedSimpArgs false
set_option linter.unusedVariables false

theorem run_append_void {P : Program} (w : World) (base : Nat) (t ty e : TypeId) (i : TypeInfo) (size : Nat) (ht : P.underlying t = some (.slice e)) (hi : P.info? e = some i)
    (v : Value) (n : Nat) (xs : List Value) (hown : w.ownsRow base e size v n xs) (c : Nat) : (Builtin.append_ #[t, t] ty #[v, .slice none 0 c]).run P w = .ok v w := by
  rcases hown.2 with ⟨rfl, rfl⟩ | ⟨g, cap, cur, rfl, _, _, hnc, _⟩
  · simp [Builtin.append_, run_underlying ht, sizeOf, typeInfo, hi, Builtin.lenOf, Builtin.firstCells]
  · simp [Builtin.append_, run_underlying ht, sizeOf, typeInfo, hi, Builtin.lenOf, Builtin.firstCells, hnc, storeCells]
theorem Grew.of_grown {v v' : Value} {W w' : World} {B : Nat} {e : TypeId} {sz n : Nat} {xs : List Value} (hown : W.ownsRow B e sz v n xs) (hg : W.grownBy w' v.ownBlock) (ho : v'.ownBlock = v.ownBlock ∨ v'.ownBlock = some W.heap.size) : Grew v v' W w' :=
  ⟨fun B0 h1 h2 => (Below.refl B0 W).grown hg h2 h1, fun b o hb hne => (hg.block b (block_lt hb) (fun e => hne e.symm)).trans hb, fun g hg' => by
    rcases ho with ho | ho
    · rw [ho] at hg'; exact .inl hg'
    · rw [ho] at hg'; right; have := Option.some.inj hg'; omega, hg.size⟩
/-- m elements more, which lie elsewhere. -/
theorem wpList_append_many {P : Program} {ops : Array Oper} {rest : List Oper} {o : Oper} {a : Act} {w : World} {Q : Exit → Act → World → Prop} (hgd : o.guard = none) (s x : Operand) (t : TypeId)
    (ho : o.op = .call { callee := .builtin .append, args := #[s, x], argTypes := #[t, t] })
    (base : Nat) (e : TypeId) (i : TypeInfo) (z : Value) (size bytes : Nat) (ht : P.underlying t = some (.slice e)) (hi : P.info? e = some i) (hz : i.zero = some z)
    (hsize : i.size = size) (hby : i.bytes = bytes) (hzs : z.cells.size = size) (hsz : 0 < size) (hby2 : bytes ≤ 100)
    (v : Value) (n : Nat) (xs : List Value) (hown : w.ownsRow base e size v n xs) (hs : a.eval s = v)
    (A : Option Addr) (m c : Nat) (news : List Value) (hl : news.length = m * size) (hsrc : ∀ j u, news[j]? = some u → ∃ ad : Addr, A = some ad ∧ w.cell? (ad.add j) = some u) (h1 : ∀ u ∈ news, u.oneCell' = true)
    (hx : a.eval x = .slice A m c) (hn : n + m ≤ 2200000) (hbase : base ≤ w.heap.size)
    (h : ∀ v' w', w'.ownsRow base e size v' (n + m) (xs ++ news) → Grew v v' w w' → wpList P ops Q rest (a.put o.dst v') w') : wpList P ops Q (o :: rest) a w := by
  have hrun : ∃ v' w', (Builtin.append_ #[t, t] o.type #[v, .slice A m c]).run P w = .ok v' w' ∧ w'.ownsRow base e size v' (n + m) (xs ++ news) ∧ Grew v v' w w' := by
    rcases A with _ | ad
    · have hm : m = 0 := by
        rcases Nat.eq_zero_or_pos m with h0 | h0
        · exact h0
        · have hp : 0 < news.length := by rw [hl]; exact Nat.mul_pos h0 hsz
          obtain ⟨ad, h2, _⟩ := hsrc 0 _ (List.getElem?_eq_getElem hp)
          cases h2
      subst hm
      obtain rfl : news = [] := List.eq_nil_of_length_eq_zero (by simpa using hl)
      exact ⟨v, w, run_append_void w base t o.type e i size ht hi v n xs hown c, by simpa using hown, Grew.of_grown hown (World.grownBy.refl w _) (.inl rfl)⟩
    · obtain ⟨v', w', hr, h2, h3, _, h5⟩ := run_append_own_at (P := P) w base t o.type e i z size bytes ht hi hz hsize hby hzs hsz v n xs hown ad m c news hl (fun j u hj => by
        obtain ⟨ad', h4, h5⟩ := hsrc j u hj
        obtain rfl := Option.some.inj h4
        exact h5) h1 (Nat.le_trans hn (by decide)) (Nat.le_trans (Nat.mul_le_mul hn hby2) (by decide)) hbase
      exact ⟨v', w', hr, h2, Grew.of_grown hown h3 h5⟩
  obtain ⟨v', w', hr, h2, h3⟩ := hrun
  exact Lib.wpList_append_run_sl w hgd s x t ho v (.slice A m c) hs hx hr (h v' w' h2 h3)
end Go.Proofs.Ytgbihaliiogboaa

/- Appends, run. -/
namespace Go.Proofs.Ytgbihaliiogboaa
open Go.RowKit
set_option linter.unusedSimpArgs false
set_option linter.unusedVariables false

theorem run_append_many {P : Program} {w : World} (t ty e : TypeId) (base : Nat) (i : TypeInfo) (z : Value) (size bytes : Nat) (ht : P.underlying t = some (.slice e)) (hi : P.info? e = some i) (hz : i.zero = some z)
    (hsize : i.size = size) (hby : i.bytes = bytes) (hzs : z.cells.size = size) (hsz : 0 < size) (hby2 : bytes ≤ 100)
    (v : Value) (n : Nat) (xs : List Value) (hown : w.ownsRow base e size v n xs)
    (A : Option Addr) (m c : Nat) (news : List Value) (hl : news.length = m * size) (hsrc : ∀ j u, news[j]? = some u → ∃ ad : Addr, A = some ad ∧ w.cell? (ad.add j) = some u) (h1 : ∀ u ∈ news, u.oneCell' = true)
    (hn : n + m ≤ 2200000) (hbase : base ≤ w.heap.size) :
    ∃ v' w', (Builtin.append_ #[t, t] ty #[v, .slice A m c]).run P w = .ok v' w' ∧ w'.ownsRow base e size v' (n + m) (xs ++ news) ∧ Grew v v' w w' := by
  rcases A with _ | ad
  · have hm : m = 0 := by
      rcases Nat.eq_zero_or_pos m with h0 | h0
      · exact h0
      · have hp : 0 < news.length := by rw [hl]; exact Nat.mul_pos h0 hsz
        obtain ⟨ad, h2, _⟩ := hsrc 0 _ (List.getElem?_eq_getElem hp)
        cases h2
    subst hm
    obtain rfl : news = [] := List.eq_nil_of_length_eq_zero (by simpa using hl)
    exact ⟨v, w, run_append_void w base t ty e i size ht hi v n xs hown c, by simpa using hown, Grew.of_grown hown (World.grownBy.refl w _) (.inl rfl)⟩
  · obtain ⟨v', w', hr, h2, h3, _, h5⟩ := run_append_own_at (P := P) w base t ty e i z size bytes ht hi hz hsize hby hzs hsz v n xs hown ad m c news hl (fun j u hj => by
      obtain ⟨ad', h4, h5⟩ := hsrc j u hj
      obtain rfl := Option.some.inj h4
      exact h5) h1 (Nat.le_trans hn (by decide)) (Nat.le_trans (Nat.mul_le_mul hn hby2) (by decide)) hbase
    exact ⟨v', w', hr, h2, Grew.of_grown hown h3 h5⟩
theorem exec_append {P : Program} {o : Oper} {a : Act} {w w' : World} {s x : Operand} {t : TypeId} {v xv v' : Value} (ho : o.op = .call { callee := .builtin .append, args := #[s, x], argTypes := #[t, t] })
    (hs : a.eval s = v) (hx : a.eval x = xv) (hr : (Builtin.append_ #[t, t] o.type #[v, xv]).run P w = .ok v' w') : (execOp a.eval o).run P w = .ok (.value v') w' := by
  simp [execOp, ho, resolve, invoke, builtin, hs, hx, hr, Result.andThen]
end Go.Proofs.Ytgbihaliiogboaa

/- Pairs of pieces, the program's. -/
namespace Go.Proofs.Ytgbihaliiogboaa
open Go.RowKit
set_option linter.unusedSimpArgs false
set_option linter.unusedVariables false
def cellsOfP (ps : List (Int × Int)) : List (Nat × List Value) := ps.map fun p => (2, [Value.int .i64 p.1, Value.int .i64 p.2])
/-- One slice more, apart from all others. -/
theorem RowsG.snocA {B : Nat} {T : TypeId} {sz : Nat} {w : World} {vout : Value} {vs : List Value} {xss : List (Nat × List Value)} (h : RowsG B T sz w vout vs xss) {v : Value} {x : Nat × List Value} (hv : w.ownsRow B T sz v x.1 x.2)
    (hva : ∀ (j : Nat) (u : Value), vs[j]? = some u → Apart u v) (hvo : Apart v vout) : RowsG B T sz w vout (vs ++ [v]) (xss ++ [x]) := by
  refine ⟨by simp [h.len], ?_, ?_⟩
  · intro j u y hu hy
    by_cases hj : j < vs.length
    · rw [List.getElem?_append_left hj] at hu
      rw [List.getElem?_append_left (h.len ▸ hj)] at hy
      exact h.row j u y hu hy
    · have hj2 : j < vs.length + 1 := by have := (List.getElem?_eq_some_iff.1 hu).1; simpa using this
      have hj3 : j = vs.length := by omega
      rw [List.getElem?_append_right (by omega), hj3] at hu
      rw [List.getElem?_append_right (by have := h.len; omega), hj3, h.len] at hy
      simp at hu hy
      subst hu hy
      exact ⟨hv, hvo⟩
  · intro i j u u' hij hu hu'
    have key : ∀ (i : Nat) (u : Value), (vs ++ [v])[i]? = some u → (i < vs.length ∧ vs[i]? = some u) ∨ (i = vs.length ∧ u = v) := by
      intro i u hu
      by_cases hi : i < vs.length
      · left; rw [List.getElem?_append_left hi] at hu; exact ⟨hi, hu⟩
      · right
        have hi2 : i < vs.length + 1 := by have := (List.getElem?_eq_some_iff.1 hu).1; simpa using this
        have hi3 : i = vs.length := by omega
        rw [List.getElem?_append_right (by omega), hi3] at hu
        simp at hu
        exact ⟨hi3, hu.symm⟩
    rcases key i u hu with ⟨_, h1⟩ | ⟨h1, h2⟩ <;> rcases key j u' hu' with ⟨_, h3⟩ | ⟨h3, h4⟩
    · exact h.sep i j u u' hij h1 h3
    · subst h4; exact hva i u h1
    · subst h2; exact (hva j u' h3).symm
    · omega
theorem owns_butt {w w' : World} {B p : Nat} {e : TypeId} {sz n : Nat} {v : Value} {xs : List Value} (h : w.ownsRow B e sz v n xs) (hb : Butt p w w') (hn : v.ownBlock ≠ some p) : w'.ownsRow B e sz v n xs := by
  refine ⟨h.1, ?_⟩
  rcases h.2 with hn' | ⟨g, cap, cur, rfl, hb0, hg, rest⟩
  · exact .inl hn'
  · exact .inr ⟨g, cap, cur, rfl, hb0, hb.at hg (by rintro rfl; exact hn rfl), rest⟩
theorem butt_then {p : Nat} {a b c : World} (h : Butt p a b) (k : Below a.heap.size b c) : Butt p a c :=
  ⟨k.os.trans h.os, k.tape.trans h.tape, k.output.trans h.output, Nat.le_trans h.size k.size, fun i hi hn => (k.block i hi).trans (h.block i hi hn)⟩
theorem butt_grown {p : Nat} {w w' : World} (h : w.grownBy w' (some p)) : Butt p w w' := ⟨h.os, h.tape, h.output, h.size, fun k hk hn => h.block k hk (fun e => hn (Option.some.inj e))⟩
theorem pairs_butt {k1 k2 : IntKind} {p : Nat} {w w' : World} {A : Option Addr} {l : List (Int × Int)} (h : PairsAt k1 k2 w A l) (hb : Butt p w w') (hn : ∀ a, A = some a → a.block ≠ p) : PairsAt k1 k2 w' A l := fun j q hj => by
  obtain ⟨b, off, e, h1, h2, h3⟩ := h j q hj
  have hne : b ≠ p := hn _ e
  exact ⟨b, off, e, Nat.lt_of_lt_of_le h1 hb.size, (World.cell?_of_block (w := w) (a := ⟨b, off + j * 2, none⟩) (hb.block b h1 hne)).trans h2, (World.cell?_of_block (w := w) (a := ⟨b, off + j * 2 + 1, none⟩) (hb.block b h1 hne)).trans h3⟩
theorem owns_keep' {W W' : World} {B : Nat} {e : TypeId} {sz n : Nat} {v : Value} {xs : List Value} (h : W.ownsRow B e sz v n xs) (hk : ∀ (g : Nat) (o : Obj), v.ownBlock = some g → W.heap[g]? = some o → W'.heap[g]? = some o) : W'.ownsRow B e sz v n xs := by
  refine ⟨h.1, ?_⟩
  rcases h.2 with hn | ⟨g, cap, cur, rfl, hb, hg, rest⟩
  · exact .inl hn
  · exact .inr ⟨g, cap, cur, rfl, hb, hk g _ rfl hg, rest⟩
theorem Butt.trans2 {p B : Nat} {a b c : World} (h : Butt p a b) (k : Below B b c) (hB : a.heap.size = B) : Butt p a c :=
  ⟨k.os.trans h.os, k.tape.trans h.tape, k.output.trans h.output, Nat.le_trans h.size k.size, fun i hi hn => (k.block i (by omega)).trans (h.block i hi hn)⟩
theorem exec_assignT {P : Program} {o : Oper} {a : Act} {w : World} {t : Nat} {v : Value} (ho : o.op = .assign (.tmp t)) (hx : a.tmps.getD t undef = v) : (execOp a.eval o).run P w = .ok (.value v) w := by
  have h : a.eval (.tmp t) = v := hx
  unfold execOp; simp [ho, h]
theorem getD_pr (a : Act) (t : Nat) : a.tmps[t]?.getD undef = a.tmps.getD t undef := by simp [Array.getD_eq_getD_getElem?]
theorem wpList_updB {ops : Array Oper} {rest : List Oper} {o : Oper} {a : Act} {w : World} {Q : Exit → Act → World → Prop} (hd : o.dst = none) (hg : o.guard = none) (m x v : Operand) (hop : o.op = Op.mapUpdate 102 m x v)
    (b n : Nat) (T : List Int) (hm : a.eval m = .map (some b)) (h : MapB w b n T) (hn : n < 1000000) (y : Int) (hy : -9223372036854775808 ≤ y ∧ y ≤ 9223372036854775807) (hx : a.eval x = .int .i64 y) (hv : a.eval v = .bool true)
    (hK : ∀ w', MapB w' b (n + 1) (T ++ [y]) → w.grownBy w' (some b) → wpList Try.prog ops Q rest a w') : wpList Try.prog ops Q (o :: rest) a w := by
  have hput : a.put o.dst undef = a := by rw [hd]; rfl
  rw [← hput] at hK
  refine wpList_plain hg fun K' hK' => ?_
  obtain ⟨w', hrun, r1, r2⟩ := h.update hn y hy
  unfold Oper.wp
  simp [execOp, hop, hm, hx, hv, hrun, Result.andThen]
  exact hK' _ _ (hK w' r1 r2)
/-- What stands when some of the operations have been carried out. -/
def PrR (BS bv : Nat) (T2 T1 : TypeId) (vo : Value) (n : Nat) (vs : List Value) (xss : List (Nat × List Value)) (a b : Int) (res : Nat → Option Value) (V : World) : Prop :=
  (res 8 = none → V.ownsRow BS T2 1 vo n vs ∧ RowsG BS T1 1 V vo vs xss) ∧
  (∀ u, res 6 = some u → ∃ g, u = .slice (some ⟨g, 0, none⟩) 2 2 ∧ V.heap[g]? = some (.cells #[.int .i64 a, .int .i64 b] T1 (0, 0)) ∧ bv < g) ∧
  (∀ u2, res 7 = some u2 → ∃ g2 u, u2 = .slice (some ⟨g2, 0, none⟩) 1 1 ∧ res 6 = some u ∧ (res 8 = none → V.heap[g2]? = some (.cells #[u] T2 (0, 0)) ∧ bv < g2)) ∧
  (∀ v', res 8 = some v' → ∃ u, res 6 = some u ∧ V.ownsRow BS T2 1 v' (n + 1) (vs ++ [u]) ∧ RowsG BS T1 1 V v' vs xss ∧ Apart u v')
theorem PrR.zero {BS bv : Nat} {T2 T1 : TypeId} {vo : Value} {n : Nat} {vs : List Value} {xss : List (Nat × List Value)} {a b : Int} {V : World} (h1 : V.ownsRow BS T2 1 vo n vs) (h2 : RowsG BS T1 1 V vo vs xss) : PrR BS bv T2 T1 vo n vs xss a b (fun _ => none) V :=
  ⟨fun _ => ⟨h1, h2⟩, fun u h => (by cases h), fun u h => (by cases h), fun u h => (by cases h)⟩
theorem PrR.mono {BS bv : Nat} {T2 T1 : TypeId} {vo : Value} {n : Nat} {vs : List Value} {xss : List (Nat × List Value)} {a b : Int} {res : Nat → Option Value} {V V' : World} (h : PrR BS bv T2 T1 vo n vs xss a b res V) (hb : Below V.heap.size V V') : PrR BS bv T2 T1 vo n vs xss a b res V' := by
  obtain ⟨h1, h2, h3, h4⟩ := h
  refine ⟨fun h8 => ⟨owns_below2 (h1 h8).1 hb (Nat.le_refl _), (h1 h8).2.below hb (Nat.le_refl _)⟩, fun u hu => ?_, fun u hu => ?_, fun v hv => ?_⟩
  · obtain ⟨g, e, hg, hl⟩ := h2 u hu
    exact ⟨g, e, block_below hb hg (block_lt hg), hl⟩
  · obtain ⟨g2, u', e, h6, hg⟩ := h3 u hu
    exact ⟨g2, u', e, h6, fun h8 => ⟨block_below hb (hg h8).1 (block_lt (hg h8).1), (hg h8).2⟩⟩
  · obtain ⟨u, hu, ho, hr, ha⟩ := h4 v hv
    exact ⟨u, hu, owns_below2 ho hb (Nat.le_refl _), hr.below hb (Nat.le_refl _), ha⟩
theorem RowsG.base {B B' : Nat} {T : TypeId} {sz : Nat} {w : World} {vout : Value} {vs : List Value} {xss : List (Nat × List Value)} (h : RowsG B T sz w vout vs xss) (hB : B' ≤ B) : RowsG B' T sz w vout vs xss :=
  ⟨h.len, fun j v x hv hx => ⟨World.ownsRow.mono (h.row j v x hv hx).1 hB, (h.row j v x hv hx).2⟩, h.sep⟩
theorem RowsG.butt {B p : Nat} {T : TypeId} {sz : Nat} {w w' : World} {vout : Value} {vs : List Value} {xss : List (Nat × List Value)} (h : RowsG B T sz w vout vs xss) (hb : Butt p w w') (hp : p < B) : RowsG B T sz w' vout vs xss :=
  ⟨h.len, fun j v x hv hx => ⟨owns_butt (h.row j v x hv hx).1 hb (fun e => by have := ((h.row j v x hv hx).1.lt _ e).1; omega), (h.row j v x hv hx).2⟩, h.sep⟩
theorem pair_row {BS g : Nat} {T1 : TypeId} {V : World} {a b : Int} (h : V.heap[g]? = some (.cells #[.int .i64 a, .int .i64 b] T1 (0, 0))) (hB : BS ≤ g) : V.ownsRow BS T1 1 (.slice (some ⟨g, 0, none⟩) 2 2) 2 [.int .i64 a, .int .i64 b] :=
  ⟨rfl, .inr ⟨g, 2, #[.int .i64 a, .int .i64 b], rfl, hB, h, Nat.le_refl _, by decide, by simp, rfl⟩⟩
theorem Try.infoSlI : (Try.prog.info? 75).map (fun i => (i.zero, i.size, i.bytes)) = some (some (.slice none 0 0), 1, 24) := by kernel_rfl
set_option maxHeartbeats 3200000 in
set_option maxRecDepth 100000 in
theorem c_pairs (A : Option Addr) (c : Nat) (l : List (Int × Int)) (hw : ∀ i : Int, 0 ≤ i → i < l.length → 0 ≤ wdL l i ∧ wdL l i ≤ 8) (hlen : l.length ≤ 30) (w : World) (hA : PairsAt .i8 .i8 w A l) :
    Calls Try.prog 49 #[.slice A l.length c] w fun e w' => ∃ v vs, e = .returned v ∧ Below w.heap.size w w' ∧ w'.ownsRow w.heap.size 75 1 v (pairL l).length vs ∧ RowsG w.heap.size 2 1 w' v vs (cellsOfP (pairL l)) := by
  have HX := hid (block_new1 w (.cells #[.slice A l.length c] 26) rfl)
  have HW : Hid (Below w.heap.size w (w.alloc (.cells #[.slice A l.length c] 26))) := (Below.refl _ w).alloc (Nat.le_refl _) _
  have HA := hid hA
  have HWd := hid hw
  have HLen := hid hlen
  have HBW := fun W h => hid (c_byWidth A c l hw hlen W h)
  clear hw hlen hA
  have hmm := @run_makeMap Try.prog
  go_enter Try.func49, Try.ntmps49
  go_wp2_with (go_at_call 73; ((with_reducible refine (HBW _ (HA.out.below HW.out (Nat.le_refl _))).out.mono ?_); rintro e1 w1 ⟨v, rfl, hb1, hr1⟩); have HB1 := hid hb1; have HR1 := hid hr1; clear hb1 hr1; obtain ⟨Ao, co, rfl⟩ := owns_slc HR1.out)
  have HX1 := hid (block_below HB1.out HX.out (block_lt HX.out))
  obtain ⟨W3, hW3⟩ : ∃ W3, W3 = (w1.alloc (.map #[] 0)).alloc (.cells #[.map (some w1.heap.size)] 102) := ⟨_, rfl⟩
  obtain ⟨bm, hbm⟩ : ∃ b, b = w1.heap.size := ⟨_, rfl⟩
  have hB13 : Below w1.heap.size w1 W3 := by rw [hW3]; exact ((Below.refl _ w1).alloc (Nat.le_refl _) _).alloc (by simp) _
  have HWW := hid (HW.out.trans (HB1.out.mono HW.out.size))
  have HW3 := hid (HWW.out.trans (hB13.mono HWW.out.size))
  have HX3 := hid (block_below hB13 HX1.out (block_lt HX1.out))
  have HO3 : Hid (RowN (w.heap.size + 1) W3 (.slice Ao (ordL l).length co) (ordL l)) := World.ownsRow.mono (owns_below2 HR1.out hB13 (Nat.le_refl _)) (by simp)
  have HOlt : Hid (∀ g, (Value.slice Ao (ordL l).length co).ownBlock = some g → g < bm) := fun g hg => by rw [hbm]; exact (World.ownsRow.lt HR1.out g hg).2
  have HM3 : Hid (MapB W3 bm 0 []) := by rw [hW3, hbm]; exact (MapB.made w1).keep fun o ho => block_alloc ho _
  have HT3 : Hid (W3.heap[bm + 1]? = some (.cells #[.map (some bm)] 102 (0, 0))) := by rw [hW3, hbm]; exact block_new1 _ _ (by simp)
  have HSz : Hid (W3.heap.size = bm + 2 ∧ w.heap.size + 1 ≤ bm ∧ w.heap.size ≤ bm) := by
    refine ⟨by rw [hW3, hbm]; simp, ?_, ?_⟩
    · rw [hbm]; have := HB1.out.size; simpa using this
    · rw [hbm]; have := HB1.out.size; simp at this; omega
  rw [← hW3, ← hbm]
  obtain ⟨BS, hBS⟩ : ∃ b, b = W3.heap.size := ⟨_, rfl⟩
  have HBS := hid hBS
  have HOL : Hid ((ordL l).length = l.length) := ordL_len (by have := HLen.out; omega) HWd.out
  have HOM : Hid (∀ x ∈ ordL l, 0 ≤ x ∧ x < l.length) := fun x hx => ordL_mem hx
  have HPL : Hid (pairN l (ordL l) (ordL l).length = pairL l) := rfl
  have HOX : Hid (∃ O, O = ordL l) := ⟨_, rfl⟩
  obtain ⟨O, hO⟩ : ∃ O, O = ordL l := ⟨_, rfl⟩
  rw [← hO] at HO3 HOlt HOL HOM HPL ⊢
  clear hW3 hbm hB13 HX1 HB1 HR1 HWW HX HW HBW hmm hBS hO HOX
  have HN0 : Hid (W3.ownsRow BS 75 1 (.slice none 0 0) (pairN l O 0).length []) := World.ownsRow_nil _ _ _ _
  have HG0 : Hid (RowsG BS 2 1 W3 (.slice none 0 0) [] (cellsOfP (pairN l O 0))) := RowsG.nil _ _ _ _ _
  go_loopw [5, 14] (fun vo i wr => ∃ (k n : Nat) (vs : List Value), k ≤ O.length ∧ i = .int .i64 k ∧ Hid (n ≤ k) ∧ Hid (Butt bm W3 wr) ∧ Hid (MapB wr bm n ((pairN l O k).map (·.2))) ∧ Hid (wr.ownsRow BS 75 1 vo (pairN l O k).length vs) ∧ Hid (RowsG BS 2 1 wr vo vs (cellsOfP (pairN l O k)))) (fun _ i _ => O.length - (intOf i).toNat)
  case atStart => exact ⟨0, 0, [], by omega, rfl, Nat.le_refl _, Butt.refl _ _, HM3.out, HN0.out, HG0.out⟩
  case round =>
    clear HN0 HG0 HM3
    obtain ⟨wo, rfl⟩ : ∃ W, W = wr := ⟨_, rfl⟩
    obtain ⟨k, n, vs, hk, rfl, hnk, hbt, hmp, hown, hrows⟩ := hrel
    obtain ⟨Av, cv, rfl⟩ := owns_slc hown.out
    have hL := HLen.out
    have hOL := HOL.out
    by_cases hkl : k < O.length
    · have d1 : decide ((k : Int) < (O.length : Int)) = true := decide_eq_true (by omega)
      have hkI : (k : Int) < (O.length : Int) := by omega
      have hk0 : (0 : Int) ≤ (k : Int) := by omega
      have hk30 : (k : Int) ≤ 30 := by omega
      have hp := List.getElem?_eq_getElem hkl
      obtain ⟨a, haa⟩ : ∃ a, a = O[k] := ⟨_, rfl⟩
      rw [← haa] at hp
      have hra := HOM.out a (List.mem_of_getElem? hp)
      have HSUC := hid (pairN_succ (l := l) hp)
      have hOr : RowN (w.heap.size + 1) wo (.slice Ao O.length co) O := owns_butt HO3.out hbt.out (fun e => by have := HOlt.out _ e; omega)
      obtain ⟨go, cg, e, _, hgl, c0, _⟩ := owns_cell hOr (icells_get hp)
      obtain ⟨rfl, rfl⟩ : Ao = some ⟨go, 0, none⟩ ∧ co = cg := by simpa using e
      have hS := HSz.out
      have hBS := HBS.out
      have hXr := hbt.out.at HX3.out (by omega)
      have hTr := hbt.out.at HT3.out (by omega)
      have hBw : Below w.heap.size w wo := HW3.out.trans ((hbt.out.below (Nat.le_refl bm) (by omega)).mono hS.2.2)
      have hAr := HA.out.below hBw (Nat.le_refl _)
      obtain ⟨a', rfl⟩ : ∃ a' : Nat, a = (a' : Int) := ⟨a.toNat, by omega⟩
      have pa := List.getElem?_eq_getElem (show a' < l.length by omega)
      have eh := haL_get pa
      obtain ⟨b, off, e2, r1, r2, r3⟩ := hAr a' _ pa
      rw [← eh] at r2
      obtain ⟨vh, hvh⟩ : ∃ v, v = haL l a' := ⟨_, rfl⟩
      rw [← hvh] at r2
      have x0 : (0 : Int) ≤ (a' : Int) := by omega
      have x1 : (a' : Int) < (l.length : Int) := by omega
      have x2 : (a' : Int) ≤ 30 := by omega
      have hAl : Below wo.heap.size wo (wo.alloc (.cells #[.int .i64 (a' : Int)] 3)) := (Below.refl _ wo).alloc (Nat.le_refl _) _
      have HX4 := hid (block_alloc hXr (.cells #[.int .i64 (a' : Int)] 3))
      have HT4 := hid (block_alloc hTr (.cells #[.int .i64 (a' : Int)] 3))
      have HV4 := hid (block_new1 wo (.cells #[.int .i64 (a' : Int)] 3) rfl)
      have HM4 := hid (hmp.out.below hAl hmp.out.lt)
      have HO4 : Hid (RowN (w.heap.size + 1) (wo.alloc (.cells #[.int .i64 (a' : Int)] 3)) (.slice (some ⟨go, 0, none⟩) O.length co) O) := World.ownsRow.alloc hOr _
      have HA4 := hid (hAr.below hAl (Nat.le_refl _))
      have HN4 := hid (World.ownsRow.alloc hown.out (.cells #[.int .i64 (a' : Int)] 3))
      have HG4 := hid (hrows.out.below hAl (Nat.le_refl _))
      have HB4 := hid (hbt.out.trans (Butt.of hAl))
      have HLV : Hid (∀ g, (Value.slice Av (pairN l O k).length cv).ownBlock = some g → g < wo.heap.size) := fun g hg => (World.ownsRow.lt hown.out g hg).2
      have HLO : Hid (∀ (j : Nat) (u : Value) (g : Nat), vs[j]? = some u → u.ownBlock = some g → g < wo.heap.size) := fun j u g hu hg => (hrows.out.lt hu g hg).2
      have HBSo : Hid (BS ≤ wo.heap.size) := by show _ ≤ _; rw [hBS]; exact hbt.out.size
      have y0 : (wo.alloc (.cells #[.int .i64 (a' : Int)] 3)).cell? ⟨w.heap.size, 0, none⟩ = some (.slice A l.length c) := cell_block HX4.out rfl
      have y1 := (hAl.cell (p := ⟨b, _, none⟩) r1).trans r2
      have HKL := hid hkl
      have HE2 := hid e2
      have HVH := hid hvh
      have HRA := hid hra
      have HPA := hid hp
      have HNK := hid hnk.out
      clear hp haa hra hOr e hgl hXr hTr hAr hBw pa eh r1 r2 r3 hAl hkl hvh hS hBS hL hOL hown hrows hmp hnk hbt
      rw [e2] at y0
      clear e2
      by_cases hz : vh = 0
      · have d2 : (vh != 0) = false := by rw [hz]; rfl
        have d3 : (vh == 0) = true := by rw [hz]; rfl
        have HZ : Hid (haL l a' = 0) := by show _ = _; rw [← HVH.out]; exact hz
        obtain ⟨T, hT⟩ : ∃ T, T = (pairN l O k).map (·.2) := ⟨_, rfl⟩
        have HTT := hid hT
        rw [← hT] at HM4
        obtain ⟨f, hf⟩ : ∃ f, f = fitB l a' T := ⟨_, rfl⟩
        have HFF := hid hf
        have HT : Hid (TellsI 75 #[] #[.pointer (some ⟨w.heap.size, 0, none⟩), .pointer (some ⟨bm + 1, 0, none⟩), .pointer (some ⟨wo.heap.size, 0, none⟩)] f O (wo.alloc (.cells #[.int .i64 (a' : Int)] 3))) := by
          intro W r hr hbW
          rw [hf]
          exact c_pairClo A c l HWd.out (by have := HLen.out; omega) a' r HRA.out (HOM.out r hr) _ _ bm _ n T W (block_below hbW HX4.out (block_lt HX4.out)) (block_below hbW HT4.out (block_lt HT4.out)) (block_below hbW HV4.out (block_lt HV4.out)) (HM4.out.below hbW HM4.out.lt) (HA4.out.below hbW (Nat.le_refl _))
        have HSL : Hid (SlI (wo.alloc (.cells #[.int .i64 (a' : Int)] 3)) (some ⟨go, 0, none⟩) O) := by
          obtain ⟨A9, c9, e9, h9⟩ := sli_ownI HO4.out
          obtain ⟨rfl, _⟩ : some (⟨go, 0, none⟩ : Addr) = A9 ∧ co = c9 := by simpa using e9
          exact h9
        obtain ⟨z, hz9⟩ : ∃ z, z = idxI f O := ⟨_, rfl⟩
        have HIF : Hid (Calls Try.prog 74 #[.slice (some ⟨go, 0, none⟩) O.length co, .func (.func 75) #[] #[.pointer (some ⟨w.heap.size, 0, none⟩), .pointer (some ⟨bm + 1, 0, none⟩), .pointer (some ⟨wo.heap.size, 0, none⟩)]] (wo.alloc (.cells #[.int .i64 (a' : Int)] 3)) fun e w' => e = .returned (.int .i64 z) ∧ Below (wo.alloc (.cells #[.int .i64 (a' : Int)] 3)).heap.size (wo.alloc (.cells #[.int .i64 (a' : Int)] 3)) w') :=
          (c_indexFN 75 #[] #[.pointer (some ⟨w.heap.size, 0, none⟩), .pointer (some ⟨bm + 1, 0, none⟩), .pointer (some ⟨wo.heap.size, 0, none⟩)] (enters_of Try.func75 (by kernel_rfl) rfl) f _ co O (by have := HOL.out; have := HLen.out; omega) _ HSL.out HT.out).mono fun e w' ⟨n, h1, h2, _, h3⟩ => ⟨by rw [h1, h3, hz9], h2⟩
        have HZ9 := hid hz9
        clear hz hT hf hz9 HT HSL
        cases hany : O.any f with
        | false =>
          have HNone := hid (pairA_none (l := l) (ord := O) (st := pairN l O k) (a := (a' : Int)) (by rw [← HTT.out, ← HFF.out]; exact hany))
          have HZm : Hid (z = -1) := by show _ = _; rw [HZ9.out]; unfold idxI; rw [hany]; rfl
          obtain rfl := HZm.out
          clear hany
          go_wp2_with (go_at_call 74; ((with_reducible refine HIF.out.mono ?_); rintro e5 w5 ⟨rfl, hb5⟩); have HB5 := hid hb5; clear hb5)
          refine ⟨⟨k + 1, n, vs, by have := HKL.out; omega, by go_num, by have := HNK.out; show _ ≤ _; omega, HB4.out.trans (Butt.of HB5.out), ?_, ?_, ?_⟩, by have := HKL.out; simp [intOf]; omega⟩
          · rw [HSUC.out, HNone.out, ← HTT.out]; exact HM4.out.below HB5.out HM4.out.lt
          · rw [HSUC.out, HNone.out]; exact owns_below2 HN4.out HB5.out (Nat.le_refl _)
          · rw [HSUC.out, HNone.out]; exact HG4.out.below HB5.out (Nat.le_refl _)
        | true =>
          obtain ⟨k2, bb, e1, hk2, hfb, hno⟩ := idxI_some hany
          have HYes := hid (pairA_some (l := l) (ord := O) (st := pairN l O k) (a := (a' : Int)) (b := bb) (k := k2) HZ.out hk2 (by rw [← HTT.out, ← HFF.out]; exact hno) (by rw [← HTT.out, ← HFF.out]; exact hfb)).1
          obtain rfl : z = (k2 : Int) := HZ9.out.trans e1
          have hk2l := (List.getElem?_eq_some_iff.1 hk2).1
          have hbr := HOM.out bb (List.mem_of_getElem? hk2)
          obtain ⟨go', cg', e9, _, hgl, c9, _⟩ := owns_cell HO4.out (icells_get hk2)
          obtain ⟨rfl, rfl⟩ : go = go' ∧ co = cg' := by simpa using e9
          have z0 : (0 : Int) ≤ (k2 : Int) := by omega
          have z1 : (k2 : Int) < (O.length : Int) := by omega
          have z2 : decide ((k2 : Int) ≥ 0) = true := decide_eq_true (by omega)
          have HC9 := hid c9
          have HK2 := hid hk2
          have HGL := hid hgl
          have HBR := hid hbr
          clear hany e1 hk2 hfb hno hk2l hbr e9 c9 hgl
          go_wp2_with (go_at_call 74; ((with_reducible refine HIF.out.mono ?_); rintro e5 w5 ⟨rfl, hb5⟩); have HB5 := hid hb5; clear hb5)
          have t0 : w5.cell? ⟨bm + 1, 0, none⟩ = some (.map (some bm)) := cell_block (block_below HB5.out HT4.out (block_lt HT4.out)) rfl
          have t1 := (HB5.out.cell (p := ⟨go, k2, none⟩) HGL.out).trans HC9.out
          refine wp_region_tail 5 (by kernel_rfl) (by kernel_rfl) ?_
          simp only [List.take_succ_cons, List.take_zero, List.drop_succ_cons, List.drop_zero]
          repeat still_step
          refine wpStill_nil ?_
          have HM5 : Hid (MapB w5.drew bm n T) := (HM4.out.below HB5.out HM4.out.lt).keep fun o ho => ho
          go_wp2_with ((with_reducible refine gateN rfl ?_); (refine wpList_updB rfl rfl (.tmp 29) (.tmp 33) (.const (.bool true)) rfl bm n T rfl HM5.out (by have := HNK.out; have := HKL.out; have := HOL.out; have := HLen.out; omega) bb (by have := HBR.out; have := HLen.out; omega) rfl rfl ?_); intro w6 hm6 hg6; have HM6 := hid hm6; have HG6 := hid (butt_grown hg6); clear hm6 hg6)
          obtain ⟨bv, hbv⟩ : ∃ b, b = wo.heap.size := ⟨_, rfl⟩
          have hS := HSz.out
          have hBS := HBS.out
          have hBSo := HBSo.out
          rw [← hbv] at HV4 HLV HLO hBSo ⊢
          have hB46 : Butt bm (wo.alloc (.cells #[.int .i64 (a' : Int)] 3)) w6 := ((Butt.of HB5.out).trans (Butt.of ((Below.refl _ w5).drew))).trans HG6.out
          have HV6 := hid (hB46.at HV4.out (by omega))
          have HO6 : Hid (RowN (w.heap.size + 1) w6 (.slice (some ⟨go, 0, none⟩) O.length co) O) := owns_butt HO4.out hB46 (fun e => by have := HOlt.out _ e; omega)
          have HN6 := hid (owns_butt HN4.out hB46 (fun e => by have := (World.ownsRow.lt HN4.out _ e).1; omega))
          have HGG6 := hid (HG4.out.butt hB46 (by omega))
          have HB6 := hid (HB4.out.trans hB46)
          have HSZ6 : Hid (BS ≤ w6.heap.size) := by have := HB6.out.size; show _ ≤ _; omega
          have HOgo : Hid (go < bm) := HOlt.out go rfl
          have HBMS : Hid (bm < BS ∧ bm < bv ∧ BS ≤ bv ∧ W3.heap.size = BS) := ⟨by omega, by omega, hBSo, hBS.symm⟩
          have HPNl : Hid ((pairN l O k).length ≤ 1000) := by have := pairN_len l O k; have := HKL.out; have := HOL.out; have := HLen.out; show _ ≤ _; omega
          clear hbv hS hBS hBSo hB46 t0 t1
          refine wp_region_wildT 9 [0, 1, 2, 3, 4, 5] [6, 7, 8] ?s1 (fun V => V.heap[bv]? = some (.cells #[.int .i64 (a' : Int)] 3 (0, 0)) ∧ RowN (w.heap.size + 1) V (.slice (some ⟨go, 0, none⟩) O.length co) O ∧ Butt bm W3 V ∧ BS ≤ V.heap.size ∧ MapB V bm (n + 1) (T ++ [bb])) (PrR BS bv 75 2 (.slice Av (pairN l O k).length cv) (pairN l O k).length vs (cellsOfP (pairN l O k)) (a' : Int) bb) (by kernel_rfl) (by kernel_rfl) (by kernel_rfl) (by kernel_rfl) (by kernel_rfl) ?kz ?kx ?pre1 ?zero1 ?mono1 ?step1 ?last1
          case kz => exact ⟨HV6.out, HO6.out, HB6.out.trans (Butt.of ((Below.refl _ _).drew)), HSZ6.out, HM6.out.keep fun o ho => ho⟩
          case kx => exact fun V V' ⟨h1, h2, h3, h4, h5⟩ hb => ⟨block_below hb h1 (block_lt h1), owns_below2 h2 hb (Nat.le_refl _), h3.trans (Butt.of hb), Nat.le_trans h4 hb.size, h5.below hb h5.lt⟩
          case pre1 =>
            intro W' hK
            obtain ⟨h1, h2, h3, h4, h5⟩ := hK
            have l1 := block_lt h1
            have u0 : W'.cell? ⟨bv, 0, none⟩ = some (.int .i64 (a' : Int)) := cell_block h1 rfl
            obtain ⟨go2, cg2, e2, _, l2, u1, _⟩ := owns_cell h2 (icells_get HK2.out)
            have e3 : go = go2 ∧ co = cg2 := by simpa using e2
            rw [← e3.1] at u1 l2
            clear e2 e3 h1 h2 h3 h4 h5
            change wpQuiet _ _ _ _ [_, _, _, _, _, _] _
            repeat (go_big_quiet_step (fail))
            refine wpQuiet_nil ?_
            exact rfl
          case zero1 => exact PrR.zero (owns_below2 HN6.out ((Below.refl _ w6).drew) (Nat.le_refl _)) (HGG6.out.below ((Below.refl _ w6).drew) (Nat.le_refl _))
          case mono1 => exact fun res V V' h hb => h.mono hb
          case step1 =>
            intro i o hi ho res a9 wq hn hRq hKq hey hdep
            simp only [List.mem_cons, List.not_mem_nil, or_false] at hi
            obtain ⟨h1, h2, h3, h4⟩ := hRq
            obtain ⟨kq1, kq2, kq3, kq4, kq5⟩ := hKq
            rcases hi with rfl | rfl | rfl
            · -- the pair
              obtain rfl := Option.some.inj ho
              have e35 : a9.eval (.tmp 35) = .int .i64 (a' : Int) := (hey 35 (by decide)).2 (by decide)
              have e39 : a9.eval (.tmp 39) = .int .i64 bb := (hey 39 (by decide)).2 (by decide)
              have e35' := (getD_pr a9 35).trans e35
              have e39' := (getD_pr a9 39).trans e39
              have hb' : Below wq.heap.size wq (wq.alloc (.cells #[.int .i64 (a' : Int), .int .i64 bb] 2)) := (Below.refl _ wq).alloc (Nat.le_refl _) _
              refine .inr (.inl ⟨.slice (some ⟨wq.heap.size, 0, none⟩) 2 2, wq.alloc (.cells #[.int .i64 (a' : Int), .int .i64 bb] 2), by unfold execOp; go_simp, ⟨fun h8 => ⟨owns_below2 (h1 h8).1 hb' (Nat.le_refl _), (h1 h8).2.below hb' (Nat.le_refl _)⟩, fun u hu => ?_, fun u hu => ?_, fun v hv => ?_⟩, block_below hb' kq1 (block_lt kq1), owns_below2 kq2 hb' (Nat.le_refl _), kq3.trans (Butt.of hb'), Nat.le_trans kq4 hb'.size, kq5.below hb' kq5.lt⟩)
              · obtain rfl := Option.some.inj hu
                exact ⟨_, rfl, block_new1 wq _ rfl, block_lt kq1⟩
              · obtain ⟨g2, u', _, h6, _⟩ := h3 u hu
                rw [hn] at h6; cases h6
              · obtain ⟨u', h6, _⟩ := h4 v hv
                rw [hn] at h6; cases h6
            · -- a slice of the pair
              obtain rfl := Option.some.inj ho
              have r6 := (hey 40 (by decide)).1 6 (by decide) (by decide)
              obtain ⟨g, eg, hg, hlg⟩ := h2 _ r6
              have e40' := (getD_pr a9 40).trans eg
              have hb' : Below wq.heap.size wq (wq.alloc (.cells #[.slice (some ⟨g, 0, none⟩) 2 2] 75)) := (Below.refl _ wq).alloc (Nat.le_refl _) _
              refine .inr (.inl ⟨.slice (some ⟨wq.heap.size, 0, none⟩) 1 1, wq.alloc (.cells #[.slice (some ⟨g, 0, none⟩) 2 2] 75), by unfold execOp; go_simp, ⟨fun h8 => ⟨owns_below2 (h1 h8).1 hb' (Nat.le_refl _), (h1 h8).2.below hb' (Nat.le_refl _)⟩, fun u hu => ?_, fun u hu => ?_, fun v hv => ?_⟩, block_below hb' kq1 (block_lt kq1), owns_below2 kq2 hb' (Nat.le_refl _), kq3.trans (Butt.of hb'), Nat.le_trans kq4 hb'.size, kq5.below hb' kq5.lt⟩)
              · obtain ⟨g', e', hg', hl'⟩ := h2 u hu
                exact ⟨g', e', block_below hb' hg' (block_lt hg'), hl'⟩
              · obtain rfl := Option.some.inj hu
                exact ⟨wq.heap.size, .slice (some ⟨g, 0, none⟩) 2 2, rfl, by show res 6 = _; rw [r6, eg], fun _ => ⟨block_new1 wq _ rfl, block_lt kq1⟩⟩
              · obtain ⟨u', h6, ho', hr', ha'⟩ := h4 v hv
                exact ⟨u', h6, owns_below2 ho' hb' (Nat.le_refl _), hr'.below hb' (Nat.le_refl _), ha'⟩
            · -- the append
              obtain rfl := Option.some.inj ho
              have r7 := (hey 41 (by decide)).1 7 (by decide) (by decide)
              obtain ⟨g2, u, eg2, h6, hg2⟩ := h3 _ r7
              obtain ⟨g, rfl, hg, hlg⟩ := h2 _ h6
              obtain ⟨hc2, hlg2⟩ := hg2 hn
              have e34 : a9.eval (.tmp 34) = .slice Av (pairN l O k).length cv := (hey 34 (by decide)).2 (by decide)
              have e41 : a9.eval (.tmp 41) = .slice (some ⟨g2, 0, none⟩) 1 1 := eg2
              obtain ⟨hO1, hR1⟩ := h1 hn
              obtain ⟨i0, hi0, hz0, hz1, hz2⟩ := info_parts Try.infoSlI
              obtain ⟨v', w', hrun, hown', hgr⟩ := run_append_many (P := Try.prog) (w := wq) 46 46 75 BS i0 (.slice none 0 0) 1 24 Try.underlying46 hi0 hz0 hz1 hz2 rfl (by decide) (by decide) _ _ _ hO1 (some ⟨g2, 0, none⟩) 1 1 [.slice (some ⟨g, 0, none⟩) 2 2] rfl (fun j u hu => by
                cases j with
                | zero => simp at hu; subst hu; exact ⟨_, rfl, cell_block hc2 rfl⟩
                | succ j => simp at hu) (fun u hu => by rw [List.mem_singleton] at hu; subst hu; rfl) (by have := HPNl.out; omega) kq4
              have hvo : ∀ g', (Value.slice Av (pairN l O k).length cv).ownBlock = some g' → BS ≤ g' ∧ g' < bv := fun g' h => ⟨(World.ownsRow.lt hO1 g' h).1, HLV.out g' h⟩
              have hbB : Below BS wq w' := hgr.below BS (fun g' h => (hvo g' h).1) kq4
              have hkeep : ∀ b o, wq.heap[b]? = some o → (b < BS ∨ bv ≤ b) → w'.heap[b]? = some o := fun b o hb hh => hgr.block b o hb (fun e => by have := hvo b e; omega)
              have hbms := HBMS.out
              refine .inr (.inl ⟨v', w', exec_append rfl e34 e41 hrun, ⟨fun h8 => (by cases h8), fun u hu => ?_, fun u hu => ?_, fun v hv => ?_⟩, hkeep _ _ kq1 (.inr (Nat.le_refl _)), owns_keep' kq2 (fun g' o h' ho' => hkeep g' o ho' (.inl (by have := HOlt.out g' h'; omega))), kq3.trans2 hbB hbms.2.2.2, Nat.le_trans kq4 hgr.size, kq5.below hbB hbms.1⟩)
              · obtain ⟨g', e', hg', hl'⟩ := h2 u hu
                exact ⟨g', e', hkeep _ _ hg' (.inr (Nat.le_of_lt hl')), hl'⟩
              · obtain ⟨g', u', e', h6', _⟩ := h3 u hu
                exact ⟨g', u', e', h6', fun h8 => by cases h8⟩
              · obtain rfl := Option.some.inj hv
                refine ⟨_, h6, hown', hR1.grew hgr, fun g' h1' h2' => ?_⟩
                have e1 : g = g' := by simpa [Value.ownBlock] using h1'
                rcases hgr.own g' h2' with h7 | h7
                · have := (hvo g' h7).2; omega
                · have := block_lt hg; omega
          case last1 =>
            intro ol hol val wq hRq hKq
            obtain rfl := Option.some.inj hol
            obtain ⟨_, h2, _, h4⟩ := hRq
            obtain ⟨u, h6, ho8, hr8, ha8⟩ := h4 (val 8) rfl
            obtain rfl : val 6 = u := Option.some.inj h6
            obtain ⟨g, eg, hg, hlg⟩ := h2 (val 6) rfl
            refine ⟨val 8, exec_assignT (t := 42) rfl (putW_here _ val 42 8 ?p1 _ _ ?p2 ?p3 ?p4), ?_⟩
            case p1 => rfl
            case p2 => decide
            case p3 => decide
            case p4 => exact Nat.le_of_ble_eq_true rfl
            obtain ⟨A8, c8, e8⟩ := owns_slc ho8
            rw [e8] at ho8 hr8 ha8
            have hbms := HBMS.out
            have hrow : wq.ownsRow BS 2 1 (val 6) 2 [.int .i64 (a' : Int), .int .i64 bb] := by rw [eg]; exact pair_row hg (by omega)
            have hrows8 := hid (RowsG.snocA (x := (2, [.int .i64 (a' : Int), .int .i64 bb])) hr8 hrow (fun j u hu g' h1 h2' => by
              have := HLO.out j u g' hu h1
              rw [eg] at h2'
              have e1 : g = g' := by simpa [Value.ownBlock] using h2'
              omega) ha8)
            have HO8 := hid ho8
            have HKB := hid hKq
            have hcells : Hid (cellsOfP (pairN l O k) ++ [(2, [.int .i64 (a' : Int), .int .i64 bb])] = cellsOfP (pairN l O k ++ [((a' : Int), bb)])) := by simp [Hid, cellsOfP]
            clear h2 h4 hrow hr8 ha8 ho8 hg hbms h6 hKq
            rw [e8]
            change Exit.inBlock _ _ _ (((((_ : Act).put (some 40) (val 6)).put (some 41) (val 7)).put (some 42) (val 8)).put (some 5) _) _
            rw [e8, eg]
            simp only [Act.put, List.setIfInBounds_toArray, List.set_cons_zero, List.set_cons_succ]
            clear e8
            go_wp2_with fail
            refine ⟨⟨k + 1, n + 1, vs ++ [val 6], by have := HKL.out; omega, by go_num, by have := HNK.out; show _ ≤ _; omega, HKB.out.2.2.1, ?_, ?_, ?_⟩, by have := HKL.out; simp [intOf]; omega⟩
            · rw [HSUC.out, HYes.out, List.map_append, ← HTT.out]; exact HKB.out.2.2.2.2
            · rw [HSUC.out, HYes.out, List.length_append]; exact HO8.out
            · rw [HSUC.out, HYes.out, ← hcells.out]; exact hrows8.out
      · have d2 : (vh != 0) = true := by rw [bne_iff_ne]; exact hz
        have d3 : (vh == 0) = false := by rw [beq_eq_false_iff_ne]; exact hz
        have HNo := hid (pairA_no (l := l) (ord := O) (st := pairN l O k) (a := (a' : Int)) (by rw [← HVH.out]; exact hz))
        clear hz
        go_wp2_with fail
        refine ⟨⟨k + 1, n, vs, by have := HKL.out; omega, by go_num, by have := HNK.out; show _ ≤ _; omega, HB4.out, ?_, ?_, ?_⟩, by have := HKL.out; simp [intOf]; omega⟩
        · rw [HSUC.out, HNo.out]; exact HM4.out
        · rw [HSUC.out, HNo.out]; exact HN4.out
        · rw [HSUC.out, HNo.out]; exact HG4.out
    · obtain rfl : k = O.length := by omega
      have d1 : decide ((O.length : Int) < (O.length : Int)) = false := decide_eq_false (by omega)
      have hS := HSz.out
      have hBw : Below w.heap.size w wo := HW3.out.trans ((hbt.out.below (Nat.le_refl bm) (by omega)).mono hS.2.2)
      have HBw := hid hBw
      have HBB : Hid (w.heap.size ≤ BS) := by have := HBS.out; show _ ≤ _; omega
      clear hL hOL hS hBw
      go_wp2_with fail
      go_ret
      refine ⟨_, vs, rfl, HBw.out, ?_, ?_⟩
      · rw [← HPL.out]; exact World.ownsRow.mono hown.out HBB.out
      · rw [← HPL.out]; exact hrows.out.base HBB.out
end Go.Proofs.Ytgbihaliiogboaa

/- The order of pieces, the reference's. -/
namespace Go.Proofs.Ytgbihaliiogboaa
open Go.RowKit
set_option linter.unusedSimpArgs false
set_option linter.unusedVariables false
def tailF (l : List (Int × Int)) : Nat → List Int
  | 0 => []
  | k + 1 => ordFrom l k
theorem ordFrom_tail (l : List (Int × Int)) : ∀ k, ordFrom l k = filW l k ++ tailF l k
  | 0 => by simp [ordFrom, tailF]
  | k + 1 => rfl
/-- The first i of them. -/
def filI (l : List (Int × Int)) (k i : Nat) : List Int := (upL i).filter fun j => decide (wdL l j = (k : Int))
theorem filI_all (l : List (Int × Int)) (k : Nat) : filI l k l.length = filW l k := rfl
theorem filI_succ (l : List (Int × Int)) (k i : Nat) : filI l k (i + 1) = filI l k i ++ if wdL l i = (k : Int) then [(i : Int)] else [] := by
  unfold filI
  rw [upL_succ, List.filter_append]
  congr 1
  by_cases h : wdL l i = (k : Int)
  · simp [h]
  · simp [h]
theorem filI_len (l : List (Int × Int)) (k i : Nat) : (filI l k i).length ≤ i := by
  unfold filI
  have := List.length_filter_le (fun j => decide (wdL l j = (k : Int))) (upL i)
  rw [upL_len] at this
  exact this
set_option maxHeartbeats 1600000 in
set_option maxRecDepth 100000 in
theorem c_l05Order (A : Option Addr) (c : Nat) (l : List (Int × Int)) (hw : ∀ i : Int, 0 ≤ i → i < l.length → 0 ≤ wdL l i ∧ wdL l i ≤ 8) (hlen : l.length ≤ 1000) (w : World) (hA : PairsAt .i8 .i8 w A l) :
    Calls Try.prog 72 #[.slice A l.length c] w fun e w' => ∃ v, e = .returned v ∧ Below w.heap.size w w' ∧ RowI w.heap.size w' v (ordL l) := by
  have HM := hid (RowI.made (B := w.heap.size) (w := w) (Nat.le_refl _))
  have HB0 : Hid (Below w.heap.size w (w.alloc (.cells #[] 2))) := (Below.refl _ w).alloc (Nat.le_refl _) _
  have HA := hid hA
  have HWd := hid hw
  have HLen := hid hlen
  have HT0 : Hid ([] ++ tailF l 9 = ordL l) := rfl
  have HOL : Hid ((ordL l).length = l.length) := ordL_len hlen hw
  clear hw hlen hA
  go_enter Try.func72, Try.ntmps72
  go_wp2_with fail
  go_loopw [3, 4] (fun v u wr => ∃ (k : Nat) (O : List Int), k ≤ 9 ∧ u = .int .i8 ((k : Int) - 1) ∧ Hid (Below w.heap.size w wr) ∧ Hid (RowI w.heap.size wr v O) ∧ Hid (O ++ tailF l k = ordL l)) (fun _ u _ => (intOf u + 1).toNat)
  case atStart => exact ⟨9, [], by omega, rfl, HB0.out, HM.out, HT0.out⟩
  case round =>
    clear HM HB0 HT0
    obtain ⟨wo, rfl⟩ : ∃ W, W = wr := ⟨_, rfl⟩
    obtain ⟨k, O, hk, rfl, hb, hr, he⟩ := hrel
    obtain ⟨Ao, co, rfl⟩ := owns_slc hr.out
    by_cases hk0 : k = 0
    · subst hk0
      have d1 : decide (((0 : Nat) : Int) - 1 ≥ 0) = false := decide_eq_false (by omega)
      have HE : Hid (O = ordL l) := by have := he.out; rw [show tailF l 0 = [] from rfl, List.append_nil] at this; exact this
      go_wp2_with fail
      go_ret
      refine ⟨_, rfl, hb.out, ?_⟩
      rw [← HE.out]; exact hr.out
    · obtain ⟨q, rfl⟩ : ∃ q, k = q + 1 := ⟨k - 1, by omega⟩
      have ek : ((q + 1 : Nat) : Int) - 1 = (q : Int) := by omega
      rw [ek]
      have d1 : decide ((q : Int) ≥ 0) = true := decide_eq_true (by omega)
      have e8 : IntKind.i8.wrap ((q : Int) - 1) = (q : Int) - 1 := IntWalk.i8_in _ (by omega)
      have HFT := hid (ordFrom_tail l q)
      have HE : Hid (O ++ (filW l q ++ tailF l q) = ordL l) := by rw [← HFT.out]; exact he.out
      have HOl : Hid (O.length ≤ 1000) := by have h := congrArg List.length HE.out; rw [HOL.out, List.length_append] at h; have := HLen.out; show _ ≤ _; omega
      have HK := hid hk
      have q9 : (q : Int) ≤ 8 := by omega
      clear ek hk0 hk
      go_wp2_with fail
      go_loopw [3, 5] (fun v u wr => ∃ i : Nat, i ≤ l.length ∧ u = .int .i64 i ∧ Hid (Below w.heap.size w wr) ∧ Hid (RowI w.heap.size wr v (O ++ filI l q i))) (fun _ u _ => l.length - (intOf u).toNat)
      case atStart => exact ⟨0, by omega, rfl, hb.out, by show RowI _ _ _ (O ++ []); rw [List.append_nil]; exact hr.out⟩
      case round =>
        obtain ⟨wm, rfl⟩ : ∃ W, W = wr := ⟨_, rfl⟩
        obtain ⟨i, hi, rfl, hbm, hrm⟩ := hrel
        obtain ⟨Am, cm, rfl⟩ := owns_slc hrm.out
        by_cases hil : i < l.length
        · have d2 : decide ((i : Int) < (l.length : Int)) = true := decide_eq_true (by omega)
          have hiI : (i : Int) < (l.length : Int) := by omega
          have hi0 : (0 : Int) ≤ (i : Int) := by omega
          have hi1 : (i : Int) ≤ 1000 := by have := HLen.out; omega
          have hp := List.getElem?_eq_getElem hil
          have hwd := wdL_get hp
          obtain ⟨b, off, rfl, r1, r2, r3⟩ := HA.out i _ hp
          have c1 := (hbm.out.cell (p := ⟨b, _, none⟩) r1).trans r3
          rw [← hwd] at c1
          have HS := hid (filI_succ l q i)
          obtain ⟨x, hx⟩ : ∃ x, x = wdL l i := ⟨_, rfl⟩
          rw [← hx] at c1 HS
          have hfl := filI_len l q i
          have HFL : Hid ((O ++ filI l q i).length ≤ 1100000) := by rw [List.length_append]; have := HOl.out; have := HLen.out; show _ ≤ _; omega
          have HIL := hid hil
          have LW : w.heap.size ≤ wm.heap.size := hbm.out.size
          clear hp hwd hx r2 r3 hil hfl
          by_cases hxq : x = (q : Int)
          · have d3 : (x == (q : Int)) = true := by rw [beq_iff_eq]; exact hxq
            rw [if_pos hxq] at HS
            clear hxq
            go_wp2_with ((with_reducible refine gate (N := 27) rfl ?_); (refine wp_appI rfl (.tmp 24) (.tmp 26) rfl w.heap.size _ _ (i : Int) hrm.out rfl _ rfl HFL.out LW rfl ?_); intro v' w6 hown hg; obtain ⟨A6, c6, rfl⟩ := owns_slc hown; have HB6 := hid (hbm.out.trans (hrm.out.belowG hg LW)); have HO6 := hid hown; clear hown hg)
            refine ⟨⟨i + 1, by have := HIL.out; omega, by go_num, HB6.out, ?_⟩, by have := HIL.out; simp [intOf]; omega⟩
            have := HO6.out
            rw [HS.out, ← List.append_assoc]
            exact hid (by simpa using this)
          · have d3 : (x == (q : Int)) = false := by rw [beq_eq_false_iff_ne]; exact hxq
            rw [if_neg hxq, List.append_nil] at HS
            clear hxq
            go_wp2_with fail
            refine ⟨⟨i + 1, by have := HIL.out; omega, by go_num, hbm.out, ?_⟩, by have := HIL.out; simp [intOf]; omega⟩
            rw [HS.out]
            exact hrm.out
        · obtain rfl : i = l.length := by omega
          have d2 : decide ((l.length : Int) < (l.length : Int)) = false := decide_eq_false (by omega)
          go_wp2_with fail
          refine ⟨⟨q, O ++ filW l q, by have := HK.out; omega, rfl, hbm.out, ?_, ?_⟩, by simp [intOf]⟩
          · rw [← filI_all]; exact hrm.out
          · rw [List.append_assoc]; exact HE.out
end Go.Proofs.Ytgbihaliiogboaa
