/- A region that draws its order: quiet operations, then one call whose result is not foreknown, then quiet operations behind it. -/
import Derived.Test.YtjcmdihadblodaaReg
namespace Go.Proofs.Ytjcmdihadblodaa
open Go.RowKit
set_option linter.unusedSimpArgs false
set_option linter.unusedVariables false

/-- Each operation ahead of number n is awaited, and each one behind it waits. -/
def wildB (l : List Oper) (n : Nat) : Bool :=
  ((List.range n).all fun i => (List.range (n + 1)).any fun j => decide (i < j) && (match l[j]? with | some o => o.after.toList.any fun e => Region.binds .any e && e.on == i | none => false)) &&
  (List.range l.length).all fun t => decide (t ≤ n) || (match l[t]? with | some o => o.after.toList.any fun e => Region.binds .any e && decide (n ≤ e.on) && decide (e.on < t) | none => true)
theorem wildB_pre {l : List Oper} {n : Nat} (h : wildB l n = true) (i : Nat) (hi : i < n) : ∃ j o, i < j ∧ j ≤ n ∧ l[j]? = some o ∧ ∃ e ∈ o.after, Region.binds .any e = true ∧ e.on = i := by
  unfold wildB at h
  rw [Bool.and_eq_true] at h
  have h1 := List.all_eq_true.1 h.1 i (List.mem_range.2 hi)
  obtain ⟨j, hj, h2⟩ := List.any_eq_true.1 h1
  rw [Bool.and_eq_true] at h2
  obtain ⟨h3, h4⟩ := h2
  cases hl : l[j]? with
  | none => rw [hl] at h4; cases h4
  | some o =>
    rw [hl] at h4
    obtain ⟨e, he, h5⟩ := List.any_eq_true.1 h4
    rw [Bool.and_eq_true] at h5
    exact ⟨j, o, by simpa using h3, by have := List.mem_range.1 hj; omega, hl, e, by simpa using he, h5.1, by simpa using h5.2⟩
theorem wildB_post {l : List Oper} {n : Nat} (h : wildB l n = true) (t : Nat) (o : Oper) (ho : l[t]? = some o) (ht : n < t) : ∃ e ∈ o.after, Region.binds .any e = true ∧ n ≤ e.on ∧ e.on < t := by
  unfold wildB at h
  rw [Bool.and_eq_true] at h
  have h1 := List.all_eq_true.1 h.2 t (List.mem_range.2 (List.getElem?_eq_some_iff.1 ho).1)
  rw [ho] at h1
  simp only [Bool.or_eq_true, decide_eq_true_eq] at h1
  rcases h1 with h1 | h1
  · omega
  · obtain ⟨e, he, h5⟩ := List.any_eq_true.1 h1
    simp only [Bool.and_eq_true, decide_eq_true_eq] at h5
    exact ⟨e, by simpa using he, h5.1.1, h5.1.2, h5.2⟩
theorem act_ext {a b : Act} (hs : a.tmps.size = b.tmps.size) (hd : a.defers = b.defers) (h : ∀ k, a.tmps.getD k undef = b.tmps.getD k undef) : a = b := by
  have ht : a.tmps = b.tmps := by
    apply Array.ext hs
    intro k hk1 hk2
    have := h k
    rwa [Array.getD_eq_getD_getElem?, Array.getD_eq_getD_getElem?, Array.getElem?_eq_getElem hk1, Array.getElem?_eq_getElem hk2] at this
  cases a; cases b; dsimp only at ht hd; subst ht hd; rfl
/-- What one walk in the text's order has shown of an operation: its value stands in the end; what it read stood there, or stands in the end. -/
theorem stepsS_key {P : Program} {ops : Array Oper} {C : World → Prop} {l : List Oper} {vs : List Value} {a aσ : Act} (hst : StepsS P ops C l vs a) (hfin : putsS l vs a = aσ) (hd1 : ∀ (i : Nat) (o : Oper) (d : Nat), l[i]? = some o → o.dst = some d → d < a.tmps.size)
    (hone : ∀ (i : Nat) (o : Oper) (j : Nat) (o' : Oper) (d : Nat), l[i]? = some o → l[j]? = some o' → i ≠ j → o.dst = some d → o'.dst ≠ some d) (i : Nat) (o : Oper) (ho : l[i]? = some o) :
    ∃ v ai, YieldsIn P ops C o v ai ∧ (∀ d, o.dst = some d → v = aσ.tmps.getD d undef) ∧ (∀ t : Nat, (∀ (j : Nat) (o' : Oper), l[j]? = some o' → o'.dst ≠ some t) → ai.tmps.getD t undef = a.tmps.getD t undef) ∧
      (∀ (t j : Nat) (o' : Oper), j < i → l[j]? = some o' → o'.dst = some t → ai.tmps.getD t undef = aσ.tmps.getD t undef) := by
  obtain ⟨v, ai, k1, k2, k3, k4⟩ := stepsS_at _ _ _ _ _ hst ho
  rw [hfin] at k2
  have hdrop : ∀ t : Nat, (∀ (j : Nat) (o' : Oper), i < j → l[j]? = some o' → o'.dst ≠ some t) → ∀ o' ∈ l.drop (i + 1), o'.dst ≠ some t := by
    intro t ht o' hm' hd
    obtain ⟨k, hk, rfl⟩ := List.getElem_of_mem hm'
    have hk2 := List.getElem?_eq_getElem hk
    rw [List.getElem?_drop] at hk2
    exact ht _ _ (by omega) hk2 hd
  refine ⟨v, ai, k1, ?_, ?_, ?_⟩
  · intro d hd
    rw [k2, putsS_other d _ _ _ (hdrop d fun j o' hj hl => hone i o j o' d ho hl (by omega) hd), hd, put_here _ _ _ (by rw [k3]; exact hd1 i o d ho hd)]
  · intro t ht
    exact k4 t fun j o' _ hl hd => ht j o' hl hd
  · intro t j o' hj hl hd
    have hne : ∀ (j' : Nat) (o'' : Oper), l[j']? = some o'' → j' ≠ j → o''.dst ≠ some t := fun j' o'' hl' hne => hone j o' j' o'' t hl hl' (Ne.symm hne) hd
    rw [k2, putsS_other t _ _ _ (hdrop t fun j' o'' hj' hl' => hne j' o'' hl' (by omega)), put_other _ _ _ _ (hne i o ho (by omega))]
set_option maxHeartbeats 1600000 in
theorem wp_region_wild {P : Program} {id : Nat} {Q : Exit → Act → World → Prop} {a0 : Act} {W : World} {l : List Oper} (B n : Nat) (aσ : Act) (oc : Oper) (f : FuncId) (args : Array Value) (R : Value → World → Prop)
    (hm : P.follows .mixedOrders = true) (hback : backB l = true) (hn : lawB l a0.tmps.size = true) (hw : wildB l n = true) (hoc : l[n]? = some oc) (hBW : B ≤ W.heap.size)
    (hpre : wpQuiet P l.toArray (fun w' => ∃ x : Ext B W, w' = x.out) (fun a' => a' = aσ) (l.take n) a0)
    (hent : ∀ w, (execOp aσ.eval oc).run P w = .ok (.enter f args) w)
    (hcall : ∀ x : Ext B W, Calls P f args x.out fun e w' => ∃ v, e = .returned v ∧ R v w')
    (hpost : ∀ v w1, R v w1 → wpQuiet P l.toArray (fun w' => w' = w1) (fun a' => Q .normal a' w1) (l.drop (n + 1)) (aσ.put oc.dst v)) :
    (Code.region id l.toArray true).wp P Q a0 W := by
  have hL := fun i o ho => lawB_of hn i o ho
  have hone : ∀ (i : Nat) (o : Oper) (j : Nat) (o' : Oper) (d : Nat), l[i]? = some o → l[j]? = some o' → i ≠ j → o.dst = some d → o'.dst ≠ some d := fun i o j o' d hi hj hne hd => (hL j o' hj).2.2.2.1 i o hi hne d hd
  have hnl : n < l.length := (List.getElem?_eq_some_iff.1 hoc).1
  have htake : ∀ (i : Nat) (o : Oper), (l.take n)[i]? = some o → l[i]? = some o ∧ i < n := fun i o h => by
    rw [List.getElem?_take] at h
    split at h
    · exact ⟨h, by assumption⟩
    · cases h
  have hdropg : ∀ (i : Nat) (o : Oper), (l.drop (n + 1))[i]? = some o → l[n + 1 + i]? = some o := fun i o h => by rw [List.getElem?_drop] at h; exact h
  obtain ⟨vs0, hst0, hfin0⟩ := stepsS_of _ _ hpre
  have hsize : aσ.tmps.size = a0.tmps.size := by rw [← hfin0, putsS_size]
  have hdef : aσ.defers = a0.defers := by rw [← hfin0, putsS_defers]
  have key0 := fun i o ho => stepsS_key hst0 hfin0 (fun i o d h hd => (hL i o (htake i o h).1).2.2.1 d hd) (fun i o j o' d h h' hne hd => hone i o j o' d (htake i o h).1 (htake j o' h').1 hne hd) i o ho
  have hout0 : ∀ t : Nat, (∀ (i : Nat) (o : Oper), i < n → l[i]? = some o → o.dst ≠ some t) → aσ.tmps.getD t undef = a0.tmps.getD t undef := by
    intro t ht
    rw [← hfin0, putsS_other]
    intro o' hm' hd
    obtain ⟨k, hk, rfl⟩ := List.getElem_of_mem hm'
    have hk2 := htake k _ (List.getElem?_eq_getElem hk)
    exact ht k _ hk2.2 hk2.1 hd
  -- what stands when the call has been made
  let Post : World → Act → Prop := fun w aτ => ∃ v vs, StepsS P l.toArray (fun w' => w' = w) (l.drop (n + 1)) vs (aσ.put oc.dst v) ∧ putsS (l.drop (n + 1)) vs (aσ.put oc.dst v) = aτ ∧ Q .normal aτ w ∧ ∀ d, oc.dst = some d → aτ.tmps.getD d undef = v
  have hPost : ∀ w aτ, Post w aτ → aτ.tmps.size = a0.tmps.size ∧ aτ.defers = a0.defers ∧ (∀ t : Nat, (∀ (i : Nat) (o : Oper), l[i]? = some o → o.dst ≠ some t) → aτ.tmps.getD t undef = a0.tmps.getD t undef) ∧
      (∀ (i : Nat) (o : Oper) (d : Nat), l[i]? = some o → i < n → o.dst = some d → aτ.tmps.getD d undef = aσ.tmps.getD d undef) := by
    rintro w aτ ⟨v, vs, h1, h2, _, _⟩
    have hoth : ∀ t : Nat, (∀ (i : Nat) (o : Oper), n < i → l[i]? = some o → o.dst ≠ some t) → aτ.tmps.getD t undef = (aσ.put oc.dst v).tmps.getD t undef := by
      intro t ht
      rw [← h2, putsS_other]
      intro o' hm' hd
      obtain ⟨k, hk, rfl⟩ := List.getElem_of_mem hm'
      exact ht _ _ (by omega) (hdropg k _ (List.getElem?_eq_getElem hk)) hd
    refine ⟨by rw [← h2, putsS_size, put_size, hsize], by rw [← h2, putsS_defers, put_defers', hdef], fun t ht => ?_, fun i o d hi hin hd => ?_⟩
    · rw [hoth t fun i o _ hi => ht i o hi, put_other _ _ _ _ (ht n oc hoc), hout0 t fun i o _ hi => ht i o hi]
    · rw [hoth d fun j o' hj hj' => hone i o j o' d hi hj' (by omega) hd, put_other _ _ _ _ (hone i o n oc d hi hoc (by omega) hd)]
  have hpre_all : ∀ L : Nat → Bool, (∀ (j : Nat) (oj : Oper), l[j]? = some oj → L j = true → ∀ e ∈ oj.after, Region.binds .any e = true → L e.on = true) → (∀ e ∈ oc.after, Region.binds .any e = true → L e.on = true) → ∀ i, i < n → L i = true := by
    intro L hcl hcn
    have : ∀ d i, n - i = d → i < n → L i = true := by
      intro d
      induction d using Nat.strongRecOn with
      | _ d ih =>
        intro i hd hi
        obtain ⟨j, o, h1, h2, h3, e, he, hb, rfl⟩ := wildB_pre hw i hi
        by_cases hj : j = n
        · subst hj
          rw [hoc] at h3
          obtain rfl := Option.some.inj h3
          exact hcn e he hb
        · exact hcl j o h3 (ih (n - j) (by omega) j rfl (by omega)) e he hb
    exact fun i hi => this _ i rfl hi
  refine wp_region_inv hm hback (fun L a w => a.defers = a0.defers ∧ a.tmps.size = a0.tmps.size ∧ (∀ t : Nat, (∀ (i : Nat) (o : Oper), l[i]? = some o → o.dst ≠ some t) → a.tmps.getD t undef = a0.tmps.getD t undef) ∧
    (∀ (j : Nat) (oj : Oper), l[j]? = some oj → L j = true → ∀ e ∈ oj.after, Region.binds .any e = true → L e.on = true) ∧
    (L n = false → (∃ x : Ext B W, w = x.out) ∧ ∀ (i : Nat) (o : Oper) (d : Nat), l[i]? = some o → L i = true → o.dst = some d → a.tmps.getD d undef = aσ.tmps.getD d undef) ∧
    (L n = true → ∃ aτ, Post w aτ ∧ ∀ (i : Nat) (o : Oper) (d : Nat), l[i]? = some o → L i = true → o.dst = some d → a.tmps.getD d undef = aτ.tmps.getD d undef)) ?_ ?_ ?_
  · intro L hL0
    exact ⟨rfl, rfl, fun _ _ => rfl, fun j oj hj hLj => (by rw [hL0 j (List.getElem?_eq_some_iff.1 hj).1] at hLj; cases hLj), fun _ => ⟨⟨⟨_, (Below.refl B W).drew⟩, rfl⟩, fun i o d hi hLi => (by rw [hL0 i (List.getElem?_eq_some_iff.1 hi).1] at hLi; cases hLi)⟩, fun hLn => (by rw [hL0 n hnl] at hLn; cases hLn)⟩
  · intro L a w i o ho hLi hafter ⟨i1, i2, i3, i4, i5, i6⟩
    obtain ⟨hg, hns, hd1, hd2, heyes⟩ := hL i o ho
    rw [if_pos (by simp [Region.wanted, hg])]
    have hcl : ∀ (j : Nat) (oj : Oper), l[j]? = some oj → plus L i j = true → ∀ e ∈ oj.after, Region.binds .any e = true → plus L i e.on = true := by
      intro j oj hj hLj e he hb
      unfold plus at hLj ⊢
      by_cases hji : j = i
      · subst hji
        rw [ho] at hj
        obtain rfl := Option.some.inj hj
        split
        · rfl
        · exact hafter e he hb
      · rw [if_neg hji] at hLj
        split
        · rfl
        · exact i4 j oj hj hLj e he hb
    rcases Nat.lt_trichotomy i n with hin | hin | hin
    · -- ahead of the call
      have hLn : L n = false := by
        cases hc : L n with
        | false => rfl
        | true => have := hpre_all L i4 (fun e he hb => i4 n oc hoc hc e he hb) i hin; rw [this] at hLi; cases hLi
      obtain ⟨⟨x, hx⟩, i7⟩ := i5 hLn
      have ho' : (l.take n)[i]? = some o := by rw [List.getElem?_take, if_pos hin]; exact ho
      obtain ⟨v, ai, hY, hv, hno, hyes⟩ := key0 i o ho'
      have he : execOp a.eval o = execOp ai.eval o := by
        refine execOp_congr o (fun c b hc => by rw [notSelect, hc] at hns; cases hns) (eval_eyes fun t ht => ?_)
        by_cases hex : ∃ (j : Nat) (o' : Oper), l[j]? = some o' ∧ o'.dst = some t
        · obtain ⟨j, o', hj, hd⟩ := hex
          obtain ⟨hji, e, he, hb, hon⟩ := heyes t ht j o' hj hd
          have hLj : L j = true := hon ▸ hafter e he hb
          rw [hyes t j o' hji (by rw [List.getElem?_take, if_pos (by omega)]; exact hj) hd]
          exact i7 j o' t hj hLj hd
        · have hn' : ∀ (j : Nat) (o' : Oper), l[j]? = some o' → o'.dst ≠ some t := fun j o' hj hd => hex ⟨j, o', hj, hd⟩
          rw [i3 t hn', hno t fun j o' hj => hn' j o' (htake j o' hj).1]
      have hY' := hY.of_same he (by simp [Region.wanted, hg])
      rcases hY' with ⟨_, hq⟩ | ⟨hw0, _⟩
      · refine Oper.wp_of_quiet (C := fun w' => ∃ x : Ext B W, w' = x.out) (K := fun a' => a' = a.put o.dst v) ⟨x, hx⟩ ?_ ⟨v, hq, rfl⟩
        rintro a' w' ⟨z, rfl⟩ rfl
        refine ⟨(put_defers' _ _ _).trans i1, (put_size _ _ _).trans i2, fun t ht => ?_, hcl, fun _ => ⟨⟨z, rfl⟩, fun j o' d hj hLj hd => ?_⟩, fun hLp => ?_⟩
        · rw [put_other _ _ _ _ (ht i o ho)]; exact i3 t ht
        · by_cases hji : j = i
          · subst hji
            rw [ho] at hj
            obtain rfl := Option.some.inj hj
            rw [hd, put_here _ _ _ (by rw [i2]; exact hd1 d hd)]
            exact hv d hd
          · have hLj' : L j = true := by unfold plus at hLj; rwa [if_neg hji] at hLj
            rw [put_other _ _ _ _ (hd2 j o' hj hji d hd)]; exact i7 j o' d hj hLj' hd
        · unfold plus at hLp; rw [if_neg (by omega), hLn] at hLp; cases hLp
      · simp [Region.wanted, hg] at hw0
    · -- the call
      subst hin
      rw [hoc] at ho
      obtain rfl := Option.some.inj ho
      obtain ⟨⟨x, hx⟩, i7⟩ := i5 hLi
      have hall := hpre_all L i4 hafter
      have he : execOp a.eval oc = execOp aσ.eval oc := by
        refine execOp_congr oc (fun c b hc => by rw [notSelect, hc] at hns; cases hns) (eval_eyes fun t ht => ?_)
        by_cases hex : ∃ (j : Nat) (o' : Oper), l[j]? = some o' ∧ o'.dst = some t
        · obtain ⟨j, o', hj, hd⟩ := hex
          obtain ⟨hji, e, he, hb, hon⟩ := heyes t ht j o' hj hd
          exact i7 j o' t hj (hon ▸ hafter e he hb) hd
        · have hn' : ∀ (j : Nat) (o' : Oper), l[j]? = some o' → o'.dst ≠ some t := fun j o' hj hd => hex ⟨j, o', hj, hd⟩
          rw [i3 t hn', hout0 t fun j o' _ hj => hn' j o' hj]
      subst hx
      unfold Oper.wp
      rw [he, hent]
      simp only [Oper.upon]
      refine (hcall x).mono ?_
      rintro e w' ⟨v, rfl, hR⟩
      obtain ⟨vs, hst, hQ⟩ := stepsS_of _ _ (hpost v w' hR)
      have hdv : ∀ d, oc.dst = some d → (putsS (l.drop (i + 1)) vs (aσ.put oc.dst v)).tmps.getD d undef = v := by
        intro d hd
        rw [putsS_other, hd, put_here _ _ _ (by rw [hsize]; exact hd1 d hd)]
        intro o' hm' hd'
        obtain ⟨k, hk, rfl⟩ := List.getElem_of_mem hm'
        exact hone i oc _ _ d hoc (hdropg k _ (List.getElem?_eq_getElem hk)) (by omega) hd hd'
      have hP : Post w' (putsS (l.drop (i + 1)) vs (aσ.put oc.dst v)) := ⟨v, vs, hst, rfl, hQ, hdv⟩
      obtain ⟨_, _, _, p4⟩ := hPost _ _ hP
      refine ⟨(put_defers' _ _ _).trans i1, (put_size _ _ _).trans i2, fun t ht => ?_, hcl, fun hLn => ?_, fun _ => ⟨_, hP, fun j o' d hj hLj hd => ?_⟩⟩
      · rw [put_other _ _ _ _ (ht i oc hoc)]; exact i3 t ht
      · simp [plus] at hLn
      · by_cases hji : j = i
        · subst hji
          rw [hoc] at hj
          obtain rfl := Option.some.inj hj
          rw [hd, put_here _ _ _ (by rw [i2]; exact hd1 d hd), ← hd, hdv d hd]
        · have hLj' : L j = true := by unfold plus at hLj; rwa [if_neg hji] at hLj
          have hjn : j < i := by
            rcases Nat.lt_trichotomy j i with h | h | h
            · exact h
            · exact absurd h hji
            · exfalso
              have : ∀ d t, t = d → i < t → t < l.length → L t = true → False := by
                intro d
                induction d using Nat.strongRecOn with
                | _ d ih =>
                  intro t htd hit htl hLt
                  obtain ⟨e, he', hb, h1, h2⟩ := wildB_post hw t _ (List.getElem?_eq_getElem htl) hit
                  have h3 := i4 t _ (List.getElem?_eq_getElem htl) hLt e he' hb
                  rcases Nat.eq_or_lt_of_le h1 with h4 | h4
                  · rw [← h4, hLi] at h3; cases h3
                  · exact ih e.on (by omega) e.on rfl h4 (by omega) h3
              exact this _ j rfl h (List.getElem?_eq_some_iff.1 hj).1 hLj'
          rw [put_other _ _ _ _ (hd2 j o' hj hji d hd), i7 j o' d hj hLj' hd, p4 j o' d hj hjn hd]
    · -- behind the call
      have hLn : L n = true := by
        obtain ⟨e, he, hb, h1, h2⟩ := wildB_post hw i o ho hin
        have h3 := hafter e he hb
        have : ∀ d t, t = d → n ≤ t → t < l.length → L t = true → L n = true := by
          intro d
          induction d using Nat.strongRecOn with
          | _ d ih =>
            intro t htd hit htl hLt
            rcases Nat.eq_or_lt_of_le hit with h4 | h4
            · rw [h4]; exact hLt
            · obtain ⟨e, he', hb, h1, h2⟩ := wildB_post hw t _ (List.getElem?_eq_getElem htl) h4
              exact ih e.on (by omega) e.on rfl h1 (by omega) (i4 t _ (List.getElem?_eq_getElem htl) hLt e he' hb)
        exact this _ e.on rfl h1 (by have := (List.getElem?_eq_some_iff.1 ho).1; omega) h3
      obtain ⟨aτ, hP, i7⟩ := i6 hLn
      obtain ⟨p1, p2, p3, p4⟩ := hPost _ _ hP
      obtain ⟨v, vs, hst, hfin, hQ, hdv⟩ := hP
      have ho' : (l.drop (n + 1))[i - (n + 1)]? = some o := by rw [List.getElem?_drop]; rw [show n + 1 + (i - (n + 1)) = i by omega]; exact ho
      obtain ⟨u, ai, hY, hv, hno, hyes⟩ := stepsS_key hst hfin (fun j o' d h hd => by rw [put_size, hsize]; exact (hL _ o' (hdropg j o' h)).2.2.1 d hd) (fun j o' k o'' d h h' hne hd => hone _ o' _ o'' d (hdropg j o' h) (hdropg k o'' h') (by omega) hd) _ o ho'
      have he : execOp a.eval o = execOp ai.eval o := by
        refine execOp_congr o (fun c b hc => by rw [notSelect, hc] at hns; cases hns) (eval_eyes fun t ht => ?_)
        by_cases hex : ∃ (j : Nat) (o' : Oper), l[j]? = some o' ∧ o'.dst = some t
        · obtain ⟨j, o', hj, hd⟩ := hex
          obtain ⟨hji, e, he, hb, hon⟩ := heyes t ht j o' hj hd
          have hLj : L j = true := hon ▸ hafter e he hb
          rw [i7 j o' t hj hLj hd]
          by_cases hjn : n < j
          · rw [hyes t (j - (n + 1)) o' (by omega) (by rw [List.getElem?_drop, show n + 1 + (j - (n + 1)) = j by omega]; exact hj) hd]
          · have h9 : ai.tmps.getD t undef = (aσ.put oc.dst v).tmps.getD t undef := hno t fun k o'' hk => hone j o' _ o'' t hj (hdropg k o'' hk) (by omega) hd
            rw [h9]
            rcases Nat.lt_or_ge j n with h10 | h10
            · rw [p4 j o' t hj h10 hd, put_other _ _ _ _ (hone j o' n oc t hj hoc (by omega) hd)]
            · obtain rfl : j = n := by omega
              rw [hoc] at hj
              obtain rfl := Option.some.inj hj
              rw [hdv t hd, hd, put_here _ _ _ (by rw [hsize]; exact (hL j oc hoc).2.2.1 t hd)]
        · have hn' : ∀ (j : Nat) (o' : Oper), l[j]? = some o' → o'.dst ≠ some t := fun j o' hj hd => hex ⟨j, o', hj, hd⟩
          rw [i3 t hn', hno t fun j o' hj => hn' _ o' (hdropg j o' hj), put_other _ _ _ _ (hn' n oc hoc), hout0 t fun j o' _ hj => hn' j o' hj]
      have hY' := hY.of_same he (by simp [Region.wanted, hg])
      rcases hY' with ⟨_, hq⟩ | ⟨hw0, _⟩
      · refine Oper.wp_of_quiet (C := fun w' => w' = w) (K := fun a' => a' = a.put o.dst u) rfl ?_ ⟨u, hq, rfl⟩
        rintro a' w' rfl rfl
        refine ⟨(put_defers' _ _ _).trans i1, (put_size _ _ _).trans i2, fun t ht => ?_, hcl, fun hLp => ?_, fun _ => ⟨aτ, ⟨v, vs, hst, hfin, hQ, hdv⟩, fun j o' d hj hLj hd => ?_⟩⟩
        · rw [put_other _ _ _ _ (ht i o ho)]; exact i3 t ht
        · unfold plus at hLp; rw [if_neg (by omega), hLn] at hLp; cases hLp
        · by_cases hji : j = i
          · subst hji
            rw [ho] at hj
            obtain rfl := Option.some.inj hj
            rw [hd, put_here _ _ _ (by rw [i2]; exact hd1 d hd)]
            exact hv d hd
          · have hLj' : L j = true := by unfold plus at hLj; rwa [if_neg hji] at hLj
            rw [put_other _ _ _ _ (hd2 j o' hj hji d hd)]; exact i7 j o' d hj hLj' hd
      · simp [Region.wanted, hg] at hw0
  · intro L a w hall ⟨i1, i2, i3, i4, i5, i6⟩
    obtain ⟨aτ, hP, i7⟩ := i6 (hall n hnl)
    obtain ⟨p1, p2, p3, p4⟩ := hPost _ _ hP
    obtain ⟨v, vs, hst, hfin, hQ, hdv⟩ := hP
    have : a = aτ := by
      refine act_ext (i2.trans p1.symm) (i1.trans p2.symm) fun k => ?_
      by_cases hex : ∃ (j : Nat) (o' : Oper), l[j]? = some o' ∧ o'.dst = some k
      · obtain ⟨j, o', hj, hd⟩ := hex
        exact i7 j o' k hj (hall j (List.getElem?_eq_some_iff.1 hj).1) hd
      · have hn' : ∀ (j : Nat) (o' : Oper), l[j]? = some o' → o'.dst ≠ some k := fun j o' hj hd => hex ⟨j, o', hj, hd⟩
        rw [i3 k hn', p3 k hn']
    rw [this]; exact hQ
end Go.Proofs.Ytjcmdihadblodaa
