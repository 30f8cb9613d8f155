/- A region that draws its order with one operation of unforeknown result, guards among the others. -/
import Derived.Test.YtjcmdihadblodaaWildO
namespace Go.Proofs.Ytjcmdihadblodaa
open Go.RowKit
set_option linter.unusedSimpArgs false
set_option linter.unusedVariables false
/-- The slot on which an operation's guard hangs. -/
def gslot (l : List Oper) (o : Oper) : List Nat := match o.guard with
  | none => []
  | some (j, _) => match l[j]? with
    | some oj => oj.dst.toList
    | none => []
def eyesG (l : List Oper) (o : Oper) : List Nat := eyes o ++ gslot l o
theorem eyesG_l {l : List Oper} {o : Oper} {t : Nat} (h : t ∈ eyes o) : t ∈ eyesG l o := List.mem_append.2 (.inl h)
/-- As 'lawB', guards allowed, whose slots are written ahead. -/
def lawG (l : List Oper) (n : Nat) : Bool :=
  l.zipIdx.all fun x => notSelect x.1 && (match x.1.dst with | some d => decide (d < n) | none => true) &&
    (l.zipIdx.all fun y => (y.2 == x.2) || (match y.1.dst with | none => true | some d => x.1.dst != some d)) &&
    (eyesG l x.1).all fun t => l.zipIdx.all fun y => y.1.dst != some t || (decide (y.2 < x.2) && x.1.after.toList.any fun e => Region.binds .any e && e.on == y.2)
theorem lawG_of {l : List Oper} {n : Nat} (h : lawG l n = true) (i : Nat) (o : Oper) (ho : l[i]? = some o) :
    notSelect o = true ∧ (∀ d, o.dst = some d → d < n) ∧ (∀ j o', l[j]? = some o' → j ≠ i → ∀ d, o'.dst = some d → o.dst ≠ some d) ∧
    (∀ t ∈ eyesG l o, ∀ j o', l[j]? = some o' → o'.dst = some t → j < i ∧ ∃ e ∈ o.after, Region.binds .any e = true ∧ e.on = j) := by
  unfold lawG at h
  rw [List.all_eq_true] at h
  have h1 := h (o, i) (by rw [List.mk_mem_zipIdx_iff_getElem?]; exact ho)
  simp only [Bool.and_eq_true, List.all_eq_true] at h1
  obtain ⟨⟨⟨h3, h4⟩, h5⟩, h6⟩ := h1
  refine ⟨h3, ?_, ?_, ?_⟩
  · intro d hd; rw [hd] at h4; simpa using h4
  · intro j o' hj hne d hd
    have := h5 (o', j) (by rw [List.mk_mem_zipIdx_iff_getElem?]; exact hj)
    simp only [hd, Bool.or_eq_true, beq_iff_eq, hne, false_or] at this
    simpa using this
  · intro t ht j o' hj hd
    have := h6 t ht (o', j) (by rw [List.mk_mem_zipIdx_iff_getElem?]; exact hj)
    simp only [hd, bne_self_eq_false, Bool.false_or, Bool.and_eq_true, decide_eq_true_eq, List.any_eq_true, beq_iff_eq, Array.mem_toList_iff] at this
    exact this
theorem wanted_same {l : List Oper} {o : Oper} {a a' : Act} (hs : a.tmps.size = a'.tmps.size) (h : ∀ t ∈ eyesG l o, a.tmps.getD t undef = a'.tmps.getD t undef) : Region.wanted o (yielded l.toArray a.tmps) = Region.wanted o (yielded l.toArray a'.tmps) := by
  unfold Region.wanted
  cases hg : o.guard with
  | none => rfl
  | some g =>
    obtain ⟨j, b⟩ := g
    dsimp only
    have e : yielded l.toArray a.tmps j = yielded l.toArray a'.tmps j := by
      unfold yielded
      simp only [List.getElem?_toArray]
      cases hl : l[j]? with
      | none => rfl
      | some oj =>
        simp only [Option.bind_some]
        cases hd : oj.dst with
        | none => rfl
        | some d =>
          have h1 := h d (List.mem_append.2 (.inr (by unfold gslot; rw [hg]; dsimp only; rw [hl]; dsimp only; rw [hd]; simp)))
          have h2 : a.tmps[d]? = a'.tmps[d]? := by
            rw [Array.getD_eq_getD_getElem?, Array.getD_eq_getD_getElem?] at h1
            rcases Nat.lt_or_ge d a.tmps.size with hlt | hlt
            · rw [Array.getElem?_eq_getElem hlt, Array.getElem?_eq_getElem (hs ▸ hlt)] at h1 ⊢
              simpa using h1
            · rw [Array.getElem?_eq_none (xs := a.tmps) hlt, Array.getElem?_eq_none (xs := a'.tmps) (hs ▸ hlt)]
          simp only [Option.bind_some, h2]
    rw [e]
theorem stepsS_keyG {P : Program} {ops : Array Oper} {C : World → Prop} {l : List Oper} {vs : List Value} {a aσ : Act} (hst : StepsS P ops C l vs a) (hfin : putsS l vs a = aσ) (hd1 : ∀ (i : Nat) (o : Oper) (d : Nat), l[i]? = some o → o.dst = some d → d < a.tmps.size)
    (hone : ∀ (i : Nat) (o : Oper) (j : Nat) (o' : Oper) (d : Nat), l[i]? = some o → l[j]? = some o' → i ≠ j → o.dst = some d → o'.dst ≠ some d) (i : Nat) (o : Oper) (ho : l[i]? = some o) :
    ∃ v ai, YieldsIn P ops C o v ai ∧ (∀ d, o.dst = some d → v = aσ.tmps.getD d undef) ∧ (∀ t : Nat, (∀ (j : Nat) (o' : Oper), l[j]? = some o' → o'.dst ≠ some t) → ai.tmps.getD t undef = a.tmps.getD t undef) ∧
      (∀ (t j : Nat) (o' : Oper), j < i → l[j]? = some o' → o'.dst = some t → ai.tmps.getD t undef = aσ.tmps.getD t undef) ∧ ai.tmps.size = a.tmps.size := by
  obtain ⟨v, ai, k1, k2, k3, k4⟩ := stepsS_at _ _ _ _ _ hst ho
  rw [hfin] at k2
  have hdrop : ∀ t : Nat, (∀ (j : Nat) (o' : Oper), i < j → l[j]? = some o' → o'.dst ≠ some t) → ∀ o' ∈ l.drop (i + 1), o'.dst ≠ some t := by
    intro t ht o' hm' hd
    obtain ⟨k, hk, rfl⟩ := List.getElem_of_mem hm'
    have hk2 := List.getElem?_eq_getElem hk
    rw [List.getElem?_drop] at hk2
    exact ht _ _ (by omega) hk2 hd
  refine ⟨v, ai, k1, ?_, ?_, ?_, k3⟩
  · intro d hd
    rw [k2, putsS_other d _ _ _ (hdrop d fun j o' hj hl => hone i o j o' d ho hl (by omega) hd), hd, put_here _ _ _ (by rw [k3]; exact hd1 i o d ho hd)]
  · intro t ht
    exact k4 t fun j o' _ hl hd => ht j o' hl hd
  · intro t j o' hj hl hd
    have hne : ∀ (j' : Nat) (o'' : Oper), l[j']? = some o'' → j' ≠ j → o''.dst ≠ some t := fun j' o'' hl' hne => hone j o' j' o'' t hl hl' (Ne.symm hne) hd
    rw [k2, putsS_other t _ _ _ (hdrop t fun j' o'' hj' hl' => hne j' o'' hl' (by omega)), put_other _ _ _ _ (hne i o ho (by omega))]
set_option maxHeartbeats 1600000 in
theorem wp_region_wildY {P : Program} {id : Nat} {Q : Exit → Act → World → Prop} {a0 : Act} {W : World} {l : List Oper} (B n : Nat) (aσ : Act) (oc : Oper) (R : Value → World → Prop) (D : World → World → Prop) (hD : ∀ w, D w w)
    (hm : P.follows .mixedOrders = true) (hback : backB l = true) (hn : lawG l a0.tmps.size = true) (hgn : oc.guard = none) (hw : wildB2 l n = true) (hoc : l[n]? = some oc) (hBW : B ≤ W.heap.size)
    (hpre : wpQuiet P l.toArray (fun w' => ∃ x : Ext B W, w' = x.out) (fun a' => a' = aσ) (l.take n) a0)
    (hpre2 : ∀ v w1, R v w1 → wpQuiet P l.toArray (D w1) (fun a' => a' = aσ) (l.take n) a0)
    (hop : ∀ (x : Ext B W) (a : Act) (K : Act → World → Prop) (Q' : Exit → Act → World → Prop), execOp a.eval oc = execOp aσ.eval oc → (∀ v w', R v w' → K (a.put oc.dst v) w') → Oper.wp P oc a x.out K Q')
    (hpost : ∀ v w1, R v w1 → wpQuiet P l.toArray (D w1) (fun a' => ∀ w', D w1 w' → Q .normal a' w') (l.drop (n + 1)) (aσ.put oc.dst v)) :
    (Code.region id l.toArray true).wp P Q a0 W := by
  have hL := fun i o ho => lawG_of hn i o ho
  have hone : ∀ (i : Nat) (o : Oper) (j : Nat) (o' : Oper) (d : Nat), l[i]? = some o → l[j]? = some o' → i ≠ j → o.dst = some d → o'.dst ≠ some d := fun i o j o' d hi hj hne hd => (hL j o' hj).2.2.1 i o hi hne d hd
  have hnl : n < l.length := (List.getElem?_eq_some_iff.1 hoc).1
  have htake : ∀ (i : Nat) (o : Oper), (l.take n)[i]? = some o → l[i]? = some o ∧ i < n := fun i o h => by
    rw [List.getElem?_take] at h
    split at h
    · exact ⟨h, by assumption⟩
    · cases h
  have hdropg : ∀ (i : Nat) (o : Oper), (l.drop (n + 1))[i]? = some o → l[n + 1 + i]? = some o := fun i o h => by rw [List.getElem?_drop] at h; exact h
  obtain ⟨vs0, hst0, hfin0⟩ := stepsS_of _ _ hpre
  have hsize : aσ.tmps.size = a0.tmps.size := by rw [← hfin0, putsS_size]
  have hdef : aσ.defers = a0.defers := by rw [← hfin0, putsS_defers]
  have key0 := fun i o ho => stepsS_keyG hst0 hfin0 (fun i o d h hd => (hL i o (htake i o h).1).2.1 d hd) (fun i o j o' d h h' hne hd => hone i o j o' d (htake i o h).1 (htake j o' h').1 hne hd) i o ho
  have hout0 : ∀ t : Nat, (∀ (i : Nat) (o : Oper), i < n → l[i]? = some o → o.dst ≠ some t) → aσ.tmps.getD t undef = a0.tmps.getD t undef := by
    intro t ht
    rw [← hfin0, putsS_other]
    intro o' hm' hd
    obtain ⟨k, hk, rfl⟩ := List.getElem_of_mem hm'
    have hk2 := htake k _ (List.getElem?_eq_getElem hk)
    exact ht k _ hk2.2 hk2.1 hd
  -- what stands when the call has been made
  let Post : World → Act → Prop := fun w aτ => ∃ v w0 vs, R v w0 ∧ D w0 w ∧ StepsS P l.toArray (D w0) (l.drop (n + 1)) vs (aσ.put oc.dst v) ∧ putsS (l.drop (n + 1)) vs (aσ.put oc.dst v) = aτ ∧ (∀ w', D w0 w' → Q .normal aτ w') ∧ ∀ d, oc.dst = some d → aτ.tmps.getD d undef = v
  have hPost : ∀ w aτ, Post w aτ → aτ.tmps.size = a0.tmps.size ∧ aτ.defers = a0.defers ∧ (∀ t : Nat, (∀ (i : Nat) (o : Oper), l[i]? = some o → o.dst ≠ some t) → aτ.tmps.getD t undef = a0.tmps.getD t undef) ∧
      (∀ (i : Nat) (o : Oper) (d : Nat), l[i]? = some o → i < n → o.dst = some d → aτ.tmps.getD d undef = aσ.tmps.getD d undef) := by
    rintro w aτ ⟨v, w0, vs, _, _, h1, h2, _, _⟩
    have hoth : ∀ t : Nat, (∀ (i : Nat) (o : Oper), n < i → l[i]? = some o → o.dst ≠ some t) → aτ.tmps.getD t undef = (aσ.put oc.dst v).tmps.getD t undef := by
      intro t ht
      rw [← h2, putsS_other]
      intro o' hm' hd
      obtain ⟨k, hk, rfl⟩ := List.getElem_of_mem hm'
      exact ht _ _ (by omega) (hdropg k _ (List.getElem?_eq_getElem hk)) hd
    refine ⟨by rw [← h2, putsS_size, put_size, hsize], by rw [← h2, putsS_defers, put_defers', hdef], fun t ht => ?_, fun i o d hi hin hd => ?_⟩
    · rw [hoth t fun i o _ hi => ht i o hi, put_other _ _ _ _ (ht n oc hoc), hout0 t fun i o _ hi => ht i o hi]
    · rw [hoth d fun j o' hj hj' => hone i o j o' d hi hj' (by omega) hd, put_other _ _ _ _ (hone i o n oc d hi hoc (by omega) hd)]
  refine wp_region_inv hm hback (fun L a w => a.defers = a0.defers ∧ a.tmps.size = a0.tmps.size ∧ (∀ t : Nat, (∀ (i : Nat) (o : Oper), l[i]? = some o → o.dst ≠ some t) → a.tmps.getD t undef = a0.tmps.getD t undef) ∧
    (∀ (j : Nat) (oj : Oper), l[j]? = some oj → L j = true → ∀ e ∈ oj.after, Region.binds .any e = true → L e.on = true) ∧
    (L n = false → (∃ x : Ext B W, w = x.out) ∧ ∀ (i : Nat) (o : Oper) (d : Nat), l[i]? = some o → L i = true → o.dst = some d → a.tmps.getD d undef = aσ.tmps.getD d undef) ∧
    (L n = true → ∃ aτ, Post w aτ ∧ ∀ (i : Nat) (o : Oper) (d : Nat), l[i]? = some o → L i = true → o.dst = some d → a.tmps.getD d undef = aτ.tmps.getD d undef)) ?_ ?_ ?_
  · intro L hL0
    exact ⟨rfl, rfl, fun _ _ => rfl, fun j oj hj hLj => (by rw [hL0 j (List.getElem?_eq_some_iff.1 hj).1] at hLj; cases hLj), fun _ => ⟨⟨⟨_, (Below.refl B W).drew⟩, rfl⟩, fun i o d hi hLi => (by rw [hL0 i (List.getElem?_eq_some_iff.1 hi).1] at hLi; cases hLi)⟩, fun hLn => (by rw [hL0 n hnl] at hLn; cases hLn)⟩
  · intro L a w i o ho hLi hafter ⟨i1, i2, i3, i4, i5, i6⟩
    obtain ⟨hns, hd1, hd2, heyes⟩ := hL i o ho
    have hcl : ∀ (j : Nat) (oj : Oper), l[j]? = some oj → plus L i j = true → ∀ e ∈ oj.after, Region.binds .any e = true → plus L i e.on = true := by
      intro j oj hj hLj e he hb
      unfold plus at hLj ⊢
      by_cases hji : j = i
      · subst hji
        rw [ho] at hj
        obtain rfl := Option.some.inj hj
        split
        · rfl
        · exact hafter e he hb
      · rw [if_neg hji] at hLj
        split
        · rfl
        · exact i4 j oj hj hLj e he hb
    rcases Nat.lt_trichotomy i n with hin | hin | hin
    · -- ahead of the call
      cases hLn : L n with
      | false =>
        obtain ⟨⟨x, hx⟩, i7⟩ := i5 hLn
        have ho' : (l.take n)[i]? = some o := by rw [List.getElem?_take, if_pos hin]; exact ho
        obtain ⟨v, ai, hY, hv, hno, hyes, hz⟩ := key0 i o ho'
        have hag : ∀ t ∈ eyesG l o, a.tmps.getD t undef = ai.tmps.getD t undef := by
          intro t ht
          by_cases hex : ∃ (j : Nat) (o' : Oper), l[j]? = some o' ∧ o'.dst = some t
          · obtain ⟨j, o', hj, hd⟩ := hex
            obtain ⟨hji, e, he, hb, hon⟩ := heyes t ht j o' hj hd
            have hLj : L j = true := hon ▸ hafter e he hb
            rw [hyes t j o' hji (by rw [List.getElem?_take, if_pos (by omega)]; exact hj) hd]
            exact i7 j o' t hj hLj hd
          · have hn' : ∀ (j : Nat) (o' : Oper), l[j]? = some o' → o'.dst ≠ some t := fun j o' hj hd => hex ⟨j, o', hj, hd⟩
            rw [i3 t hn', hno t fun j o' hj => hn' j o' (htake j o' hj).1]
        have he : execOp a.eval o = execOp ai.eval o := execOp_congr o (fun c b hc => by rw [notSelect, hc] at hns; cases hns) (eval_eyes fun t ht => hag t (eyesG_l ht))
        have hwd : Region.wanted o (yielded l.toArray a.tmps) = Region.wanted o (yielded l.toArray ai.tmps) := wanted_same (i2.trans hz.symm) hag
        have hY' := hY.of_same he hwd
        rcases hY' with ⟨hw1, hq⟩ | ⟨hw0, hv0⟩
        · rw [if_pos hw1]
          refine Oper.wp_of_quiet (C := fun w' => ∃ x : Ext B W, w' = x.out) (K := fun a' => a' = a.put o.dst v) ⟨x, hx⟩ ?_ ⟨v, hq, rfl⟩
          rintro a' w' ⟨z, rfl⟩ rfl
          refine ⟨(put_defers' _ _ _).trans i1, (put_size _ _ _).trans i2, fun t ht => ?_, hcl, fun _ => ⟨⟨z, rfl⟩, fun j o' d hj hLj hd => ?_⟩, fun hLp => ?_⟩
          · rw [put_other _ _ _ _ (ht i o ho)]; exact i3 t ht
          · by_cases hji : j = i
            · subst hji
              rw [ho] at hj
              obtain rfl := Option.some.inj hj
              rw [hd, put_here _ _ _ (by rw [i2]; exact hd1 d hd)]
              exact hv d hd
            · have hLj' : L j = true := by unfold plus at hLj; rwa [if_neg hji] at hLj
              rw [put_other _ _ _ _ (hd2 j o' hj hji d hd)]; exact i7 j o' d hj hLj' hd
          · unfold plus at hLp; rw [if_neg (by omega), hLn] at hLp; cases hLp
        · subst hv0
          rw [if_neg (by rw [hw0]; decide)]
          obtain ⟨z, rfl⟩ : ∃ z : Ext B W, w = z.out := ⟨x, hx⟩
          refine ⟨(put_defers' _ _ _).trans i1, (put_size _ _ _).trans i2, fun t ht => ?_, hcl, fun _ => ⟨⟨z, rfl⟩, fun j o' d hj hLj hd => ?_⟩, fun hLp => ?_⟩
          · rw [put_other _ _ _ _ (ht i o ho)]; exact i3 t ht
          · by_cases hji : j = i
            · subst hji
              rw [ho] at hj
              obtain rfl := Option.some.inj hj
              rw [hd, put_here _ _ _ (by rw [i2]; exact hd1 d hd)]
              exact hv d hd
            · have hLj' : L j = true := by unfold plus at hLj; rwa [if_neg hji] at hLj
              rw [put_other _ _ _ _ (hd2 j o' hj hji d hd)]; exact i7 j o' d hj hLj' hd
          · unfold plus at hLp; rw [if_neg (by omega), hLn] at hLp; cases hLp
      | true =>
        obtain ⟨aτ, hP, i7⟩ := i6 hLn
        have hP0 := hP
        obtain ⟨p1, p2, p3, p4⟩ := hPost _ _ hP
        obtain ⟨v1, w0, vs1, hR0, hDw, hst1, hfin1, hQ1, hdv1⟩ := hP
        obtain ⟨vs2, hst2, hfin2⟩ := stepsS_of _ _ (hpre2 v1 w0 hR0)
        have ho' : (l.take n)[i]? = some o := by rw [List.getElem?_take, if_pos hin]; exact ho
        obtain ⟨v, ai, hY, hv, hno, hyes, hz⟩ := stepsS_keyG hst2 hfin2 (fun i o d h hd => (hL i o (htake i o h).1).2.1 d hd) (fun i o j o' d h h' hne hd => hone i o j o' d (htake i o h).1 (htake j o' h').1 hne hd) i o ho'
        have hag : ∀ t ∈ eyesG l o, a.tmps.getD t undef = ai.tmps.getD t undef := by
          intro t ht
          by_cases hex : ∃ (j : Nat) (o' : Oper), l[j]? = some o' ∧ o'.dst = some t
          · obtain ⟨j, o', hj, hd⟩ := hex
            obtain ⟨hji, e, he, hb, hon⟩ := heyes t ht j o' hj hd
            have hLj : L j = true := hon ▸ hafter e he hb
            rw [hyes t j o' hji (by rw [List.getElem?_take, if_pos (by omega)]; exact hj) hd, i7 j o' t hj hLj hd]
            exact p4 j o' t hj (by omega) hd
          · have hn' : ∀ (j : Nat) (o' : Oper), l[j]? = some o' → o'.dst ≠ some t := fun j o' hj hd => hex ⟨j, o', hj, hd⟩
            rw [i3 t hn', hno t fun j o' hj => hn' j o' (htake j o' hj).1]
        have he : execOp a.eval o = execOp ai.eval o := execOp_congr o (fun c b hc => by rw [notSelect, hc] at hns; cases hns) (eval_eyes fun t ht => hag t (eyesG_l ht))
        have hwd : Region.wanted o (yielded l.toArray a.tmps) = Region.wanted o (yielded l.toArray ai.tmps) := wanted_same (i2.trans hz.symm) hag
        have hY' := hY.of_same he hwd
        rcases hY' with ⟨hw1, hq⟩ | ⟨hw0, hv0⟩
        · rw [if_pos hw1]
          refine Oper.wp_of_quiet (C := D w0) (K := fun a' => a' = a.put o.dst v) hDw ?_ ⟨v, hq, rfl⟩
          rintro a' w' hDw' rfl
          refine ⟨(put_defers' _ _ _).trans i1, (put_size _ _ _).trans i2, fun t ht => ?_, hcl, fun hLp => ?_, fun _ => ⟨aτ, ⟨v1, w0, vs1, hR0, hDw', hst1, hfin1, hQ1, hdv1⟩, fun j o' d hj hLj hd => ?_⟩⟩
          · rw [put_other _ _ _ _ (ht i o ho)]; exact i3 t ht
          · unfold plus at hLp; rw [if_neg (by omega), hLn] at hLp; cases hLp
          · by_cases hji : j = i
            · subst hji
              rw [ho] at hj
              obtain rfl := Option.some.inj hj
              rw [hd, put_here _ _ _ (by rw [i2]; exact hd1 d hd)]
              exact (hv d hd).trans (p4 j o d ho hin hd).symm
            · have hLj' : L j = true := by unfold plus at hLj; rwa [if_neg hji] at hLj
              rw [put_other _ _ _ _ (hd2 j o' hj hji d hd)]; exact i7 j o' d hj hLj' hd
        · subst hv0
          rw [if_neg (by rw [hw0]; decide)]
          have hDw' := hDw
          refine ⟨(put_defers' _ _ _).trans i1, (put_size _ _ _).trans i2, fun t ht => ?_, hcl, fun hLp => ?_, fun _ => ⟨aτ, ⟨v1, w0, vs1, hR0, hDw', hst1, hfin1, hQ1, hdv1⟩, fun j o' d hj hLj hd => ?_⟩⟩
          · rw [put_other _ _ _ _ (ht i o ho)]; exact i3 t ht
          · unfold plus at hLp; rw [if_neg (by omega), hLn] at hLp; cases hLp
          · by_cases hji : j = i
            · subst hji
              rw [ho] at hj
              obtain rfl := Option.some.inj hj
              rw [hd, put_here _ _ _ (by rw [i2]; exact hd1 d hd)]
              exact (hv d hd).trans (p4 j o d ho hin hd).symm
            · have hLj' : L j = true := by unfold plus at hLj; rwa [if_neg hji] at hLj
              rw [put_other _ _ _ _ (hd2 j o' hj hji d hd)]; exact i7 j o' d hj hLj' hd
    · -- the call
      subst hin
      rw [hoc] at ho
      obtain rfl := Option.some.inj ho
      obtain ⟨⟨x, hx⟩, i7⟩ := i5 hLi
      rw [if_pos (by simp [Region.wanted, hgn])]
      have he : execOp a.eval oc = execOp aσ.eval oc := by
        refine execOp_congr oc (fun c b hc => by rw [notSelect, hc] at hns; cases hns) (eval_eyes fun t ht0 => ?_)
        have ht := eyesG_l (l := l) ht0
        by_cases hex : ∃ (j : Nat) (o' : Oper), l[j]? = some o' ∧ o'.dst = some t
        · obtain ⟨j, o', hj, hd⟩ := hex
          obtain ⟨hji, e, he, hb, hon⟩ := heyes t ht j o' hj hd
          exact i7 j o' t hj (hon ▸ hafter e he hb) hd
        · have hn' : ∀ (j : Nat) (o' : Oper), l[j]? = some o' → o'.dst ≠ some t := fun j o' hj hd => hex ⟨j, o', hj, hd⟩
          rw [i3 t hn', hout0 t fun j o' _ hj => hn' j o' hj]
      subst hx
      refine hop x a _ _ he ?_
      rintro v w' hR
      obtain ⟨vs, hst, hQ⟩ := stepsS_of _ _ (hpost v w' hR)
      have hdv : ∀ d, oc.dst = some d → (putsS (l.drop (i + 1)) vs (aσ.put oc.dst v)).tmps.getD d undef = v := by
        intro d hd
        rw [putsS_other, hd, put_here _ _ _ (by rw [hsize]; exact hd1 d hd)]
        intro o' hm' hd'
        obtain ⟨k, hk, rfl⟩ := List.getElem_of_mem hm'
        exact hone i oc _ _ d hoc (hdropg k _ (List.getElem?_eq_getElem hk)) (by omega) hd hd'
      have hP : Post w' (putsS (l.drop (i + 1)) vs (aσ.put oc.dst v)) := ⟨v, w', vs, hR, hD _, hst, rfl, hQ, hdv⟩
      obtain ⟨_, _, _, p4⟩ := hPost _ _ hP
      refine ⟨(put_defers' _ _ _).trans i1, (put_size _ _ _).trans i2, fun t ht => ?_, hcl, fun hLn => ?_, fun _ => ⟨_, hP, fun j o' d hj hLj hd => ?_⟩⟩
      · rw [put_other _ _ _ _ (ht i oc hoc)]; exact i3 t ht
      · simp [plus] at hLn
      · by_cases hji : j = i
        · subst hji
          rw [hoc] at hj
          obtain rfl := Option.some.inj hj
          rw [hd, put_here _ _ _ (by rw [i2]; exact hd1 d hd), ← hd, hdv d hd]
        · have hLj' : L j = true := by unfold plus at hLj; rwa [if_neg hji] at hLj
          have hjn : j < i := by
            rcases Nat.lt_trichotomy j i with h | h | h
            · exact h
            · exact absurd h hji
            · exfalso
              have : ∀ d t, t = d → i < t → t < l.length → L t = true → False := by
                intro d
                induction d using Nat.strongRecOn with
                | _ d ih =>
                  intro t htd hit htl hLt
                  obtain ⟨e, he', hb, h1, h2⟩ := wildB2_post hw t _ (List.getElem?_eq_getElem htl) hit
                  have h3 := i4 t _ (List.getElem?_eq_getElem htl) hLt e he' hb
                  rcases Nat.eq_or_lt_of_le h1 with h4 | h4
                  · rw [← h4, hLi] at h3; cases h3
                  · exact ih e.on (by omega) e.on rfl h4 (by omega) h3
              exact this _ j rfl h (List.getElem?_eq_some_iff.1 hj).1 hLj'
          rw [put_other _ _ _ _ (hd2 j o' hj hji d hd), i7 j o' d hj hLj' hd, p4 j o' d hj hjn hd]
    · -- behind the call
      have hLn : L n = true := by
        obtain ⟨e, he, hb, h1, h2⟩ := wildB2_post hw i o ho hin
        have h3 := hafter e he hb
        have : ∀ d t, t = d → n ≤ t → t < l.length → L t = true → L n = true := by
          intro d
          induction d using Nat.strongRecOn with
          | _ d ih =>
            intro t htd hit htl hLt
            rcases Nat.eq_or_lt_of_le hit with h4 | h4
            · rw [h4]; exact hLt
            · obtain ⟨e, he', hb, h1, h2⟩ := wildB2_post hw t _ (List.getElem?_eq_getElem htl) h4
              exact ih e.on (by omega) e.on rfl h1 (by omega) (i4 t _ (List.getElem?_eq_getElem htl) hLt e he' hb)
        exact this _ e.on rfl h1 (by have := (List.getElem?_eq_some_iff.1 ho).1; omega) h3
      obtain ⟨aτ, hP, i7⟩ := i6 hLn
      obtain ⟨p1, p2, p3, p4⟩ := hPost _ _ hP
      obtain ⟨v, w0, vs, hR0, hDw, hst, hfin, hQ, hdv⟩ := hP
      have ho' : (l.drop (n + 1))[i - (n + 1)]? = some o := by rw [List.getElem?_drop]; rw [show n + 1 + (i - (n + 1)) = i by omega]; exact ho
      obtain ⟨u, ai, hY, hv, hno, hyes, hz⟩ := stepsS_keyG hst hfin (fun j o' d h hd => by rw [put_size, hsize]; exact (hL _ o' (hdropg j o' h)).2.1 d hd) (fun j o' k o'' d h h' hne hd => hone _ o' _ o'' d (hdropg j o' h) (hdropg k o'' h') (by omega) hd) _ o ho'
      have hag : ∀ t ∈ eyesG l o, a.tmps.getD t undef = ai.tmps.getD t undef := by
        intro t ht
        by_cases hex : ∃ (j : Nat) (o' : Oper), l[j]? = some o' ∧ o'.dst = some t
        · obtain ⟨j, o', hj, hd⟩ := hex
          obtain ⟨hji, e, he, hb, hon⟩ := heyes t ht j o' hj hd
          have hLj : L j = true := hon ▸ hafter e he hb
          rw [i7 j o' t hj hLj hd]
          by_cases hjn : n < j
          · rw [hyes t (j - (n + 1)) o' (by omega) (by rw [List.getElem?_drop, show n + 1 + (j - (n + 1)) = j by omega]; exact hj) hd]
          · have h9 : ai.tmps.getD t undef = (aσ.put oc.dst v).tmps.getD t undef := hno t fun k o'' hk => hone j o' _ o'' t hj (hdropg k o'' hk) (by omega) hd
            rw [h9]
            rcases Nat.lt_or_ge j n with h10 | h10
            · rw [p4 j o' t hj h10 hd, put_other _ _ _ _ (hone j o' n oc t hj hoc (by omega) hd)]
            · obtain rfl : j = n := by omega
              rw [hoc] at hj
              obtain rfl := Option.some.inj hj
              rw [hdv t hd, hd, put_here _ _ _ (by rw [hsize]; exact (hL j oc hoc).2.1 t hd)]
        · have hn' : ∀ (j : Nat) (o' : Oper), l[j]? = some o' → o'.dst ≠ some t := fun j o' hj hd => hex ⟨j, o', hj, hd⟩
          rw [i3 t hn', hno t fun j o' hj => hn' _ o' (hdropg j o' hj), put_other _ _ _ _ (hn' n oc hoc), hout0 t fun j o' _ hj => hn' j o' hj]
      have he : execOp a.eval o = execOp ai.eval o := execOp_congr o (fun c b hc => by rw [notSelect, hc] at hns; cases hns) (eval_eyes fun t ht => hag t (eyesG_l ht))
      have hwd : Region.wanted o (yielded l.toArray a.tmps) = Region.wanted o (yielded l.toArray ai.tmps) := wanted_same (i2.trans (hz.trans ((put_size _ _ _).trans hsize)).symm) hag
      have hY' := hY.of_same he hwd
      rcases hY' with ⟨hw1, hq⟩ | ⟨hw0, hv0⟩
      · rw [if_pos hw1]
        refine Oper.wp_of_quiet (C := D w0) (K := fun a' => a' = a.put o.dst u) hDw ?_ ⟨u, hq, rfl⟩
        rintro a' w' hDw' rfl
        refine ⟨(put_defers' _ _ _).trans i1, (put_size _ _ _).trans i2, fun t ht => ?_, hcl, fun hLp => ?_, fun _ => ⟨aτ, ⟨v, w0, vs, hR0, hDw', hst, hfin, hQ, hdv⟩, fun j o' d hj hLj hd => ?_⟩⟩
        · rw [put_other _ _ _ _ (ht i o ho)]; exact i3 t ht
        · unfold plus at hLp; rw [if_neg (by omega), hLn] at hLp; cases hLp
        · by_cases hji : j = i
          · subst hji
            rw [ho] at hj
            obtain rfl := Option.some.inj hj
            rw [hd, put_here _ _ _ (by rw [i2]; exact hd1 d hd)]
            exact hv d hd
          · have hLj' : L j = true := by unfold plus at hLj; rwa [if_neg hji] at hLj
            rw [put_other _ _ _ _ (hd2 j o' hj hji d hd)]; exact i7 j o' d hj hLj' hd
      · subst hv0
        rw [if_neg (by rw [hw0]; decide)]
        have hDw' := hDw
        refine ⟨(put_defers' _ _ _).trans i1, (put_size _ _ _).trans i2, fun t ht => ?_, hcl, fun hLp => ?_, fun _ => ⟨aτ, ⟨v, w0, vs, hR0, hDw', hst, hfin, hQ, hdv⟩, fun j o' d hj hLj hd => ?_⟩⟩
        · rw [put_other _ _ _ _ (ht i o ho)]; exact i3 t ht
        · unfold plus at hLp; rw [if_neg (by omega), hLn] at hLp; cases hLp
        · by_cases hji : j = i
          · subst hji
            rw [ho] at hj
            obtain rfl := Option.some.inj hj
            rw [hd, put_here _ _ _ (by rw [i2]; exact hd1 d hd)]
            exact hv d hd
          · have hLj' : L j = true := by unfold plus at hLj; rwa [if_neg hji] at hLj
            rw [put_other _ _ _ _ (hd2 j o' hj hji d hd)]; exact i7 j o' d hj hLj' hd
  · intro L a w hall ⟨i1, i2, i3, i4, i5, i6⟩
    obtain ⟨aτ, hP, i7⟩ := i6 (hall n hnl)
    obtain ⟨p1, p2, p3, p4⟩ := hPost _ _ hP
    obtain ⟨v, w0, vs, hR0, hDw, hst, hfin, hQ, hdv⟩ := hP
    have : a = aτ := by
      refine act_ext (i2.trans p1.symm) (i1.trans p2.symm) fun k => ?_
      by_cases hex : ∃ (j : Nat) (o' : Oper), l[j]? = some o' ∧ o'.dst = some k
      · obtain ⟨j, o', hj, hd⟩ := hex
        exact i7 j o' k hj (hall j (List.getElem?_eq_some_iff.1 hj).1) hd
      · have hn' : ∀ (j : Nat) (o' : Oper), l[j]? = some o' → o'.dst ≠ some k := fun j o' hj hd => hex ⟨j, o', hj, hd⟩
        rw [i3 k hn', p3 k hn']
    rw [this]; exact hQ _ hDw
/-- The same, at one operation of unforeknown result that is no call; what stands behind it, and what may run behind it, turns nothing below the heap that the call has left. -/
theorem wp_region_wildOG {P : Program} {id : Nat} {Q : Exit → Act → World → Prop} {a0 : Act} {W : World} {l : List Oper} (B n : Nat) (aσ : Act) (oc : Oper) (R : Value → World → Prop)
    (hm : P.follows .mixedOrders = true) (hback : backB l = true) (hn : lawG l a0.tmps.size = true) (hgn : oc.guard = none) (hw : wildB2 l n = true) (hoc : l[n]? = some oc) (hBW : B ≤ W.heap.size)
    (hpre : ∀ (B' : Nat) (W' : World), Below B W W' → B ≤ B' → B' ≤ W'.heap.size → wpQuiet P l.toArray (fun w' => ∃ x : Ext B' W', w' = x.out) (fun a' => a' = aσ) (l.take n) a0)
    (hrun : ∀ x : Ext B W, ∃ v w', (execOp aσ.eval oc).run P x.out = .ok (.value v) w' ∧ R v w' ∧ Below B W w')
    (hpost : ∀ v w1, R v w1 → Below B W w1 → wpQuiet P l.toArray (fun w' => ∃ y : Ext w1.heap.size w1, w' = y.out) (fun a' => ∀ w', (∃ y : Ext w1.heap.size w1, w' = y.out) → Q .normal a' w') (l.drop (n + 1)) (aσ.put oc.dst v)) :
    (Code.region id l.toArray true).wp P Q a0 W :=
  wp_region_wildY B n aσ oc (fun v w1 => R v w1 ∧ Below B W w1) (fun w1 w' => ∃ y : Ext w1.heap.size w1, w' = y.out) (fun w => ⟨⟨w, Below.refl _ _⟩, rfl⟩) hm hback hn hgn hw hoc hBW (hpre B W (Below.refl _ _) (Nat.le_refl _) hBW)
    (fun v w1 hR => hpre w1.heap.size w1 hR.2 (Nat.le_trans hBW hR.2.size) (Nat.le_refl _)) (fun x a K Q' he hK => by
      obtain ⟨v, w', h1, h2, h3⟩ := hrun x
      unfold Oper.wp
      rw [he, h1]
      exact hK v w' ⟨h2, h3⟩) (fun v w1 hR => hpost v w1 hR.1 hR.2)
end Go.Proofs.Ytjcmdihadblodaa
