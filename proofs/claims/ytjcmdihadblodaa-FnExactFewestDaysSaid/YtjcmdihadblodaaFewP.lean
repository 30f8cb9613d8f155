/- FewestDays: the first list of days with the fewest ones, found in two ways. No program here. -/
import Derived.Test.YtjcmdihadblodaaNum
namespace Go.Proofs.Ytjcmdihadblodaa
set_option linter.unusedSimpArgs false
set_option linter.unusedVariables false

/-- The program: what is left of each day when a job of time t goes to day k. -/
def putL (s t : Int) (left : List Int) (k : Nat) : List Int :=
  let own := if k = left.length then left ++ [s] else left
  own.set k (own.getD k 0 - t)
/-- The reference: how long each day is. -/
def putS (t : Int) (long : List Int) (k : Nat) : List Int :=
  let own := if k = long.length then long ++ [0] else long
  own.set k (own.getD k 0 + t)
/-- daysOf. -/
def daysF (s : Int) (most : Nat) : List Int → List Int → Option (List Int)
  | [], _ => some []
  | t :: ts, left => (List.range (min (left.length + 1) most)).findSome? fun k =>
      if (putL s t left k).getD k 0 < 0 then none else (daysF s most ts (putL s t left k)).map fun l => (k : Int) :: l
def prunedS (st : Option (List Int × Nat)) (n : Nat) : Bool := match st with | some p => decide (p.2 ≤ n) | none => false
/-- from. -/
def fromF (s : Int) : List Int → List Int → List Int → Option (List Int × Nat) → Option (List Int × Nat)
  | [], days, long, st => if prunedS st long.length then st else some (days, long.length)
  | t :: ts, days, long, st => if prunedS st long.length then st else
      (List.range (long.length + 1)).foldl (fun st k => if (putS t long k).getD k 0 ≤ s then fromF s ts (days ++ [(k : Int)]) (putS t long k) st else st) st
/-- All ways, in their order. -/
def leaves (s : Int) : List Int → List Int → List (List Int × Nat)
  | [], long => [([], long.length)]
  | t :: ts, long => (List.range (long.length + 1)).flatMap fun k =>
      if (putS t long k).getD k 0 ≤ s then (leaves s ts (putS t long k)).map fun p => ((k : Int) :: p.1, p.2) else []

theorem putS_len (t : Int) (long : List Int) (k : Nat) : (putS t long k).length = if k = long.length then long.length + 1 else long.length := by
  unfold putS; split <;> simp
theorem putL_len (s t : Int) (left : List Int) (k : Nat) : (putL s t left k).length = if k = left.length then left.length + 1 else left.length := by
  unfold putL; split <;> simp
theorem putL_map (s t : Int) (long : List Int) (k : Nat) (hk : k ≤ long.length) : putL s t (long.map (s - ·)) k = (putS t long k).map (s - ·) := by
  unfold putL putS
  simp only [List.length_map]
  by_cases h : k = long.length
  · subst h
    simp [List.set_append]
  · have hk' : k < long.length := by omega
    simp only [if_neg h, List.map_set, List.getD_eq_getElem?_getD, List.getElem?_map, List.getElem?_eq_getElem hk', Option.map_some, Option.getD_some]
    congr 1
    omega
theorem getD_map (s : Int) (l : List Int) (k : Nat) (hk : k < l.length) : (l.map (s - ·)).getD k 0 = s - l.getD k 0 := by
  simp [List.getD_eq_getElem?_getD, List.getElem?_eq_getElem hk]
theorem leaves_ge (s : Int) : ∀ ts long, ∀ p ∈ leaves s ts long, long.length ≤ p.2
  | [], long, p, hp => by simp [leaves] at hp; subst hp; exact Nat.le_refl _
  | t :: ts, long, p, hp => by
    unfold leaves at hp
    obtain ⟨k, hk, hp⟩ := List.mem_flatMap.1 hp
    split at hp
    · obtain ⟨q, hq, rfl⟩ := List.mem_map.1 hp
      have := leaves_ge s ts _ q hq
      rw [putS_len] at this
      split at this <;> (simp only; omega)
    · cases hp
theorem leaves_le (s : Int) : ∀ ts long, ∀ p ∈ leaves s ts long, p.2 ≤ long.length + ts.length
  | [], long, p, hp => by simp [leaves] at hp; subst hp; exact Nat.le_refl _
  | t :: ts, long, p, hp => by
    unfold leaves at hp
    obtain ⟨k, hk, hp⟩ := List.mem_flatMap.1 hp
    split at hp
    · obtain ⟨q, hq, rfl⟩ := List.mem_map.1 hp
      have := leaves_le s ts _ q hq
      rw [putS_len] at this
      simp only [List.length_cons]
      split at this <;> omega
    · cases hp
theorem leaves_some (s : Int) : ∀ ts long, (∀ t ∈ ts, t ≤ s) → ∃ p, p ∈ leaves s ts long
  | [], long, _ => ⟨_, by unfold leaves; exact List.mem_singleton.2 rfl⟩
  | t :: ts, long, h => by
    have hf : (putS t long long.length).getD long.length 0 ≤ s := by
      unfold putS
      simp [List.getD_eq_getElem?_getD]
      exact h t (by simp)
    obtain ⟨p, hp⟩ := leaves_some s ts (putS t long long.length) (fun t ht => h t (by simp [ht]))
    refine ⟨((long.length : Int) :: p.1, p.2), ?_⟩
    unfold leaves
    refine List.mem_flatMap.2 ⟨long.length, by simp, ?_⟩
    rw [if_pos hf]
    exact List.mem_map.2 ⟨p, hp, rfl⟩
theorem find_flatMap {α β : Type} (p : β → Bool) (f : α → List β) : ∀ l : List α, (l.flatMap f).find? p = l.findSome? fun a => (f a).find? p
  | [] => rfl
  | a :: l => by
    rw [List.flatMap_cons, List.find?_append, List.findSome?_cons, find_flatMap p f l]
    cases (f a).find? p <;> rfl
theorem findSome_map {α β γ : Type} (g : β → γ) (f : α → Option β) : ∀ l : List α, (l.findSome? f).map g = l.findSome? fun a => (f a).map g
  | [] => rfl
  | a :: l => by
    rw [List.findSome?_cons, List.findSome?_cons, ← findSome_map g f l]
    cases f a <;> rfl
theorem findSome_congr {α β : Type} {f g : α → Option β} : ∀ {l : List α}, (∀ a ∈ l, f a = g a) → l.findSome? f = l.findSome? g
  | [], _ => rfl
  | a :: l, h => by
    rw [List.findSome?_cons, List.findSome?_cons, h a (by simp), findSome_congr (fun b hb => h b (by simp [hb]))]
/-- The program's way finds the first one with few days. -/
theorem daysF_leaves (s : Int) (most : Nat) : ∀ ts long, long.length ≤ most → daysF s most ts (long.map (s - ·)) = ((leaves s ts long).find? fun p => decide (p.2 ≤ most)).map (·.1)
  | [], long, h => by simp [daysF, leaves, h]
  | t :: ts, long, h => by
    unfold daysF leaves
    rw [find_flatMap, findSome_map, List.length_map]
    have hstep : ∀ k, k ≤ long.length → (k < most ∨ k < long.length) →
        (if (putL s t (long.map (s - ·)) k).getD k 0 < 0 then none else (daysF s most ts (putL s t (long.map (s - ·)) k)).map fun l => (k : Int) :: l) =
        (List.find? (fun p => decide (p.2 ≤ most)) (if (putS t long k).getD k 0 ≤ s then (leaves s ts (putS t long k)).map fun p => ((k : Int) :: p.1, p.2) else [])).map (·.1) := by
      intro k hk hm
      rw [putL_map s t long k hk]
      have hkl : k < (putS t long k).length := by rw [putS_len]; split <;> omega
      have hlm : (putS t long k).length ≤ most := by rw [putS_len]; split <;> omega
      rw [getD_map s _ k hkl]
      by_cases hf : (putS t long k).getD k 0 ≤ s
      · rw [if_neg (by omega), if_pos hf, daysF_leaves s most ts _ hlm, List.find?_map]
        simp only [Option.map_map, Function.comp_def]
      · rw [if_pos (by omega), if_neg hf]; rfl
    by_cases hm : long.length < most
    · rw [show min (long.length + 1) most = long.length + 1 by omega]
      exact findSome_congr fun k hk => hstep k (by simp at hk; omega) (by simp at hk; omega)
    · obtain rfl : long.length = most := by omega
      rw [show min (long.length + 1) long.length = long.length by omega, List.range_succ, List.findSome?_append]
      rw [findSome_congr (fun k hk => hstep k (by simp at hk; omega) (by simp at hk; omega))]
      have hnone : ([long.length].findSome? fun k => ((if (putS t long k).getD k 0 ≤ s then (leaves s ts (putS t long k)).map fun p => ((k : Int) :: p.1, p.2) else []).find? fun p => decide (p.2 ≤ long.length)).map (·.1)) = none := by
        simp only [List.findSome?_singleton, Option.map_eq_none_iff, List.find?_eq_none]
        intro p hp
        split at hp
        · obtain ⟨q, hq, rfl⟩ := List.mem_map.1 hp
          have := leaves_ge s ts _ q hq
          rw [putS_len, if_pos rfl] at this
          simp; omega
        · cases hp
      rw [hnone]; simp
def updS (st : Option (List Int × Nat)) (p : List Int × Nat) : Option (List Int × Nat) := if prunedS st p.2 then st else some p
theorem upd_pruned {st : Option (List Int × Nat)} {n : Nat} (h : prunedS st n = true) : ∀ (l : List (List Int × Nat)), (∀ p ∈ l, n ≤ p.2) → l.foldl updS st = st
  | [], _ => rfl
  | p :: l, hl => by
    rw [List.foldl_cons]
    have : updS st p = st := by
      unfold updS
      rw [if_pos]
      cases st with
      | none => cases h
      | some q => simp [prunedS] at h ⊢; have := hl p (by simp); omega
    rw [this]
    exact upd_pruned h l (fun q hq => hl q (by simp [hq]))
theorem foldl_flatMap' {α β γ : Type} (f : γ → β → γ) (g : α → List β) : ∀ (l : List α) (x : γ), (l.flatMap g).foldl f x = l.foldl (fun x a => (g a).foldl f x) x
  | [], _ => rfl
  | a :: l, x => by rw [List.flatMap_cons, List.foldl_append, List.foldl_cons, foldl_flatMap' f g l]
theorem foldl_congr' {α γ : Type} {f g : γ → α → γ} : ∀ {l : List α} {x : γ}, (∀ a ∈ l, ∀ y, f y a = g y a) → l.foldl f x = l.foldl g x
  | [], _, _ => rfl
  | a :: l, x, h => by rw [List.foldl_cons, List.foldl_cons, h a (by simp), foldl_congr' (fun b hb => h b (by simp [hb]))]
/-- The reference's way goes over all. -/
theorem fromF_leaves (s : Int) : ∀ ts days long st, fromF s ts days long st = ((leaves s ts long).map fun p => (days ++ p.1, p.2)).foldl updS st
  | [], days, long, st => by simp [fromF, leaves, updS]
  | t :: ts, days, long, st => by
    by_cases hp : prunedS st long.length = true
    · unfold fromF
      rw [if_pos hp, upd_pruned hp]
      intro p h
      obtain ⟨q, hq, rfl⟩ := List.mem_map.1 h
      exact leaves_ge s _ _ q hq
    · unfold fromF leaves
      rw [if_neg hp, List.map_flatMap, foldl_flatMap']
      refine foldl_congr' fun k hk y => ?_
      by_cases hf : (putS t long k).getD k 0 ≤ s
      · rw [if_pos hf, if_pos hf, fromF_leaves s ts, List.map_map]
        congr 2
        funext p
        simp
      · rw [if_neg hf, if_neg hf]; rfl
theorem upd_first : ∀ (l : List (List Int × Nat)) (p : List Int × Nat), l.reverse.foldl updS none = some p → (l.reverse.find? fun q => decide (q.2 ≤ p.2)) = some p ∧ ∀ m, m < p.2 → (l.reverse.find? fun q => decide (q.2 ≤ m)) = none
  | [], p, h => by cases h
  | q :: l, p, h => by
    rw [List.reverse_cons, List.foldl_append] at h
    rw [List.reverse_cons]
    cases hst : l.reverse.foldl updS none with
    | none =>
      have hl : l = [] := by
        cases l with
        | nil => rfl
        | cons a l =>
          exfalso
          rw [List.reverse_cons, List.foldl_append] at hst
          simp only [List.foldl_cons, List.foldl_nil] at hst
          unfold updS at hst
          split at hst
          · rename_i h1
            rw [hst] at h1; cases h1
          · cases hst
      subst hl
      simp [updS, prunedS] at h
      subst h
      refine ⟨by simp, fun m hm => by simp; omega⟩
    | some r =>
      have ih := upd_first l r hst
      rw [hst] at h
      simp only [List.foldl_cons, List.foldl_nil] at h
      unfold updS prunedS at h
      by_cases hr : r.2 ≤ q.2
      · simp [hr] at h
        subst h
        refine ⟨by rw [List.find?_append, ih.1]; rfl, fun m hm => ?_⟩
        rw [List.find?_append, ih.2 m hm]
        simp; omega
      · simp [hr] at h
        subst h
        refine ⟨by rw [List.find?_append, ih.2 _ (by omega)]; simp, fun m hm => ?_⟩
        rw [List.find?_append, ih.2 m (by omega)]
        simp; omega
/-- What both find. -/
theorem few_eq (s : Int) (ts : List Int) (h : ∀ t ∈ ts, t ≤ s) : ∃ l n, n ≤ ts.length ∧ fromF s ts [] [] none = some (l, n) ∧ daysF s n ts [] = some l ∧ ∀ m, m < n → daysF s m ts [] = none := by
  have hE := fromF_leaves s ts [] [] none
  have hid : ((leaves s ts []).map fun p => (([] : List Int) ++ p.1, p.2)) = leaves s ts [] := by simp
  rw [hid] at hE
  obtain ⟨p0, hp0⟩ := leaves_some s ts [] h
  cases hst : (leaves s ts []).foldl updS none with
  | none =>
    exfalso
    have : ∀ (l : List (List Int × Nat)) (p : List Int × Nat) (st : Option (List Int × Nat)), (p ∈ l ∨ st.isSome) → (l.foldl updS st).isSome := by
      intro l
      induction l with
      | nil => intro p st h; rcases h with h | h; cases h; exact h
      | cons a l ih =>
        intro p st h
        rw [List.foldl_cons]
        refine ih p _ (.inr ?_)
        unfold updS
        split
        · rename_i h1
          cases st with
          | none => cases h1
          | some q => rfl
        · rfl
    have := this _ p0 none (.inl hp0)
    rw [hst] at this; cases this
  | some p =>
    have := upd_first (leaves s ts []).reverse p (by rw [List.reverse_reverse]; exact hst)
    rw [List.reverse_reverse] at this
    have hd : ∀ m, daysF s m ts [] = ((leaves s ts []).find? fun p => decide (p.2 ≤ m)).map (·.1) := fun m => daysF_leaves s m ts [] (Nat.zero_le _)
    have hmem := List.mem_of_find?_eq_some this.1
    refine ⟨p.1, p.2, by simpa using leaves_le s ts [] p hmem, by rw [hE, hst], by rw [hd, this.1]; rfl, fun m hm => by rw [hd, this.2 m hm]; rfl⟩
end Go.Proofs.Ytjcmdihadblodaa
