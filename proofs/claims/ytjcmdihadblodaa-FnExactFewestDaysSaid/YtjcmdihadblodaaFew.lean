/- FewestDays: the program's. -/
import Derived.Test.YtjcmdihadblodaaFewP
import Derived.Test.YtjcmdihadblodaaDays
import Derived.Test.YtjcmdihadblodaaMany
import Derived.Lib.SliceRun
namespace Go.Proofs.Ytjcmdihadblodaa
open Go.RowKit
set_option linter.unusedSimpArgs false
set_option linter.unusedVariables false

theorem addr_addI (b off j : Nat) : (⟨b, off, none⟩ : Addr).add j = ⟨b, off + j, none⟩ := by unfold Addr.add; split <;> simp_all
theorem icells_one (l : List Int) : ∀ u ∈ icells l, u.oneCell' = true := by
  intro u hu
  obtain ⟨n, _, rfl⟩ := List.mem_map.1 hu
  rfl
theorem SlI.src {w : World} {A : Option Addr} {l : List Int} (h : SlI w A l) : ∀ j u, (icells l)[j]? = some u → ∃ ad : Addr, A = some ad ∧ w.cell? (ad.add j) = some u := by
  intro j u hj
  unfold icells at hj
  rw [List.getElem?_map] at hj
  cases hl : l[j]? with
  | none => rw [hl] at hj; cases hj
  | some n =>
    rw [hl] at hj
    obtain rfl : Value.int .i64 n = u := by simpa using hj
    obtain ⟨b, off, e, _, h2⟩ := h j n hl
    exact ⟨_, e, by rw [addr_addI]; exact h2⟩
/-- All of l' behind l. -/
theorem wp_appL {ops : Array Oper} {rest : List Oper} {o : Oper} {a : Act} {W : World} {Q : Exit → Act → World → Prop} (hgd : o.guard = none) (s x : Operand)
    (ho : o.op = .call { callee := .builtin .append, args := #[s, x], argTypes := #[22, 22] })
    (B : Nat) (v : Value) (l l' : List Int) (hO : RowI B W v l) (hs : a.eval s = v) (A : Option Addr) (c : Nat) (hA : SlI W A l') (hx : a.eval x = .slice A l'.length c) (hn : l.length + l'.length ≤ 1100000) (hB : B ≤ W.heap.size)
    (h : ∀ v' w', RowI B w' v' (l ++ l') → Grew v v' W w' → wpList Try.prog ops Q rest (a.put o.dst v') w') : wpList Try.prog ops Q (o :: rest) a W := by
  obtain ⟨i0, hi, hz0, hz1, hz2⟩ := info_parts Try.infoI64
  refine wpList_append_many hgd s x 22 ho B 2 i0 (.int .i64 0) 1 8 Try.underlying22 hi hz0 hz1 hz2 rfl (by decide) (by decide) v l.length (icells l) hO hs A l'.length c (icells l') (by simp [icells]) hA.src (icells_one l') hx (by omega) hB ?_
  intro v' w' h1 h2
  refine h v' w' ?_ h2
  unfold RowI
  rw [List.length_append]
  have : icells (l ++ l') = icells l ++ icells l' := by simp [icells]
  rw [this]
  exact h1
set_option maxRecDepth 100000 in
theorem c_cloneI (A : Option Addr) (c : Nat) (l : List Int) (hlen : l.length ≤ 100000) (w : World) (hA : SlI w A l) :
    Calls Try.prog 50 #[.slice A l.length c] w fun e w' => ∃ v, e = .returned v ∧ Below w.heap.size w w' ∧ RowI w.heap.size w' v l := by
  have qT : ∀ (w : World) (a : Option Addr) (n c : Nat), (binOp .eql 22 (.slice a n c) (.slice none 0 0)).run Try.prog w = .ok (.bool a.isNone) w := fun w a n c => Lib.run_eql_slice_nil w _ _ a n c 0 0 Try.underlying22
  rcases A with _ | ⟨b, off, sub⟩
  · have hl : l = [] := by
      cases l with
      | nil => rfl
      | cons a l => obtain ⟨_, _, e, _⟩ := hA 0 a rfl; cases e
    subst hl
    clear hA
    go_enter Try.func50, Try.ntmps50
    go_wp2_with fail
    go_ret
    exact ⟨_, rfl, Below.refl _ _, RowI.nil _ _⟩
  · have HA := hid hA
    have HM := hid (RowI.made (w := w) (Nat.le_refl _))
    have HB := hid ((Below.refl w.heap.size w).alloc (Nat.le_refl _) (.cells #[] 2))
    have HS := hid (hA.below ((Below.refl w.heap.size w).alloc (Nat.le_refl _) (.cells #[] 2)) (Nat.le_refl _))
    clear hA
    go_enter Try.func50, Try.ntmps50
    go_wp2_with ((with_reducible refine gate (N := 7) rfl ?_); refine wp_appL rfl (.tmp 5) (.tmp 6) rfl w.heap.size _ [] l HM.out rfl _ c HS.out rfl (by simp; omega) HB.out.size ?_; intro v' w2 hown hg)
    go_ret
    exact ⟨_, rfl, HB.out.trans (HM.out.belowG hg HB.out.size), hown⟩
/-- A list of days, if there is one. -/
def DaysRet (w : World) (o : Option (List Int)) (e : Ending) (w' : World) : Prop := ∃ v, e = .returned (.tuple #[v, .bool o.isSome]) ∧ Below w.heap.size w w' ∧ RowI w.heap.size w' v (o.getD [])
theorem SlI.tail {w : World} {b off : Nat} {t : Int} {ts : List Int} (h : SlI w (some ⟨b, off, none⟩) (t :: ts)) : SlI w (some ⟨b, off + 1, none⟩) ts := fun j n hj => by
  obtain ⟨b', off', e, h1, h2⟩ := h (j + 1) n (by simpa using hj)
  obtain ⟨rfl, rfl⟩ : b = b' ∧ off = off' := by simpa using e
  exact ⟨b, off + 1, rfl, h1, by rw [show off + 1 + j = off + (j + 1) by omega]; exact h2⟩
theorem findR_none {α : Type} {f : Nat → Option α} {n : Nat} (h : ∀ j, j < n → f j = none) : (List.range n).findSome? f = none := by
  rw [List.findSome?_eq_none_iff]
  intro j hj
  exact h j (List.mem_range.1 hj)
theorem findR_some {α : Type} {f : Nat → Option α} {a : α} {k : Nat} : ∀ {n : Nat}, k < n → (∀ j, j < k → f j = none) → f k = some a → (List.range n).findSome? f = some a
  | 0, h, _, _ => by omega
  | n + 1, h, h1, h2 => by
    rw [List.range_succ, List.findSome?_append]
    by_cases hk : k < n
    · rw [findR_some hk h1 h2]; rfl
    · obtain rfl : k = n := by omega
      rw [findR_none h1]; simp [h2]
theorem RowI.one {B : Nat} {w : World} (n : Int) (hB : B ≤ w.heap.size) : RowI B (w.alloc (.cells #[.int .i64 n] 2)) (.slice (some ⟨w.heap.size, 0, none⟩) 1 1) [n] :=
  ⟨rfl, .inr ⟨w.heap.size, 1, _, rfl, hB, heap_alloc_new w _, Nat.le_refl _, by decide, rfl, rfl⟩⟩
theorem RowI.drew {B : Nat} {w : World} {v : Value} {l : List Int} (h : RowI B w v l) : RowI B w.drew v l := h
theorem SlI.drew {w : World} {A : Option Addr} {l : List Int} (h : SlI w A l) : SlI w.drew A l := h
theorem RowI.sli2 {B : Nat} {w : World} {A : Option Addr} {n c : Nat} {l : List Int} (h : RowI B w (.slice A n c) l) (_ : l.length = n) : SlI w A l := h.sli
theorem daysF_len {s : Int} {most : Nat} : ∀ {ts left l : List Int}, daysF s most ts left = some l → l.length = ts.length
  | [], left, l, h => by unfold daysF at h; rw [← Option.some.inj h]
  | t :: ts, left, l, h => by
    unfold daysF at h
    obtain ⟨k, _, h2⟩ := List.exists_of_findSome?_eq_some h
    split at h2
    · cases h2
    · obtain ⟨l', h3, rfl⟩ := Option.map_eq_some_iff.1 h2
      rw [List.length_cons, List.length_cons, daysF_len h3]
theorem mono_calls {P : Program} {f : FuncId} {args : Array Value} {w : World} {R R' : Ending → World → Prop} (h : Calls P f args w R) (hR : ∀ e w', R e w' → R' e w') : Calls P f args w R' := h.mono hR
set_option maxHeartbeats 1600000 in
set_option maxRecDepth 100000 in
theorem c_daysOf0 (s : Int) (most : Nat) (left : List Int) (A A2 : Option Addr) (c c2 : Nat) (w : World) :
    Calls Try.prog 28 #[.slice A 0 c, .slice A2 left.length c2, .int .i64 s, .int .i64 most] w (DaysRet w (some [])) := by
  go_enter Try.func28, Try.ntmps28
  go_wp2_with fail
  go_ret2
  exact ⟨_, rfl, Below.refl _ _, RowI.nil _ _⟩
set_option maxHeartbeats 3200000 in
set_option maxRecDepth 100000 in
theorem c_daysOf1 (s : Int) (hs : 1 ≤ s ∧ s ≤ 1000) (most : Nat) (hm : most ≤ 100) (t : Int) (ht : 0 ≤ t ∧ t ≤ s) (n : Nat) (ts : List Int) (hn : ts.length = n) (hn8 : n ≤ 100) (left : List Int) (hll : left.length ≤ 100) (hlb : ∀ x ∈ left, 0 ≤ x ∧ x ≤ s)
    (ih : ∀ (left' : List Int), left'.length ≤ left.length + 1 → (∀ x ∈ left', 0 ≤ x ∧ x ≤ s) → ∀ (A A2 : Option Addr) (c c2 : Nat) (hc : ts.length ≤ c ∧ c ≤ 9223372036854775807) (w : World), SlI w A ts → SlI w A2 left' → Calls Try.prog 28 #[.slice A n c, .slice A2 left'.length c2, .int .i64 s, .int .i64 most] w (DaysRet w (daysF s most ts left')))
    (A A2 : Option Addr) (c c2 : Nat) (hcase : (c = 1 ∧ n = 0) ∨ ¬ c = 1) (hc : ts.length + 1 ≤ c ∧ c ≤ 9223372036854775807) (w : World) (hA : SlI w A (t :: ts)) (hA2 : SlI w A2 left) :
    Calls Try.prog 28 #[.slice A (n + 1) c, .slice A2 left.length c2, .int .i64 s, .int .i64 most] w (DaysRet w (daysF s most (t :: ts) left)) := by
  have hnc : n + 1 ≤ c := by omega
  obtain ⟨cm, hcm⟩ : ∃ cm, cm = c - 1 := ⟨_, rfl⟩
  have HCM : Hid (ts.length ≤ cm ∧ cm ≤ 9223372036854775807) := by rw [Hid]; omega
  have HCE := hid hcm
  clear hcm
  rcases hcase with ⟨rfl, hn0⟩ | hc1
  all_goals
    obtain ⟨b, off, rfl, r1, r2⟩ := hA 0 t rfl
    have HA := hid hA
    have HA2 := hid hA2
    have HI := hid ih
    have HLB := hid hlb
    have hz : ((n : Int) + 1 == 0) = false := beq_false_of_ne (by omega)
    have HNT := hid hn
    clear hn hc
    try have HN0 := hid hn0
    try clear hn0
    obtain ⟨N, hN⟩ : ∃ N, N = min (left.length + 1) most := ⟨_, rfl⟩
    have hmin : min ((left.length : Int) + 1) (most : Int) = (N : Int) := by omega
    clear hA hA2 ih hlb
    have HF0 : Hid (daysF s most (t :: ts) left = (List.range N).findSome? fun k => if (putL s t left k).getD k 0 < 0 then none else (daysF s most ts (putL s t left k)).map fun l => (k : Int) :: l) := by
      rw [hN]; rfl
    have HN := hid hN
    clear hN
    go_enter Try.func28, Try.ntmps28
    go_wp2_with fail
    clear hmin
    go_loopw [22] (fun i wr => ∃ k : Nat, k ≤ N ∧ i = .int .i64 k ∧ Hid (Below w.heap.size w wr) ∧ Hid (∀ j, j < k → (if (putL s t left j).getD j 0 < 0 then none else (daysF s most ts (putL s t left j)).map fun l => (j : Int) :: l) = none)) (fun i _ => N - (intOf i).toNat)
    case atStart => exact ⟨0, by omega, rfl, Below.refl _ _, fun j hj => by omega⟩
    case round =>
      obtain ⟨k, hk, rfl, hb, hno⟩ := hrel
      by_cases hkl : k < N
      · have hd : decide ((k : Int) < (N : Int)) = true := decide_eq_true (by omega)
        have hkleft : k ≤ left.length := by have := HN.out; omega
        have HS := hid hb.out.size
        obtain ⟨x, hx⟩ : ∃ x, x = (if k = left.length then left ++ [s] else left).getD k 0 := ⟨_, rfl⟩
        obtain ⟨own, hown⟩ : ∃ own, own = (if k = left.length then left ++ [s] else left) := ⟨_, rfl⟩
        have hkown : k < own.length := by rw [hown]; split <;> (try simp) <;> omega
        have hxo : own[k]? = some x := by rw [hx, ← hown, List.getD_eq_getElem?_getD, List.getElem?_eq_getElem hkown]; rfl
        have hxb : 0 ≤ x ∧ x ≤ s := by
          have hm : x ∈ own := List.mem_of_getElem? hxo
          rw [hown] at hm
          split at hm
          · rcases List.mem_append.1 hm with h | h
            · exact HLB.out x h
            · have : x = s := by simpa using h
              omega
          · exact HLB.out x hm
        have hput : putL s t left k = own.set k (x - t) := by rw [hown, hx]; rfl
        have hgetP : (putL s t left k).getD k 0 = x - t := by
          rw [hput, List.getD_eq_getElem?_getD, List.getElem?_set_self hkown]; rfl
        have hol : own.length ≤ left.length + 1 := by rw [hown]; split <;> simp
        have HX := hid hxo
        have HXB := hid hxb
        have HPut := hid hput
        have HGP := hid hgetP
        have HOL := hid hol
        have HKO := hid hkown
        have HBr := hid (HA2.out.below hb.out (Nat.le_refl _))
        have HAr := hid (HA.out.below hb.out (Nat.le_refl _))
        have HCl := hid (c_cloneI A2 c2 left (by omega) wr HBr.out)
        have ew : IntKind.i64.wrap (x - t) = x - t := by simp [IntKind.wrap, IntKind.bits, IntKind.signed]; omega
        have hOwn0 : Hid (k ≠ left.length → own = left) := fun h => by rw [hown, if_neg h]
        have hOwn1 : Hid (k = left.length → own = left ++ [s]) := fun h => by rw [hown, if_pos h]
        have HOB : Hid (∀ y ∈ own, 0 ≤ y ∧ y ≤ s) := by
          intro y hm
          rw [hown] at hm
          split at hm
          · rcases List.mem_append.1 hm with h | h
            · exact HLB.out y h
            · have : y = s := by simpa using h
              omega
          · exact HLB.out y hm
        have HLL : Hid (∀ l, daysF s most ts (putL s t left k) = some l → [(k : Int)].length + l.length ≤ 1100000) := fun l hl => by
          have := daysF_len hl
          have h3 := HNT.out
          simp only [List.length_singleton]; omega
        clear hx hown hxo hput hgetP hol
        have key : ∀ (wq : World) (v11 : Value), Hid (Below w.heap.size w wq) → Hid (RowI w.heap.size wq v11 own) → True := fun _ _ _ _ => trivial
        by_cases hke : k = left.length
        · have HO1 := hid (hOwn1.out hke)
          have hke2 : ((k : Int) == (left.length : Int)) = true := by simp; omega
          have HKE := hid hke
          clear hke key
          go_wp2_with (first
            | (go_at_call 50; ((with_reducible refine HCl.out.mono ?_); rintro e w2 ⟨v, rfl, hb2, ho2⟩); have HB2 := hid (hb.out.trans (hb2.mono HS.out)); obtain ⟨A3, c3, rfl⟩ := ho2.slc; have HO2 := hid (ho2.mono (Nat.le_refl _)))
            | ((with_reducible refine gate (N := 34) rfl ?_); (refine wp_appI rfl (.tmp 31) (.tmp 33) rfl wr.heap.size _ _ s HO2.out rfl _ rfl (by omega) hb2.size rfl ?_; intro v' w3 hown3 hg3)))
          have hO := hown3
          have HB3 := hid (HB2.out.trans (HO2.out.belowG hg3 hb2.size |>.mono HS.out))
          rw [← HO1.out] at hO
          clear HO1 hg3 ho2 HO2 hown3 hb2
          obtain ⟨g, cg, eg, q1, q2, q3, q4⟩ := hO.cell HX.out
          obtain rfl := eg
          have Hg2 := hid q2
          have x0 : w3.cell? ⟨b, off, none⟩ = some (.int .i64 t) := ((HB3.out.cell (p := ⟨b, _, none⟩) r1).trans (by simpa using r2))
          have i1 : (k : Int) < (own.length : Int) := by have := HKO.out; omega
          have i0 : (0 : Int) ≤ (k : Int) := by omega
          have n0 : (0 : Int) < (n : Int) + 1 := by omega
          refine wp_region_tail 9 (by kernel_rfl) (by kernel_rfl) ?_
          simp only [List.take_succ_cons, List.take_zero, List.drop_succ_cons, List.drop_zero]
          repeat still_step
          refine wpStill_nil ?_
          have HOs := hid (hO.set (j := k) HKO.out (x - t))
          rw [← HPut.out] at HOs
          have HB4 := hid (HB3.out.setCell (p := ⟨g, k, none⟩) (Nat.le_trans HS.out q1) (.int .i64 (x - t)))
          have HSz : Hid (wr.heap.size ≤ (w3.setCell ⟨g, k, none⟩ (.int .i64 (x - t))).heap.size) := by rw [Hid, World.size_setCell]; omega
          have hgP : (putL s t left k)[k]? = some (x - t) := by
            rw [HPut.out, List.getElem?_set_self HKO.out]
          have hlP : (putL s t left k).length = own.length := by rw [HPut.out, List.length_set]
          have HLP := hid hlP
          obtain ⟨g', cg', eg', p1, p2, p3, p4⟩ := HOs.out.cell hgP
          obtain ⟨rfl, rfl⟩ : g = g' ∧ cg = cg' := by rw [hlP] at eg'; simpa using eg'
          clear x0 hO hgP hlP eg' p4
          by_cases hneg : x - t < 0
          · have hd1 : decide (x - t < 0) = true := decide_eq_true hneg
            have HNE := hid hneg
            clear hneg
            go_wp2_with fail
            refine ⟨⟨k + 1, by omega, by go_num, ?_, fun j hj => ?_⟩, by simp [intOf]; omega⟩
            · exact HB4.out.drew
            · rcases Nat.lt_succ_iff_lt_or_eq.1 hj with h | rfl
              · exact hno.out j h
              · rw [HGP.out, if_pos HNE.out]
          · have hd1 : decide (x - t < 0) = false := decide_eq_false hneg
            have HNE := hid hneg
            have s1 : (1 : Int) ≤ (n : Int) + 1 := by omega
            have hlen' : (putL s t left k).length ≤ left.length + 1 := by rw [HLP.out]; exact HOL.out
            have hbd' : ∀ y ∈ putL s t left k, 0 ≤ y ∧ y ≤ s := by
              intro y hy
              rw [HPut.out] at hy
              rcases List.mem_or_eq_of_mem_set hy with h | h
              · exact HOB.out y h
              · have := HXB.out; omega
            have HB4D : Hid (Below w.heap.size w (w3.setCell ⟨g, k, none⟩ (.int .i64 (x - t))).drew) := HB4.out.drew
            have HI2 : Hid (∀ (A' : Option Addr) (c' n' : Nat), ((A' = some ⟨b, off + 1, none⟩ ∧ c' = cm ∧ n' = n) ∨ (n = 0 ∧ c' = 0 ∧ n' = 0)) → Calls Try.prog 28 #[.slice A' n' c', .slice (some ⟨g, 0, none⟩) own.length cg, .int .i64 s, .int .i64 most] (w3.setCell ⟨g, k, none⟩ (.int .i64 (x - t))).drew (DaysRet (w3.setCell ⟨g, k, none⟩ (.int .i64 (x - t))).drew (daysF s most ts (putL s t left k)))) := by
              intro A' c' n' h
              obtain rfl : n' = n := by omega
              have hT : SlI (w3.setCell ⟨g, k, none⟩ (.int .i64 (x - t))).drew A' ts := by
                rcases h with ⟨rfl, _, _⟩ | ⟨h0, _, _⟩
                · exact (HA.out.below HB4D.out (Nat.le_refl _)).tail
                · have : ts = [] := List.eq_nil_of_length_eq_zero (by rw [HNT.out]; exact h0)
                  subst this
                  intro j n' hj; simp at hj
              have hcc : ts.length ≤ c' ∧ c' ≤ 9223372036854775807 := by
                have := HCM.out; have h3 := HNT.out
                rcases h with ⟨_, h, _⟩ | ⟨h, h2, _⟩ <;> omega
              have := HI.out (putL s t left k) hlen' hbd' A' (some ⟨g, 0, none⟩) c' cg hcc _ hT (HOs.out.drew.sli2 HLP.out)
              rw [HLP.out] at this
              exact this
            clear hneg hlen' hbd'
            cases hdf : daysF s most ts (putL s t left k) with
            | none =>
              rw [hdf] at HI2
              have HDF := hid hdf
              clear hdf
              go_wp2_with (go_at_call 28; ((with_reducible refine (HI2.out _ _ _ (by first | exact .inl ⟨rfl, HCE.out.symm, rfl⟩ | exact .inr ⟨HN0.out, rfl, rfl⟩)).mono ?_); rintro e w5 ⟨v5, rfl, hb5, ho5⟩); have HB5 := hid (HB4D.out.trans (hb5.mono (Nat.le_trans HS.out HSz.out))); clear hb5 ho5)
              all_goals
                refine ⟨⟨k + 1, by omega, by go_num, HB5.out, fun j hj => ?_⟩, by simp [intOf]; omega⟩
                rcases Nat.lt_succ_iff_lt_or_eq.1 hj with h | rfl
                · exact hno.out j h
                · rw [HGP.out, if_neg (by have := HNE.out; omega), HDF.out]; rfl
            | some l =>
              rw [hdf] at HI2
              have HDF := hid hdf
              clear hdf
              go_wp2_with (first
                | (go_at_call 28; ((with_reducible refine (HI2.out _ _ _ (by first | exact .inl ⟨rfl, HCE.out.symm, rfl⟩ | exact .inr ⟨HN0.out, rfl, rfl⟩)).mono ?_); rintro e w5 ⟨v5, rfl, hb5, ho5⟩); have HB5 := hid (HB4D.out.trans (hb5.mono (Nat.le_trans HS.out HSz.out))); obtain ⟨A5, c5, rfl⟩ := ho5.slc; have HO5 := hid ((ho5.alloc (.cells #[.int .i64 k] 2)).sli); have HK5 := hid (RowI.one (w := w5) (k : Int) HB5.out.size); have HB6 := hid (HB5.out.alloc HB5.out.size (.cells #[.int .i64 k] 2)); clear hb5 ho5)
                | ((with_reducible refine gate (N := 62) rfl ?_); (refine wp_appL rfl (.tmp 60) (.tmp 61) rfl w.heap.size _ [(k : Int)] l HK5.out rfl A5 c5 HO5.out rfl (HLL.out l HDF.out) HB6.out.size ?_; intro v' w6 hown6 hg6)))
              all_goals
                go_ret2
                have hR : daysF s most (t :: ts) left = some ((k : Int) :: l) := by
                  rw [HF0.out]
                  exact findR_some (by omega) hno.out (by rw [HGP.out, if_neg (by have := HNE.out; omega), HDF.out]; rfl)
                rw [hR]
                exact ⟨_, rfl, HB6.out.trans (HK5.out.belowG hg6 HB6.out.size), hown6⟩
        · have HO1 := hid (hOwn0.out hke)
          have hke2 : ((k : Int) == (left.length : Int)) = false := beq_false_of_ne (by omega)
          have HKE := hid hke
          obtain rfl := HO1.out
          clear hke key HO1
          go_wp2_with (first
            | (go_at_call 50; ((with_reducible refine HCl.out.mono ?_); rintro e w2 ⟨v, rfl, hb2, ho2⟩); have HB2 := hid (hb.out.trans (hb2.mono HS.out)); obtain ⟨A3, c3, rfl⟩ := ho2.slc; have HO2 := hid (ho2.mono (Nat.le_refl _))))
          have hO := HO2.out
          have HB3 := hid HB2.out
          clear ho2 HO2 hb2
          obtain ⟨g, cg, eg, q1, q2, q3, q4⟩ := hO.cell HX.out
          obtain ⟨rfl, rfl⟩ : A3 = some ⟨g, 0, none⟩ ∧ cg = c3 := by simp at eg; exact ⟨eg.1, eg.2.symm⟩
          clear eg
          have Hg2 := hid q2
          have x0 : w2.cell? ⟨b, off, none⟩ = some (.int .i64 t) := ((HB3.out.cell (p := ⟨b, _, none⟩) r1).trans (by simpa using r2))
          have i1 : (k : Int) < (own.length : Int) := by have := HKO.out; omega
          have i0 : (0 : Int) ≤ (k : Int) := by omega
          have n0 : (0 : Int) < (n : Int) + 1 := by omega
          refine wp_region_tail 9 (by kernel_rfl) (by kernel_rfl) ?_
          simp only [List.take_succ_cons, List.take_zero, List.drop_succ_cons, List.drop_zero]
          repeat still_step
          refine wpStill_nil ?_
          have HOs := hid (hO.set (j := k) HKO.out (x - t))
          rw [← HPut.out] at HOs
          have HB4 := hid (HB3.out.setCell (p := ⟨g, k, none⟩) (Nat.le_trans HS.out q1) (.int .i64 (x - t)))
          have HSz : Hid (wr.heap.size ≤ (w2.setCell ⟨g, k, none⟩ (.int .i64 (x - t))).heap.size) := by rw [Hid, World.size_setCell]; omega
          have hgP : (putL s t own k)[k]? = some (x - t) := by
            rw [HPut.out, List.getElem?_set_self HKO.out]
          have hlP : (putL s t own k).length = own.length := by rw [HPut.out, List.length_set]
          have HLP := hid hlP
          obtain ⟨g', cg', eg', p1, p2, p3, p4⟩ := HOs.out.cell hgP
          obtain ⟨rfl, rfl⟩ : g = g' ∧ cg = cg' := by rw [hlP] at eg'; simpa using eg'
          clear x0 hO hgP hlP eg' p4
          by_cases hneg : x - t < 0
          · have hd1 : decide (x - t < 0) = true := decide_eq_true hneg
            have HNE := hid hneg
            clear hneg
            go_wp2_with fail
            refine ⟨⟨k + 1, by omega, by go_num, ?_, fun j hj => ?_⟩, by simp [intOf]; omega⟩
            · exact HB4.out.drew
            · rcases Nat.lt_succ_iff_lt_or_eq.1 hj with h | rfl
              · exact hno.out j h
              · rw [HGP.out, if_pos HNE.out]
          · have hd1 : decide (x - t < 0) = false := decide_eq_false hneg
            have HNE := hid hneg
            have s1 : (1 : Int) ≤ (n : Int) + 1 := by omega
            have hlen' : (putL s t own k).length ≤ own.length + 1 := by rw [HLP.out]; exact HOL.out
            have hbd' : ∀ y ∈ putL s t own k, 0 ≤ y ∧ y ≤ s := by
              intro y hy
              rw [HPut.out] at hy
              rcases List.mem_or_eq_of_mem_set hy with h | h
              · exact HOB.out y h
              · have := HXB.out; omega
            have HB4D : Hid (Below w.heap.size w (w2.setCell ⟨g, k, none⟩ (.int .i64 (x - t))).drew) := HB4.out.drew
            have HI2 : Hid (∀ (A' : Option Addr) (c' n' : Nat), ((A' = some ⟨b, off + 1, none⟩ ∧ c' = cm ∧ n' = n) ∨ (n = 0 ∧ c' = 0 ∧ n' = 0)) → Calls Try.prog 28 #[.slice A' n' c', .slice (some ⟨g, 0, none⟩) own.length cg, .int .i64 s, .int .i64 most] (w2.setCell ⟨g, k, none⟩ (.int .i64 (x - t))).drew (DaysRet (w2.setCell ⟨g, k, none⟩ (.int .i64 (x - t))).drew (daysF s most ts (putL s t own k)))) := by
              intro A' c' n' h
              obtain rfl : n' = n := by omega
              have hT : SlI (w2.setCell ⟨g, k, none⟩ (.int .i64 (x - t))).drew A' ts := by
                rcases h with ⟨rfl, _, _⟩ | ⟨h0, _, _⟩
                · exact (HA.out.below HB4D.out (Nat.le_refl _)).tail
                · have : ts = [] := List.eq_nil_of_length_eq_zero (by rw [HNT.out]; exact h0)
                  subst this
                  intro j n' hj; simp at hj
              have hcc : ts.length ≤ c' ∧ c' ≤ 9223372036854775807 := by
                have := HCM.out; have h3 := HNT.out
                rcases h with ⟨_, h, _⟩ | ⟨h, h2, _⟩ <;> omega
              have := HI.out (putL s t own k) hlen' hbd' A' (some ⟨g, 0, none⟩) c' cg hcc _ hT (HOs.out.drew.sli2 HLP.out)
              rw [HLP.out] at this
              exact this
            clear hneg hlen' hbd'
            cases hdf : daysF s most ts (putL s t own k) with
            | none =>
              rw [hdf] at HI2
              have HDF := hid hdf
              clear hdf
              go_wp2_with (go_at_call 28; ((with_reducible refine (HI2.out _ _ _ (by first | exact .inl ⟨rfl, HCE.out.symm, rfl⟩ | exact .inr ⟨HN0.out, rfl, rfl⟩)).mono ?_); rintro e w5 ⟨v5, rfl, hb5, ho5⟩); have HB5 := hid (HB4D.out.trans (hb5.mono (Nat.le_trans HS.out HSz.out))); clear hb5 ho5)
              all_goals
                refine ⟨⟨k + 1, by omega, by go_num, HB5.out, fun j hj => ?_⟩, by simp [intOf]; omega⟩
                rcases Nat.lt_succ_iff_lt_or_eq.1 hj with h | rfl
                · exact hno.out j h
                · rw [HGP.out, if_neg (by have := HNE.out; omega), HDF.out]; rfl
            | some l =>
              rw [hdf] at HI2
              have HDF := hid hdf
              clear hdf
              go_wp2_with (first
                | (go_at_call 28; ((with_reducible refine (HI2.out _ _ _ (by first | exact .inl ⟨rfl, HCE.out.symm, rfl⟩ | exact .inr ⟨HN0.out, rfl, rfl⟩)).mono ?_); rintro e w5 ⟨v5, rfl, hb5, ho5⟩); have HB5 := hid (HB4D.out.trans (hb5.mono (Nat.le_trans HS.out HSz.out))); obtain ⟨A5, c5, rfl⟩ := ho5.slc; have HO5 := hid ((ho5.alloc (.cells #[.int .i64 k] 2)).sli); have HK5 := hid (RowI.one (w := w5) (k : Int) HB5.out.size); have HB6 := hid (HB5.out.alloc HB5.out.size (.cells #[.int .i64 k] 2)); clear hb5 ho5)
                | ((with_reducible refine gate (N := 62) rfl ?_); (refine wp_appL rfl (.tmp 60) (.tmp 61) rfl w.heap.size _ [(k : Int)] l HK5.out rfl A5 c5 HO5.out rfl (HLL.out l HDF.out) HB6.out.size ?_; intro v' w6 hown6 hg6)))
              all_goals
                go_ret2
                have hR : daysF s most (t :: ts) own = some ((k : Int) :: l) := by
                  rw [HF0.out]
                  exact findR_some (by omega) hno.out (by rw [HGP.out, if_neg (by have := HNE.out; omega), HDF.out]; rfl)
                rw [hR]
                exact ⟨_, rfl, HB6.out.trans (HK5.out.belowG hg6 HB6.out.size), hown6⟩
      · obtain rfl : k = N := by omega
        have hd : decide ((k : Int) < (k : Int)) = false := decide_eq_false (by omega)
        go_wp2_with fail
        go_ret2
        have hR : daysF s most (t :: ts) left = none := by
          rw [HF0.out]
          exact findR_none hno.out
        rw [hR]
        exact ⟨_, rfl, hb.out, RowI.nil _ _⟩
theorem c_daysOf (s : Int) (hs : 1 ≤ s ∧ s ≤ 1000) (most : Nat) (hm : most ≤ 100) : ∀ (ts left : List Int), left.length + ts.length ≤ 100 → (∀ t ∈ ts, 0 ≤ t ∧ t ≤ s) → (∀ x ∈ left, 0 ≤ x ∧ x ≤ s) → ∀ (A A2 : Option Addr) (c c2 : Nat), (ts.length ≤ c ∧ c ≤ 9223372036854775807) → ∀ (w : World), SlI w A ts → SlI w A2 left →
    Calls Try.prog 28 #[.slice A ts.length c, .slice A2 left.length c2, .int .i64 s, .int .i64 most] w (DaysRet w (daysF s most ts left))
  | [], left, _, _, _, A, A2, c, c2, _, w, _, _ => by
    have : daysF s most [] left = some [] := rfl
    rw [this]
    exact c_daysOf0 s most left A A2 c c2 w
  | t :: ts, left, hll, hts, hlb, A, A2, c, c2, hc, w, hA, hA2 => by
    simp only [List.length_cons] at hll hc ⊢
    refine c_daysOf1 s hs most hm t (hts t (by simp)) ts.length ts rfl (by omega) left (by omega) hlb (fun left' h1 h2 A A2 c c2 h3 w h4 h5 => ?_) A A2 c c2 (by omega) hc w hA hA2
    exact c_daysOf s hs most hm ts left' (by omega) (fun t ht => hts t (by simp [ht])) h2 A A2 c c2 h3 w h4 h5
end Go.Proofs.Ytjcmdihadblodaa
