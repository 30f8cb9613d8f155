/- DaysFor, the reference's. -/
import Derived.Test.YtjcmdihadblodaaDays
namespace Go.Proofs.Ytjcmdihadblodaa
open Go.RowKit
set_option linter.unusedSimpArgs false
set_option linter.unusedVariables false

theorem fitN_lt {s t : Int} {d : List Int} {a : Nat} (h : a < fitN s t d) : ∃ hl : a < d.length, s < d[a] + t := by
  have hl : a < d.length := Nat.lt_of_lt_of_le h (fitN_le s t d)
  refine ⟨hl, ?_⟩
  have h2 := List.not_of_lt_findIdx (p := fun x => decide (x + t ≤ s)) h
  simp at h2
  exact h2
theorem fitN_at {s t : Int} {d : List Int} (h : fitN s t d < d.length) : d[fitN s t d] + t ≤ s := by
  have h2 : (fun x => decide (x + t ≤ s)) (d[fitN s t d]) = true := List.findIdx_getElem (w := h)
  exact of_decide_eq_true h2
theorem days_new {s : Int} {ts : List Int} {k : Nat} (hk : k < ts.length) (hf : fitN s ts[k] (dayR s (ts.take k)).1 = (dayR s (ts.take k)).1.length) :
    ((dayR s (ts.take k)).1 ++ [0]).set (dayR s (ts.take k)).1.length ts[k] = (dayR s (ts.take (k + 1))).1 := by
  rw [dayR_succ s ts k hk]
  unfold dayS putD
  rw [if_pos hf]
  simp
theorem days_put {s : Int} {ts : List Int} {k : Nat} (hk : k < ts.length) {d : Nat} (hd : fitN s ts[k] (dayR s (ts.take k)).1 = d) (hf : d < (dayR s (ts.take k)).1.length) :
    (dayR s (ts.take k)).1.set d ((dayR s (ts.take k)).1[d] + ts[k]) = (dayR s (ts.take (k + 1))).1 := by
  rw [dayR_succ s ts k hk]
  unfold dayS putD
  rw [hd, if_neg (by omega)]
  simp only [List.getD_eq_getElem?_getD, List.getElem?_eq_getElem hf, Option.getD_some]
set_option maxHeartbeats 3200000 in
set_option maxRecDepth 100000 in
theorem c_sDaysFor (A : Option Addr) (c : Nat) (ts : List Int) (hlen : ts.length ≤ 1048576) (s : Int) (w : World) (hA : SlI w A ts) :
    Calls Try.prog 7 #[.slice A ts.length c, .int .i64 s] w (RetI3 w (daysL ts s) (daysN ts s) (timesC ts s)) := by
  have B0 : Below w.heap.size w (w.alloc (.cells #[] 2)) := (Below.refl _ w).alloc (Nat.le_refl _) _
  have HC := hid (c_l04Times A c ts hlen s _ (hA.below B0 (Nat.le_refl _)))
  by_cases h0 : timesC ts s = 0
  · unfold daysL daysN
    rw [if_pos h0, if_pos h0, h0]
    rw [h0] at HC
    obtain ⟨hs, hl8, hts⟩ := timesC_zero h0
    have HT := hid hts
    have HA := hid hA
    have HR := hid (fun k hk => dayR_b hts k hk)
    clear h0 hA hts
    go_enter Try.func7, Try.ntmps7
    go_wp2_with (go_at_call 23; ((with_reducible refine HC.out.mono ?_); rintro e w1 ⟨rfl, rfl⟩))
    go_loopw [7, 9, 10] (fun v7 v9 i wr => ∃ k : Nat, k ≤ ts.length ∧ i = .int .i64 k ∧ Hid (Below w.heap.size w wr) ∧ Hid (RowI w.heap.size wr v7 (dayR s (ts.take k)).2) ∧ Hid (RowI w.heap.size wr v9 (dayR s (ts.take k)).1) ∧ Hid (Apart v7 v9)) (fun _ _ i _ => ts.length - (intOf i).toNat)
    case atStart =>
      refine ⟨0, by omega, rfl, B0.alloc B0.size _, (RowI.made (Nat.le_refl _)).alloc _, ?_, ?_⟩
      · have := RowI.made (B := w.heap.size) (w := w.alloc (.cells #[] 2)) (by simp)
        exact (by simpa using this : RowI w.heap.size ((w.alloc (.cells #[] 2)).alloc (.cells #[] 2)) (.slice (some ⟨w.heap.size + 1, 0, none⟩) 0 0) [])
      · intro g h1 h2; simp [Value.ownBlock] at h1 h2; omega
    case round =>
      obtain ⟨k, hk, rfl, hb, h7, h9, hap⟩ := hrel
      by_cases hkl : k < ts.length
      · have hd : decide ((k : Int) < (ts.length : Int)) = true := decide_eq_true (by omega)
        have hkI : (k : Int) < (ts.length : Int) := by omega
        have hk0 : (0 : Int) ≤ (k : Int) := by omega
        have hp := List.getElem?_eq_getElem hkl
        have hr := HR.out k (by omega)
        have htk := HT.out _ (List.getElem_mem hkl)
        obtain ⟨b, off, rfl, r0, c00⟩ := HA.out k _ hp
        obtain ⟨d, hdd⟩ : ∃ d, fitN s ts[k] (dayR s (ts.take k)).1 = d := ⟨_, rfl⟩
        have hdl := fitN_le s ts[k] (dayR s (ts.take k)).1
        rw [hdd] at hdl
        have H2 := hid (dayR2_succ hkl hdd)
        have HN := hid (fun h => days_new hkl (by rw [hdd]; exact h))
        have HP := hid (fun h => days_put hkl hdd h)
        have HF := hid (fun (a : Nat) (h : a < d) => fitN_lt (s := s) (t := ts[k]) (d := (dayR s (ts.take k)).1) (a := a) (by rw [hdd]; exact h))
        have HE : Hid (∀ h : d < (dayR s (ts.take k)).1.length, (dayR s (ts.take k)).1[d] + ts[k] ≤ s) := fun h => by
          subst hdd; exact fitN_at h
        obtain ⟨D, hD⟩ : ∃ D, D = (dayR s (ts.take k)).1 := ⟨_, rfl⟩
        obtain ⟨R, hR⟩ : ∃ R, R = (dayR s (ts.take k)).2 := ⟨_, rfl⟩
        obtain ⟨t, ht⟩ : ∃ t, t = ts[k] := ⟨_, rfl⟩
        rw [← ht] at HN HP hp c00 htk HF HE
        rw [← hR, ← hD] at hr
        rw [← hD] at HN HP HF HE hdl h9
        rw [← hR] at H2 h7
        have HBd := hid hr.1
        have HC0 := hid c00; clear c00
        have R0 := hid r0; clear r0
        have hD8 : D.length ≤ 8 := by omega
        have hR8 : R.length ≤ 8 := by omega
        obtain ⟨A9, c9, rfl⟩ := h9.out.slc
        have HSz : Hid (w.heap.size ≤ wr.heap.size) := hb.out.size
        clear hr hp HR HT ht hD hR hdd
        obtain ⟨wo, rfl⟩ : ∃ wo : World, wo = wr := ⟨_, rfl⟩
        go_wp2_with fail
        go_loopw [11] (fun v11 wq => ∃ a : Nat, a ≤ d ∧ v11 = .int .i64 a ∧ Hid (Below wo.heap.size wo wq)) (fun v11 _ => d - (intOf v11).toNat)
        case atStart => exact ⟨0, by omega, rfl, Below.refl _ _⟩
        case round =>
          obtain ⟨a, ha, rfl, hq⟩ := hrel
          have h9q := hid (h9.out.below hq.out (Nat.le_refl _))
          have hbq := hid (hb.out.trans (hq.out.mono HSz.out))
          have c0q := (hbq.out.cell (p := ⟨b, _, none⟩) R0.out).trans HC0.out
          have r1q : b < wr.heap.size := Nat.lt_of_lt_of_le R0.out hbq.out.size
          by_cases hlt : a < d
          · obtain ⟨hl, hgt⟩ := HF.out a hlt
            obtain ⟨g, c', e9, q1, q2, q3, q4⟩ := h9q.out.cell (List.getElem?_eq_getElem hl)
            obtain ⟨rfl, rfl⟩ : A9 = some ⟨g, 0, none⟩ ∧ c9 = c' := by simpa using e9
            have hx := HBd.out _ (List.getElem_mem hl)
            obtain ⟨x, hxx⟩ : ∃ x, x = D[a] := ⟨_, rfl⟩
            rw [← hxx] at hgt q3 hx
            have hd1 : decide ((a : Int) < (D.length : Int)) = true := decide_eq_true (by omega)
            have i1 : (a : Int) < (D.length : Int) := by omega
            have i0 : (0 : Int) ≤ (a : Int) := by omega
            have ew : IntKind.i64.wrap (x + t) = x + t := by simp [IntKind.wrap, IntKind.bits, IntKind.signed]; omega
            have hd2 : decide (x + t > s) = true := decide_eq_true hgt
            clear hxx e9 hl
            go_wp2_with fail
            refine wp_region_ext wr.heap.size (by kernel_rfl) (by kernel_rfl) ?_
            repeat (go_big_quiet_step (fail))
            refine wpQuiet_nil ?_
            intro y
            go_wp2_with fail
            exact ⟨⟨a + 1, by omega, by go_num, hq.out.trans (y.below.mono hq.out.size)⟩, by simp [intOf]; omega⟩
          · obtain rfl : a = d := by omega
            rcases Nat.eq_or_lt_of_le hdl with e | e
            · have HN2 := hid (HN.out e)
              have hd1 : decide ((a : Int) < (D.length : Int)) = false := decide_eq_false (by omega)
              have hd1n : decide (a < D.length) = false := decide_eq_false (by omega)
              have hde : ((a : Int) == (D.length : Int)) = true := by simp [e]
              have hD8i : Hid (D.length ≤ 8) := hD8
              have HEq := hid e
              clear e hdl HP HE HF HN
              go_wp2_with fail
              refine wp_region_ext wr.heap.size (by kernel_rfl) (by kernel_rfl) ?_
              repeat (go_big_quiet_step (fail))
              refine wpQuiet_nil ?_
              intro y
              have h9y := hid (h9q.out.below y.below (Nat.le_refl _))
              have h7y := hid ((h7.out.below hq.out (Nat.le_refl _)).below y.below (Nat.le_refl _))
              have hby := hid (hbq.out.trans (y.below.mono hbq.out.size))
              obtain ⟨Y, hY⟩ : ∃ Y, Y = y.out := ⟨_, rfl⟩
              rw [← hY] at h9y h7y hby ⊢
              have HSy : Hid (w.heap.size ≤ Y.heap.size) := hby.out.size
              clear hY c0q r1q h9q hq
              go_wp2_with ((with_reducible refine gate (N := 52) rfl ?_); go_loud (refine wp_appI rfl (.tmp 50) (.tmp 51) rfl w.heap.size _ _ 0 h9y.out rfl _ rfl (Nat.le_trans hD8i.out (by decide)) HSy.out rfl ?_; intro v' w3 hown hg))
              have HB3 := hid (hby.out.trans (h9y.out.belowG hg HSy.out))
              obtain ⟨g, c', rfl, q1, q2, q3, q4⟩ := hown.cell (j := D.length) (n := 0) (by rw [List.getElem?_append_right (Nat.le_refl _), Nat.sub_self]; rfl)
              have c03 := (HB3.out.cell (p := ⟨b, _, none⟩) R0.out).trans HC0.out
              rw [List.length_append, List.length_singleton] at hown hg
              rw [List.length_append, List.length_singleton]
              have ha' := HEq.out
              subst ha'
              have i1 : (D.length : Int) < (D.length : Int) + 1 := by omega
              have i0 : (0 : Int) ≤ (D.length : Int) := by omega
              refine wp_region_tail 10 (by kernel_rfl) (by kernel_rfl) ?_
              simp only [List.take_succ_cons, List.take_zero, List.drop_succ_cons, List.drop_zero]
              repeat still_step
              refine wpStill_nil ?_
              have H9s := hid ((hown.set (j := D.length) (by simp) t))
              rw [HN2.out] at H9s
              have Hap2 := hid (h7y.out.grewA hg hap.out)
              have H7s := hid ((h7y.out.grew hg hap.out).setO (g := g) (fun e => Hap2.out g e rfl) D.length (.int .i64 t))
              have HB4 := hid (HB3.out.setCell (p := ⟨g, D.length, none⟩) q1 (.int .i64 t))
              go_wp2_with ((with_reducible refine gate (N := 66) rfl ?_); go_loud (refine wp_appID rfl (.tmp 63) (.tmp 65) rfl w.heap.size _ _ (D.length : Int) H7s.out rfl _ rfl (Nat.le_trans hR8 (by decide)) HB4.out.size (by simp) ?_; intro v7 w4 hown4 hg4))
              have h7n := hown4
              rw [← H2.out] at h7n
              refine ⟨⟨k + 1, by omega, by go_num, HB4.out.trans (H7s.out.belowG hg4 HB4.out.size), h7n, H9s.out.grew hg4 Hap2.out.symm, (H9s.out.grewA hg4 Hap2.out.symm).symm⟩, by simp [intOf]; omega⟩
            · have HP2 : Hid (D.set a (D[a] + t) = (dayR s (ts.take (k + 1))).1) := HP.out e
              have hE : D[a] + t ≤ s := HE.out e
              clear HP
              have HDl : Hid (a < D.length) := e
              obtain ⟨g, c', e9, q1, q2, q3, q4⟩ := h9q.out.cell (List.getElem?_eq_getElem e)
              obtain ⟨rfl, rfl⟩ : A9 = some ⟨g, 0, none⟩ ∧ c9 = c' := by simpa using e9
              have hx := HBd.out _ (List.getElem_mem e)
              generalize hxx : D[a] = x at hE q3 hx HP2
              have hd1 : decide ((a : Int) < (D.length : Int)) = true := decide_eq_true (by omega)
              have i1 : (a : Int) < (D.length : Int) := by omega
              have i0 : (0 : Int) ≤ (a : Int) := by omega
              have ew : IntKind.i64.wrap (x + t) = x + t := by simp [IntKind.wrap, IntKind.bits, IntKind.signed]; omega
              have hd2 : decide (x + t > s) = false := decide_eq_false (by omega)
              have hde : ((a : Int) == (D.length : Int)) = false := by simp; omega
              have HQ3 := hid q3
              have HQ2 := hid q2
              clear hxx e9 HN HF HE hdl
              go_wp2_with fail
              refine wp_region_ext wr.heap.size (by kernel_rfl) (by kernel_rfl) ?_
              repeat (go_big_quiet_step (fail))
              refine wpQuiet_nil ?_
              intro y
              have h9y := hid (h9q.out.below y.below (Nat.le_refl _))
              have h7y := hid ((h7.out.below hq.out (Nat.le_refl _)).below y.below (Nat.le_refl _))
              have hby := hid (hbq.out.trans (y.below.mono hbq.out.size))
              have q3y := (y.below.cell (p := ⟨g, _, none⟩) HQ2.out).trans HQ3.out
              obtain ⟨Y, hY⟩ : ∃ Y, Y = y.out := ⟨_, rfl⟩
              rw [← hY] at h9y h7y hby q3y ⊢
              clear hY c0q r1q h9q hq q3 q2
              have c03 := (hby.out.cell (p := ⟨b, _, none⟩) R0.out).trans HC0.out
              go_wp2_with fail
              refine wp_region_tail 10 (by kernel_rfl) (by kernel_rfl) ?_
              simp only [List.take_succ_cons, List.take_zero, List.drop_succ_cons, List.drop_zero]
              repeat still_step
              refine wpStill_nil ?_
              have H9s := hid ((h9y.out.set (j := a) HDl.out (x + t)))
              rw [HP2.out] at H9s
              have H7s := hid (h7y.out.setO (g := g) (fun e => hap.out g e rfl) a (.int .i64 (x + t)))
              have HB4 := hid (hby.out.setCell (p := ⟨g, a, none⟩) q1 (.int .i64 (x + t)))
              have q4y : Y.frozen? ⟨g, a, none⟩ = false := by
                obtain ⟨g2, _, e9', _, _, _, q4y⟩ := h9y.out.cell (List.getElem?_eq_getElem HDl.out)
                have e8 := (Value.slice.inj e9').1
                obtain rfl : g = g2 := by simpa using e8
                exact q4y
              go_wp2_with ((with_reducible refine gate (N := 66) rfl ?_); go_loud (refine wp_appID rfl (.tmp 63) (.tmp 65) rfl w.heap.size _ _ (a : Int) H7s.out rfl _ rfl (Nat.le_trans hR8 (by decide)) HB4.out.size (by simp) ?_; intro v7 w4 hown4 hg4))
              have h7n := hown4
              rw [← H2.out] at h7n
              refine ⟨⟨k + 1, by omega, by go_num, HB4.out.trans (H7s.out.belowG hg4 HB4.out.size), h7n, H9s.out.grew hg4 hap.out.symm, (H9s.out.grewA hg4 hap.out.symm).symm⟩, by simp [intOf]; omega⟩
      · obtain rfl : k = ts.length := by omega
        have hd : decide ((ts.length : Int) < (ts.length : Int)) = false := decide_eq_false (by omega)
        rw [List.take_length] at h7 h9
        obtain ⟨A9, c9, rfl⟩ := h9.out.slc
        go_wp2_with fail
        go_ret3
        exact ⟨_, rfl, hb.out, h7.out⟩
  · have hk : timesC ts s = 2 ∨ timesC ts s = 3 ∨ timesC ts s = 6 := by
      unfold timesC at h0 ⊢
      split <;> rename_i h1
      · rw [if_pos h1] at h0
        split <;> rename_i h2
        · exact .inr (.inl rfl)
        · rw [if_neg h2] at h0
          split <;> rename_i h3
          · rw [if_pos h3] at h0; exact absurd rfl h0
          · exact .inr (.inr rfl)
      · exact .inl rfl
    unfold daysL daysN
    rw [if_neg h0, if_neg h0]
    clear h0
    rcases hk with hk | hk | hk
    all_goals
      rw [hk] at HC ⊢
      clear hk hA
      go_enter Try.func7, Try.ntmps7
      go_wp2_with (go_at_call 23; ((with_reducible refine HC.out.mono ?_); rintro e w1 ⟨rfl, rfl⟩))
      go_ret3
      exact ⟨_, rfl, B0, RowI.made (Nat.le_refl _)⟩
end Go.Proofs.Ytjcmdihadblodaa
