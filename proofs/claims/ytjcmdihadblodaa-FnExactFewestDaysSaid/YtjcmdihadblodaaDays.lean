/- DaysFor: the program's and the reference's. -/
import Derived.Test.YtjcmdihadblodaaDaysP
import Derived.Test.YtjcmdihadblodaaRowI
namespace Go.Proofs.Ytjcmdihadblodaa
open Go.RowKit
set_option linter.unusedSimpArgs false
set_option linter.unusedVariables false

/-- A result of three: numbers, and two numbers. -/
def RetI3 (w : World) (l : List Int) (n k : Int) (e : Ending) (w' : World) : Prop := ∃ v, e = .returned (.tuple #[v, .int .i64 n, .int .i64 k]) ∧ Below w.heap.size w w' ∧ RowI w.heap.size w' v l
def daysL (ts : List Int) (s : Int) : List Int := if timesC ts s = 0 then (dayR s ts).2 else []
def daysN (ts : List Int) (s : Int) : Int := if timesC ts s = 0 then ((dayR s ts).1.length : Int) else 0
theorem timesC_zero {ts : List Int} {s : Int} (h : timesC ts s = 0) : (1 ≤ s ∧ s ≤ 1000) ∧ ts.length ≤ 8 ∧ ∀ t ∈ ts, 0 ≤ t ∧ t ≤ s := by
  unfold timesC at h
  split at h
  · rename_i h1
    simp only [Bool.and_eq_true, inB_iff, List.all_eq_true] at h1
    split at h
    · cases h
    · rename_i h2
      split at h
      · rename_i h3
        simp only [List.all_eq_true, decide_eq_true_eq] at h3
        exact ⟨h1.1, by omega, fun t ht => ⟨(h1.2 t ht).1, h3 t ht⟩⟩
      · cases h
  · cases h
/-- What is left of each day. -/
def leftL (s : Int) (ts : List Int) (k : Nat) : List Int := (dayR s (ts.take k)).1.map fun x => s - x
theorem leftL_len (s : Int) (ts : List Int) (k : Nat) : (leftL s ts k).length = (dayR s (ts.take k)).1.length := by simp [leftL]
theorem leftL_new {s : Int} {ts : List Int} {k : Nat} (hk : k < ts.length) (hf : fitN s ts[k] (dayR s (ts.take k)).1 = (dayR s (ts.take k)).1.length) :
    (leftL s ts k ++ [s]).set (leftL s ts k).length (s - ts[k]) = leftL s ts (k + 1) := by
  unfold leftL
  rw [dayR_succ s ts k hk]
  unfold dayS putD
  rw [if_pos hf]
  simp
theorem leftL_put {s : Int} {ts : List Int} {k : Nat} (hk : k < ts.length) {d : Nat} (hd : fitN s ts[k] (dayR s (ts.take k)).1 = d) (hf : d < (dayR s (ts.take k)).1.length) :
    (leftL s ts k).set d (s - (dayR s (ts.take k)).1[d] - ts[k]) = leftL s ts (k + 1) := by
  unfold leftL
  rw [dayR_succ s ts k hk]
  unfold dayS putD
  rw [hd, if_neg (by omega)]
  simp only [List.map_set]
  congr 1
  rw [List.getD_eq_getElem?_getD, List.getElem?_eq_getElem hf, Option.getD_some]
  omega
theorem leftL_get {s : Int} {ts : List Int} {k : Nat} {d : Nat} (hf : d < (dayR s (ts.take k)).1.length) : (leftL s ts k)[d]? = some (s - (dayR s (ts.take k)).1[d]) := by
  unfold leftL
  rw [List.getElem?_map, List.getElem?_eq_getElem hf]; rfl
theorem dayR2_succ {s : Int} {ts : List Int} {k : Nat} (hk : k < ts.length) {d : Nat} (hd : fitN s ts[k] (dayR s (ts.take k)).1 = d) : (dayR s (ts.take (k + 1))).2 = (dayR s (ts.take k)).2 ++ [(d : Int)] := by
  rw [dayR_succ s ts k hk]; unfold dayS; rw [hd]
set_option maxRecDepth 100000 in
theorem c_daysClo (n t : Int) (bx : Nat) (w : World) (hb : w.heap[bx]? = some (.cells #[.int .i64 t] 2 (0, 0))) : Calls Try.prog 26 #[.int .i64 n, .pointer (some ⟨bx, 0, none⟩)] w fun e w' => e = .returned (.bool (decide (t ≤ n))) ∧ Below w.heap.size w w' := by
  have k0 : w.cell? ⟨bx, 0, none⟩ = some (.int .i64 t) := cell_block hb rfl
  clear hb
  go_enter Try.func26, Try.ntmps26
  go_wp2_with fail
  go_ret
  exact ⟨rfl, Below.refl _ _⟩
set_option maxHeartbeats 3200000 in
set_option maxRecDepth 100000 in
theorem c_DaysFor (A : Option Addr) (c : Nat) (ts : List Int) (hlen : ts.length ≤ 1048576) (s : Int) (w : World) (hA : SlI w A ts) :
    Calls Try.prog 9 #[.slice A ts.length c, .int .i64 s] w (RetI3 w (daysL ts s) (daysN ts s) (timesC ts s)) := by
  have HC := hid (c_timesCode A c ts hlen s w hA)
  by_cases h0 : timesC ts s = 0
  · unfold daysL daysN
    rw [if_pos h0, if_pos h0, h0]
    rw [h0] at HC
    obtain ⟨hs, hl8, hts⟩ := timesC_zero h0
    have HT := hid hts
    have HA := hid hA
    have HR := hid (fun k hk => dayR_b hts k hk)
    clear h0 hA hts
    go_enter Try.func9, Try.ntmps9
    go_wp2_with (go_at_call 24; ((with_reducible refine HC.out.mono ?_); rintro e w1 ⟨rfl, hb1⟩); have HB1 := hid hb1; clear hb1)
    go_loopw [8, 9, 21] (fun v8 v9 i wr => ∃ k : Nat, k ≤ ts.length ∧ i = .int .i64 k ∧ Hid (Below w.heap.size w wr) ∧ Hid (RowI w.heap.size wr v8 (dayR s (ts.take k)).2) ∧ Hid (RowI w.heap.size wr v9 (leftL s ts k)) ∧ Hid (Apart v8 v9)) (fun _ _ i _ => ts.length - (intOf i).toNat)
    case atStart => exact ⟨0, by omega, rfl, HB1.out, RowI.nil _ _, RowI.nil _ _, Apart.nil _ _ _⟩
    case round =>
      clear HB1
      obtain ⟨k, hk, rfl, hb, h8, h9, hap⟩ := hrel
      by_cases hkl : k < ts.length
      · have hd : decide ((k : Int) < (ts.length : Int)) = true := decide_eq_true (by omega)
        have hkI : (k : Int) < (ts.length : Int) := by omega
        have hk0 : (0 : Int) ≤ (k : Int) := by omega
        have hp := List.getElem?_eq_getElem hkl
        have hr := HR.out k (by omega)
        have htk := HT.out _ (List.getElem_mem hkl)
        obtain ⟨b, off, rfl, r1, c0⟩ := HA.out.below hb.out (Nat.le_refl _) k _ hp
        obtain ⟨d, hdd⟩ : ∃ d, fitN s ts[k] (dayR s (ts.take k)).1 = d := ⟨_, rfl⟩
        have hdl := fitN_le s ts[k] (dayR s (ts.take k)).1
        rw [hdd] at hdl
        have HIX := hid (idxI_left s ts[k] (dayR s (ts.take k)).1)
        have H2 := hid (dayR2_succ hkl hdd)
        have HLL := hid (leftL_len s ts k)
        have HN := hid (fun h => leftL_new hkl (by rw [hdd]; exact h))
        have HP := hid (fun h => leftL_put hkl hdd h)
        have hl9 : Hid ((leftL s ts k).length ≤ 8) := by show _ ≤ _; rw [leftL_len]; omega
        have hl8' : Hid ((dayR s (ts.take k)).2.length ≤ 8) := by show _ ≤ _; omega
        have HBd := hid hr.1
        rw [hdd] at HIX
        obtain ⟨t, ht⟩ : ∃ t, t = ts[k] := ⟨_, rfl⟩
        rw [← ht] at HIX HN HP hp c0 htk
        have HCl : Hid (∀ w', Below (wr.alloc (.cells #[.int .i64 t] 2)).heap.size (wr.alloc (.cells #[.int .i64 t] 2)) w' → Hid True) := fun _ _ => trivial
        obtain ⟨A9, c9, rfl⟩ := h9.out.slc
        have hX9 := hid h9.out
        have HX := hid (block_new1 wr (.cells #[.int .i64 t] 2) rfl)
        have HF := hid (c_indexFI 26 #[] #[.pointer (some ⟨wr.heap.size, 0, none⟩)] (enters_of Try.func26 (by kernel_rfl) rfl) (fun n => decide (t ≤ n)) A9 c9 (leftL s ts k) (Nat.le_trans hl9.out (by decide)) _ ((h9.out.alloc (.cells #[.int .i64 t] 2)).sli) (fun W p _ hb => c_daysClo p t _ W (block_below hb HX.out (block_lt HX.out))))
        have h9' := hid (h9.out.alloc (.cells #[.int .i64 t] 2))
        have h8' := hid (h8.out.alloc (.cells #[.int .i64 t] 2))
        have hb' := hid (hb.out.alloc hb.out.size (.cells #[.int .i64 t] 2))
        have HSz : Hid (w.heap.size ≤ wr.heap.size) := hb.out.size
        have HT0 := hid ht
        clear hr hp HCl hb h8 h9 HR HT ht
        have HXl : Hid (wr.heap.size < (wr.alloc (.cells #[.int .i64 t] 2)).heap.size) := block_lt HX.out
        have HO9 : Hid ((Value.slice A9 (leftL s ts k).length c9).ownBlock ≠ some wr.heap.size) := fun e => by have := (h9'.out.lt _ e).2; have := (World.ownsRow.lt (w := wr) (v := .slice A9 (leftL s ts k).length c9) (hX9.out) _ e).2; omega
        rcases Nat.eq_or_lt_of_le hdl with e | e
        · rw [if_pos e] at HIX
          have HN := hid (HN.out e)
          have HLe : Hid (d = (leftL s ts k).length) := by rw [Hid, HLL.out]; exact e
          clear e hdl hdd
          go_wp2_with (first
            | (go_at_call 25; ((with_reducible refine HF.out.mono ?_); rintro e w2 ⟨n, rfl, hb2, h99, h98⟩); have hn := h98.trans HIX.out; clear h99 h98; subst hn; have h9 := hid (h9'.out.below hb2 (Nat.le_refl _)); have h8 := hid (h8'.out.below hb2 (Nat.le_refl _)); have hb := hid (hb'.out.trans (hb2.mono hb'.out.size)); have HX2 := hid (block_below hb2 HX.out HXl.out); have HS2 := hid hb'.out.size; have HS3 := hid hb.out.size; clear hb2 h9' h8' hb' HX HF)
            | ((with_reducible refine gate (N := 35) rfl ?_); (refine wp_appI rfl (.tmp 32) (.tmp 34) rfl w.heap.size _ _ s h9.out rfl _ rfl (Nat.le_trans hl9.out (by decide)) HS3.out rfl ?_; intro v' w3 hown hg)))
          obtain ⟨g, c', rfl, q1, q2, q3, q4⟩ := hown.cell (j := (leftL s ts k).length) (n := s) (by rw [List.getElem?_append_right (Nat.le_refl _), Nat.sub_self]; rfl)
          have HX3 := hid (hg.block _ _ HX2.out HO9.out)
          have x0 := cell_block HX3.out (j := 0) rfl
          have ew : IntKind.i64.wrap (s - t) = s - t := by simp [IntKind.wrap, IntKind.bits, IntKind.signed]; omega
          rw [List.length_append, List.length_singleton] at hown hg
          rw [List.length_append, List.length_singleton]
          have i1 : ((leftL s ts k).length : Int) < ((leftL s ts k).length : Int) + 1 := by omega
          have i0 : (0 : Int) ≤ (((leftL s ts k).length : Nat) : Int) := by omega
          refine wp_region_tail 7 (by kernel_rfl) (by kernel_rfl) ?_
          simp only [List.take_succ_cons, List.take_zero, List.drop_succ_cons, List.drop_zero]
          repeat still_step
          refine wpStill_nil ?_
          have H9s := hid ((hown.set (j := (leftL s ts k).length) (by simp) (s - t)))
          rw [HN.out] at H9s
          have Hap2 := hid (h8.out.grewA hg hap.out)
          have H8s := hid ((h8.out.grew hg hap.out).setO (g := g) (fun e => Hap2.out g e rfl) (leftL s ts k).length (.int .i64 (s - t)))
          have HB3 := hid ((hb.out.trans (h9.out.belowG hg HS3.out)).setCell (p := ⟨g, (leftL s ts k).length, none⟩) q1 (.int .i64 (s - t)))
          go_wp2_with ((with_reducible refine gate (N := 46) rfl ?_); go_loud (refine wp_appID rfl (.tmp 43) (.tmp 45) rfl w.heap.size _ _ ((leftL s ts k).length : Int) H8s.out rfl _ rfl (Nat.le_trans hl8'.out (by decide)) HB3.out.size (by simp) ?_; intro v' w4 hown4 hg4))
          have h8n := hown4
          rw [← HLe.out, ← H2.out] at h8n
          refine ⟨⟨k + 1, by omega, by go_num, HB3.out.trans (H8s.out.belowG hg4 HB3.out.size), h8n, H9s.out.grew hg4 Hap2.out.symm, (H9s.out.grewA hg4 Hap2.out.symm).symm⟩, by simp [intOf]; omega⟩
        · rw [if_neg (by omega)] at HIX
          have HP := hid (HP.out e)
          have HDl : Hid (d < (leftL s ts k).length) := by rw [Hid, HLL.out]; exact e
          have HG := hid (leftL_get e)
          obtain ⟨x, hx⟩ : ∃ x, x = (dayR s (ts.take k)).1[d] := ⟨_, rfl⟩
          have hxb : 0 ≤ x ∧ x ≤ s := by rw [hx]; exact HBd.out _ (List.getElem_mem e)
          rw [← hx] at HP HG
          have hn0 : ¬ ((d : Int) < 0) := by omega
          have hn1 : decide ((d : Int) < 0) = false := decide_eq_false hn0
          clear hx e hdl hdd HN
          go_wp2_with (go_at_call 25; ((with_reducible refine HF.out.mono ?_); rintro e w2 ⟨n, rfl, hb2, h99, h98⟩); have hn := h98.trans HIX.out; clear h99 h98; subst hn; have h9 := hid (h9'.out.below hb2 (Nat.le_refl _)); have h8 := hid (h8'.out.below hb2 (Nat.le_refl _)); have hb := hid (hb'.out.trans (hb2.mono hb'.out.size)); have HX2 := hid (block_below hb2 HX.out HXl.out); have HS3 := hid hb.out.size; clear hb2 h9' h8' hb' HX HF)
          obtain ⟨g, c', e9, q1, q2, q3, q4⟩ := h9.out.cell HG.out
          obtain ⟨rfl, rfl⟩ : A9 = some ⟨g, 0, none⟩ ∧ c9 = c' := by simpa using e9
          have x0 := cell_block HX2.out (j := 0) rfl
          have ew : IntKind.i64.wrap (s - x - t) = s - x - t := by simp [IntKind.wrap, IntKind.bits, IntKind.signed]; omega
          have i1 : (d : Int) < ((leftL s ts k).length : Int) := by have := HDl.out; omega
          have i0 : (0 : Int) ≤ (d : Int) := by omega
          clear e9
          refine wp_region_tail 7 (by kernel_rfl) (by kernel_rfl) ?_
          simp only [List.take_succ_cons, List.take_zero, List.drop_succ_cons, List.drop_zero]
          repeat still_step
          refine wpStill_nil ?_
          have H9s := hid ((h9.out.set (j := d) HDl.out (s - x - t)))
          rw [HP.out] at H9s
          have H8s := hid (h8.out.setO (g := g) (fun e => hap.out g e rfl) d (.int .i64 (s - x - t)))
          have HB3 := hid (hb.out.setCell (p := ⟨g, d, none⟩) q1 (.int .i64 (s - x - t)))
          go_wp2_with ((with_reducible refine gate (N := 46) rfl ?_); go_loud (refine wp_appID rfl (.tmp 43) (.tmp 45) rfl w.heap.size _ _ (d : Int) H8s.out rfl _ rfl (Nat.le_trans hl8'.out (by decide)) HB3.out.size (by simp) ?_; intro v' w4 hown4 hg4))
          have h8n := hown4
          rw [← H2.out] at h8n
          refine ⟨⟨k + 1, by omega, by go_num, HB3.out.trans (H8s.out.belowG hg4 HB3.out.size), h8n, H9s.out.grew hg4 hap.out.symm, (H9s.out.grewA hg4 hap.out.symm).symm⟩, by simp [intOf]; omega⟩
      · obtain rfl : k = ts.length := by omega
        have hd : decide ((ts.length : Int) < (ts.length : Int)) = false := decide_eq_false (by omega)
        rw [List.take_length] at h8
        obtain ⟨A9, c9, rfl⟩ := h9.out.slc
        have HLn : Hid (((leftL s ts ts.length).length : Int) = ((dayR s ts).1.length : Int)) := by rw [Hid, leftL_len, List.take_length]
        go_wp2_with fail
        go_ret3
        exact ⟨_, by rw [HLn.out]; rfl, hb.out, h8.out⟩
  · have hk : timesC ts s = 2 ∨ timesC ts s = 3 ∨ timesC ts s = 6 := by
      unfold timesC at h0 ⊢
      split <;> rename_i h1
      · rw [if_pos h1] at h0
        split <;> rename_i h2
        · exact .inr (.inl rfl)
        · rw [if_neg h2] at h0
          split <;> rename_i h3
          · rw [if_pos h3] at h0; exact absurd rfl h0
          · exact .inr (.inr rfl)
      · exact .inl rfl
    unfold daysL daysN
    rw [if_neg h0, if_neg h0]
    clear h0
    rcases hk with hk | hk | hk
    all_goals
      rw [hk] at HC ⊢
      clear hk hA
      go_enter Try.func9, Try.ntmps9
      go_wp2_with (go_at_call 24; ((with_reducible refine HC.out.mono ?_); rintro e w1 ⟨rfl, hb1⟩); have HB1 := hid hb1; clear hb1)
      go_ret3
      exact ⟨_, rfl, HB1.out, RowI.nil _ _⟩
end Go.Proofs.Ytjcmdihadblodaa
