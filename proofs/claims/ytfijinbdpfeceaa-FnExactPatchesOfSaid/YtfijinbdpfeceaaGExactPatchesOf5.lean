/- What is proved: FnExactPatchesOf holds of all arguments; with the texts that lead to it. -/
import Derived.Test.YtfijinbdpfeceaaGExactPatchesOf4
import Derived.ChangeOld
/- PatchesOf, the reference's. -/
namespace Go.Proofs.Ytfijinbdpfeceaa
open Go.RowKit
set_option linter.unusedSimpArgs false
set_option linter.unusedVariables false

/-- Rows that were kept while another slice, apart from them all, has grown. -/
theorem RowsG.both {B : Nat} {T : TypeId} {sz : Nat} {w w' : World} {vout vd vd' : Value} {vs : List Value} {xss : List (Nat × List Value)} (h : RowsG B T sz w vout vs xss) (hd : RowsG B T sz w vd vs xss) (hg : Grew vd vd' w w') : RowsG B T sz w' vout vs xss :=
  ⟨h.len, fun j v x hv hx => ⟨hg.row (h.row j v x hv hx).1 (hd.row j v x hv hx).2, (h.row j v x hv hx).2⟩, h.sep⟩
/-- One slice more, apart from all others. -/
theorem RowsG.snoc2 {B : Nat} {T : TypeId} {sz : Nat} {w : World} {vout : Value} {vs : List Value} {xss : List (Nat × List Value)} (h : RowsG B T sz w vout vs xss) {v : Value} {x : Nat × List Value} (hv : w.ownsRow B T sz v x.1 x.2)
    (hva : ∀ (j : Nat) (u : Value), vs[j]? = some u → Apart u v) (hvo : Apart v vout) : RowsG B T sz w vout (vs ++ [v]) (xss ++ [x]) := by
  refine ⟨by simp [h.len], ?_, ?_⟩
  · intro j u y hu hy
    by_cases hj : j < vs.length
    · rw [List.getElem?_append_left hj] at hu
      rw [List.getElem?_append_left (h.len ▸ hj)] at hy
      exact h.row j u y hu hy
    · have hj2 : j < vs.length + 1 := by have := (List.getElem?_eq_some_iff.1 hu).1; simpa using this
      have hj3 : j = vs.length := by omega
      rw [List.getElem?_append_right (by omega), hj3] at hu
      rw [List.getElem?_append_right (by have := h.len; omega), hj3, h.len] at hy
      simp at hu hy
      subst hu hy
      exact ⟨hv, hvo⟩
  · intro i j u u' hij hu hu'
    have key : ∀ (i : Nat) (u : Value), (vs ++ [v])[i]? = some u → (i < vs.length ∧ vs[i]? = some u) ∨ (i = vs.length ∧ u = v) := by
      intro i u hu
      by_cases hi : i < vs.length
      · left; rw [List.getElem?_append_left hi] at hu; exact ⟨hi, hu⟩
      · right
        have hi2 : i < vs.length + 1 := by have := (List.getElem?_eq_some_iff.1 hu).1; simpa using this
        have hi3 : i = vs.length := by omega
        rw [List.getElem?_append_right (by omega), hi3] at hu
        simp at hu
        exact ⟨hi3, hu.symm⟩
    rcases key i u hu with ⟨_, h1⟩ | ⟨h1, h2⟩ <;> rcases key j u' hu' with ⟨_, h3⟩ | ⟨h3, h4⟩
    · exact h.sep i j u u' hij h1 h3
    · subst h4; exact hva i u h1
    · subst h2; exact (hva j u' h3).symm
    · omega
theorem flat_len {ls : List (List (Int × Int))} (h : ∀ l ∈ ls, l.length ≤ 64) : ls.flatten.length ≤ 64 * ls.length := by
  induction ls with
  | nil => simp
  | cons l ls ih =>
    have := ih fun x hx => h x (by simp [hx])
    have := h l (by simp)
    rw [List.flatten_cons, List.length_append, List.length_cons]; omega
theorem patsL_64 {r : Rf} (hv : validB r = true) {L : List (Int × Int)} (hL : ∀ p ∈ L, InR r p) (j : Nat) : ∀ l ∈ patsL r L j, l.length ≤ 64 := fun l hl => by
  unfold patsL at hl
  obtain ⟨p, hp, rfl⟩ := List.mem_map.1 hl
  exact patch_len hv (hL p (List.mem_of_mem_take (List.mem_filter.1 hp).1))
set_option maxHeartbeats 6400000 in
set_option maxRecDepth 100000 in
theorem c_sPatchesOf (r : Rf) (hr : r.Ok) (n : Int) (hn : -9223372036854775808 ≤ n ∧ n ≤ 9223372036854775807) (w : World) : Calls Try.prog 25 #[.agg (rcells r), .int .i64 n] w (RetPP w (patsV r n) (codeOf (validB r) (inB n 0 3))) := by
  have key : ∀ (k : Int) (g : Bool), inB n 0 3 = g → codeOf (validB r) g = k → (k = 1 ∨ k = 2 ∨ k = 0) → Calls Try.prog 25 #[.agg (rcells r), .int .i64 n] w (RetPP w (patsV r n) k) := by
    intro k g hg hk hcs
    have HG := hid hg
    have HK := hid hk
    have HV0 : Hid (k = 0 → validB r = true) := fun h0 => by
      subst h0
      exact (codeOf_zero hk).1
    have HL : Hid (patsV r n = if k = 0 then patsL r (tilesR r n) (tilesR r n).length else []) := by rw [Hid, patsV, hg, hk]
    clear hg hk hn
    have HR := hid (block_new1 w (.cells (rcells r) 27) rfl)
    have HB : Hid (w.heap.size + 1 ≤ (w.alloc (.cells (rcells r) 27)).heap.size) := by simp [Hid]
    have HWA : Hid (Below w.heap.size w (w.alloc (.cells (rcells r) 27))) := (Below.refl _ w).alloc (Nat.le_refl _) _
    have l0 : w.heap.size < w.heap.size + 1 := by omega
    rcases hcs with rfl | rfl | rfl
    rotate_left 2
    · have HVr := hid (HV0.out rfl)
      obtain ⟨L, hL⟩ : ∃ L, L = tilesR r n := ⟨_, rfl⟩
      have hO := (fun W h => c_l01Tiles r hr HVr.out w.heap.size n W h)
      rw [show tilesL r n (allUp r.w.toNat r.h.toNat 0) = L from hL.symm] at hO
      have HO := hid hO
      have HLV : Hid (patsV r n = patsL r L L.length) := by rw [Hid, HL.out, if_pos (by trivial), hL]
      have hL64 : L.length ≤ 64 := by rw [hL]; exact tilesR_len HVr.out n
      have HIN : Hid (∀ p ∈ L, InR r p) := fun p hp => by rw [hL] at hp; exact ((mem_tilesR HVr.out).1 hp).1
      have HDN : Hid (∀ j p, L[j]? = some p → (p ∈ (patsL r L j).flatten ↔ headB r p = false)) := fun j p hp => by rw [hL] at hp ⊢; exact done_iff HVr.out hp
      have HL64 := hid hL64
      clear hL hO HV0 HL hL64
      go_enter Try.func25, Try.ntmps25
      go_wp2_with (first
        | (go_at_call 52; ((with_reducible refine (c_l01Kind n _ _ HG.out).mono ?_); rintro e w1 ⟨rfl, rfl⟩))
        | (go_at_call 51; ((with_reducible refine (c_l01ToldK r hr _ _ _ HK.out _ HR.out).mono ?_); rintro e w1 ⟨rfl, hb1⟩); have HX1 := hid (block_below hb1 HR.out (by simp)); have HW1 := hid (HWA.out.trans (hb1.mono HWA.out.size)); have HS1 := hid (Nat.le_trans HB.out hb1.size); clear hb1)
        | (go_at_call 31; ((with_reducible refine (HO.out _ (block_alloc (block_alloc HX1.out _) _)).mono ?_); rintro e w2 ⟨v, rfl, hb2, ho2⟩); obtain ⟨A0, c0, rfl⟩ := owns_slc ho2; have HB2 := hid hb2; have HO2 := hid ho2; clear hb2 ho2; have hL64 := HL64.out))
      obtain ⟨i0, hi, hz0, hz1, hz2⟩ := info_parts Try.infoSlQ
      have HS2 : Hid (w1.heap.size + 2 ≤ w2.heap.size) := by have := HB2.out.size; simp at this; show _ ≤ _; omega
      have hs1 := HS1.out
      have hX2 := hid (block_below HB2.out (block_alloc (block_alloc HX1.out (.cells #[] 33)) (.cells #[] 42)) (by simp; omega))
      have hW2 := hid ((((HW1.out.alloc HW1.out.size (.cells #[] 33)).alloc (by simp; omega) (.cells #[] 42))).trans (HB2.out.mono (by simp; omega)))
      have hs2 : Hid (w.heap.size + 1 ≤ w2.heap.size) := by have := HS2.out; show _ ≤ _; omega
      have hO2 : Hid (RowQ (w.heap.size + 1) w2 (.slice A0 L.length c0) L) := World.ownsRow.mono HO2.out (by simp; omega)
      have hOut : Hid (w2.ownsRow (w.heap.size + 1) 33 1 (.slice (some ⟨w1.heap.size, 0, none⟩) 0 0) 0 []) := owns_below2 (World.ownsRow.alloc (World.ownsRow_made w1 #[] 0 hs1 (by decide) rfl) _) HB2.out (Nat.le_refl _)
      have hDn : Hid (RowQ (w.heap.size + 1) w2 (.slice (some ⟨w1.heap.size + 1, 0, none⟩) 0 0) []) := by
        have := RowQ.made (B := w.heap.size + 1) (w := w1.alloc (.cells #[] 33)) (by simp; omega)
        have := this.below HB2.out (Nat.le_refl _)
        simpa [Hid] using this
      have hA1 : Hid (Apart (.slice A0 L.length c0) (.slice (some ⟨w1.heap.size, 0, none⟩) 0 0)) := fun g' h3 h4 => by
        have h5 := (World.ownsRow.lt HO2.out g' h3).1
        simp [Value.ownBlock] at h4 h5
        omega
      have hA2 : Hid (Apart (.slice A0 L.length c0) (.slice (some ⟨w1.heap.size + 1, 0, none⟩) 0 0)) := fun g' h3 h4 => by
        have h5 := (World.ownsRow.lt HO2.out g' h3).1
        simp [Value.ownBlock] at h4 h5
        omega
      have hA3 : Hid (Apart (.slice (some ⟨w1.heap.size, 0, none⟩) 0 0) (.slice (some ⟨w1.heap.size + 1, 0, none⟩) 0 0)) := fun g' h3 h4 => by
        simp [Value.ownBlock] at h4 h3
        omega
      clear HB2 HO2 HX1 HW1 HS1 hs1 HS2
      go_loopw [7, 8, 10] (fun vo vd i wr => ∃ (j : Nat) (vs : List Value), j ≤ L.length ∧ i = .int .i64 j ∧ Hid (wr.ownsRow (w.heap.size + 1) 33 1 vo (patsL r L j).length vs) ∧ Hid (RowsG (w.heap.size + 1) 42 2 wr vo vs (cellsOfQ (patsL r L j)) ∧ RowsG (w.heap.size + 1) 42 2 wr vd vs (cellsOfQ (patsL r L j))) ∧ Hid (RowQ (w.heap.size + 1) wr vd (patsL r L j).flatten) ∧ Hid (RowQ (w.heap.size + 1) wr (.slice A0 L.length c0) L) ∧ Hid (Apart (.slice A0 L.length c0) vo ∧ Apart (.slice A0 L.length c0) vd ∧ Apart vo vd) ∧ Hid (wr.heap[w.heap.size]? = some (.cells (rcells r) 27 (0, 0))) ∧ Hid (Below w.heap.size w wr) ∧ Hid (w.heap.size + 1 ≤ wr.heap.size)) (fun _ _ i _ => L.length - (intOf i).toNat)
      case atStart => exact ⟨0, [], by omega, rfl, hOut.out, ⟨RowsG.nil _ _ _ _ _, RowsG.nil _ _ _ _ _⟩, hDn.out, hO2.out, ⟨hA1.out, hA2.out, hA3.out⟩, hX2.out, hW2.out, hs2.out⟩
      case round =>
        clear hX2 hW2 hs2 hO2 hOut hDn hA1 hA2 hA3
        obtain ⟨wo, rfl⟩ : ∃ W, W = wr := ⟨_, rfl⟩
        obtain ⟨j, vs, hj, rfl, hown, hrows, hdn, hro, hap, hx, hb, hs⟩ := hrel
        have hpl := patsL_len r L j
        have hfl := flat_len (patsL_64 HVr.out HIN.out j)
        obtain ⟨Av, cv, rfl⟩ := owns_slc hown.out
        obtain ⟨D, hD⟩ : ∃ D, D = (patsL r L j).flatten := ⟨_, rfl⟩
        have HDD := hid hD
        rw [← hD] at hdn hfl
        obtain ⟨Ad, cd, rfl⟩ := owns_slc hdn.out
        have hfl2 : D.length ≤ 1000000 := by omega
        have hpl2 : (patsL r L j).length ≤ 1100000 := by omega
        have LX := hid (block_lt hx.out)
        by_cases hjl : j < L.length
        · have hd : decide ((j : Int) < (L.length : Int)) = true := decide_eq_true (by omega)
          have hjI : (j : Int) < (L.length : Int) := by omega
          have hj0 : (0 : Int) ≤ (j : Int) := by omega
          have hj64 : (j : Int) ≤ 64 := by omega
          have hq := List.getElem?_eq_getElem hjl
          obtain ⟨⟨q1, q2⟩, hqq⟩ : ∃ p, p = L[j] := ⟨_, rfl⟩
          rw [← hqq] at hq
          have hqr := HIN.out (q1, q2) (List.mem_of_getElem? hq)
          have hdi := HDN.out j (q1, q2) hq
          rw [← hD] at hdi
          have HNo := fun h => hid (patsL_no (r := r) hq h)
          have HYes := fun h => hid (patsL_yes (r := r) hq h)
          obtain ⟨gn, cg, e, gnB, hnl, n0, n1, _, _⟩ := hro.out.cell hq
          obtain ⟨rfl, -, rfl⟩ : A0 = some ⟨gn, 0, none⟩ ∧ L.length = L.length ∧ c0 = cg := by simpa using e
          dsimp only at n0 n1
          have HHAS := hid (c_l01Has Ad cd D hfl2 q1 q2 wo hdn.out.pairs)
          have HNL := hid hnl
          have HM0 := hid n0
          have HM1 := hid n1
          clear hqq e hD
          by_cases hin : (q1, q2) ∈ D
          · have hH := HHAS.out
            rw [decide_eq_true hin] at hH
            have HHAS := hid hH
            have HN := HNo (hdi.1 hin)
            clear hH hin hdi HYes HNo hq hqr
            go_wp2_with (go_at_call 53; ((with_reducible refine HHAS.out.mono ?_); rintro e w3 ⟨rfl, hb3⟩); have HB3 := hid hb3; clear hb3)
            exact ⟨⟨j + 1, vs, by omega, by go_num, by rw [HN.out]; exact owns_below2 hown.out HB3.out (Nat.le_refl _), by rw [HN.out]; exact ⟨hrows.out.1.below HB3.out (Nat.le_refl _), hrows.out.2.below HB3.out (Nat.le_refl _)⟩, by rw [HN.out, ← HDD.out]; exact hdn.out.below HB3.out (Nat.le_refl _), hro.out.below HB3.out (Nat.le_refl _), hap.out, block_below HB3.out hx.out LX.out, hb.out.trans (HB3.out.mono hb.out.size), Nat.le_trans hs.out HB3.out.size⟩, by simp [intOf]; omega⟩
          · have hH := HHAS.out
            rw [decide_eq_false hin] at hH
            have HHAS := hid hH
            have hhd : headB r (q1, q2) = true := by
              cases h0 : headB r (q1, q2) with
              | true => rfl
              | false => exact absurd (hdi.2 h0) hin
            have HY := HYes hhd
            dsimp only at HY
            obtain ⟨PL, hPL⟩ : ∃ l, l = patchL r q1 q2 := ⟨_, rfl⟩
            have hCP := (fun W h => c_l01Patch r hr HVr.out w.heap.size q1 q2 hqr W h)
            unfold RetS at hCP
            have hP64 := patch_len HVr.out hqr
            dsimp only at hP64
            rw [← hPL] at hCP hP64 HY
            have HCP := hid hCP
            have HHI := hid HHAS.out
            clear hH hin hdi HYes HNo hq hqr hCP hPL hhd HHAS n0 n1 hnl
            have n0 := HM0.out
            have n1 := HM1.out
            go_wp2_with (first
              | (go_at_call 53; ((with_reducible refine HHI.out.mono ?_); rintro e w3 ⟨rfl, hb3⟩); have HB3 := hid hb3; have k0 := (hb3.cell (p := ⟨gn, _, none⟩) HNL.out).trans HM0.out; have k1 := (hb3.cell (p := ⟨gn, _, none⟩) HNL.out).trans HM1.out; clear hb3 n0 n1)
              | (go_at_call 49; ((with_reducible refine (HCP.out _ (block_below HB3.out hx.out LX.out)).mono ?_); rintro e w5 ⟨v, rfl, hb5, hr5⟩); obtain ⟨A5, c5, rfl⟩ := owns_slc hr5; have HB5 := hid hb5; have HR5 : Hid (RowQ w3.heap.size w5 (.slice A5 PL.length c5) PL) := hr5; have HOne := hid (owns_one hr5); clear hb5 hr5; have HB6 := hid (HB3.out.trans (HB5.out.mono HB3.out.size)); have HD6 := hid (hdn.out.below HB6.out (Nat.le_refl _)); have HS6 := hid (Nat.le_trans hs.out HB6.out.size); have hsum : D.length + PL.length ≤ 1100000 := by omega)
              | ((with_reducible refine gate (N := 42) rfl ?_); (refine wp_appQ rfl (.tmp 40) (.tmp 41) rfl (w.heap.size + 1) _ _ PL HD6.out rfl A5 c5 HR5.out.pairs rfl hsum HS6.out ?_); intro v7 w7 hown7 hg7; obtain ⟨A7, c7, rfl⟩ := owns_slc hown7; have H7 := hid hown7; have G7 := hid hg7; have HO6 := hid (owns_below2 hown.out HB6.out (Nat.le_refl _)); have HO7 := hid (hg7.row HO6.out hap.out.2.2); have HS7 := hid (Nat.le_trans HS6.out hg7.size); clear hown7 hg7)
              | ((with_reducible refine gate (N := 46) rfl ?_); (refine wpList_append_row rfl (.tmp 43) (.tmp 45) 45 rfl (w.heap.size + 1) 33 i0 (.slice none 0 0) 1 24 Try.underlying45 hi hz0 hz1 hz2 rfl (by decide) (by decide) _ _ vs rfl HO7.out #[.slice A5 PL.length c5] rfl (by simp; exact HOne.out) _ rfl hpl2 HS7.out rfl _ ?_; intro v8 w8 hown8 hg8)))
            have hPn : ∀ g, (Value.slice A5 PL.length c5).ownBlock = some g → wo.heap.size ≤ g := fun g hg => by have := (World.ownsRow.lt HR5.out g hg).1; have := HB3.out.size; omega
            have hPD : Apart (.slice A5 PL.length c5) (.slice Ad D.length cd) := fun g h1 h2 => by have := hPn g h1; have := (World.ownsRow.lt hdn.out g h2).2; omega
            have hPO : Apart (.slice A5 PL.length c5) (.slice Av (patsL r L j).length cv) := fun g h1 h2 => by have := hPn g h1; have := (World.ownsRow.lt hown.out g h2).2; omega
            have hR6 := hrows.out.1.below HB6.out (Nat.le_refl _)
            have hR6d := hrows.out.2.below HB6.out (Nat.le_refl _)
            have hP7 : RowQ (w.heap.size + 1) w7 (.slice A5 PL.length c5) PL := G7.out.row (World.ownsRow.mono HR5.out (by have := HB3.out.size; have := hs.out; omega)) hPD
            have hP7d := G7.out.apart HR5.out hPD
            have hall : ∀ (i : Nat) (u : Value), vs[i]? = some u → Apart u (.slice A5 PL.length c5) := fun i u hu g h1 h2 => by have := (hrows.out.1.lt hu g h1).2; have := hPn g h2; omega
            have hR7 := (hR6.both hR6d G7.out).snoc2 (x := (PL.length, pcells PL)) hP7 hall hPO
            have hR7d := (hR6d.grew G7.out).snoc2 (x := (PL.length, pcells PL)) hP7 hall hP7d
            have hL6 := hro.out.below HB6.out (Nat.le_refl _)
            have hL7 := G7.out.row hL6 hap.out.2.1
            have hL7d := G7.out.apart hL6 hap.out.2.1
            have hOd := G7.out.apart HO6.out hap.out.2.2
            have hX6 := block_below HB6.out hx.out LX.out
            have hX7 := G7.out.block _ _ hX6 (fun e => by have := (World.ownsRow.lt HD6.out _ e).1; omega)
            have hB6 := hb.out.trans (HB6.out.mono hb.out.size)
            have hB7 := hB6.trans (G7.out.below _ (fun g hg => by have := (World.ownsRow.lt HD6.out g hg).1; omega) hB6.size)
            obtain ⟨A8, c8, rfl⟩ := owns_slc hown8
            have hel : (patsL r L (j + 1)).length = (patsL r L j).length + 1 := by rw [HY.out, List.length_append]; rfl
            have hfl3 : (patsL r L (j + 1)).flatten = D ++ PL := by rw [HY.out, List.flatten_append, ← HDD.out]; simp
            rw [show D.length + PL.length = (D ++ PL).length from List.length_append.symm]
            refine ⟨⟨j + 1, vs ++ [Value.slice A5 PL.length c5], by omega, by go_num, by rw [hel]; exact hown8, by rw [HY.out, cellsOfQ_snoc]; exact ⟨hR7.grew hg8, hR7d.both hR7 hg8⟩, by rw [hfl3]; exact hg8.row H7.out hOd.symm, hg8.row hL7 hap.out.1, ⟨hg8.apart hL7 hap.out.1, hL7d, (hg8.apart H7.out hOd.symm).symm⟩, hg8.block _ _ hX7 (fun e => by have := (World.ownsRow.lt HO7.out _ e).1; omega), hB7.trans (hg8.below _ (fun g hg' => by have := (World.ownsRow.lt HO7.out g hg').1; omega) hB7.size), Nat.le_trans HS7.out hg8.size⟩, by simp [intOf]; omega⟩
        · obtain rfl : j = L.length := by omega
          have hd : decide ((L.length : Int) < (L.length : Int)) = false := decide_eq_false (by omega)
          go_wp2_with fail
          go_ret2
          refine ⟨_, rfl, hb.out, ?_⟩
          rw [HLV.out]
          exact OwPP.of_rows (patsL_ne HVr.out L L.length) hown.out hrows.out.1 (by omega) hb.out.size
    all_goals
      clear HV0
      go_enter Try.func25, Try.ntmps25
      go_wp2_with (first
        | (go_at_call 52; ((with_reducible refine (c_l01Kind n _ _ HG.out).mono ?_); rintro e w1 ⟨rfl, rfl⟩))
        | (go_at_call 51; ((with_reducible refine (c_l01ToldK r hr _ _ _ HK.out _ HR.out).mono ?_); rintro e w1 ⟨rfl, hb1⟩)))
      go_ret2
      have b1 := ((Below.refl _ w).alloc (Nat.le_refl _) (.cells (rcells r) 27)).trans (hb1.mono (by simp))
      refine ⟨_, rfl, b1.alloc b1.size _, ?_⟩
      rw [HL.out]
      exact OwPP.nil (b1.alloc b1.size _).size
  exact key _ _ rfl rfl (codeOf_012 _ _)
end Go.Proofs.Ytfijinbdpfeceaa

/- Slices of slices of places: compared. -/
namespace Go.Proofs.Ytfijinbdpfeceaa
open Go.RowKit
set_option linter.unusedSimpArgs false
set_option linter.unusedVariables false
set_option maxRecDepth 100000 in
theorem e_PlaceSS {lo hi lo' hi' : Nat} {v v' : Value} {ls : List (List (Int × Int))} (hlen : ls.length ≤ 1048576 ∧ tot ls ≤ 1048576) {w : World} (h : OwPP lo hi w v ls) (h' : OwPP lo' hi' w v' ls) :
    Calls Try.prog 27 #[v, v'] w fun e w' => e = .returned (.bool true) ∧ Below w.heap.size w w' := by
  obtain ⟨⟨A, n, g, c, rfl, h1⟩, _, h2⟩ := h
  obtain ⟨⟨A', n', g', c', rfl, h1'⟩, _, h2'⟩ := h'
  have HP := hid h1
  have HP' := hid h1'
  have HH := hid h2
  have HH' := hid h2'
  obtain ⟨HLN, HTT⟩ := hlen
  have HTO := hid HTT
  have hne : ((ls.length : Int) != (ls.length : Int)) = false := by simp
  have HLe := hid HLN
  clear h1 h1' h2 h2' HTT
  go_enter Try.func27, Try.ntmps27
  go_wp2_with fail
  go_loopw [5] (fun i wr => ∃ k : Nat, k ≤ ls.length ∧ i = .int .i64 k ∧ Hid (Below w.heap.size w wr)) (fun i _ => ls.length - (intOf i).toNat)
  case atStart => exact ⟨0, by omega, rfl, Below.refl _ _⟩
  case round =>
    obtain ⟨k, hk, rfl, hb⟩ := hrel
    by_cases hkl : k < ls.length
    · have hd : decide ((k : Int) < (ls.length : Int)) = true := decide_eq_true (by omega)
      have hp := List.getElem?_eq_getElem hkl
      obtain ⟨l, hl⟩ : ∃ l, l = ls[k] := ⟨_, rfl⟩
      rw [← hl] at hp
      have hll := tot_get hp
      obtain ⟨b, cs, rfl, -, -, -, r3, r4⟩ := (HP.out.below hb.out HH.out).out k l hp
      obtain ⟨b', cs', rfl, -, -, -, r3', r4'⟩ := (HP'.out.below hb.out HH'.out).out k l hp
      obtain ⟨-, -, hro⟩ := (HP.out.below hb.out HH.out).row k l hp
      obtain ⟨-, -, hro'⟩ := (HP'.out.below hb.out HH'.out).row k l hp
      have HRO := hid hro
      have HRO' := hid hro'
      obtain ⟨gk, hgk⟩ : ∃ x, x = g k := ⟨_, rfl⟩
      obtain ⟨ck, hck⟩ : ∃ x, x = c k := ⟨_, rfl⟩
      obtain ⟨gk', hgk'⟩ : ∃ x, x = g' k := ⟨_, rfl⟩
      obtain ⟨ck', hck'⟩ : ∃ x, x = c' k := ⟨_, rfl⟩
      rw [← hgk, ← hck] at HRO r4
      rw [← hgk', ← hck'] at HRO' r4'
      have q0 := cell_block r3 r4
      have q1 := cell_block r3' r4'
      have lb := block_lt r3
      have lb' := block_lt r3'
      have q0x : ∀ x : Ext wr.heap.size wr, x.out.cell? ⟨b, k, none⟩ = some (.slice (some ⟨gk, 0, none⟩) l.length ck) := fun x => (x.below.cell (p := ⟨b, k, none⟩) lb).trans q0
      have q1x : ∀ x : Ext wr.heap.size wr, x.out.cell? ⟨b', k, none⟩ = some (.slice (some ⟨gk', 0, none⟩) l.length ck') := fun x => (x.below.cell (p := ⟨b', k, none⟩) lb').trans q1
      have HEQ := fun W h h' => hid (e_PlaceS (lo := gk) (hi := gk + 1) (lo' := gk') (hi' := gk' + 1) (v := .slice (some ⟨gk, 0, none⟩) l.length ck) (v' := .slice (some ⟨gk', 0, none⟩) l.length ck') (l := l) (by have := HTO.out; omega) (w := W) h h')
      have kI : (k : Int) < (ls.length : Int) := by omega
      have k0 : (0 : Int) ≤ (k : Int) := by omega
      have HKL := hid hkl
      have HBz := hid hb.out.size
      clear hp hl r3 r4 r3' r4' hgk hck hgk' hck' hro hro' hll
      go_wp2_with fail
      refine wp_region_ext wr.heap.size (by kernel_rfl) (by kernel_rfl) ?_
      repeat (go_big_quiet_step ((go_at_call 15; exact Calls.ext (Nat.le_refl _) (HEQ _ (HRO.out.below (Ext.below _)) (HRO'.out.below (Ext.below _))).out)))
      refine wpQuiet_nil ?_
      intro x
      go_wp2_with fail
      exact ⟨⟨k + 1, by omega, by go_num, hb.out.trans (x.below.mono HBz.out)⟩, by simp [intOf]; omega⟩
    · obtain rfl : k = ls.length := by omega
      have hd : decide ((ls.length : Int) < (ls.length : Int)) = false := decide_eq_false (by omega)
      go_wp2_with fail
      go_ret
      exact ⟨rfl, hb.out⟩
end Go.Proofs.Ytfijinbdpfeceaa

/- Slices of slices of places: marked. -/
namespace Go.Proofs.Ytfijinbdpfeceaa
open Go.RowKit
set_option linter.unusedSimpArgs false
set_option linter.unusedVariables false
set_option maxRecDepth 100000 in
theorem m_PlaceSS {lo hi : Nat} {v : Value} {ls : List (List (Int × Int))} {m : Int} (hm : 0 ≤ m ∧ m ≤ 1000000) (hlen : ls.length ≤ 1048576 ∧ tot ls ≤ 1048576) {w : World} (h : OwPP lo hi w v ls) :
    Calls Try.prog 28 #[v, .int .i64 m] w fun e w' => e = .returned (.int .i64 (m + 2 * (tot ls : Int))) ∧ Below lo w w' ∧ OutS lo hi w w' ∧ OwPP lo hi w' v (mkLL ls m ls.length) := by
  obtain ⟨⟨A, n, g, c, rfl, h1⟩, h3, h2⟩ := h
  have HP := hid h1
  have HH := hid h2
  have HH3 := hid h3
  obtain ⟨HLN, HTT⟩ := hlen
  have HTO := hid HTT
  have HLe := hid HLN
  have HM := hid hm
  clear h1 h2 h3 HTT hm
  go_enter Try.func28, Try.ntmps28
  go_wp2_with fail
  go_loopw [1, 5] (fun q i wr => ∃ k : Nat, k ≤ ls.length ∧ i = .int .i64 k ∧ q = .int .i64 (m + 2 * ((tot (ls.take k) : Nat) : Int)) ∧ Hid (Below lo w wr) ∧ Hid (OutS lo hi w wr) ∧ Hid (PPs lo hi wr A g c (mkLL ls m k))) (fun _ i _ => ls.length - (intOf i).toNat)
  case atStart => exact ⟨0, by omega, rfl, by simp [tot], Below.refl _ _, OutS.refl _ _ _, by rw [mkLL_zero]; exact HP.out⟩
  case round =>
    obtain ⟨k, hk, rfl, rfl, hb, hO, hpp⟩ := hrel
    by_cases hkl : k < ls.length
    · have hd : decide ((k : Int) < (ls.length : Int)) = true := decide_eq_true (by omega)
      have hp := List.getElem?_eq_getElem hkl
      obtain ⟨l, hl⟩ : ∃ l, l = ls[k] := ⟨_, rfl⟩
      rw [← hl] at hp
      have hll := tot_get hp
      have hpm : (mkLL ls m k)[k]? = some l := by rw [mkLL_get, hp]; simp
      have htk := tot_take_le ls k
      have HTS := hid (tot_take ls hp)
      have HST := hid (mkLL_step ls m hp)
      obtain ⟨b, cs, rfl, -, -, -, r3, r4⟩ := hpp.out.out k l hpm
      obtain ⟨g1, g2, hro⟩ := hpp.out.row k l hpm
      obtain ⟨M, hM⟩ : ∃ M : Int, M = m + 2 * ((tot (ls.take k) : Nat) : Int) := ⟨_, rfl⟩
      have HMB : 0 ≤ M ∧ M ≤ 1000000000 := by have := HM.out; have := HTO.out; omega
      have HMK := hid (m_PlaceS HMB (by have := HTO.out; omega) hro)
      have HPU := fun (W : World) (l' : List (Int × Int)) hO hl hn => hid (PPs.put hpp.out (w' := W) (l' := l') hpm hO hl hn)
      obtain ⟨gk, hgk⟩ : ∃ x, x = g k := ⟨_, rfl⟩
      obtain ⟨ck, hck⟩ : ∃ x, x = c k := ⟨_, rfl⟩
      rw [← hgk, ← hck] at HMK r4 HPU
      rw [← hgk] at g1 g2
      rw [← hM] at HST
      rw [← hM]
      have HM9 := hid hM
      have q0 := cell_block r3 r4
      have kI : (k : Int) < (ls.length : Int) := by omega
      have k0 : (0 : Int) ≤ (k : Int) := by omega
      have HKL := hid hkl
      have G1 := hid g1
      have G2 := hid g2
      clear hp hl r3 r4 hgk hck hro hll hpm htk hM HMB g1 g2
      go_wp2_with (go_at_call 16; ((with_reducible refine HMK.out.mono ?_); rintro e w5 ⟨rfl, hb5, ho5, hn5⟩); have HB5 := hid hb5; have HO5 := hid ho5; have HN5 := hid hn5; clear hb5 ho5 hn5)
      refine ⟨⟨k + 1, by omega, by go_num, by rw [HTS.out]; congr 1; have := HM9.out; omega, hb.out.trans (HB5.out.mono G1.out), hO.out.trans (HO5.out.wide G1.out G2.out), ?_⟩, by simp [intOf]; omega⟩
      have := (HPU _ _ HO5.out (mkL_len _ _ _) HN5.out).out
      rw [HST.out] at this
      exact this
    · obtain rfl : k = ls.length := by omega
      have hd : decide ((ls.length : Int) < (ls.length : Int)) = false := decide_eq_false (by omega)
      rw [List.take_length]
      go_wp2_with fail
      go_ret
      exact ⟨rfl, hb.out, hO.out, ⟨A, n, g, c, by rw [mkLL_len], hpp.out⟩, HH3.out, Nat.le_trans HH.out hO.out.size⟩
end Go.Proofs.Ytfijinbdpfeceaa

/- Slices of slices of places: read. -/
namespace Go.Proofs.Ytfijinbdpfeceaa
open Go.RowKit
set_option linter.unusedSimpArgs false
set_option linter.unusedVariables false
set_option maxRecDepth 100000 in
theorem h_PlaceSS {lo hi : Nat} {v : Value} {ls : List (List (Int × Int))} {m : Int} (hm : 0 ≤ m ∧ m ≤ 1000000) (hlen : ls.length ≤ 1048576 ∧ tot ls ≤ 1048576) {w : World} (h : OwPP lo hi w v (mkLL ls m ls.length)) :
    Calls Try.prog 29 #[v, .int .i64 m] w fun e w' => e = .returned (.int .i64 (m + 2 * (tot ls : Int))) ∧ Below w.heap.size w w' := by
  obtain ⟨⟨A, n, g, c, rfl, h1⟩, h3, h2⟩ := h
  rw [mkLL_len]
  have HP := hid h1
  have HH := hid h2
  obtain ⟨HLN, HTT⟩ := hlen
  have HTO := hid HTT
  have HLe := hid HLN
  have HM := hid hm
  clear h1 h2 h3 HTT hm
  go_enter Try.func29, Try.ntmps29
  go_wp2_with fail
  go_loopw [1, 5] (fun q i wr => ∃ k : Nat, k ≤ ls.length ∧ i = .int .i64 k ∧ q = .int .i64 (m + 2 * ((tot (ls.take k) : Nat) : Int)) ∧ Hid (Below w.heap.size w wr)) (fun _ i _ => ls.length - (intOf i).toNat)
  case atStart => exact ⟨0, by omega, rfl, by simp [tot], Below.refl _ _⟩
  case round =>
    obtain ⟨k, hk, rfl, rfl, hb⟩ := hrel
    by_cases hkl : k < ls.length
    · have hd : decide ((k : Int) < (ls.length : Int)) = true := decide_eq_true (by omega)
      have hp := List.getElem?_eq_getElem hkl
      obtain ⟨l, hl⟩ : ∃ l, l = ls[k] := ⟨_, rfl⟩
      rw [← hl] at hp
      have hll := tot_get hp
      have htk := tot_take_le ls k
      have HTS := hid (tot_take ls hp)
      obtain ⟨M, hM⟩ : ∃ M : Int, M = m + 2 * ((tot (ls.take k) : Nat) : Int) := ⟨_, rfl⟩
      have hpm : (mkLL ls m ls.length)[k]? = some (mkL l M l.length) := by rw [mkLL_get, hp, hM]; simp [hkl]
      obtain ⟨b, cs, rfl, -, -, -, r3, r4⟩ := (HP.out.below hb.out HH.out).out k _ hpm
      obtain ⟨g1, g2, hro⟩ := (HP.out.below hb.out HH.out).row k _ hpm
      have HMB : 0 ≤ M ∧ M ≤ 1000000000 := by have := HM.out; have := HTO.out; omega
      have HMK := hid (h_PlaceS HMB (by have := HTO.out; omega) hro)
      obtain ⟨gk, hgk⟩ : ∃ x, x = g k := ⟨_, rfl⟩
      obtain ⟨ck, hck⟩ : ∃ x, x = c k := ⟨_, rfl⟩
      rw [← hgk, ← hck] at HMK r4
      rw [mkL_len] at HMK r4
      rw [← hM]
      have HM9 := hid hM
      have q0 := cell_block r3 r4
      have kI : (k : Int) < (ls.length : Int) := by omega
      have k0 : (0 : Int) ≤ (k : Int) := by omega
      have hneg : decide (M + 2 * (l.length : Int) < 0) = false := decide_eq_false (by omega)
      have HKL := hid hkl
      have HBz := hid hb.out.size
      clear hp hl r3 r4 hgk hck hro hll hpm htk hM HMB g1 g2
      go_wp2_with (go_at_call 17; ((with_reducible refine HMK.out.mono ?_); rintro e w5 ⟨rfl, hb5⟩); have HB5 := hid hb5; clear hb5)
      exact ⟨⟨k + 1, by omega, by go_num, by rw [HTS.out]; congr 1; have := HM9.out; omega, hb.out.trans (HB5.out.mono HBz.out)⟩, by simp [intOf]; omega⟩
    · obtain rfl : k = ls.length := by omega
      have hd : decide ((ls.length : Int) < (ls.length : Int)) = false := decide_eq_false (by omega)
      rw [List.take_length]
      go_wp2_with fail
      go_ret
      exact ⟨rfl, hb.out⟩
end Go.Proofs.Ytfijinbdpfeceaa

/- The walk of FnExactPatchesOf. -/
namespace Go.Proofs.Ytfijinbdpfeceaa
open Go.RowKit
set_option linter.unusedSimpArgs false
set_option linter.unusedVariables false
theorem tot_flat (ls : List (List (Int × Int))) : tot ls = ls.flatten.length := by unfold tot; rw [List.length_flatten]
theorem patsV_len (r : Rf) (n : Int) : (patsV r n).length ≤ 1048576 ∧ tot (patsV r n) ≤ 1048576 := by
  unfold patsV
  split
  · rename_i h
    have hv := (codeOf_zero h).1
    have h1 := patsL_len r (tilesR r n) (tilesR r n).length
    have h2 := tilesR_len hv n
    have h3 := flat_len (patsL_64 hv (fun p hp => ((mem_tilesR hv).1 hp).1) (L := tilesR r n) (tilesR r n).length)
    rw [tot_flat]
    omega
  · simp [tot]
set_option maxHeartbeats 6400000 in
set_option maxRecDepth 100000 in
theorem w_FnExactPatchesOf {w : World} (r0 : Rf) (ok0 : r0.Ok) (n1 : Int) (wn1 : -9223372036854775808 ≤ n1 ∧ n1 ≤ 9223372036854775807) (_w : World) :
    Calls Try.prog 8 #[.agg (rcells r0), .int .i64 n1] w fun e w' => e = .returned (.bool true) ∧ Below w.heap.size w w' := by
  obtain ⟨R0, hR0⟩ : ∃ x, x = patsV r0 n1 := ⟨_, rfl⟩
  have lenR0 : R0.length ≤ 1048576 ∧ tot R0 ≤ 1048576 := by rw [hR0]; exact patsV_len r0 n1
  obtain ⟨R1, hR1⟩ : ∃ x, x = codeOf (validB r0) (inB n1 0 3) := ⟨_, rfl⟩
  have Hs := fun  (w' : World)  => hid (c_sPatchesOf r0 ok0 n1 wn1 w')
  rw [← hR0] at Hs
  rw [← hR1] at Hs
  have Hi := fun  (w' : World)  => hid (c_PatchesOf r0 ok0 n1 wn1 w')
  rw [← hR0] at Hi
  rw [← hR1] at Hi
  have hne1 : (R1 != R1) = false := by simp
  have LER0 := hid lenR0
  obtain ⟨M0, hM0⟩ : ∃ m : Int, m = 1 + 2 * (tot R0 : Int) := ⟨_, rfl⟩
  have HMM0 : ∀ (lo hi : Nat) {v : Value} {w' : World}, OwPP lo hi w' v R0 → Calls Try.prog 28 #[v, .int .i64 1] w' fun e w2 => e = .returned (.int .i64 M0) ∧ Below lo w' w2 ∧ OutS lo hi w' w2 ∧ OwPP lo hi w2 v (mkLL R0 1 R0.length) := fun lo hi v w' h => by rw [hM0]; exact m_PlaceSS (by omega) LER0.out h
  have HHM0 : ∀ (lo hi : Nat) {v : Value} {w' : World}, OwPP lo hi w' v (mkLL R0 1 R0.length) → Calls Try.prog 29 #[v, .int .i64 1] w' fun e w2 => e = .returned (.int .i64 M0) ∧ Below w'.heap.size w' w2 := fun lo hi v w' h => by rw [hM0]; exact h_PlaceSS (by omega) LER0.out h
  have hmM00 : decide (M0 < 0) = false := decide_eq_false (by omega)
  have hmM01 : (M0 != M0) = false := by simp
  have HHMM0 := hid HMM0; clear HMM0; have HHHM0 := hid HHM0; clear HHM0
  have HX0 := hid (block_new1 w (.cells (rcells r0) 26) rfl)
  have HW : Hid (Below w.heap.size w (w.alloc (.cells (rcells r0) 26))) := (Below.refl _ w).alloc (Nat.le_refl _) _
  clear hR0 hR1 lenR0 hM0
  have K1 : Hid True := trivial
  have K2 : Hid True := trivial
  have K3 : Hid True := trivial
  have K4 : Hid True := trivial
  have K5 : Hid True := trivial
  have K6 : Hid True := trivial
  have K7 : Hid True := trivial
  have K8 : Hid True := trivial
  have K9 : Hid True := trivial
  have K10 : Hid True := trivial
  have K11 : Hid True := trivial
  go_enter Try.func8, Try.ntmps8
  go_wp2_with (first
    | ((with_reducible refine gate (N := 14) rfl ?_); refine wp_roof 26 Try.underlying26 rfl Try.infoLRoof rfl (.tmp 2) rfl w.heap.size rfl r0 ok0 HX0.out ?_)
    | ((with_reducible refine gate (N := 21) rfl ?_); refine wp_roof 26 Try.underlying26 rfl Try.infoLRoof rfl (.tmp 2) rfl w.heap.size rfl r0 ok0 HX0.out ?_)
    | ((with_reducible refine gate (N := 48) rfl ?_); refine wp_roof 26 Try.underlying26 rfl Try.infoLRoof rfl (.tmp 2) rfl w.heap.size rfl r0 ok0 HX0.out ?_)
    | (go_at_call 10; clear K1; ((with_reducible refine (c_toRoof r0 ok0 _).mono ?_); rintro e w1 ⟨rfl, hb1⟩); replace HX0 := hid (block_below hb1 HX0.out (block_lt HX0.out)); replace HW := hid (HW.out.trans (hb1.mono HW.out.size)); clear hb1)
    | (go_at_call 25; clear K2; ((with_reducible refine (Hs  _ ).out.mono ?_); rintro e w1 ⟨vg1_0, rfl, hb1, ho0⟩); have HLog1 := hid HW.out.size; have LX0_g1 := hid (block_lt HX0.out); replace HX0 := hid (block_below hb1 HX0.out (block_lt HX0.out)); replace HW := hid (HW.out.trans (hb1.mono HW.out.size)); have Og1 := hid (OwPP.of ho0 hb1); obtain ⟨Ag1, cg1, rfl⟩ := owpp_slc ho0; clear hb1 ho0)
    | (go_at_call 10; clear K3; ((with_reducible refine (c_toRoof r0 ok0 _).mono ?_); rintro e w1 ⟨rfl, hb1⟩); replace Og1 := hid (Og1.out.below hb1); replace HX0 := hid (block_below hb1 HX0.out (block_lt HX0.out)); replace HW := hid (HW.out.trans (hb1.mono HW.out.size)); clear hb1)
    | (go_at_call 26; clear K4; ((with_reducible refine (Hi  _ ).out.mono ?_); rintro e w1 ⟨vg3_0, rfl, hb1, ho0⟩); have Sg1_g3 := hid Og1.out.2.2; have HLog3 := hid HW.out.size; have LX0_g3 := hid (block_lt HX0.out); replace Og1 := hid (Og1.out.below hb1); replace HX0 := hid (block_below hb1 HX0.out (block_lt HX0.out)); replace HW := hid (HW.out.trans (hb1.mono HW.out.size)); have Og3 := hid (OwPP.of ho0 hb1); obtain ⟨Ag3, cg3, rfl⟩ := owpp_slc ho0; clear hb1 ho0)
    | (go_at_call 27; clear K5; ((with_reducible refine (e_PlaceSS LER0.out Og3.out Og1.out).mono ?_); rintro e w1 ⟨rfl, hb1⟩); replace Og1 := hid (Og1.out.below hb1); replace Og3 := hid (Og3.out.below hb1); replace HX0 := hid (block_below hb1 HX0.out (block_lt HX0.out)); replace HW := hid (HW.out.trans (hb1.mono HW.out.size)); clear hb1)
    | (go_at_call 28; clear K6; ((with_reducible refine (HHMM0.out _ _ Og3.out).mono ?_); rintro e w1 ⟨rfl, hb1, hq1, ho1⟩); replace Og1 := hid (Og1.out.outS hq1 (.inl Sg1_g3.out)); replace HX0 := hid (hq1.keep HX0.out (.inl LX0_g3.out)); replace HW := hid (HW.out.trans (hb1.mono HLog3.out)); replace Og3 := hid ho1; clear hb1 hq1 ho1)
    | (go_at_call 29; clear K7; ((with_reducible refine (HHHM0.out _ _ Og3.out).mono ?_); rintro e w1 ⟨rfl, hb1⟩); replace Og1 := hid (Og1.out.below hb1); replace Og3 := hid (Og3.out.below hb1); replace HX0 := hid (block_below hb1 HX0.out (block_lt HX0.out)); replace HW := hid (HW.out.trans (hb1.mono HW.out.size)); clear hb1)
    | (go_at_call 10; clear K8; ((with_reducible refine (c_toRoof r0 ok0 _).mono ?_); rintro e w1 ⟨rfl, hb1⟩); replace Og1 := hid (Og1.out.below hb1); replace Og3 := hid (Og3.out.below hb1); replace HX0 := hid (block_below hb1 HX0.out (block_lt HX0.out)); replace HW := hid (HW.out.trans (hb1.mono HW.out.size)); clear hb1)
    | (go_at_call 26; clear K9; ((with_reducible refine (Hi  _ ).out.mono ?_); rintro e w1 ⟨vg8_0, rfl, hb1, ho0⟩); have Sg1_g8 := hid Og1.out.2.2; have Sg3_g8 := hid Og3.out.2.2; have HLog8 := hid HW.out.size; have LX0_g8 := hid (block_lt HX0.out); replace Og1 := hid (Og1.out.below hb1); replace Og3 := hid (Og3.out.below hb1); replace HX0 := hid (block_below hb1 HX0.out (block_lt HX0.out)); replace HW := hid (HW.out.trans (hb1.mono HW.out.size)); have Og8 := hid (OwPP.of ho0 hb1); obtain ⟨Ag8, cg8, rfl⟩ := owpp_slc ho0; clear hb1 ho0)
    | (go_at_call 27; clear K10; ((with_reducible refine (e_PlaceSS LER0.out Og8.out Og1.out).mono ?_); rintro e w1 ⟨rfl, hb1⟩); replace Og1 := hid (Og1.out.below hb1); replace Og3 := hid (Og3.out.below hb1); replace Og8 := hid (Og8.out.below hb1); replace HX0 := hid (block_below hb1 HX0.out (block_lt HX0.out)); replace HW := hid (HW.out.trans (hb1.mono HW.out.size)); clear hb1)
    | (go_at_call 29; clear K11; ((with_reducible refine (HHHM0.out _ _ Og3.out).mono ?_); rintro e w1 ⟨rfl, hb1⟩); replace Og1 := hid (Og1.out.below hb1); replace Og3 := hid (Og3.out.below hb1); replace Og8 := hid (Og8.out.below hb1); replace HX0 := hid (block_below hb1 HX0.out (block_lt HX0.out)); replace HW := hid (HW.out.trans (hb1.mono HW.out.size)); clear hb1))
  go_ret
  exact ⟨rfl, HW.out⟩
end Go.Proofs.Ytfijinbdpfeceaa

/- The row of FnExactPatchesOf: for every input the law returns true, and its arguments read as before. -/
namespace Go.Proofs.Ytfijinbdpfeceaa.fnExactPatchesOf
open Go.ChangeShapes Go.WideShapes Go.ChangeAt Go.RowKit
open Go.ChangeMaps (open_string shut_string)
set_option linter.unusedVariables false
set_option maxRecDepth 100000 in
theorem lifted (os : Os) (started : os.Started) (H : Type) (enc : TypeId × Value → H) :
    ReturnsInHanded {} Try.checked os 8 .any (Rows.fnExactPatchesOfSpec.pre6 enc Try.prog Try.f8 Rows.fnExactPatchesOfRow.domain false) (Rows.fnExactPatchesOfSpec.post enc Try.prog Try.f8 false true false false) := by
  refine returnsInHanded_of_change_sized (C := Try.checked) Try.own started (by kernel_rfl) Try.func8
    (ChangeSpec.witness6 (enc := enc) (C := Try.checked) false ⟨#[], #[.agg (rcells Rf.zero), .int .i64 0], []⟩ 8 (by kernel_rfl) (by kernel_rfl) (by kernel_rfl) (by kernel_rfl)) ?_
  intro W base args ds gs before hval0 hW hcnd hsz0 _
  have hsz : (DataW.weightsEach Try.prog (Try.f8.params.toList ++ Rows.fnExactPatchesOfSpec.plain.varTypes Try.prog) (ds ++ gs)).all (· ≤ reachBytes) = true := hsz0
  have hval : ∀ (j : Nat) t v, Try.f8.params[j]? = some t → args[j]? = some v → Value.okWide Try.prog W .any base t v := hval0
  have hW' := hW
  obtain ⟨p, q, hA0, hV, rfl, hfz, hnd⟩ := hW
  have hA : DataW.TrodAll enc Try.prog W 0 (fun _ => true) true Try.f8.params.toList args.toList ds p := hA0
  rw [Try.params8] at hA hval hsz
  obtain ⟨v0, vs0, d0, ds0, p0, q0, hargs, rfl, rfl, h0, r0⟩ := trodAll_cons hA
  obtain ⟨v1, vs1, d1, ds1, p1, q1, rfl, rfl, rfl, h1, r1⟩ := trodAll_cons r0
  obtain ⟨rfl, rfl, rfl⟩ := trodAll_nil r1
  obtain rfl : args = #[v0, v1] := by cases args; simp_all
  obtain ⟨rfl, rfl⟩ := trodVars_none hV
  have h0k := h0
  obtain ⟨R0, rfl, ok0⟩ := open_roof (hval 0 _ v0 rfl rfl) h0
  have h1k := h1
  obtain ⟨n1, rfl, _, _, wf1⟩ := open_int Try.underlying2 (hval 1 _ v1 rfl rfl) h1
  clear hA0 hval0 hsz0 hsz
  have hlt := fun x hx => hW'.lt x hx
  try simp only [List.append_nil, List.mem_append] at hlt
  refine (w_FnExactPatchesOf R0 ok0 n1 (bounds_i64 wf1) W).mono fun e W' ⟨he, bel⟩ => ?_
  subst he
  exact ⟨_, rfl, _, _, _, [], p0 ++ (p1 ++ []), [], hW', trodAll_mk1 (shut_bool Try.underlying4 _), (trodAll_cons_mk (Below.trod Try.laidOut (by kernel_rfl) (of_decide_eq_true (by kernel_rfl)) h0k bel (fun x hx => hlt x (.inl hx))) (trodAll_cons_mk (Below.trod Try.laidOut (by kernel_rfl) (of_decide_eq_true (by kernel_rfl)) h1k bel (fun x hx => hlt x (.inr (hx)))) trodAll_mk0)), rfl, bel.frame _, fun h => by cases h⟩
set_option maxHeartbeats 8000000 in
theorem facts : joinedFacts Try.checked.prog 8 Try.f8 Rows.fnExactPatchesOfSpec Rows.fnExactPatchesOfRow = true := by
  unfold joinedFacts
  repeat (with_reducible refine and_mk ?_ (by as_aux_lemma => kernel_rfl))
  as_aux_lemma => kernel_rfl
set_option maxHeartbeats 8000000 in
theorem over : Rows.fnExactPatchesOfRow.holds Try.pinned (OpenSpec.ofChange Rows.fnExactPatchesOfSpec) :=
  OpenClaim.holds_of_wide 8 Try.f8 rfl rfl rfl rfl rfl rfl rfl ⟨rfl, rfl, rfl, rfl, rfl⟩ rfl rfl rfl rfl rfl (by as_aux_lemma => kernel_rfl) Try.func8 facts
    (of_decide_eq_true (by as_aux_lemma => kernel_rfl)) (by unfold Func.isWrapper; first | (rw [if_pos (by decide +kernel)]; kernel_rfl) | (rw [if_neg (by decide +kernel)]; exact ⟨rfl, rfl⟩))
    (fun os started H enc _ => lifted os started H enc)
theorem proved : Rows.FnExactPatchesOfSaid := over
end Go.Proofs.Ytfijinbdpfeceaa.fnExactPatchesOf
namespace Go.Proofs.Ytfijinbdpfeceaa
theorem fnExactPatchesOf_holds : Rows.FnExactPatchesOfSaid := fnExactPatchesOf.proved
end Go.Proofs.Ytfijinbdpfeceaa
