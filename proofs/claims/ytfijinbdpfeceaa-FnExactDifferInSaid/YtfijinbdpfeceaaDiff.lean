/- DifferIn, the program's and the reference's. -/
import Derived.Test.YtfijinbdpfeceaaPlaces
import Derived.Test.YtfijinbdpfeceaaLawP
import Derived.Deep.RegionHeld3
namespace Go.Proofs.Ytfijinbdpfeceaa
open Go.RowKit
set_option linter.unusedSimpArgs false
set_option linter.unusedVariables false

/-- Whether two roofs have other kinds at a place. -/
def diffAt (a b : Rf) (c t : Int) : Bool := a.at c.toNat t.toNat != b.at c.toNat t.toNat
def alikeB (a b : Rf) : Bool := (a.w == b.w) && ((a.h == b.h) && (a.s == b.s))
def diffC (a b : Rf) : Int := if (validB a && validB b) = true then (if alikeB a b = true then 0 else 4) else 1
def diffL (a b : Rf) : List (Int × Int) := if diffC a b = 0 then pickL (diffAt a b) (allUp a.w.toNat a.h.toNat 0) else []
theorem diffC_0 {a b : Rf} (h : diffC a b = 0) : validB a = true ∧ validB b = true ∧ alikeB a b = true := by
  unfold diffC at h
  by_cases h1 : (validB a && validB b) = true
  · rw [if_pos h1] at h
    by_cases h2 : alikeB a b = true
    · simp only [Bool.and_eq_true] at h1; exact ⟨h1.1, h1.2, h2⟩
    · rw [if_neg h2] at h; cases h
  · rw [if_neg h1] at h; cases h
theorem diffL_len (a b : Rf) : (diffL a b).length ≤ 64 := by
  unfold diffL
  split
  · rename_i h
    have := valid_head (diffC_0 h).1
    refine Nat.le_trans (pickL_len _ _) ?_
    rw [allUp_len]
    have := Nat.mul_le_mul (by omega : a.h.toNat ≤ 8) (by omega : a.w.toNat ≤ 8)
    omega
  · simp
theorem c_ValidRoofV (r : Rf) (hr : r.Ok) (v : Bool) (hv : validB r = v) (w : World) : Calls Try.prog 33 #[.agg (rcells r)] w fun e w' => e = .returned (.bool v) ∧ Below w.heap.size w w' := hv ▸ c_ValidRoof r hr w
theorem c_l01OkV (r : Rf) (hr : r.Ok) (b : Nat) (v : Bool) (hv : validB r = v) (w : World) (hb : w.heap[b]? = some (.cells (rcells r) 27 (0,0))) : Calls Try.prog 30 #[.pointer (some ⟨b,0,none⟩)] w fun e w' => e = .returned (.bool v) ∧ Below w.heap.size w w' := hv ▸ c_l01Ok r hr b w hb
set_option maxRecDepth 100000 in
theorem c_diffClo (a b : Rf) (ha : a.Ok) (hb : b.Ok) (c t : Int) (hc : 0 ≤ c ∧ c ≤ 7) (ht : 0 ≤ t ∧ t ≤ 7) (b1 b2 : Nat) (w : World) (h1 : w.heap[b1]? = some (.cells (rcells a) 27 (0,0))) (h2 : w.heap[b2]? = some (.cells (rcells b) 27 (0,0))) :
    Calls Try.prog 41 #[.agg #[.int .i8 c, .int .i8 t], .pointer (some ⟨b1,0,none⟩), .pointer (some ⟨b2,0,none⟩)] w fun e w' => e = .returned (.bool (diffAt a b c t)) ∧ Below w.heap.size w w' := by
  have l1 := block_lt h1
  have l2 := block_lt h2
  have l1' : b1 < w.heap.size + 1 := by omega
  have l2' : b2 < w.heap.size + 1 := by omega
  have l0 : w.heap.size < w.heap.size + 1 := by omega
  have HB : Hid (w.heap.size + 1 ≤ (w.alloc (.cells #[.int .i8 c, .int .i8 t] 42)).heap.size) := by simp [Hid]
  have R0 : Hid (∀ x : Ext (w.heap.size + 1) (w.alloc (.cells #[.int .i8 c, .int .i8 t] 42)), (Instr.loadAt 27 (.pointer (some ⟨b1, 0, none⟩))).run Try.prog x.out = .ok (.agg (rcells a)) x.out) := fun x =>
    run_load_roof 27 Try.underlying27 rfl Try.infoRoof ha (block_below x.h (block_alloc h1 _) (by omega))
  have R1 : Hid (∀ x : Ext (w.heap.size + 1) (w.alloc (.cells #[.int .i8 c, .int .i8 t] 42)), (Instr.loadAt 27 (.pointer (some ⟨b2, 0, none⟩))).run Try.prog x.out = .ok (.agg (rcells b)) x.out) := fun x =>
    run_load_roof 27 Try.underlying27 rfl Try.infoRoof hb (block_below x.h (block_alloc h2 _) (by omega))
  have e : diffAt a b c t = (a.at c.toNat t.toNat != b.at c.toNat t.toNat) := rfl
  have HC1 := hid (c_kind a ha c t hc ht)
  have HC2 := hid (c_kind b hb c t hc ht)
  rw [e]
  obtain ⟨u, hu⟩ : ∃ u, u = a.at c.toNat t.toNat := ⟨_, rfl⟩
  obtain ⟨v, hv⟩ : ∃ v, v = b.at c.toNat t.toNat := ⟨_, rfl⟩
  rw [← hu, ← hv]
  rw [← hu] at HC1
  rw [← hv] at HC2
  clear h1 h2 e hu hv
  go_enter Try.func41, Try.ntmps41
  go_wp2_with fail
  refine wp_region_ext (w.heap.size + 1) (by kernel_rfl) (by kernel_rfl) ?_
  repeat (first
    | ((with_reducible refine wpQuiet_run (N := 5) rfl rfl (.agg (rcells a)) ?_ ?_); (rintro _ ⟨x, rfl⟩; exact execOp_load rfl rfl (R0.out x)); go_simp)
    | ((with_reducible refine wpQuiet_run (N := 8) rfl rfl (.agg (rcells b)) ?_ ?_); (rintro _ ⟨x, rfl⟩; exact execOp_load rfl rfl (R1.out x)); go_simp)
    | go_big_quiet_step ((go_at_call 42; first | with_reducible exact Calls.ext HB.out (HC1.out _) | with_reducible exact Calls.ext HB.out (HC2.out _))))
  refine wpQuiet_nil ?_
  intro x
  go_wp2_with fail
  go_ret
  exact ⟨rfl, ((Below.refl _ w).alloc (Nat.le_refl _) _).trans (x.h.mono (by omega))⟩
set_option maxRecDepth 100000 in
theorem c_isAlike (a b : Rf) (ha : a.Ok) (hb : b.Ok) (w : World) : Calls Try.prog 39 #[.agg (rcells a), .agg (rcells b)] w fun e w' => e = .returned (.bool (alikeB a b)) ∧ Below w.heap.size w w' := by
  have key : ∀ g1 g2 g3 : Bool, (a.w == b.w) = g1 → (a.h == b.h) = g2 → (a.s == b.s) = g3 → Calls Try.prog 39 #[.agg (rcells a), .agg (rcells b)] w fun e w' => e = .returned (.bool (g1 && (g2 && g3))) ∧ Below w.heap.size w w' := by
    intro g1 g2 g3 h1 h2 h3
    cases g1
    · go_enter Try.func39, Try.ntmps39
      go_wp2_with fail
      go_ret
      exact ⟨rfl, ((Below.refl _ w).alloc (Nat.le_refl _) _).alloc (by simp) _⟩
    · cases g2
      all_goals
        go_enter Try.func39, Try.ntmps39
        go_wp2_with fail
        go_ret
        exact ⟨rfl, ((Below.refl _ w).alloc (Nat.le_refl _) _).alloc (by simp) _⟩
  exact key _ _ _ rfl rfl rfl
set_option maxRecDepth 100000 in
theorem c_DifferIn (a b : Rf) (ha : a.Ok) (hb : b.Ok) (w : World) : Calls Try.prog 14 #[.agg (rcells a), .agg (rcells b)] w (RetP w (diffL a b) (diffC a b)) := by
  have key : ∀ va vb al : Bool, validB a = va → validB b = vb → alikeB a b = al → Calls Try.prog 14 #[.agg (rcells a), .agg (rcells b)] w (RetP w (diffL a b) (if (va && vb) = true then (if al = true then 0 else 4) else 1)) := by
    intro va vb al hva hvb hal
    have HL : Hid (diffL a b = if (va && vb && al) = true then pickL (diffAt a b) (allUp a.w.toNat a.h.toNat 0) else []) := by
      unfold diffL diffC
      rw [hva, hvb, hal]
      cases va <;> cases vb <;> cases al <;> rfl
    have HVA := hid hva
    have HVB := hid hvb
    have HAL := hid (hal ▸ c_isAlike a b ha hb)
    clear hva hvb hal
    have HA : Hid (((w.alloc (.cells (rcells a) 27)).alloc (.cells (rcells b) 27)).heap[w.heap.size]? = some (.cells (rcells a) 27 (0,0))) := block_alloc (block_new1 w _ rfl) _
    have HBb : Hid (((w.alloc (.cells (rcells a) 27)).alloc (.cells (rcells b) 27)).heap[w.heap.size + 1]? = some (.cells (rcells b) 27 (0,0))) := block_new1 _ _ (by simp)
    have HW : Hid (Below w.heap.size w ((w.alloc (.cells (rcells a) 27)).alloc (.cells (rcells b) 27))) := ((Below.refl _ w).alloc (Nat.le_refl _) _).alloc (by simp) _
    have hB : Hid (w.heap.size + 2 ≤ ((w.alloc (.cells (rcells a) 27)).alloc (.cells (rcells b) 27)).heap.size) := by simp [Hid]
    have HB : Hid (Below (w.heap.size + 2) ((w.alloc (.cells (rcells a) 27)).alloc (.cells (rcells b) 27)) ((w.alloc (.cells (rcells a) 27)).alloc (.cells (rcells b) 27))) := Below.refl _ _
    have l0 : w.heap.size < w.heap.size + 2 := by omega
    have l1 : w.heap.size + 1 < w.heap.size + 2 := by omega
    cases va <;> try cases vb <;> try cases al
    all_goals
      go_enter Try.func14, Try.ntmps14
      go_wp2_with (first
        | ((with_reducible refine gate (N := 7) rfl ?_); refine wp_roof 27 Try.underlying27 rfl Try.infoRoof rfl (.tmp 2) rfl w.heap.size rfl a ha HA.out ?_)
        | ((with_reducible refine gate (N := 11) rfl ?_); refine wpList_runG rfl (.agg (rcells b)) (execOp_load rfl rfl (run_load_roof 27 Try.underlying27 rfl Try.infoRoof hb (block_below HB.out HBb.out l1))) ?_)
        | ((with_reducible refine gate (N := 16) rfl ?_); refine wp_roof 27 Try.underlying27 rfl Try.infoRoof rfl (.tmp 2) rfl w.heap.size rfl a ha (block_below HB.out HA.out l0) ?_)
        | ((with_reducible refine gate (N := 17) rfl ?_); refine wp_roof 27 Try.underlying27 rfl Try.infoRoof rfl (.tmp 3) rfl (w.heap.size + 1) rfl b hb (block_below HB.out HBb.out l1) ?_)
        | ((with_reducible refine gate (N := 20) rfl ?_); refine wp_roof 27 Try.underlying27 rfl Try.infoRoof rfl (.tmp 2) rfl w.heap.size rfl a ha (block_below HB.out HA.out l0) ?_)
        | (go_at_call 33; first
            | ((with_reducible refine (c_ValidRoofV a ha _ HVA.out _).mono ?_); rintro e w1 ⟨rfl, hb1⟩; replace HB := hstep hB HB hb1; clear hb1)
            | ((with_reducible refine (c_ValidRoofV b hb _ HVB.out _).mono ?_); rintro e w1 ⟨rfl, hb1⟩; replace HB := hstep hB HB hb1; clear hb1))
        | (go_at_call 39; ((with_reducible refine (HAL.out _).mono ?_); rintro e w1 ⟨rfl, hb1⟩; replace HB := hstep hB HB hb1; clear hb1))
        | (go_at_call 40; (refine (c_places 41 #[] #[.pointer (some ⟨w.heap.size,0,none⟩), .pointer (some ⟨w.heap.size + 1,0,none⟩)] (enters_of Try.func41 (by kernel_rfl) rfl) (diffAt a b) a ha HVA.out _ (fun W c t hc ht hbw => by
            have vh := valid_head HVA.out
            exact c_diffClo a b ha hb c t (by omega) (by omega) _ _ W (block_below hbw (block_below HB.out HA.out l0) (block_lt (block_below HB.out HA.out l0))) (block_below hbw (block_below HB.out HBb.out l1) (block_lt (block_below HB.out HBb.out l1))))).mono ?_; rintro e w3 ⟨v, rfl, hb3, ho3⟩)))
      go_ret2
      first
        | (refine ⟨_, rfl, HW.out.trans (HB.out.mono (by omega)), ?_⟩; rw [HL.out]; exact World.ownsRow_nil _ _ _ _)
        | (have b1 := HW.out.trans (HB.out.mono (by omega)); refine ⟨_, rfl, b1.trans (hb3.mono b1.size), ?_⟩; rw [HL.out, if_pos (by decide)]; exact ho3.mono b1.size)
  unfold diffC
  exact key _ _ _ rfl rfl rfl
theorem pickL_takeY {f : Int → Int → Bool} {l : List (Int × Int)} {j : Nat} {p : Int × Int} (hp : l[j]? = some p) (h : f p.1 p.2 = true) : pickL f (l.take (j + 1)) = pickL f (l.take j) ++ [p] := by
  obtain ⟨hj, rfl⟩ := List.getElem?_eq_some_iff.1 hp
  unfold pickL
  rw [List.take_succ_eq_append_getElem hj, List.filter_append]
  congr 1
  simp [h]
theorem pickL_takeN {f : Int → Int → Bool} {l : List (Int × Int)} {j : Nat} {p : Int × Int} (hp : l[j]? = some p) (h : f p.1 p.2 = false) : pickL f (l.take (j + 1)) = pickL f (l.take j) := by
  obtain ⟨hj, rfl⟩ := List.getElem?_eq_some_iff.1 hp
  unfold pickL
  rw [List.take_succ_eq_append_getElem hj, List.filter_append]
  have e : List.filter (fun p : Int × Int => f p.1 p.2) [l[j]] = [] := by simp [h]
  rw [e, List.append_nil]
set_option maxHeartbeats 1600000 in
set_option maxRecDepth 100000 in
theorem c_sDifferIn (a b : Rf) (ha : a.Ok) (hb : b.Ok) (w : World) : Calls Try.prog 13 #[.agg (rcells a), .agg (rcells b)] w (RetP w (diffL a b) (diffC a b)) := by
  have key : ∀ va vb g1 g2 g3 : Bool, validB a = va → validB b = vb → (a.w != b.w) = g1 → (a.h != b.h) = g2 → (a.s != b.s) = g3 → Calls Try.prog 13 #[.agg (rcells a), .agg (rcells b)] w (RetP w (diffL a b) (if (va && vb) = true then (if (!g1 && (!g2 && !g3)) = true then 0 else 4) else 1)) := by
    intro va vb g1 g2 g3 hva hvb h1 h2 h3
    have hal : alikeB a b = (!g1 && (!g2 && !g3)) := by rw [← h1, ← h2, ← h3]; unfold alikeB; simp [bne]
    have HL : Hid (diffL a b = if (va && vb && (!g1 && (!g2 && !g3))) = true then pickL (diffAt a b) (allUp a.w.toNat a.h.toNat 0) else []) := by
      unfold diffL diffC
      rw [hva, hvb, hal]
      cases va <;> cases vb <;> cases g1 <;> cases g2 <;> cases g3 <;> rfl
    have HVA := hid hva
    have HVB := hid hvb
    clear hva hvb hal
    have HA : Hid (((w.alloc (.cells (rcells a) 27)).alloc (.cells (rcells b) 27)).heap[w.heap.size]? = some (.cells (rcells a) 27 (0,0))) := block_alloc (block_new1 w _ rfl) _
    have HBb : Hid (((w.alloc (.cells (rcells a) 27)).alloc (.cells (rcells b) 27)).heap[w.heap.size + 1]? = some (.cells (rcells b) 27 (0,0))) := block_new1 _ _ (by simp)
    have HW : Hid (Below w.heap.size w ((w.alloc (.cells (rcells a) 27)).alloc (.cells (rcells b) 27))) := ((Below.refl _ w).alloc (Nat.le_refl _) _).alloc (by simp) _
    have hB : Hid (w.heap.size + 2 ≤ ((w.alloc (.cells (rcells a) 27)).alloc (.cells (rcells b) 27)).heap.size) := by simp [Hid]
    have HB : Hid (Below (w.heap.size + 2) ((w.alloc (.cells (rcells a) 27)).alloc (.cells (rcells b) 27)) ((w.alloc (.cells (rcells a) 27)).alloc (.cells (rcells b) 27))) := Below.refl _ _
    have l0 : w.heap.size < w.heap.size + 2 := by omega
    have l1 : w.heap.size + 1 < w.heap.size + 2 := by omega
    have hbad : (va && vb && (!g1 && (!g2 && !g3))) = false → Calls Try.prog 13 #[.agg (rcells a), .agg (rcells b)] w (RetP w (diffL a b) (if (va && vb) = true then (if (!g1 && (!g2 && !g3)) = true then 0 else 4) else 1)) := by
      intro hno
      cases va <;> try cases vb <;> try cases g1 <;> try cases g2 <;> try cases g3
      all_goals first
        | (exfalso; revert hno; decide)
        | (go_enter Try.func13, Try.ntmps13
           go_wp2_with (go_at_call 30; first
             | ((with_reducible refine (c_l01OkV a ha _ _ HVA.out _ HA.out).mono ?_); rintro e w1 ⟨rfl, hb1⟩; replace HB := hstep hB HB hb1; clear hb1; have ca0 := cell_block (block_below HB.out HA.out l0) (rc0 a); have ca1 := cell_block (block_below HB.out HA.out l0) (rc1 a); have ca2 := cell_block (block_below HB.out HA.out l0) (rc2 a); have cb0 := cell_block (block_below HB.out HBb.out l1) (rc0 b); have cb1 := cell_block (block_below HB.out HBb.out l1) (rc1 b); have cb2 := cell_block (block_below HB.out HBb.out l1) (rc2 b))
             | ((with_reducible refine (c_l01OkV b hb _ _ HVB.out _ (block_below HB.out HBb.out l1)).mono ?_); rintro e w2 ⟨rfl, hb1⟩; replace HB := hstep hB HB hb1; clear hb1; have ca0 := cell_block (block_below HB.out HA.out l0) (rc0 a); have ca1 := cell_block (block_below HB.out HA.out l0) (rc1 a); have ca2 := cell_block (block_below HB.out HA.out l0) (rc2 a); have cb0 := cell_block (block_below HB.out HBb.out l1) (rc0 b); have cb1 := cell_block (block_below HB.out HBb.out l1) (rc1 b); have cb2 := cell_block (block_below HB.out HBb.out l1) (rc2 b)))
           go_ret2
           have b1 := HW.out.trans (HB.out.mono (by omega))
           refine ⟨_, rfl, b1.alloc b1.size _, ?_⟩
           rw [HL.out]
           exact World.ownsRow_made _ #[] 0 b1.size (by decide) rfl)
    cases hall : (va && vb && (!g1 && (!g2 && !g3))) with
    | false => exact hbad hall
    | true =>
      clear hbad
      simp only [Bool.and_eq_true, Bool.not_eq_true'] at hall
      obtain ⟨⟨rfl, rfl⟩, rfl, rfl, rfl⟩ := hall
      obtain ⟨i0, hi, hz0, hz1, hz2⟩ := info_parts Try.infoPlace
      have vh := valid_head HVA.out
      have hmem := hid (fun p (hp : p ∈ allUp a.w.toNat a.h.toNat 0) => allUp_mem hp)
      have hlen : (allUp a.w.toNat a.h.toNat 0).length ≤ 64 := by
        rw [allUp_len]
        have := Nat.mul_le_mul (by omega : a.h.toNat ≤ 8) (by omega : a.w.toNat ≤ 8)
        omega
      obtain ⟨L, hL⟩ : ∃ L, L = allUp a.w.toNat a.h.toNat 0 := ⟨_, rfl⟩
      have HLL := hid hL
      rw [← hL] at hlen hmem HL
      have HB8 : Hid (a.w ≤ 8 ∧ a.h ≤ 8) := ⟨by omega, by omega⟩
      have HE : Hid (diffL a b = pickL (diffAt a b) L) := HL.out
      clear hL vh HL
      go_enter Try.func13, Try.ntmps13
      go_wp2_with (first
        | (go_at_call 30; first
          | ((with_reducible refine (c_l01OkV a ha _ _ HVA.out _ HA.out).mono ?_); rintro e w1 ⟨rfl, hb1⟩; replace HB := hstep hB HB hb1; clear hb1; have ca0 := cell_block (block_below HB.out HA.out l0) (rc0 a); have ca1 := cell_block (block_below HB.out HA.out l0) (rc1 a); have ca2 := cell_block (block_below HB.out HA.out l0) (rc2 a); have cb0 := cell_block (block_below HB.out HBb.out l1) (rc0 b); have cb1 := cell_block (block_below HB.out HBb.out l1) (rc1 b); have cb2 := cell_block (block_below HB.out HBb.out l1) (rc2 b))
          | ((with_reducible refine (c_l01OkV b hb _ _ HVB.out _ (block_below HB.out HBb.out l1)).mono ?_); rintro e w2 ⟨rfl, hb1⟩; replace HB := hstep hB HB hb1; clear hb1 ca0 ca1 ca2 cb0 cb1 cb2; have ca0 := cell_block (block_below HB.out HA.out l0) (rc0 a); have ca1 := cell_block (block_below HB.out HA.out l0) (rc1 a); have ca2 := cell_block (block_below HB.out HA.out l0) (rc2 a); have cb0 := cell_block (block_below HB.out HBb.out l1) (rc0 b); have cb1 := cell_block (block_below HB.out HBb.out l1) (rc1 b); have cb2 := cell_block (block_below HB.out HBb.out l1) (rc2 b)))
        | (go_at_call 37; ((with_reducible refine (c_l01All a ha HVA.out _ _ (block_alloc (block_below HB.out HA.out l0) _)).mono ?_); rintro e w3 ⟨va, rfl, hb3, ho3⟩); have b3 := hid hb3; have o3 := hid ho3; clear hb3 ho3 ca0 ca1 ca2 cb0 cb1 cb2))
      have h2 := hid (Nat.le_trans hB.out HB.out.size)
      rw [← HLL.out] at o3
      have HO3 : Hid (OwP (w2.heap.size + 1) w3.heap.size w3 va L) := by have := OwP.of_owns o3.out; simp at this; exact this
      have hs3 : w2.heap.size + 1 ≤ w3.heap.size := by have := b3.out.size; simpa using this
      have HB3 : Hid (Below w2.heap.size w2 w3) := ((Below.refl _ w2).alloc (Nat.le_refl _) _).trans (b3.out.mono (by simp))
      have HOut : Hid (w3.ownsRow w2.heap.size 42 2 (.slice (some ⟨w2.heap.size, 0, none⟩) 0 0) 0 []) := by
        refine ⟨by simp, .inr ⟨w2.heap.size, 0, #[], rfl, Nat.le_refl _, ?_, Nat.le_refl _, by decide, rfl, by simp⟩⟩
        exact block_below b3.out (block_new1 w2 _ rfl) (by simp)
      have HA2 := hid (block_below HB.out HA.out l0)
      have HB2 := hid (block_below HB.out HBb.out l1)
      have HW2 := hid (HW.out.trans (HB.out.mono (by omega)))
      obtain ⟨A, c, hva, _⟩ := HO3.out
      subst hva
      clear o3 b3 HA HBb HW HB hB
      go_loopw [6, 8] (fun v i wr => ∃ j : Nat, j ≤ L.length ∧ i = .int .i64 j ∧ Hid (Below w2.heap.size w2 wr) ∧ Hid (w3.heap.size ≤ wr.heap.size) ∧ Hid (wr.ownsRow w2.heap.size 42 2 v (pickL (diffAt a b) (L.take j)).length (pcells (pickL (diffAt a b) (L.take j)))) ∧ Hid (OwP (w2.heap.size + 1) w3.heap.size wr (.slice A L.length c) L) ∧ Hid (v.ownBlock = some w2.heap.size ∨ ∃ g, v.ownBlock = some g ∧ w3.heap.size ≤ g)) (fun _ i _ => L.length - (intOf i).toNat)
      case atStart => exact ⟨0, by omega, rfl, HB3, Nat.le_refl _, HOut, HO3, .inl rfl⟩
      case round =>
        obtain ⟨j, hj, rfl, hbw, hsz, hO, hA, hloc⟩ := hrel
        by_cases hjl : j < L.length
        · have hd : decide ((j : Int) < (L.length : Int)) = true := decide_eq_true (by omega)
          have hjI : (j : Int) < (L.length : Int) := by omega
          have hj0 : (0 : Int) ≤ (j : Int) := by omega
          have hp := List.getElem?_eq_getElem hjl
          obtain ⟨⟨p1, p2⟩, hpp⟩ : ∃ p, p = L[j] := ⟨_, rfl⟩
          rw [← hpp] at hp
          have hm := hmem.out (p1, p2) (by rw [hpp]; exact List.getElem_mem hjl)
          obtain ⟨ab, c1, e1, r1, r2, q1, q2, q3⟩ := hA.out.cells hp
          obtain ⟨rfl, rfl⟩ : A = some ⟨ab, 0, none⟩ ∧ c = c1 := by simpa using e1
          dsimp only at q2 q3 hm
          have HM : Hid ((0 ≤ p1 ∧ p1 ≤ 7) ∧ (0 ≤ p2 ∧ p2 ≤ 7)) := by
            have := HB8.out
            exact ⟨by omega, by omega⟩
          have hlt : (pickL (diffAt a b) (L.take j)).length ≤ 64 := Nat.le_trans (pickL_len _ _) (by rw [List.length_take]; omega)
          have HAw := hid (block_below hbw.out HA2.out (block_lt HA2.out))
          have HBw := hid (block_below hbw.out HB2.out (block_lt HB2.out))
          have HC1 := hid (fun W hW => c_l01At a ha w.heap.size p1 p2 HM.out.1 HM.out.2 W hW)
          have HC2 := hid (fun W hW => c_l01At b hb (w.heap.size + 1) p1 p2 HM.out.1 HM.out.2 W hW)
          have hda : diffAt a b p1 p2 = (a.at p1.toNat p2.toNat != b.at p1.toNat p2.toNat) := rfl
          obtain ⟨x, hx⟩ : ∃ x, x = a.at p1.toNat p2.toNat := ⟨_, rfl⟩
          obtain ⟨y, hy⟩ : ∃ y, y = b.at p1.toNat p2.toNat := ⟨_, rfl⟩
          rw [← hx, ← hy] at hda
          rw [← hx] at HC1
          rw [← hy] at HC2
          have HY : Hid (∀ g, (x != y) = g → pickL (diffAt a b) (L.take (j + 1)) = if g = true then pickL (diffAt a b) (L.take j) ++ [(p1, p2)] else pickL (diffAt a b) (L.take j)) := by
            intro g hg
            cases g
            · rw [if_neg (by decide)]; exact pickL_takeN hp (by rw [← hg]; exact hda)
            · rw [if_pos rfl]; exact pickL_takeY hp (by rw [← hg]; exact hda)
          clear hp hpp e1 hm hx hy hda
          obtain ⟨g, hg⟩ : ∃ g, (x != y) = g := ⟨_, rfl⟩
          have HYg := hid (HY.out g hg)
          clear HY
          have HX : Hid (∀ z : Ext wr.heap.size wr, z.out.heap[w.heap.size]? = some (.cells (rcells a) 27 (0,0)) ∧ z.out.heap[w.heap.size + 1]? = some (.cells (rcells b) 27 (0,0))) := fun z => ⟨block_below z.below HAw.out (block_lt HAw.out), block_below z.below HBw.out (block_lt HBw.out)⟩
          cases g
          · go_wp2_with fail
            refine wp_region_ext wr.heap.size (by kernel_rfl) (by kernel_rfl) ?_
            repeat (go_big_quiet_step ((go_at_call 38; first | with_reducible exact Calls.ext (Nat.le_refl _) (HC1.out _ (HX.out _).1) | with_reducible exact Calls.ext (Nat.le_refl _) (HC2.out _ (HX.out _).2))))
            refine wpQuiet_nil ?_
            intro z
            go_wp2_with fail
            refine ⟨⟨j + 1, by omega, by go_num, hbw.out.trans (z.below.mono hbw.out.size), Nat.le_trans hsz.out z.below.size, ?_, hA.out.below z.below hsz.out, hloc⟩, by simp [intOf]; omega⟩
            show World.ownsRow _ _ _ _ _ _ _
            rw [HYg.out, if_neg (by decide)]; exact owns_below hO.out z.below
          · go_wp2_with fail
            refine wp_region_ext wr.heap.size (by kernel_rfl) (by kernel_rfl) ?_
            repeat (go_big_quiet_step ((go_at_call 38; first | with_reducible exact Calls.ext (Nat.le_refl _) (HC1.out _ (HX.out _).1) | with_reducible exact Calls.ext (Nat.le_refl _) (HC2.out _ (HX.out _).2))))
            refine wpQuiet_nil ?_
            intro z
            have ho2 := hid (owns_below hO.out z.below)
            have b2 := hid (hbw.out.trans (z.below.mono hbw.out.size))
            have hsz2 := hid (Nat.le_trans hsz.out z.below.size)
            have hA2 := hid (hA.out.below z.below hsz.out)
            have zs := hid z.below.size
            go_wp2_with ((with_reducible refine gate (N := 61) rfl ?_); refine wpList_append_lies _ rfl (.tmp 55) (.tmp 60) 33 rfl w2.heap.size 42 i0 (.agg #[.int .i8 0, .int .i8 0]) 2 2 Try.underlying33 hi hz0 hz1 hz2 rfl (by decide) _ _ _ rfl (ho2.out.alloc _) ⟨z.out.heap.size, 0, none⟩ 1 1 [.int .i8 p1, .int .i8 p2] rfl rfl (cell_two_new z.out _ _ _) (by simp [Value.oneCell']) (by decide) (Nat.le_trans (Nat.add_le_add_right hlt 1) (by decide)) (by omega) (Nat.le_trans b2.out.size (by simp)) (z.out.heap.size + 1) (by simp) ?_; intro g cap w4 hown3 hg3 hl3 hlt3)
            refine ⟨⟨j + 1, by omega, by go_num, (b2.out.alloc b2.out.size _).grown hg3 (by have := b2.out.size; simp; omega) (fun k hk => (ho2.out.lt k hk).1), Nat.le_trans hsz2.out (Nat.le_trans (by simp) hg3.size), ?_, ?_, ?_⟩, by simp [intOf]; omega⟩
            · show World.ownsRow _ _ _ _ _ _ _
              rw [HYg.out, if_pos (by trivial), List.length_append, pcells_snoc]; exact hown3
            · refine OwP.grown (OwP.below (B := z.out.heap.size) hA2.out ((Below.refl _ z.out).alloc (Nat.le_refl _) _) hsz2.out) hg3 fun g' hg' => ?_
              rcases hloc.out with h1 | ⟨g1, h1, h2⟩
              · have e := Option.some.inj (h1.symm.trans hg'); left; omega
              · have e := Option.some.inj (h1.symm.trans hg'); right; omega
            · rcases hl3 with h3 | h3
              · rcases hloc.out with h1 | ⟨g1, h1, h2⟩
                · have e := Option.some.inj (h1.symm.trans h3); left; rw [e]; rfl
                · have e := Option.some.inj (h1.symm.trans h3); right; exact ⟨g, rfl, by omega⟩
              · right; exact ⟨g, rfl, by have := hsz2.out; omega⟩
        · obtain rfl : j = L.length := by omega
          have hd : decide ((L.length : Int) < (L.length : Int)) = false := decide_eq_false (by omega)
          rw [List.take_length] at hO
          go_wp2_with fail
          go_ret2
          refine ⟨_, rfl, HW2.out.trans (hbw.out.mono HW2.out.size), ?_⟩
          rw [HE.out]
          exact hO.out.mono HW2.out.size
  unfold diffC
  have := key _ _ _ _ _ rfl rfl rfl rfl rfl
  have e : alikeB a b = (!(a.w != b.w) && (!(a.h != b.h) && !(a.s != b.s))) := by unfold alikeB; simp [bne]
  rw [e]; exact this
end Go.Proofs.Ytfijinbdpfeceaa
