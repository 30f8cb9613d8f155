/- climbs: the sum over chunks. -/
import Derived.Test.YtjcmdihadblodaaChunk
namespace Go.Proofs.Ytjcmdihadblodaa
open Go.RowKit Go.Shelf
set_option linter.unusedSimpArgs false
set_option linter.unusedVariables false

attribute [local go_sem] Oper.semAt_some
theorem cell_new_l (W : World) (v : Value) (t : TypeId) : (W.alloc (.cells #[v] t)).cell? ⟨W.heap.size, 0, none⟩ = some v ∧ (W.alloc (.cells #[v] t)).frozen? ⟨W.heap.size, 0, none⟩ = false :=
  ⟨cell_block (block_new1 W _ rfl) rfl, frozen_of_row _ _ _ _ _ (block_new1 W _ rfl)⟩
theorem cell_alloc_l {W : World} {a : Addr} {v : Value} (o : Obj) (h : W.cell? a = some v) : (W.alloc o).cell? a = some v := cell_kept h (World.grownBy_alloc W o none) (fun r e => by cases e)
theorem frozen_alloc_l {W : World} {a : Addr} {v : Value} (o : Obj) (h : W.cell? a = some v) (hf : W.frozen? a = false) : (W.alloc o).frozen? a = false := (frozen_kept h (World.grownBy_alloc W o none) (fun r e => by cases e)).trans hf
theorem chunkV_sli {w W : World} {A : Option Addr} {l : List Int} {b off : Nat} (hA : SlI W A l) (hAe : l ≠ [] → A = some ⟨b, off, none⟩) (k j : Nat) (hne : l ≠ []) : SlI W (some ⟨b, off + j * k, none⟩) (chunkJ l k j) := fun i x hi => by
  obtain rfl := hAe hne
  have h1 : l[j * k + i]? = some x := by
    unfold chunkJ at hi
    rw [List.getElem?_take] at hi
    split at hi
    · rwa [List.getElem?_drop] at hi
    · cases hi
  obtain ⟨b', off', e, h2, h3⟩ := hA _ _ h1
  obtain ⟨rfl, rfl⟩ : b = b' ∧ off = off' := by simpa using e
  exact ⟨b, _, rfl, h2, by rw [← Nat.add_assoc] at h3; exact h3⟩
set_option maxRecDepth 100000 in
set_option maxHeartbeats 2000000 in
theorem c_climbs (A : Option Addr) (c : Nat) (l : List Int) (hlen : l.length ≤ 1000) (lc : l.length ≤ c) (cm : c ≤ 9223372036854775807) (hB : ∀ x ∈ l, 0 ≤ x ∧ x ≤ 1000) (k : Nat) (hk : 1 ≤ k ∧ k ≤ 1000) (w : World) (hA : SlI w A l) :
    Calls Try.prog 35 #[.slice A l.length c, .int .i64 k] w fun e w' => e = .returned (.int .i64 (climbsL l k)) ∧ Below w.heap.size w w' := by
  refine (callsIn_wide (n := 3)).1 ?_
  obtain ⟨b, off, hAe⟩ : ∃ b off, l ≠ [] → A = some ⟨b, off, none⟩ := by
    by_cases hz : l = []
    · exact ⟨0, 0, fun h => absurd hz h⟩
    · have h0 : 0 < l.length := List.length_pos_iff.2 hz
      obtain ⟨b, off, e, _⟩ := hA 0 _ (List.getElem?_eq_getElem h0)
      exact ⟨b, off, fun _ => e⟩
  have HA := hid hA; have HE := hid hAe; have HB := hid hB
  clear hA hAe hB
  refine callsIn_of_wp_marks Try.func35 rfl trivial ?_ rfl
  simp only [Try.ntmps35, List.size_toArray, List.length_cons, List.length_nil, Nat.reduceAdd, Nat.reduceSub, Array.replicate_succ, Array.replicate_zero, List.push_toArray, List.append_toArray, List.nil_append, List.cons_append]
  gi_wp2_with (refine ⟨trivial, ?_⟩; gi_at_call 60; refine (chunk_in _ _ trivial rfl _ _ _ k hk _).mono ?_; rintro e w' ⟨rfl, rfl⟩)
  have hs := cell_new_l w (.int .i64 0) 2
  have hb1 := cell_new_l (w.alloc (.cells #[.int .i64 0] 2)) (.slice A l.length c) 22
  have hb2 := cell_new_l ((w.alloc (.cells #[.int .i64 0] 2)).alloc (.cells #[.slice A l.length c] 22)) (.int .i64 k) 3
  simp only [World.size_alloc] at hb1 hb2
  have hB0 : Below w.heap.size w (((w.alloc (.cells #[.int .i64 0] 2)).alloc (.cells #[.slice A l.length c] 22)).alloc (.cells #[.int .i64 k] 3)) := (((Below.refl _ w).alloc (Nat.le_refl _) _).alloc (by simp) _).alloc (by simp; omega) _
  refine wpIn_rangeFunc_ownF (F := Fence.wide) (n := 3) (ps := #[10]) rfl (by decide) (gf := 76) (lb := #[.pointer (some ⟨w.heap.size + 1, 0, none⟩), .pointer (some ⟨w.heap.size + 1 + 1, 0, none⟩)]) rfl trivial (enters_of Try.func76 (by kernel_rfl) rfl)
    (chunk_stops Fence.wide (3 - 1) trivial rfl (by decide) (w.heap.size + 1) (w.heap.size + 1 + 1) w.heap.size A c k b off l hk (by omega) lc cm _ ⟨by simp, by omega⟩ ⟨by simp, by omega⟩ (cell_alloc_l _ hb1.1) hb2.1 HE.out) (fun h1 h2 => h1.trans h2) (fun W lq o o' hl _ _ _ => KeepB.putObj W lq o' hl) (Below.refl _ _) (fun _ => rfl)
    (fun pre W => ((∀ x ∈ pre, True) ∧ W.cell? ⟨w.heap.size, 0, none⟩ = some (.int .i64 (rungs l k (pre.map fun x => min x (chunkN l.length k - 1)))) ∧ W.frozen? ⟨w.heap.size, 0, none⟩ = false) ∧ Below w.heap.size w W)
    (fun _ _ _ => False)
    (OwnFrom.and (Own.from (fun s A B row hs hg hr => ⟨hs.1, cell_kept hs.2.1 hg hr, (frozen_kept hs.2.1 hg hr).trans hs.2.2⟩) _) (ownFrom_below (Nat.le_refl _) (by simp; omega)))
    (fun _ _ _ _ _ hs _ _ => hs)
    ⟨⟨fun _ _ => trivial, cell_alloc_l _ (cell_alloc_l _ hs.1), frozen_alloc_l _ (cell_alloc_l _ hs.1) (frozen_alloc_l _ hs.1 hs.2)⟩, hB0⟩
    (fun x => { tmps := #[.slice A l.length c, .int .i64 k, undef, undef, .int .i64 0, .pointer (some ⟨w.heap.size, 0, none⟩), chunkV b off l.length k x, .slice A l.length c, .int .i64 k, .func (.func 76) #[] #[.pointer (some ⟨w.heap.size + 1, 0, none⟩), .pointer (some ⟨w.heap.size + 1 + 1, 0, none⟩)], chunkV b off l.length k x, undef, undef, undef, undef, undef, undef], defers := [] }) ?assign ?body ?done ?stop
  case assign =>
    intro lq x W K hK
    gi_wp2
    exact hK
  case body =>
    rintro lq pre x W ⟨⟨_, hc, hf⟩, hB⟩ hpre
    obtain ⟨N, hN⟩ : ∃ N, N = chunkN l.length k := ⟨_, rfl⟩
    have hx : min x (N - 1) < N := by rw [hN]; omega
    have hlt := (chunkN_lt (n := l.length) (by omega : 0 < k) (min x (N - 1))).1 (by rw [← hN]; exact hx)
    have hNl : N ≤ 1000 := by
      rcases Nat.eq_zero_or_pos N with h | h
      · omega
      · have h1 := (chunkN_lt (n := l.length) (by omega : 0 < k) (N - 1)).1 (by rw [← hN]; omega)
        have h2 : (N - 1) * 1 ≤ (N - 1) * k := Nat.mul_le_mul_left _ hk.1
        omega
    have hne : l ≠ [] := by rintro rfl; simp at hlt
    have hv : chunkV b off l.length k x = .slice (some ⟨b, off + min x (N - 1) * k, none⟩) (chunkJ l k (min x (N - 1))).length (chunkJ l k (min x (N - 1))).length := by
      unfold chunkV
      rw [← hN]
      have : (chunkJ l k (min x (N - 1))).length = min k (l.length - min x (N - 1) * k) := by simp [chunkJ]
      rw [this]
    have hS := hid (chunkV_sli (w := w) (HA.out.below hB (Nat.le_refl _)) HE.out k (min x (N - 1)) hne)
    have HCB : Hid (∀ y ∈ chunkJ l k (min x (N - 1)), 0 ≤ y ∧ y ≤ 1000) := chunkJ_b HB.out k _
    have hl1 : 0 < (chunkJ l k (min x (N - 1))).length := by simp [chunkJ]; omega
    have hl2 : (chunkJ l k (min x (N - 1))).length ≤ 1048576 := by simp [chunkJ]; omega
    have hr := rungs_b (by decide : (0 : Int) ≤ 1000) HB.out k (pre.map fun x => min x (chunkN l.length k - 1))
    rw [List.length_map] at hr
    have hsn := rungs_snoc l k (pre.map fun x => min x (chunkN l.length k - 1)) (min x (N - 1))
    have hmp : (pre ++ [x]).map (fun x => min x (chunkN l.length k - 1)) = pre.map (fun x => min x (chunkN l.length k - 1)) ++ [min x (N - 1)] := by rw [List.map_append, ← hN]; rfl
    have HMP := hid (hmp.symm ▸ hsn)
    rw [hv]
    obtain ⟨r, hrr⟩ : ∃ r, r = rungs l k (pre.map fun x => min x (chunkN l.length k - 1)) := ⟨_, rfl⟩
    rw [← hrr] at hc hr HMP
    obtain ⟨cl, hcl⟩ : ∃ cl, cl = chunkJ l k (min x (N - 1)) := ⟨_, rfl⟩
    rw [← hcl] at hS HCB hl1 hl2 HMP ⊢
    have hmb := maxA_b HCB.out 0 (by omega) (by omega)
    have HCM : Hid (∀ W' : World, SlI W' (some ⟨b, off + min x (N - 1) * k, none⟩) cl → Calls Try.prog 61 #[.slice (some ⟨b, off + min x (N - 1) * k, none⟩) cl.length cl.length] W' fun e w' => e = .returned (.int .i64 (maxA 0 cl)) ∧ W' = w') := fun W' h => c_max _ _ cl hl1 hl2 (fun y hy => by have := HCB.out y hy; omega) W' h
    obtain ⟨m, hm⟩ : ∃ m, m = maxA 0 cl := ⟨_, rfl⟩
    rw [← hm] at HCM hmb HMP
    obtain ⟨q, hq⟩ : ∃ q, q = off + min x (N - 1) * k := ⟨_, rfl⟩
    rw [← hq] at HCM hS ⊢
    have hb1 : 0 ≤ r + 2 * m ∧ r + 2 * m ≤ 3000000 := by omega
    clear hm hcl hrr hmp hsn hv hlt hx hNl hne hl1 hl2 hq
    have hmx : Try.prog.follows .mixedOrders = true := by kernel_rfl
    have HBW := hid hB
    clear hB
    gi_wp2
    gi_region_with_o (refine ⟨trivial, ?_⟩; gi_at_call 61; refine (CallsIn.inRound lq (callsIn_wide.2 (HCM.out _ (hS.out.below (below_drewN _ W 1) (Nat.le_refl _))))).mono ?_; rintro e w' ⟨rfl, rfl⟩)
    all_goals
      gi_wp2
      have ew1 : IntKind.i64.wrap (2 * m) = 2 * m := by simp [IntKind.wrap, IntKind.bits, IntKind.signed]; omega
      have ew2 : IntKind.i64.wrap (r + 2 * m) = r + 2 * m := by simp [IntKind.wrap, IntKind.bits, IntKind.signed]; omega
      try rw [ew1, ew2]
      refine ⟨(KeepsOthers.drew W).trans (KeepsOthers.setCell _ _ _), (KeepB.drewN W 1).trans (KeepB.setCell _ 0 _), ⟨⟨fun _ _ => trivial, ?_, ?_⟩, ?_⟩⟩
      · rw [HMP.out]
        exact World.cell?_setCell_same' _ _ _ (by show (W.cell? _).isSome = true; rw [hc]; rfl)
      · rw [World.frozen?_setCell]; exact hf
      · exact ((HBW.out.trans (below_drewN w.heap.size W 1))).setCell (p := ⟨w.heap.size, 0, none⟩) (Nat.le_refl _) _
  case done =>
    rintro D ys W hD rfl ⟨⟨_, hc, _⟩, hB⟩ hK
    have e : (List.range (chunkN l.length k)).map (fun x => min x (chunkN l.length k - 1)) = List.range (chunkN l.length k) := by
      apply List.ext_getElem
      · simp
      · intro i h1 h2; simp at h1 h2 ⊢; omega
    rw [e] at hc
    have hc : W.cell? ⟨w.heap.size, 0, none⟩ = some (.int .i64 (climbsL l k)) := hc
    gi_wp2
    refine ⟨by simp, .inl ⟨_, _, rfl, run_takeDeferred hK, ?_⟩⟩
    exact ⟨_, results_tmp rfl _ _ _, rfl, hB.trans (belowK_b (w := w) (Nat.le_refl _) W D _ _ (by simp at hD; omega) hK rfl rfl)⟩
  case stop =>
    rintro D c pre W _ _ h _
    exact h.elim
end Go.Proofs.Ytjcmdihadblodaa
