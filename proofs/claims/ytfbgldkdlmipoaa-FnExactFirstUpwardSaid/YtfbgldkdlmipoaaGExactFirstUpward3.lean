/- Texts of the claim FnExactFirstUpward, part 3 of 6. -/
import Derived.Test.YtfbgldkdlmipoaaGExactFirstUpward2
import Derived.Shelf.Abstract
import Derived.Laws.AppendOwn
import Derived.WalkSmall
import Derived.Deep.Onto
/- AboveOf and BelowOf, the program's and the reference's. -/
namespace Go.Proofs.Ytfbgldkdlmipoaa
open Go.RowKit
set_option linter.unusedSimpArgs false
set_option linter.unusedVariables false

/-- What AboveOf and BelowOf return. -/
def besL (r : Rf) (c t b : Int) : List (Int × Int) := if codeOf (validB r) (isPl r c t) = 0 then lapL r c t (c + b) else []
theorem besL_len (r : Rf) (c t b : Int) : (besL r c t b).length ≤ 64 := by
  unfold besL; split
  · have := lapL_len r c t (c + b); omega
  · simp
theorem codeOf_pl {r : Rf} {c t : Int} (h : codeOf (validB r) (isPl r c t) = 0) : validB r = true ∧ (0 ≤ c ∧ c ≤ 7) ∧ (0 ≤ t ∧ t ≤ 7) := by
  have := codeOf_zero h
  have h1 := valid_head this.1
  have h2 := isPl_iff.1 this.2
  exact ⟨this.1, by omega, by omega⟩
set_option maxRecDepth 100000 in
theorem c_l01First (r : Rf) (hr : r.Ok) (b : Nat) (c t : Int) (hc : 0 ≤ c ∧ c ≤ 7) (ht : 0 ≤ t ∧ t ≤ 7) (w : World) (hb : w.heap[b]? = some (.cells (rcells r) 31 (0,0))) :
    Calls Try.prog 55 #[.pointer (some ⟨b,0,none⟩), .agg #[.int .i8 c, .int .i8 t]] w fun e w' => e = .returned (.int .i64 (firstOf r c t)) ∧ Below w.heap.size w w' := by
  have hs := shiftOf_01 r c
  have lb := block_lt hb
  have lb' : b < w.heap.size + 1 := by omega
  have HP := hid (block_alloc hb (.cells #[.int .i8 c, .int .i8 t] 50))
  have HC := hid (fun W hW => c_l01By r hr b c ⟨hc.1, by omega⟩ W hW)
  have e : firstOf r c t = 2 * t + shiftOf r c := rfl
  rw [e]
  obtain ⟨s, hse⟩ : ∃ s, s = shiftOf r c := ⟨_, rfl⟩
  rw [← hse] at hs HC ⊢
  clear hse e hb
  obtain ⟨c1, c2⟩ := hc
  obtain ⟨t1, t2⟩ := ht
  have HB : Hid (w.heap.size + 1 ≤ (w.alloc (.cells #[.int .i8 c, .int .i8 t] 50)).heap.size) := by simp [Hid]
  have l1 : w.heap.size < w.heap.size + 1 := by omega
  have HX : Hid (∀ x : Ext (w.heap.size + 1) (w.alloc (.cells #[.int .i8 c, .int .i8 t] 50)), x.out.heap[b]? = some (.cells (rcells r) 31 (0,0))) := fun x => block_below x.below HP.out lb'
  have e1 : IntKind.i64.wrap c = c := IntWalk.i64_in _ (by omega)
  have e2 : IntKind.i64.wrap t = t := IntWalk.i64_in _ (by omega)
  have e3 : IntKind.i64.wrap (2 * t) = 2 * t := IntWalk.i64_in _ (by omega)
  have e4 : IntKind.i64.wrap (2 * t + s) = 2 * t + s := IntWalk.i64_in _ (by omega)
  go_enter Try.func55, Try.ntmps55
  go_wp2_with fail
  refine wp_region_ext (w.heap.size + 1) (by kernel_rfl) (by kernel_rfl) ?_
  repeat (go_big_quiet_step ((go_at_call 80; with_reducible exact Calls.ext_same (HC.out _ (HX.out _)))))
  refine wpQuiet_nil ?_
  intro x
  go_wp2_with fail
  go_ret
  exact ⟨rfl, ((Below.refl _ w).alloc (Nat.le_refl _) _).trans (x.below.mono (by omega))⟩
set_option maxRecDepth 100000 in
theorem c_l01Tile (r : Rf) (hr : r.Ok) (hv : validB r = true) (b : Nat) (d n : Int) (hd : 0 ≤ d ∧ d ≤ 7) (hn : 0 ≤ n ∧ n ≤ 100) (w : World) (hb : w.heap[b]? = some (.cells (rcells r) 31 (0,0))) :
    Calls Try.prog 106 #[.pointer (some ⟨b,0,none⟩), .int .i64 d, .int .i64 n] w fun e w' => e = .returned (.int .i64 (tileOf r d n)) ∧ w = w' := by
  have hs := shiftOf_01 r d
  have vh := valid_head hv
  have HC := hid (c_l01By r hr b d ⟨hd.1, by omega⟩ w hb)
  have e : tileOf r d n = if 0 ≤ n - shiftOf r d ∧ n - shiftOf r d ≤ 2 * r.w - 1 then (n - shiftOf r d) / 2 else -1 := rfl
  have c0 := cell_block hb (rc0 r)
  rw [e]
  obtain ⟨s, hse⟩ : ∃ s, s = shiftOf r d := ⟨_, rfl⟩
  obtain ⟨W, hW⟩ : ∃ W, W = r.w := ⟨_, rfl⟩
  rw [← hse] at hs HC ⊢
  rw [← hW] at vh c0 ⊢
  clear hse e hW hb
  have e1 : IntKind.i64.wrap W = W := IntWalk.i64_in _ (by omega)
  by_cases h0 : n - s < 0
  · rw [if_neg (by omega)]
    go_enter Try.func106, Try.ntmps106
    go_wp2_with (go_at_call 80; ((with_reducible refine HC.out.mono ?_); rintro e w1 ⟨rfl, rfl⟩))
    go_ret
    exact ⟨rfl, rfl⟩
  · have h0' : 0 ≤ n - s := by omega
    by_cases h1 : W ≤ (n - s) / 2
    · rw [if_neg (by omega)]
      clear h0
      go_enter Try.func106, Try.ntmps106
      go_wp2_with (go_at_call 80; ((with_reducible refine HC.out.mono ?_); rintro e w1 ⟨rfl, rfl⟩))
      go_ret
      exact ⟨rfl, rfl⟩
    · have h1' : (n - s) / 2 < W := by omega
      rw [if_pos (by omega)]
      clear h0 h1
      go_enter Try.func106, Try.ntmps106
      go_wp2_with (go_at_call 80; ((with_reducible refine HC.out.mono ?_); rintro e w1 ⟨rfl, rfl⟩))
      go_ret
      exact ⟨rfl, rfl⟩
theorem lapK_small {r : Rf} (hv : validB r = true) {c t d : Int} {k : Nat} (hk : k < 2) : lapK r c t d k = [] ∨ ∃ u, lapK r c t d k = [(d, u)] ∧ 0 ≤ u ∧ u ≤ 7 := by
  have hl := lapK_len r c t d k
  have hm := lapK_mem hv (c := c) (t := t) (d := d) k
  have vh := valid_head hv
  cases hL : lapK r c t d k with
  | nil => exact .inl rfl
  | cons p l =>
    rw [hL] at hl hm
    have : l = [] := List.eq_nil_of_length_eq_zero (by simp at hl; omega)
    subst this
    have := hm p (List.mem_cons_self ..)
    obtain ⟨p1, p2⟩ := p
    dsimp only at this
    exact .inr ⟨p2, by rw [this.1], by omega, by omega⟩
set_option maxHeartbeats 1600000 in
set_option maxRecDepth 100000 in
theorem c_l01Laps (r : Rf) (hr : r.Ok) (hv : validB r = true) (b : Nat) (c t y : Int) (hc : 0 ≤ c ∧ c ≤ 7) (ht : 0 ≤ t ∧ t ≤ 7) (hy : -1 ≤ y ∧ y ≤ 1) (w : World) (hb : w.heap[b]? = some (.cells (rcells r) 31 (0,0))) :
    Calls Try.prog 90 #[.pointer (some ⟨b,0,none⟩), .agg #[.int .i8 c, .int .i8 t], .int .i8 y] w (RetS w (lapL r c t (c + y))) := by
  obtain ⟨i0, hi, hz0, hz1, hz2⟩ := info_parts Try.infoPlace
  have vh := valid_head hv
  have HV := hid hv
  have lb := block_lt hb
  have HP := hid (block_alloc (block_alloc hb (.cells #[.int .i8 c, .int .i8 t] 50)) (.cells #[] 50))
  have HCc := hid hc
  have HTt := hid ht
  obtain ⟨d, hd⟩ : ∃ d, d = c + y := ⟨_, rfl⟩
  rw [← hd]
  have ed : IntKind.i8.wrap (c + y) = d := by rw [hd]; exact IntWalk.i8_in _ (by omega)
  have ed6 : IntKind.i64.wrap d = d := IntWalk.i64_in _ (by omega)
  have hcy : -1 ≤ c + y ∧ c + y ≤ 8 := by omega
  have HD := hid hd
  have HH : Hid (r.h ≤ 8 ∧ r.w ≤ 8) := ⟨by omega, by omega⟩
  have HB0 : Hid (Below (w.heap.size + 1) (w.alloc (.cells #[.int .i8 c, .int .i8 t] 50)) ((w.alloc (.cells #[.int .i8 c, .int .i8 t] 50)).alloc (.cells #[] 50))) := (Below.refl _ _).alloc (by simp) _
  have HN0 : Hid (((w.alloc (.cells #[.int .i8 c, .int .i8 t] 50)).alloc (.cells #[] 50)).ownsRow (w.heap.size + 1) 50 2 (.slice (some ⟨w.heap.size + 1, 0, none⟩) 0 0) 0 []) := by
    have := World.ownsRow_made (base := w.heap.size + 1) (e := 50) (size := 2) (w.alloc (.cells #[.int .i8 c, .int .i8 t] 50)) #[] 0 (by simp) (by decide) rfl
    simpa [Hid] using this
  clear vh hd hv
  by_cases hin : inB d 0 (r.h - 1) = true
  · have HI := hid hin
    have hl : lapL r c t d = lapK r c t d 2 := by unfold lapL; rw [if_pos hin]
    rw [hl]
    have hd7 : 0 ≤ d ∧ d ≤ 7 := by have := HH.out; rw [inB_iff] at hin; omega
    have HD7 := hid hd7
    have hs0 := shiftOf_01 r c
    have hf : 0 ≤ firstOf r c t ∧ firstOf r c t ≤ 15 := by unfold firstOf; omega
    have HCF := hid (fun W hW => c_l01First r hr b c t hc ht W hW)
    have HK2 : Hid (∀ k, lapK r c t d (k + 1) = lapStep d (tileOf r d (firstOf r c t + k)) (lapK r c t d k)) := fun k => rfl
    obtain ⟨f, hfe⟩ : ∃ f, f = firstOf r c t := ⟨_, rfl⟩
    rw [← hfe] at hf HCF HK2
    clear hin hl hs0 hc ht hd7 hb hfe
    go_enter Try.func90, Try.ntmps90
    go_wp2_with (first
      | (go_at_call 105; ((with_reducible refine (c_l01Course r hr b d _ HP.out _ HI.out).mono ?_); rintro e w1 ⟨rfl, rfl⟩))
      | (go_at_call 55; ((with_reducible refine (HCF.out _ HP.out).mono ?_); rintro e w1 ⟨rfl, hb1⟩); have b1 := hid hb1; clear hb1))
    have HN1 : Hid (w1.ownsRow (w.heap.size + 1) 50 2 (.slice (some ⟨w.heap.size + 1, 0, none⟩) 0 0) 0 []) := owns_below HN0.out b1.out
    have HB1 : Hid (Below (w.heap.size + 1) (w.alloc (.cells #[.int .i8 c, .int .i8 t] 50)) w1) := HB0.out.trans (b1.out.mono (by simp))
    have HP1 : Hid (∀ wr, Below (w.heap.size + 1) (w.alloc (.cells #[.int .i8 c, .int .i8 t] 50)) wr → wr.heap[b]? = some (.cells (rcells r) 31 (0,0))) := fun wr hbr => by
      have h0 := HP.out
      rw [heap_alloc_old _ _ (by simp; omega)] at h0
      exact block_below hbr h0 (by omega)
    clear HB0 HN0 b1
    go_loopw [7, 10] (fun v i wr => ∃ k : Nat, k ≤ 2 ∧ i = .int .i64 (f + k) ∧ Hid (Below (w.heap.size + 1) (w.alloc (.cells #[.int .i8 c, .int .i8 t] 50)) wr) ∧ Hid (wr.ownsRow (w.heap.size + 1) 50 2 v (lapK r c t d k).length (pcells (lapK r c t d k)))) (fun _ i _ => (f + 2 - intOf i).toNat)
    case atStart => exact ⟨0, by omega, by simp, HB1, HN1⟩
    case round =>
      clear HN1 HB1
      obtain ⟨k, hk, rfl, hb, hO⟩ := hrel
      obtain ⟨n, hn⟩ : ∃ n, n = f + (k : Int) := ⟨_, rfl⟩
      rw [← hn]
      have HNn := hid hn
      by_cases hk2 : k < 2
      · have hle : n ≤ f + 1 := by omega
        have hn1 : 0 ≤ n ∧ n ≤ 100 := by omega
        have HT := hid (c_l01Tile r hr HV.out b d n HD7.out hn1 wr (HP1.out wr hb.out))
        have hu := tileOf_le HV.out d n
        have HY0 := hid (HK2.out k)
        rw [← hn] at HY0
        obtain ⟨u, hue⟩ : ∃ u, u = tileOf r d n := ⟨_, rfl⟩
        rw [← hue] at hu HT HY0
        have eu : IntKind.i8.wrap u = u := IntWalk.i8_in _ (by omega)
        have h7 : u ≤ 7 := hu.2.1
        have h1 : -1 ≤ u := hu.1
        have hs1 : Hid (w.heap.size + 1 ≤ wr.heap.size) := by have := hb.out.size; simpa [Hid] using this
        have hnl : 0 ≤ n := hn1.1
        have hnh : n ≤ 100 := hn1.2
        clear hn hue hu hn1
        have hsm := lapK_small HV.out (c := c) (t := t) (d := d) hk2
        obtain ⟨L, hL⟩ : ∃ L, L = lapK r c t d k := ⟨_, rfl⟩
        rw [← hL] at hsm hO HY0
        have HLk := hid hL
        clear hL
        by_cases hm1 : u < 0
        · have HYY : Hid (lapK r c t d (k + 1) = L) := by
            rw [Hid, HY0.out]; unfold lapStep; rw [if_neg (fun h => h.1 (by omega))]
          clear hsm
          go_wp2_with (go_at_call 106; ((with_reducible refine HT.out.mono ?_); rintro e w3 ⟨rfl, rfl⟩))
          refine ⟨⟨k + 1, by omega, congrArg (Value.int .i64) (by have := HNn.out; omega), hb, ?_⟩, by have := HNn.out; simp [intOf]; omega⟩
          show World.ownsRow _ _ _ _ _ _ _
          rw [HYY.out]; exact hO.out
        · have hm0 : 0 ≤ u := by omega
          clear hm1
          rcases hsm with rfl | ⟨u0, rfl, hu0, hu7⟩
          · obtain ⟨A, cc, rfl⟩ := owns_slice hO.out
            have HYY : Hid (lapK r c t d (k + 1) = [(d, u)]) := by
              rw [Hid, HY0.out]; unfold lapStep; rw [if_pos ⟨by omega, by simp⟩]; rfl
            go_wp2_with (first
              | (go_at_call 106; ((with_reducible refine HT.out.mono ?_); rintro e w3 ⟨rfl, rfl⟩))
              | ((with_reducible refine gate (N := 60) rfl ?_); refine wpList_append_own _ rfl (.tmp 54) (.tmp 59) 33 rfl (w.heap.size + 1) 50 i0 (.agg #[.int .i8 0, .int .i8 0]) 2 2 Try.underlying33 hi hz0 hz1 hz2 rfl (by decide) _ _ _ rfl (hO.out.alloc _) ⟨wr.heap.size, 0, none⟩ 1 1 [.int .i8 d, .int .i8 u] rfl rfl (cell_two_new wr _ _ _) (by simp [Value.oneCell']) (by decide) (by decide) (Nat.le_trans hs1.out (by simp)) ?_; intro v' w5 hown5 hgrow _))
            refine ⟨⟨k + 1, by omega, congrArg (Value.int .i64) (by have := HNn.out; omega), (hb.out.alloc hs1.out _).grown hgrow (by have := hs1.out; simp; omega) (fun k hk => (hO.out.lt k hk).1), ?_⟩, by have := HNn.out; simp [intOf]; omega⟩
            show World.ownsRow _ _ _ _ _ _ _
            rw [HYY.out]; exact hown5
          · obtain ⟨A, cc, rfl, hsl⟩ := slp_of hO.out
            obtain ⟨ob, oo, rfl, o1, o2, o3⟩ := hsl 0 (d, u0) rfl
            simp only [Nat.zero_mul, Nat.add_zero] at o2 o3
            have eu0 : IntKind.i64.wrap u0 = u0 := IntWalk.i64_in _ (by omega)
            clear hsl
            by_cases hq : u0 = u
            · have hne : (u0 != u) = false := by simp [hq]
              have HYY : Hid (lapK r c t d (k + 1) = [(d, u0)]) := by
                rw [Hid, HY0.out]; unfold lapStep; rw [if_neg (fun h => h.2 (by simp [hq]))]
              clear hq
              go_wp2_with (go_at_call 106; ((with_reducible refine HT.out.mono ?_); rintro e w3 ⟨rfl, rfl⟩))
              refine ⟨⟨k + 1, by omega, congrArg (Value.int .i64) (by have := HNn.out; omega), hb, ?_⟩, by have := HNn.out; simp [intOf]; omega⟩
              show World.ownsRow _ _ _ _ _ _ _
              rw [HYY.out]; exact hO.out
            · have hne : (u0 != u) = true := by simpa using hq
              have HYY : Hid (lapK r c t d (k + 1) = [(d, u0), (d, u)]) := by
                rw [Hid, HY0.out]; unfold lapStep; rw [if_pos ⟨by omega, by simp; exact fun h => hq h.symm⟩]; rfl
              clear hq
              go_wp2_with (first
                | (go_at_call 106; ((with_reducible refine HT.out.mono ?_); rintro e w3 ⟨rfl, rfl⟩))
                | ((with_reducible refine gate (N := 60) rfl ?_); refine wpList_append_own _ rfl (.tmp 54) (.tmp 59) 33 rfl (w.heap.size + 1) 50 i0 (.agg #[.int .i8 0, .int .i8 0]) 2 2 Try.underlying33 hi hz0 hz1 hz2 rfl (by decide) _ _ _ rfl (hO.out.alloc _) ⟨wr.heap.size, 0, none⟩ 1 1 [.int .i8 d, .int .i8 u] rfl rfl (cell_two_new wr _ _ _) (by simp [Value.oneCell']) (show 1 + 1 ≤ maxLen by decide) (show (1 + 1) * 2 ≤ 140737488355328 by decide) (Nat.le_trans hs1.out (by simp)) ?_; intro v' w5 hown5 hgrow _))
              refine ⟨⟨k + 1, by omega, congrArg (Value.int .i64) (by have := HNn.out; omega), (hb.out.alloc hs1.out _).grown hgrow (by have := hs1.out; simp; omega) (fun k hk => (hO.out.lt k hk).1), ?_⟩, by have := HNn.out; simp [intOf]; omega⟩
              show World.ownsRow _ _ _ _ _ _ _
              rw [HYY.out]; exact hown5
      · obtain rfl : k = 2 := by omega
        have hgt : f + 1 < n := by omega
        clear hn
        go_wp2_with fail
        go_ret
        exact ⟨_, rfl, ((Below.refl _ w).alloc (Nat.le_refl _) _).trans (hb.out.mono (by omega)), hO.out.mono (by omega)⟩
  · have hin' : inB d 0 (r.h - 1) = false := by simpa using hin
    have HI := hid hin'
    have hl : lapL r c t d = [] := by unfold lapL; rw [if_neg hin]
    rw [hl]
    clear hin hin' hl hc ht hb
    go_enter Try.func90, Try.ntmps90
    go_wp2_with (go_at_call 105; ((with_reducible refine (c_l01Course r hr b d _ HP.out _ HI.out).mono ?_); rintro e w1 ⟨rfl, rfl⟩))
    go_ret
    exact ⟨_, rfl, ((Below.refl _ w).alloc (Nat.le_refl _) _).trans (HB0.out.mono (by omega)), HN0.out.mono (by omega)⟩
end Go.Proofs.Ytfbgldkdlmipoaa

/- l01Has: a place looked for in a list, the reference's way. -/
namespace Go.Proofs.Ytfbgldkdlmipoaa
open Go.RowKit
set_option linter.unusedSimpArgs false
set_option linter.unusedVariables false

set_option maxHeartbeats 1600000 in
set_option maxRecDepth 100000 in
theorem c_l01Has (A : Option Addr) (cc : Nat) (l : List (Int × Int)) (hlen : l.length ≤ 1000000) (p1 p2 : Int) (w : World) (hA : SlP w A l) :
    Calls Try.prog 36 #[.slice A l.length cc, .agg #[.int .i8 p1, .int .i8 p2]] w fun e w' => e = .returned (.bool (decide ((p1, p2) ∈ l))) ∧ Below w.heap.size w w' := by
  have HA := hid hA; clear hA
  have HP := hid (block_new1 w (.cells #[.int .i8 p1, .int .i8 p2] 50) rfl)
  have HB0 : Hid (Below (w.heap.size + 1) (w.alloc (.cells #[.int .i8 p1, .int .i8 p2] 50)) (w.alloc (.cells #[.int .i8 p1, .int .i8 p2] 50))) := Below.refl _ _
  obtain ⟨r, hr⟩ : ∃ r, r = decide ((p1, p2) ∈ l) := ⟨_, rfl⟩
  rw [← hr]
  have HR := hid hr
  clear hr
  go_enter Try.func36, Try.ntmps36
  go_wp2_with fail
  go_loopw [5] (fun i wr => ∃ k : Nat, k ≤ l.length ∧ i = .int .i64 k ∧ Hid (Below (w.heap.size + 1) (w.alloc (.cells #[.int .i8 p1, .int .i8 p2] 50)) wr) ∧ Hid (∀ j, j < k → l[j]? ≠ some (p1, p2))) (fun i _ => l.length - (intOf i).toNat)
  case atStart => exact ⟨0, by omega, rfl, HB0, fun j h => by omega⟩
  case round =>
    obtain ⟨k, hk, rfl, hb, hno⟩ := hrel
    by_cases hkl : k < l.length
    · have hd : decide ((k : Int) < (l.length : Int)) = true := decide_eq_true (by omega)
      have hkI : (k : Int) < (l.length : Int) := by omega
      have hk0 : (0 : Int) ≤ (k : Int) := by omega
      have hp := List.getElem?_eq_getElem hkl
      obtain ⟨⟨q1, q2⟩, hpp⟩ : ∃ q, q = l[k] := ⟨_, rfl⟩
      rw [← hpp] at hp
      obtain ⟨b, off, rfl, r1, r2, r3⟩ := HA.out k (q1, q2) hp
      have hb0 : Below w.heap.size w wr := ((Below.refl _ w).alloc (Nat.le_refl _) _).trans (hb.out.mono (by omega))
      have c0 := (hb0.cell (p := ⟨b, _, none⟩) r1).trans r2
      have c1 := (hb0.cell (p := ⟨b, _, none⟩) r1).trans r3
      have lb : b < wr.heap.size := Nat.lt_of_lt_of_le r1 hb0.size
      have HPw := hid (block_below hb.out HP.out (by omega))
      have k0 := cell_block HPw.out (j := 0) rfl
      have k1 := cell_block HPw.out (j := 1) rfl
      have lw := block_lt HPw.out
      have hs := hid (show w.heap.size + 1 ≤ wr.heap.size by have := hb.out.size; simpa using this)
      have HQ := hid hp
      clear hp hpp r2 r3 hb0
      dsimp only at c0 c1
      have run : ∀ (g : Bool), decide ((q1, q2) = (p1, p2)) = g → ∀ W : World, (binOp .eql 50 (.agg #[.int .i8 q1, .int .i8 q2]) (.agg #[.int .i8 p1, .int .i8 p2])).run Try.prog W = .ok (.bool g) W := fun g hg W => by rw [run_eql_place, hg]
      by_cases he : (q1, q2) = (p1, p2)
      · have R := hid (run true (decide_eq_true he))
        have HE := hid he
        clear run he
        go_wp2_with fail
        refine wp_region_ext wr.heap.size (by kernel_rfl) (by kernel_rfl) ?_
        repeat (first
          | ((with_reducible refine wpQuiet_run (N := 17) rfl rfl (.bool true) ?_ ?_); (rintro _ ⟨x, rfl⟩; exact execOp_eql rfl rfl rfl (by kernel_rfl) (R.out x.out)); go_simp)
          | go_big_quiet_step (fail))
        refine wpQuiet_nil ?_
        intro x
        go_wp2_with fail
        go_ret
        have b1 := hb.out.trans (x.below.mono hs.out)
        have hr : r = true := by rw [HR.out]; exact decide_eq_true (by rw [← HE.out]; exact List.mem_of_getElem? HQ.out)
        rw [hr]
        exact ⟨rfl, ((Below.refl _ w).alloc (Nat.le_refl _) _).trans (b1.mono (by omega))⟩
      · have R := hid (run false (decide_eq_false he))
        have HE := hid he
        clear run he
        go_wp2_with fail
        refine wp_region_ext wr.heap.size (by kernel_rfl) (by kernel_rfl) ?_
        repeat (first
          | ((with_reducible refine wpQuiet_run (N := 17) rfl rfl (.bool false) ?_ ?_); (rintro _ ⟨x, rfl⟩; exact execOp_eql rfl rfl rfl (by kernel_rfl) (R.out x.out)); go_simp)
          | go_big_quiet_step (fail))
        refine wpQuiet_nil ?_
        intro x
        go_wp2_with fail
        exact ⟨⟨k + 1, by omega, by go_num, hb.out.trans (x.below.mono hs.out), all_succ (p := fun j => l[j]? ≠ some (p1, p2)) hno.out (by rw [HQ.out]; intro h; exact HE.out (Option.some.inj h))⟩, by simp [intOf]; omega⟩
    · obtain rfl : k = l.length := by omega
      have hd : decide ((l.length : Int) < (l.length : Int)) = false := decide_eq_false (by omega)
      go_wp2_with fail
      go_ret
      have hr : r = false := by
        rw [HR.out]
        refine decide_eq_false fun h => ?_
        obtain ⟨j, hj, e⟩ := List.getElem_of_mem h
        exact absurd (by rw [List.getElem?_eq_getElem hj, e]) (hno.out j hj)
      rw [hr]
      exact ⟨rfl, ((Below.refl _ w).alloc (Nat.le_refl _) _).trans (hb.out.mono (by omega))⟩
end Go.Proofs.Ytfbgldkdlmipoaa

/- No place twice: in sorted lists, and one after another. No program here. -/
namespace Go.Proofs.Ytfbgldkdlmipoaa
set_option linter.unusedSimpArgs false
set_option linter.unusedVariables false

/-- Two neighbours are the same. -/
def adjEq (S : List (Int × Int)) : Bool := (List.range (S.length - 1)).any fun i => decide (S[i]? = S[i + 1]?)
theorem adjEq_iff (S : List (Int × Int)) : adjEq S = true ↔ ∃ i, i + 1 < S.length ∧ S[i]? = S[i + 1]? := by
  unfold adjEq
  rw [List.any_eq_true]
  constructor
  · rintro ⟨i, hi, h⟩
    exact ⟨i, by have := List.mem_range.1 hi; omega, of_decide_eq_true h⟩
  · rintro ⟨i, hi, h⟩
    exact ⟨i, List.mem_range.2 (by omega), decide_eq_true h⟩
theorem adj_nodup {S : List (Int × Int)} (hS : S.Pairwise fun x y => lessP y x = false) : adjEq S = !decide S.Nodup := by
  by_cases hd : S.Nodup
  · rw [decide_eq_true hd]
    cases h : adjEq S with
    | false => rfl
    | true =>
      obtain ⟨i, hi, e⟩ := (adjEq_iff S).1 h
      rw [List.getElem?_eq_getElem (by omega), List.getElem?_eq_getElem hi] at e
      exact absurd (Option.some.inj e) (List.pairwise_iff_getElem.1 (List.nodup_iff_pairwise_ne.1 hd) i (i + 1) (by omega) hi (by omega))
  · rw [decide_eq_false hd]
    refine (adjEq_iff S).2 ?_
    rw [List.nodup_iff_pairwise_ne, List.pairwise_iff_getElem] at hd
    simp only [Classical.not_forall] at hd
    obtain ⟨i, j, hi, hj, hij, hne⟩ := hd
    have he : S[i] = S[j] := Classical.not_not.1 hne
    rw [List.pairwise_iff_getElem] at hS
    refine ⟨i, by omega, ?_⟩
    rw [List.getElem?_eq_getElem hi, List.getElem?_eq_getElem (by omega : i + 1 < S.length)]
    congr 1
    by_cases h1 : i + 1 = j
    · subst h1; exact he
    · have a1 := hS i (i + 1) hi (by omega) (by omega)
      have a2 := hS (i + 1) j (by omega) hj (by omega)
      rw [← he] at a2
      unfold lessP at a1 a2
      simp at a1 a2
      apply Prod.ext <;> omega
theorem nodup_take {l : List (Int × Int)} : (∀ i (h : i < l.length), l[i] ∉ l.take i) ↔ l.Nodup := by
  rw [List.nodup_iff_pairwise_ne, List.pairwise_iff_getElem]
  constructor
  · intro h i j hi hj hij he
    refine h j hj ?_
    rw [← he]
    exact List.mem_iff_getElem.2 ⟨i, by simp; omega, by simp⟩
  · intro h i hi hm
    obtain ⟨k, hk, e⟩ := List.mem_iff_getElem.1 hm
    simp at hk
    simp at e
    exact h k i (by omega) hi (by omega) e
end Go.Proofs.Ytfbgldkdlmipoaa

/- areAll and IndexFunc over numbers, at a function value. -/
namespace Go.Proofs.Ytfbgldkdlmipoaa
open Go.RowKit
set_option linter.unusedSimpArgs false
set_option linter.unusedVariables false

/-- A function value that tells of the numbers of a list, in all worlds above a world. -/
def TellsI (g : Nat) (fst cap : Array Value) (f : Int → Bool) (l : List Int) (w : World) : Prop :=
  ∀ (W : World) (p : Int), p ∈ l → Below w.heap.size w W → Calls Try.prog g (fst ++ #[.int .i64 p] ++ cap) W fun e w' => e = .returned (.bool (f p)) ∧ Below W.heap.size W w'
/-- The first number's index of which f says yes, or -1. -/
def idxI (f : Int → Bool) (l : List Int) : Int := if l.any f = true then (l.findIdx f : Int) else -1
theorem idxI_at {f : Int → Bool} {l : List Int} {k : Nat} (hk : k < l.length) (h : (l.take k).any f = false) (hf : f l[k] = true) : (k : Int) = idxI f l := by
  have h1 : l.any f = true := List.any_eq_true.2 ⟨_, List.getElem_mem hk, hf⟩
  unfold idxI
  rw [if_pos h1]
  have e : l = l.take k ++ l.drop k := (List.take_append_drop k l).symm
  have h2 : (l.take k).findIdx f = k := by
    have h3 : (l.take k).findIdx f = (l.take k).length := List.findIdx_eq_length.2 fun x hx => by
      have := List.any_eq_false.1 h x hx
      simpa using this
    rw [h3, List.length_take]; omega
  have h4 : (l.drop k).findIdx f = 0 := by
    rw [List.drop_eq_getElem_cons hk, List.findIdx_cons, hf]; rfl
  rw [e, List.findIdx_append, h2, h4, List.length_take, if_neg (by omega)]
  omega
end Go.Proofs.Ytfbgldkdlmipoaa

/- areAll and IndexFunc over int, at a function value. -/
namespace Go.Proofs.Ytfbgldkdlmipoaa
open Go.RowKit
set_option linter.unusedSimpArgs false
set_option linter.unusedVariables false

set_option maxRecDepth 100000 in
theorem c_indexFN (g : Nat) (fst cap : Array Value) (eg : ∀ args w, (callFunc g args).run Try.prog w = .ok (.enter g args) w) (f : Int → Bool) (A : Option Addr) (cc : Nat) (l : List Int) (hlen : l.length ≤ 1048576) (w : World) (hA : SlI w A l) (hf : TellsI g fst cap f l w) :
    Calls Try.prog 119 #[.slice A l.length cc, .func (.func g) fst cap] w fun e w' => ∃ n : Int, e = .returned (.int .i64 n) ∧ Below w.heap.size w w' ∧ decide (n ≥ 0) = l.any f ∧ n = idxI f l := by
  have HA := hid hA; clear hA
  have HF := hid hf; clear hf
  go_enter Try.func119, Try.ntmps119
  go_wp2_with fail
  go_loopw [8] (fun i wr => ∃ k : Nat, k ≤ l.length ∧ i = .int .i64 k ∧ Hid (Below w.heap.size w wr) ∧ Hid ((l.take k).any f = false)) (fun i _ => l.length - (intOf i).toNat)
  case atStart => exact ⟨0, by omega, rfl, Below.refl _ _, by simp [Hid]⟩
  case round =>
    obtain ⟨k, hk, rfl, hb, hno⟩ := hrel
    by_cases hkl : k < l.length
    · have hd : decide ((k : Int) < (l.length : Int)) = true := decide_eq_true (by omega)
      have hkI : (k : Int) < (l.length : Int) := by omega
      have hk0 : (0 : Int) ≤ (k : Int) := by omega
      have hp := List.getElem?_eq_getElem hkl
      obtain ⟨p1, hpp⟩ : ∃ p, p = l[k] := ⟨_, rfl⟩
      rw [← hpp] at hp
      have HM : Hid (p1 ∈ l) := by rw [hpp]; exact List.getElem_mem hkl
      have HIX : Hid (f p1 = true → (k : Int) = idxI f l) := fun h => by rw [hpp] at h; exact idxI_at hkl hno.out h
      have HTk : Hid ((l.take (k + 1)).any f = f p1) := by
        show _ = _
        rw [List.take_succ_eq_append_getElem hkl, List.any_append, hno.out, ← hpp]; simp
      obtain ⟨b, off, rfl, r1, r2⟩ := HA.out k _ hp
      have c0 := (hb.out.cell (p := ⟨b, _, none⟩) r1).trans r2
      have HC := hid (HF.out wr p1 HM.out hb.out)
      clear hp hpp r2
      cases hq : f p1 with
      | true =>
        have HQ := hid hq; clear hq
        have hcall := HC.out
        rw [HQ.out] at hcall
        have HC' := hid hcall
        clear hcall HC
        go_wp2_with (go_at_fn g; refine HC'.out.mono ?_; rintro e w2 ⟨rfl, hb2⟩)
        go_ret
        refine ⟨_, rfl, hb.out.trans (hb2.mono hb.out.size), ?_, HIX.out HQ.out⟩
        have h1 : l.any f = true := List.any_eq_true.2 ⟨_, HM.out, HQ.out⟩
        rw [h1]; exact decide_eq_true (by omega)
      | false =>
        have HQ := hid hq; clear hq
        have hcall := HC.out
        rw [HQ.out] at hcall
        have HC' := hid hcall
        clear hcall HC
        go_wp2_with (go_at_fn g; refine HC'.out.mono ?_; rintro e w2 ⟨rfl, hb2⟩)
        exact ⟨⟨k + 1, by omega, by go_num, hb.out.trans (hb2.mono hb.out.size), HTk.out.trans HQ.out⟩, by simp [intOf]; omega⟩
    · obtain rfl : k = l.length := by omega
      have hd : decide ((l.length : Int) < (l.length : Int)) = false := decide_eq_false (by omega)
      rw [List.take_length] at hno
      go_wp2_with fail
      go_ret
      exact ⟨_, rfl, hb.out, by rw [hno.out]; rfl, by unfold idxI; rw [hno.out]; rfl⟩
set_option maxRecDepth 100000 in
theorem c_containsFN (g : Nat) (fst cap : Array Value) (eg : ∀ args w, (callFunc g args).run Try.prog w = .ok (.enter g args) w) (f : Int → Bool) (A : Option Addr) (cc : Nat) (l : List Int) (hlen : l.length ≤ 1048576) (w : World) (hA : SlI w A l) (hf : TellsI g fst cap f l w) :
    Calls Try.prog 101 #[.slice A l.length cc, .func (.func g) fst cap] w fun e w' => e = .returned (.bool (l.any f)) ∧ Below w.heap.size w w' := by
  have HC := hid (c_indexFN g fst cap eg f A cc l hlen w hA hf); clear hA hf
  go_enter Try.func101, Try.ntmps101
  go_wp2_with (go_at_call 119; refine HC.out.mono ?_; rintro e w1 ⟨n, rfl, hb1, hn, he⟩; have HN := hid hn; clear hn he)
  all_goals
    go_ret
    exact ⟨ret_bool HN.out, hb1⟩
set_option maxRecDepth 100000 in
theorem c_areAllCloN (g : Nat) (fst cap : Array Value) (eg : ∀ args w, (callFunc g args).run Try.prog w = .ok (.enter g args) w) (f : Int → Bool) (l : List Int) (p : Int) (hp : p ∈ l) (bx : Nat) (w : World) (hb : w.heap[bx]? = some (.cells #[.func (.func g) fst cap] 103 (0, 0))) (hf : TellsI g fst cap f l w) :
    Calls Try.prog 102 #[.int .i64 p, .pointer (some ⟨bx, 0, none⟩)] w fun e w' => e = .returned (.bool (!f p)) ∧ Below w.heap.size w w' := by
  have k0 : w.cell? ⟨bx, 0, none⟩ = some (.func (.func g) fst cap) := cell_block hb rfl
  have HC := hid (hf w p hp (Below.refl _ w))
  clear hb hf hp
  go_enter Try.func102, Try.ntmps102
  go_wp2_with (go_at_fn g; refine HC.out.mono ?_; rintro e w2 ⟨rfl, hb2⟩)
  go_ret
  exact ⟨rfl, hb2⟩
set_option maxRecDepth 100000 in
theorem c_areAllN (g : Nat) (fst cap : Array Value) (eg : ∀ args w, (callFunc g args).run Try.prog w = .ok (.enter g args) w) (f : Int → Bool) (A : Option Addr) (cc : Nat) (l : List Int) (hlen : l.length ≤ 1048576) (w : World) (hA : SlI w A l) (hf : TellsI g fst cap f l w) :
    Calls Try.prog 82 #[.slice A l.length cc, .func (.func g) fst cap] w fun e w' => e = .returned (.bool (l.all f)) ∧ Below w.heap.size w w' := by
  have B0 : Below w.heap.size w (w.alloc (.cells #[.func (.func g) fst cap] 103)) := (Below.refl _ w).alloc (Nat.le_refl _) _
  have HX := hid (block_new1 w (.cells #[.func (.func g) fst cap] 103) rfl)
  have HT : Hid (TellsI 102 #[] #[.pointer (some ⟨w.heap.size, 0, none⟩)] (fun p => !f p) l (w.alloc (.cells #[.func (.func g) fst cap] 103))) := by
    intro W p hp hb
    refine c_areAllCloN g fst cap eg f l p hp _ W (block_below hb HX.out (by simp)) ?_
    intro W2 q hq hb2
    exact hf W2 q hq (B0.trans (hb.trans (hb2.mono hb.size) |>.mono (by simp)))
  have HC := hid (c_containsFN 102 #[] _ (enters_of Try.func102 (by kernel_rfl) rfl) _ A cc l hlen _ (hA.below B0 (Nat.le_refl _)) HT.out)
  clear hA hf HT
  go_enter Try.func82, Try.ntmps82
  go_wp2_with (go_at_call 101; ((with_reducible refine HC.out.mono ?_); rintro e w1 ⟨rfl, hb1⟩))
  go_ret
  refine ⟨ret_bool ?_, B0.trans (hb1.mono (by simp))⟩
  rw [List.all_eq_not_any_not]
end Go.Proofs.Ytfbgldkdlmipoaa

/- Slices of places: copied out of the law's arguments, marked, their sizes asked. -/
namespace Go.Proofs.Ytfbgldkdlmipoaa
open Go.RowKit
set_option linter.unusedSimpArgs false
set_option linter.unusedVariables false

theorem OwP.pairs {lo hi : Nat} {w : World} {A : Option Addr} {n c : Nat} {l : List (Int × Int)} (h : OwP lo hi w (.slice A n c) l) : PairsAt .i8 .i8 w A l := fun j p hj => by
  obtain ⟨b, c', e, _, _, h1, h2, h3⟩ := h.cells hj
  obtain ⟨rfl, _, _⟩ : A = some ⟨b, 0, none⟩ ∧ n = l.length ∧ c = c' := by simpa using e
  exact ⟨b, 0, rfl, h1, by rw [Nat.zero_add]; exact h2, by rw [Nat.zero_add]; exact h3⟩
theorem OwQ.pairs {lo hi : Nat} {w : World} {A : Option Addr} {n c : Nat} {l : List (Int × Int)} (h : OwQ lo hi w (.slice A n c) l) : PairsAt .i8 .i8 w A l := h.1.pairs
theorem OwQ.lo {lo lo' hi : Nat} {w : World} {v : Value} {l : List (Int × Int)} (h : OwQ lo hi w v l) (hl : lo' ≤ lo) : OwQ lo' hi w v l := by
  obtain ⟨⟨A, c, rfl, h⟩, h2, h3⟩ := h
  exact ⟨⟨A, c, rfl, fun hl => by obtain ⟨b, cs, h1, h2, h3, h4⟩ := h hl; exact ⟨b, cs, h1, by omega, by omega, h4⟩⟩, by omega, h3⟩
theorem OwQ.outS {lo hi lo' hi' : Nat} {w w' : World} {v : Value} {l : List (Int × Int)} (h : OwQ lo hi w v l) (hO : OutS lo' hi' w w') (hd : hi ≤ lo' ∨ hi' ≤ lo) : OwQ lo hi w' v l := by
  obtain ⟨⟨A, c, rfl, h⟩, h2, h3⟩ := h
  refine ⟨⟨A, c, rfl, fun hl => ?_⟩, h2, Nat.le_trans h3 hO.size⟩
  obtain ⟨b, cs, r1, r2, r3, r4, r5⟩ := h hl
  exact ⟨b, cs, r1, r2, r3, hO.keep r4 (by omega), r5⟩
theorem OwP.hi {lo hi lo' hi' : Nat} {w : World} {v : Value} {l : List (Int × Int)} (h : OwP lo hi w v l) (hl : lo' ≤ lo) (hh : hi ≤ hi') : OwP lo' hi' w v l := by
  obtain ⟨A, c, rfl, h⟩ := h
  exact ⟨A, c, rfl, fun hl => by obtain ⟨b, cs, h1, h2, h3, h4⟩ := h hl; exact ⟨b, cs, h1, by omega, by omega, h4⟩⟩
/-- The first k pairs of a list, zeros behind. -/
def padQ (l : List (Int × Int)) (k : Nat) : List (Int × Int) := l.take k ++ List.replicate (l.length - k) (0, 0)
theorem padQ_len (l : List (Int × Int)) (k : Nat) (hk : k ≤ l.length) : (padQ l k).length = l.length := by simp [padQ]; omega
theorem padQ_zero (l : List (Int × Int)) : padQ l 0 = List.replicate l.length (0, 0) := by simp [padQ]
theorem padQ_all (l : List (Int × Int)) : padQ l l.length = l := by simp [padQ]
theorem padQ_step (l : List (Int × Int)) (k : Nat) (hk : k < l.length) (p : Int × Int) (hp : p = l[k]) : (padQ l k).set k (p.1, p.2) = padQ l (k + 1) := by
  apply List.ext_getElem?
  intro j
  unfold padQ
  have e : l.length - k = (l.length - (k + 1)) + 1 := by omega
  have h1 : (l.take k).length = k := by simp; omega
  have h2 : (l.take k ++ List.replicate (l.length - k) ((0, 0) : Int × Int)).set k (p.1, p.2) = l.take k ++ (List.replicate (l.length - k) ((0, 0) : Int × Int)).set 0 (p.1, p.2) := by
    rw [List.set_append_right _ _ (by omega)]; rw [h1, Nat.sub_self]
  rw [h2, e, List.replicate_succ, List.set_cons_zero, List.take_succ_eq_append_getElem hk, List.append_assoc, ← hp]
  rfl
theorem owQ_free {lo hi : Nat} {w : World} {b n c : Nat} {l : List (Int × Int)} (h : OwP lo hi w (.slice (some ⟨b, 0, none⟩) n c) l) {k : Nat} (hk : k < l.length) :
    (∃ v, w.cell? ⟨b, k * 2, none⟩ = some v) ∧ (∃ v, w.cell? ⟨b, k * 2 + 1, none⟩ = some v) ∧ w.frozen? ⟨b, k * 2, none⟩ = false ∧ w.frozen? ⟨b, k * 2 + 1, none⟩ = false ∧ lo ≤ b := by
  have hne : l ≠ [] := by rintro rfl; simp at hk
  obtain ⟨b', c', e, h1, h2, h3, h4, h5⟩ := h.cells (List.getElem?_eq_getElem hk)
  obtain ⟨A, c2, e2, h⟩ := h
  obtain ⟨b2, cs, rfl, q2, q3, q4, _⟩ := h hne
  obtain ⟨rfl, _⟩ : b = b' ∧ n = l.length ∧ c = c' := by simpa using e
  obtain ⟨rfl, _⟩ : b = b2 ∧ n = l.length ∧ c = c2 := by simpa using e2
  exact ⟨⟨_, h4⟩, ⟨_, h5⟩, frozen_of_row _ _ _ _ _ q4, frozen_of_row _ _ _ _ _ q4, q2⟩
theorem made_twoQ (x : Value) (m : Nat) : (madeCells #[x, x] m).toList = List.replicate m x := by
  apply List.ext_getElem
  · simp [madeCells]
  · intro j h1 h2
    have h3 : j % 2 = 0 ∨ j % 2 = 1 := by omega
    rcases h3 with h3 | h3 <;> simp [madeCells, h3]
theorem pcells_rep (n : Nat) : pcells (List.replicate n (0, 0)) = List.replicate (n * 2) (.int .i8 0) := by
  induction n with
  | zero => rfl
  | succ n ih =>
    rw [List.replicate_succ', pcells_snoc, ih, show (n + 1) * 2 = n * 2 + 1 + 1 by omega, List.replicate_succ', List.replicate_succ', List.append_assoc]
    rfl
theorem made_Q (n : Nat) {w : World} {base cap : Nat} {A : Option Addr} (h : w.ownsRow base 50 2 (.slice A n cap) n (madeCells (Value.agg #[.int .i8 0, .int .i8 0]).cells (n * 2)).toList) : OwP base w.heap.size w (.slice A n cap) (List.replicate n (0, 0)) := by
  have e : (madeCells (Value.agg #[.int .i8 0, .int .i8 0]).cells (n * 2)).toList = pcells (List.replicate n (0, 0)) := by
    rw [pcells_rep]
    exact made_twoQ (.int .i8 0) (n * 2)
  rw [e] at h
  have h2 : w.ownsRow base 50 2 (.slice A n cap) (List.replicate n ((0, 0) : Int × Int)).length (pcells (List.replicate n (0, 0))) := by rw [List.length_replicate]; exact h
  exact OwP.of_owns h2
theorem Try.infoToPlace : (Try.prog.info? 50).map (fun i => (i.zero, i.size, i.bytes)) = some (some (.agg #[.int .i8 0, .int .i8 0]), 2, 2) := by kernel_rfl
theorem toPlace_parts : ∃ i, Try.prog.info? 50 = some i ∧ i.zero = some (.agg #[.int .i8 0, .int .i8 0]) ∧ i.size = 2 ∧ i.bytes = 2 := by
  have h := Try.infoToPlace
  cases hi : Try.prog.info? 50 with
  | none => rw [hi] at h; cases h
  | some i => rw [hi] at h; simp at h; exact ⟨i, rfl, h.1, h.2.1, h.2.2⟩
set_option maxHeartbeats 800000 in
set_option maxRecDepth 100000 in
theorem c_toPlaceS (A : Option Addr) (c : Nat) (l : List (Int × Int)) (hlen : l.length ≤ 1048576) (w : World) (hA : PairsAt .i8 .i8 w A l) :
    Calls Try.prog 11 #[.slice A l.length c] w fun e w' => ∃ (A' : Option Addr) (c' : Nat), e = .returned (.slice A' l.length c') ∧ Below w.heap.size w w' ∧ OwQ w.heap.size w'.heap.size w' (.slice A' l.length c') l := by
  obtain ⟨i0, hi, hz0, hz1, hz2⟩ := toPlace_parts
  have HA := hid hA; clear hA
  go_enter Try.func11, Try.ntmps11
  go_wp2_with ((with_reducible refine gate (N := 7) rfl ?_); refine wpList_make_full _ rfl (.tmp 6) (.tmp 6) 33 rfl w.heap.size 50 i0 (.agg #[.int .i8 0, .int .i8 0]) 2 Try.underlying33 hi hz0 hz1 .i64 .i64 (l.length : Int) (l.length : Int) l.length rfl rfl rfl rfl (by rw [hz2]; omega) (Nat.le_trans hlen (by decide)) (Nat.le_refl _) ?_; intro w1 hown hgrow)
  have HB1 : Hid (Below w.heap.size w w1) := (Below.refl _ w).grown hgrow (Nat.le_refl _) (fun k hk => by cases hk)
  have HO1 : Hid (OwP w.heap.size w1.heap.size w1 (.slice (some ⟨w.heap.size, 0, none⟩) l.length l.length) (padQ l 0)) := by
    rw [padQ_zero]
    have := made_Q l.length hown
    simpa [Hid] using this
  have hS1 : Hid (w.heap.size ≤ w1.heap.size) := HB1.out.size
  clear hown hgrow
  go_loopw [4] (fun i wr => ∃ k : Nat, k ≤ l.length ∧ i = .int .i64 k ∧ Hid (Below w.heap.size w wr) ∧ Hid (w1.heap.size ≤ wr.heap.size) ∧ Hid (OwP w.heap.size w1.heap.size wr (.slice (some ⟨w.heap.size, 0, none⟩) l.length l.length) (padQ l k))) (fun i _ => l.length - (intOf i).toNat)
  case atStart => exact ⟨0, by omega, rfl, HB1, Nat.le_refl _, HO1⟩
  case round =>
    obtain ⟨k, hk, rfl, hb, hS, hO⟩ := hrel
    by_cases hkl : k < l.length
    · have hd : decide ((k : Int) < (l.length : Int)) = true := decide_eq_true (by omega)
      have hkI : (k : Int) < (l.length : Int) := by omega
      have hk0 : (0 : Int) ≤ (k : Int) := by omega
      have hp := List.getElem?_eq_getElem hkl
      obtain ⟨⟨p1, p2⟩, hpp⟩ : ∃ p, p = l[k] := ⟨_, rfl⟩
      rw [← hpp] at hp
      have HST : Hid ((padQ l k).set k (p1, p2) = padQ l (k + 1)) := padQ_step l k hkl _ hpp
      have HL := hid (padQ_len l k hk)
      obtain ⟨b, off, rfl, r1, r2, r3⟩ := HA.out k _ hp
      dsimp only at r2 r3
      have c0 := (hb.out.cell (p := ⟨b, _, none⟩) r1).trans r2
      have c1 := (hb.out.cell (p := ⟨b, _, none⟩) r1).trans r3
      clear hp hpp r2 r3
      go_wp2_with (go_at_call 27; refine (c_toPlace p1 p2 _).mono ?_; rintro e w2 ⟨rfl, hb2⟩; have O2 := hid (hO.out.below hb2 hS.out); have hb := hid (hb.out.trans (hb2.mono hb.out.size)); have hS := hid (Nat.le_trans hS.out hb2.size); clear hb2; obtain ⟨⟨v0, m0⟩, ⟨v1, m1⟩, m2, m3, m4⟩ := owQ_free O2.out (k := k) (by rw [HL.out]; exact hkl))
      refine ⟨⟨k + 1, by omega, by go_num, Below.setCell (Below.setCell hb.out (p := ⟨w.heap.size, k * 2, none⟩) (Nat.le_refl _) _) (p := ⟨w.heap.size, k * 2 + 1, none⟩) (Nat.le_refl _) _, ?_, ?_⟩, by simp [intOf]; omega⟩
      · have := hS.out; simpa [Hid] using this
      · have h1 := O2.out
        rw [← HL.out] at h1
        have h2 := OwP.put h1 (by rw [HL.out]; exact hkl) p1 p2
        rw [HST.out, HL.out] at h2
        exact h2
    · obtain rfl : k = l.length := by omega
      have hd : decide ((l.length : Int) < (l.length : Int)) = false := decide_eq_false (by omega)
      rw [padQ_all] at hO
      go_wp2_with fail
      go_ret
      exact ⟨_, _, rfl, hb.out, ⟨hO.out.hi (Nat.le_refl _) hS.out, hb.out.size, Nat.le_refl _⟩⟩
set_option maxRecDepth 100000 in
theorem c_szPlaceS (A : Option Addr) (c : Nat) (n : Nat) (hn : n ≤ 9223372036854775807) (m : Int) (hm : 0 ≤ m ∧ m ≤ 1048576) (w : World) :
    Calls Try.prog 8 #[.slice A n c, .int .i64 m] w fun e w' => e = .returned (.int .i64 (if (n : Int) ≤ m then (m - n : Int) else -1)) ∧ w = w' := by
  by_cases h : (n : Int) ≤ m
  · have h1 : ¬ ((m : Int) - n < 0) := by omega
    have hd : decide ((m : Int) - n < 0) = false := decide_eq_false h1
    rw [if_pos h]
    go_enter Try.func8, Try.ntmps8
    go_wp2_with fail
    go_ret
    exact ⟨rfl, rfl⟩
  · have h1 : ((m : Int) - n < 0) := by omega
    have hd : decide ((m : Int) - n < 0) = true := decide_eq_true h1
    rw [if_neg h]
    go_enter Try.func8, Try.ntmps8
    go_wp2_with fail
    go_ret
    exact ⟨rfl, rfl⟩
theorem e_PlaceS {lo hi lo' hi' : Nat} {v v' : Value} {l : List (Int × Int)} (hlen : l.length ≤ 1048576) {w : World} (h : OwQ lo hi w v l) (h' : OwQ lo' hi' w v' l) :
    Calls Try.prog 13 #[v, v'] w fun e w' => e = .returned (.bool true) ∧ Below w.heap.size w w' :=
  c_eqPlaceS lo hi lo' hi' v v' l (Nat.le_trans hlen (by decide)) w h.1 h'.1 h.2.2 h'.2.2
set_option maxRecDepth 100000 in
theorem m_PlaceS {lo hi : Nat} {v : Value} {l : List (Int × Int)} {m : Int} (hm : 0 ≤ m ∧ m ≤ 1000000000) (hlen : l.length ≤ 1048576) {w : World} (h : OwQ lo hi w v l) :
    Calls Try.prog 18 #[v, .int .i64 m] w fun e w' => e = .returned (.int .i64 (m + 2 * l.length)) ∧ Below lo w w' ∧ OutS lo hi w w' ∧ OwQ lo hi w' v (mkL l m l.length) := by
  have h2 := h.2
  have h0 := h.1
  obtain ⟨⟨A, c, rfl, _⟩, _, _⟩ := h
  go_enter Try.func18, Try.ntmps18
  go_wp2_with fail
  go_loopw [1, 5] (fun q i wr => ∃ k : Nat, k ≤ l.length ∧ i = .int .i64 k ∧ q = .int .i64 (m + 2 * k) ∧ Hid (Below lo w wr) ∧ Hid (OutS lo hi w wr) ∧ Hid (OwP lo hi wr (.slice A l.length c) (mkL l m k))) (fun _ i _ => l.length - (intOf i).toNat)
  case atStart => exact ⟨0, by omega, rfl, by simp, Below.refl _ _, OutS.refl _ _ _, by rw [mkL_zero]; exact h0⟩
  case round =>
    obtain ⟨k, hk, rfl, rfl, hb, hOut, hO⟩ := hrel
    by_cases hkl : k < l.length
    · have hd : decide ((k : Int) < (l.length : Int)) = true := decide_eq_true (by omega)
      have hkl' : k < (mkL l m k).length := by rw [mkL_len]; exact hkl
      have hp := List.getElem?_eq_getElem hkl'
      obtain ⟨⟨p1, p2⟩, hpp⟩ : ∃ p, p = (mkL l m k)[k] := ⟨_, rfl⟩
      rw [← hpp] at hp
      obtain ⟨b, c1, e1, r1, r9, q1, q2, q3⟩ := hO.out.cells hp
      obtain ⟨rfl, _, rfl⟩ : A = some ⟨b, 0, none⟩ ∧ l.length = (mkL l m k).length ∧ c = c1 := by simpa using e1
      have HP : Hid (OwP lo hi ((wr.setCell ⟨b, k * 2, none⟩ (.int .i8 (IntKind.i8.wrap (m + 2 * k)))).setCell ⟨b, k * 2 + 1, none⟩ (.int .i8 (IntKind.i8.wrap (m + 2 * k + 1)))) (.slice (some ⟨b, 0, none⟩) l.length c) (mkL l m (k + 1))) := by
        have := hO.out
        rw [← mkL_len l m k] at this
        have := OwP.put this hkl' (IntKind.i8.wrap (m + 2 * k)) (IntKind.i8.wrap (m + 2 * k + 1))
        rw [mkL_step l m k hkl, mkL_len] at this
        exact this
      have f2 : wr.frozen? ⟨b, k * 2, none⟩ = false := by
        obtain ⟨A', c', e', h'⟩ := hO.out
        obtain ⟨b', cs, rfl, _, _, h4, _⟩ := h' (by intro e; rw [e] at hkl'; simp at hkl')
        obtain rfl : b = b' := by simpa using (Value.slice.inj e').1
        exact frozen_of_row _ _ _ _ _ h4
      have f3 : wr.frozen? ⟨b, k * 2 + 1, none⟩ = false := by
        obtain ⟨A', c', e', h'⟩ := hO.out
        obtain ⟨b', cs, rfl, _, _, h4, _⟩ := h' (by intro e; rw [e] at hkl'; simp at hkl')
        obtain rfl : b = b' := by simpa using (Value.slice.inj e').1
        exact frozen_of_row _ _ _ _ _ h4
      clear hp hpp e1 h0 hkl'
      go_wp2_with fail
      exact ⟨⟨k + 1, by omega, by go_num, congrArg (Value.int .i64) (by omega), Below.setCell (Below.setCell hb.out (p := ⟨b, k * 2, none⟩) r1 _) (p := ⟨b, k * 2 + 1, none⟩) r1 _, OutS.setCell (OutS.setCell hOut.out (a := ⟨b, k * 2, none⟩) _ r1 r9) (a := ⟨b, k * 2 + 1, none⟩) _ r1 r9, HP.out⟩, by simp [intOf]; omega⟩
    · obtain rfl : k = l.length := by omega
      have hd : decide ((l.length : Int) < (l.length : Int)) = false := decide_eq_false (by omega)
      go_wp2_with fail
      go_ret
      exact ⟨rfl, hb.out, hOut.out, hO.out, h2.1, Nat.le_trans h2.2 hOut.out.size⟩
set_option maxRecDepth 100000 in
theorem h_PlaceS {lo hi : Nat} {v : Value} {l : List (Int × Int)} {m : Int} (hm : 0 ≤ m ∧ m ≤ 1000000000) (hlen : l.length ≤ 1048576) {w : World} (h : OwQ lo hi w v (mkL l m l.length)) :
    Calls Try.prog 19 #[v, .int .i64 m] w fun e w' => e = .returned (.int .i64 (m + 2 * l.length)) ∧ Below w.heap.size w w' := by
  have h0 := hid h.1
  obtain ⟨⟨A, c, rfl, _⟩, _, _⟩ := h
  rw [mkL_len] at h0 ⊢
  go_enter Try.func19, Try.ntmps19
  go_wp2_with fail
  go_loop [1, 5] (fun q i => ∃ k : Nat, k ≤ l.length ∧ i = .int .i64 k ∧ q = .int .i64 (m + 2 * k)) (fun _ i => l.length - (intOf i).toNat)
  case atStart => exact ⟨0, by omega, rfl, by simp⟩
  case round =>
    obtain ⟨k, hk, rfl, rfl⟩ := hrel
    by_cases hkl : k < l.length
    · have hd : decide ((k : Int) < (l.length : Int)) = true := decide_eq_true (by omega)
      have hp : (mkL l m l.length)[k]? = some (IntKind.i8.wrap (m + 2 * k), IntKind.i8.wrap (m + 2 * k + 1)) := by rw [mkL_get, if_pos hkl, if_pos hkl]
      obtain ⟨b, c1, e1, r1, _, q1, q2, q3⟩ := h0.out.cells hp
      obtain ⟨rfl, _⟩ : A = some ⟨b, 0, none⟩ ∧ c = c1 := by simpa [mkL_len] using e1
      dsimp only at q2 q3
      clear hp e1
      go_wp2_with fail
      exact ⟨⟨k + 1, by omega, by go_num, congrArg (Value.int .i64) (by omega)⟩, by simp [intOf]; omega⟩
    · obtain rfl : k = l.length := by omega
      have hd : decide ((l.length : Int) < (l.length : Int)) = false := decide_eq_false (by omega)
      go_wp2_with fail
      go_ret
      exact ⟨rfl, Below.refl _ _⟩
end Go.Proofs.Ytfbgldkdlmipoaa

/- areAll over places, at a function value. -/
namespace Go.Proofs.Ytfbgldkdlmipoaa
open Go.RowKit
set_option linter.unusedSimpArgs false
set_option linter.unusedVariables false

/-- A function value that tells of the places of a list, in all worlds above a world. -/
def TellsP (g : Nat) (fst cap : Array Value) (f : Int × Int → Bool) (l : List (Int × Int)) (w : World) : Prop :=
  ∀ (W : World) (p : Int × Int), p ∈ l → Below w.heap.size w W → Calls Try.prog g (fst ++ #[.agg #[.int .i8 p.1, .int .i8 p.2]] ++ cap) W fun e w' => e = .returned (.bool (f p)) ∧ Below W.heap.size W w'
/-- The first one's index of which f says yes, or -1. -/
def idxP (f : Int × Int → Bool) (l : List (Int × Int)) : Int := if l.any f = true then (l.findIdx f : Int) else -1
theorem idxP_at {f : Int × Int → Bool} {l : List (Int × Int)} {k : Nat} (hk : k < l.length) (h : (l.take k).any f = false) (hf : f l[k] = true) : (k : Int) = idxP f l := by
  have h1 : l.any f = true := List.any_eq_true.2 ⟨_, List.getElem_mem hk, hf⟩
  unfold idxP
  rw [if_pos h1]
  have e : l = l.take k ++ l.drop k := (List.take_append_drop k l).symm
  have h2 : (l.take k).findIdx f = k := by
    have h3 : (l.take k).findIdx f = (l.take k).length := List.findIdx_eq_length.2 fun x hx => by
      have := List.any_eq_false.1 h x hx
      simpa using this
    rw [h3, List.length_take]; omega
  have h4 : (l.drop k).findIdx f = 0 := by
    rw [List.drop_eq_getElem_cons hk, List.findIdx_cons, hf]; rfl
  rw [e, List.findIdx_append, h2, h4, List.length_take, if_neg (by omega)]
  omega
set_option maxRecDepth 100000 in
theorem c_indexFP (g : Nat) (fst cap : Array Value) (eg : ∀ args w, (callFunc g args).run Try.prog w = .ok (.enter g args) w) (f : Int × Int → Bool) (A : Option Addr) (cc : Nat) (l : List (Int × Int)) (hlen : l.length ≤ 1048576) (w : World) (hA : PairsAt .i8 .i8 w A l) (hf : TellsP g fst cap f l w) :
    Calls Try.prog 40 #[.slice A l.length cc, .func (.func g) fst cap] w fun e w' => ∃ n : Int, e = .returned (.int .i64 n) ∧ Below w.heap.size w w' ∧ decide (n ≥ 0) = l.any f ∧ n = idxP f l := by
  have HA := hid hA; clear hA
  have HF := hid hf; clear hf
  go_enter Try.func40, Try.ntmps40
  go_wp2_with fail
  go_loopw [8] (fun i wr => ∃ k : Nat, k ≤ l.length ∧ i = .int .i64 k ∧ Hid (Below w.heap.size w wr) ∧ Hid ((l.take k).any f = false)) (fun i _ => l.length - (intOf i).toNat)
  case atStart => exact ⟨0, by omega, rfl, Below.refl _ _, by simp [Hid]⟩
  case round =>
    obtain ⟨k, hk, rfl, hb, hno⟩ := hrel
    by_cases hkl : k < l.length
    · have hd : decide ((k : Int) < (l.length : Int)) = true := decide_eq_true (by omega)
      have hkI : (k : Int) < (l.length : Int) := by omega
      have hk0 : (0 : Int) ≤ (k : Int) := by omega
      have hp := List.getElem?_eq_getElem hkl
      obtain ⟨⟨p1, p2⟩, hpp⟩ : ∃ p, p = l[k] := ⟨_, rfl⟩
      rw [← hpp] at hp
      have HM : Hid ((p1, p2) ∈ l) := by rw [hpp]; exact List.getElem_mem hkl
      have HIX : Hid (f (p1, p2) = true → (k : Int) = idxP f l) := fun h => by rw [hpp] at h; exact idxP_at hkl hno.out h
      have HTk : Hid ((l.take (k + 1)).any f = f (p1, p2)) := by
        show _ = _
        rw [List.take_succ_eq_append_getElem hkl, List.any_append, hno.out, ← hpp]; simp
      obtain ⟨b, off, rfl, r1, r2, r3⟩ := HA.out k _ hp
      have c0 := (hb.out.cell (p := ⟨b, _, none⟩) r1).trans r2
      have c1 := (hb.out.cell (p := ⟨b, _, none⟩) r1).trans r3
      dsimp only at c0 c1
      have HC := hid (HF.out wr (p1, p2) HM.out hb.out)
      clear hp hpp r2 r3
      cases hq : f (p1, p2) with
      | true =>
        have HQ := hid hq; clear hq
        have hcall := HC.out
        rw [HQ.out] at hcall
        have HC' := hid hcall
        clear hcall HC
        go_wp2_with (go_at_fn g; refine HC'.out.mono ?_; rintro e w2 ⟨rfl, hb2⟩)
        go_ret
        refine ⟨_, rfl, hb.out.trans (hb2.mono hb.out.size), ?_, HIX.out HQ.out⟩
        have h1 : l.any f = true := List.any_eq_true.2 ⟨_, HM.out, HQ.out⟩
        rw [h1]; exact decide_eq_true (by omega)
      | false =>
        have HQ := hid hq; clear hq
        have hcall := HC.out
        rw [HQ.out] at hcall
        have HC' := hid hcall
        clear hcall HC
        go_wp2_with (go_at_fn g; refine HC'.out.mono ?_; rintro e w2 ⟨rfl, hb2⟩)
        exact ⟨⟨k + 1, by omega, by go_num, hb.out.trans (hb2.mono hb.out.size), HTk.out.trans HQ.out⟩, by simp [intOf]; omega⟩
    · obtain rfl : k = l.length := by omega
      have hd : decide ((l.length : Int) < (l.length : Int)) = false := decide_eq_false (by omega)
      rw [List.take_length] at hno
      go_wp2_with fail
      go_ret
      exact ⟨_, rfl, hb.out, by rw [hno.out]; rfl, by unfold idxP; rw [hno.out]; rfl⟩
set_option maxRecDepth 100000 in
theorem c_containsFP (g : Nat) (fst cap : Array Value) (eg : ∀ args w, (callFunc g args).run Try.prog w = .ok (.enter g args) w) (f : Int × Int → Bool) (A : Option Addr) (cc : Nat) (l : List (Int × Int)) (hlen : l.length ≤ 1048576) (w : World) (hA : PairsAt .i8 .i8 w A l) (hf : TellsP g fst cap f l w) :
    Calls Try.prog 29 #[.slice A l.length cc, .func (.func g) fst cap] w fun e w' => e = .returned (.bool (l.any f)) ∧ Below w.heap.size w w' := by
  have HC := hid (c_indexFP g fst cap eg f A cc l hlen w hA hf); clear hA hf
  go_enter Try.func29, Try.ntmps29
  go_wp2_with (go_at_call 40; refine HC.out.mono ?_; rintro e w1 ⟨n, rfl, hb1, hn, he⟩; have HN := hid hn; clear hn he)
  all_goals
    go_ret
    exact ⟨ret_bool HN.out, hb1⟩
set_option maxRecDepth 100000 in
theorem c_areAllCloP (g : Nat) (fst cap : Array Value) (eg : ∀ args w, (callFunc g args).run Try.prog w = .ok (.enter g args) w) (f : Int × Int → Bool) (l : List (Int × Int)) (p : Int × Int) (hp : p ∈ l) (bx : Nat) (w : World) (hb : w.heap[bx]? = some (.cells #[.func (.func g) fst cap] 57 (0, 0))) (hf : TellsP g fst cap f l w) :
    Calls Try.prog 84 #[.agg #[.int .i8 p.1, .int .i8 p.2], .pointer (some ⟨bx, 0, none⟩)] w fun e w' => e = .returned (.bool (!f p)) ∧ Below w.heap.size w w' := by
  obtain ⟨p1, p2⟩ := p
  have k0 : (w.alloc (.cells #[.int .i8 p1, .int .i8 p2] 50)).cell? ⟨bx, 0, none⟩ = some (.func (.func g) fst cap) := cell_block (block_alloc hb _) rfl
  have HC := hid (hf (w.alloc (.cells #[.int .i8 p1, .int .i8 p2] 50)) (p1, p2) hp ((Below.refl _ w).alloc (Nat.le_refl _) _))
  clear hb hf hp
  go_enter Try.func84, Try.ntmps84
  go_wp2_with (go_at_fn g; refine HC.out.mono ?_; rintro e w2 ⟨rfl, hb2⟩)
  go_ret
  exact ⟨rfl, ((Below.refl _ w).alloc (Nat.le_refl _) _).trans (hb2.mono (by simp))⟩
set_option maxRecDepth 100000 in
theorem c_areAllP (g : Nat) (fst cap : Array Value) (eg : ∀ args w, (callFunc g args).run Try.prog w = .ok (.enter g args) w) (f : Int × Int → Bool) (A : Option Addr) (cc : Nat) (l : List (Int × Int)) (hlen : l.length ≤ 1048576) (w : World) (hA : PairsAt .i8 .i8 w A l) (hf : TellsP g fst cap f l w) :
    Calls Try.prog 58 #[.slice A l.length cc, .func (.func g) fst cap] w fun e w' => e = .returned (.bool (l.all f)) ∧ Below w.heap.size w w' := by
  have B0 : Below w.heap.size w (w.alloc (.cells #[.func (.func g) fst cap] 57)) := (Below.refl _ w).alloc (Nat.le_refl _) _
  have HX := hid (block_new1 w (.cells #[.func (.func g) fst cap] 57) rfl)
  have HT : Hid (TellsP 84 #[] #[.pointer (some ⟨w.heap.size, 0, none⟩)] (fun p => !f p) l (w.alloc (.cells #[.func (.func g) fst cap] 57))) := by
    intro W p hp hb
    refine c_areAllCloP g fst cap eg f l p hp _ W (block_below hb HX.out (by simp)) ?_
    intro W2 q hq hb2
    exact hf W2 q hq (B0.trans (hb.trans (hb2.mono hb.size) |>.mono (by simp)))
  have HC := hid (c_containsFP 84 #[] _ (enters_of Try.func84 (by kernel_rfl) rfl) _ A cc l hlen _ (hA.below B0 (Nat.le_refl _)) HT.out)
  clear hA hf HT
  go_enter Try.func58, Try.ntmps58
  go_wp2_with (go_at_call 29; ((with_reducible refine HC.out.mono ?_); rintro e w1 ⟨rfl, hb1⟩))
  go_ret
  refine ⟨ret_bool ?_, B0.trans (hb1.mono (by simp))⟩
  rw [List.all_eq_not_any_not]
end Go.Proofs.Ytfbgldkdlmipoaa

/- A region that draws its order: quiet operations, then one call whose result is not foreknown, then quiet operations behind it. -/
namespace Go.Proofs.Ytfbgldkdlmipoaa
open Go.RowKit
set_option linter.unusedSimpArgs false
set_option linter.unusedVariables false

/-- Each operation ahead of number n is awaited, and each one behind it waits. -/
def wildB (l : List Oper) (n : Nat) : Bool :=
  ((List.range n).all fun i => (List.range (n + 1)).any fun j => decide (i < j) && (match l[j]? with | some o => o.after.toList.any fun e => Region.binds .any e && e.on == i | none => false)) &&
  (List.range l.length).all fun t => decide (t ≤ n) || (match l[t]? with | some o => o.after.toList.any fun e => Region.binds .any e && decide (n ≤ e.on) && decide (e.on < t) | none => true)
theorem wildB_pre {l : List Oper} {n : Nat} (h : wildB l n = true) (i : Nat) (hi : i < n) : ∃ j o, i < j ∧ j ≤ n ∧ l[j]? = some o ∧ ∃ e ∈ o.after, Region.binds .any e = true ∧ e.on = i := by
  unfold wildB at h
  rw [Bool.and_eq_true] at h
  have h1 := List.all_eq_true.1 h.1 i (List.mem_range.2 hi)
  obtain ⟨j, hj, h2⟩ := List.any_eq_true.1 h1
  rw [Bool.and_eq_true] at h2
  obtain ⟨h3, h4⟩ := h2
  cases hl : l[j]? with
  | none => rw [hl] at h4; cases h4
  | some o =>
    rw [hl] at h4
    obtain ⟨e, he, h5⟩ := List.any_eq_true.1 h4
    rw [Bool.and_eq_true] at h5
    exact ⟨j, o, by simpa using h3, by have := List.mem_range.1 hj; omega, hl, e, by simpa using he, h5.1, by simpa using h5.2⟩
theorem wildB_post {l : List Oper} {n : Nat} (h : wildB l n = true) (t : Nat) (o : Oper) (ho : l[t]? = some o) (ht : n < t) : ∃ e ∈ o.after, Region.binds .any e = true ∧ n ≤ e.on ∧ e.on < t := by
  unfold wildB at h
  rw [Bool.and_eq_true] at h
  have h1 := List.all_eq_true.1 h.2 t (List.mem_range.2 (List.getElem?_eq_some_iff.1 ho).1)
  rw [ho] at h1
  simp only [Bool.or_eq_true, decide_eq_true_eq] at h1
  rcases h1 with h1 | h1
  · omega
  · obtain ⟨e, he, h5⟩ := List.any_eq_true.1 h1
    simp only [Bool.and_eq_true, decide_eq_true_eq] at h5
    exact ⟨e, by simpa using he, h5.1.1, h5.1.2, h5.2⟩
theorem act_ext {a b : Act} (hs : a.tmps.size = b.tmps.size) (hd : a.defers = b.defers) (h : ∀ k, a.tmps.getD k undef = b.tmps.getD k undef) : a = b := by
  have ht : a.tmps = b.tmps := by
    apply Array.ext hs
    intro k hk1 hk2
    have := h k
    rwa [Array.getD_eq_getD_getElem?, Array.getD_eq_getD_getElem?, Array.getElem?_eq_getElem hk1, Array.getElem?_eq_getElem hk2] at this
  cases a; cases b; dsimp only at ht hd; subst ht hd; rfl
/-- What one walk in the text's order has shown of an operation: its value stands in the end; what it read stood there, or stands in the end. -/
theorem stepsS_key {P : Program} {ops : Array Oper} {C : World → Prop} {l : List Oper} {vs : List Value} {a aσ : Act} (hst : StepsS P ops C l vs a) (hfin : putsS l vs a = aσ) (hd1 : ∀ (i : Nat) (o : Oper) (d : Nat), l[i]? = some o → o.dst = some d → d < a.tmps.size)
    (hone : ∀ (i : Nat) (o : Oper) (j : Nat) (o' : Oper) (d : Nat), l[i]? = some o → l[j]? = some o' → i ≠ j → o.dst = some d → o'.dst ≠ some d) (i : Nat) (o : Oper) (ho : l[i]? = some o) :
    ∃ v ai, YieldsIn P ops C o v ai ∧ (∀ d, o.dst = some d → v = aσ.tmps.getD d undef) ∧ (∀ t : Nat, (∀ (j : Nat) (o' : Oper), l[j]? = some o' → o'.dst ≠ some t) → ai.tmps.getD t undef = a.tmps.getD t undef) ∧
      (∀ (t j : Nat) (o' : Oper), j < i → l[j]? = some o' → o'.dst = some t → ai.tmps.getD t undef = aσ.tmps.getD t undef) := by
  obtain ⟨v, ai, k1, k2, k3, k4⟩ := stepsS_at _ _ _ _ _ hst ho
  rw [hfin] at k2
  have hdrop : ∀ t : Nat, (∀ (j : Nat) (o' : Oper), i < j → l[j]? = some o' → o'.dst ≠ some t) → ∀ o' ∈ l.drop (i + 1), o'.dst ≠ some t := by
    intro t ht o' hm' hd
    obtain ⟨k, hk, rfl⟩ := List.getElem_of_mem hm'
    have hk2 := List.getElem?_eq_getElem hk
    rw [List.getElem?_drop] at hk2
    exact ht _ _ (by omega) hk2 hd
  refine ⟨v, ai, k1, ?_, ?_, ?_⟩
  · intro d hd
    rw [k2, putsS_other d _ _ _ (hdrop d fun j o' hj hl => hone i o j o' d ho hl (by omega) hd), hd, put_here _ _ _ (by rw [k3]; exact hd1 i o d ho hd)]
  · intro t ht
    exact k4 t fun j o' _ hl hd => ht j o' hl hd
  · intro t j o' hj hl hd
    have hne : ∀ (j' : Nat) (o'' : Oper), l[j']? = some o'' → j' ≠ j → o''.dst ≠ some t := fun j' o'' hl' hne => hone j o' j' o'' t hl hl' (Ne.symm hne) hd
    rw [k2, putsS_other t _ _ _ (hdrop t fun j' o'' hj' hl' => hne j' o'' hl' (by omega)), put_other _ _ _ _ (hne i o ho (by omega))]
set_option maxHeartbeats 1600000 in
theorem wp_region_wild {P : Program} {id : Nat} {Q : Exit → Act → World → Prop} {a0 : Act} {W : World} {l : List Oper} (B n : Nat) (aσ : Act) (oc : Oper) (f : FuncId) (args : Array Value) (R : Value → World → Prop)
    (hm : P.follows .mixedOrders = true) (hback : backB l = true) (hn : lawB l a0.tmps.size = true) (hw : wildB l n = true) (hoc : l[n]? = some oc) (hBW : B ≤ W.heap.size)
    (hpre : wpQuiet P l.toArray (fun w' => ∃ x : Ext B W, w' = x.out) (fun a' => a' = aσ) (l.take n) a0)
    (hent : ∀ w, (execOp aσ.eval oc).run P w = .ok (.enter f args) w)
    (hcall : ∀ x : Ext B W, Calls P f args x.out fun e w' => ∃ v, e = .returned v ∧ R v w')
    (hpost : ∀ v w1, R v w1 → wpQuiet P l.toArray (fun w' => w' = w1) (fun a' => Q .normal a' w1) (l.drop (n + 1)) (aσ.put oc.dst v)) :
    (Code.region id l.toArray true).wp P Q a0 W := by
  have hL := fun i o ho => lawB_of hn i o ho
  have hone : ∀ (i : Nat) (o : Oper) (j : Nat) (o' : Oper) (d : Nat), l[i]? = some o → l[j]? = some o' → i ≠ j → o.dst = some d → o'.dst ≠ some d := fun i o j o' d hi hj hne hd => (hL j o' hj).2.2.2.1 i o hi hne d hd
  have hnl : n < l.length := (List.getElem?_eq_some_iff.1 hoc).1
  have htake : ∀ (i : Nat) (o : Oper), (l.take n)[i]? = some o → l[i]? = some o ∧ i < n := fun i o h => by
    rw [List.getElem?_take] at h
    split at h
    · exact ⟨h, by assumption⟩
    · cases h
  have hdropg : ∀ (i : Nat) (o : Oper), (l.drop (n + 1))[i]? = some o → l[n + 1 + i]? = some o := fun i o h => by rw [List.getElem?_drop] at h; exact h
  obtain ⟨vs0, hst0, hfin0⟩ := stepsS_of _ _ hpre
  have hsize : aσ.tmps.size = a0.tmps.size := by rw [← hfin0, putsS_size]
  have hdef : aσ.defers = a0.defers := by rw [← hfin0, putsS_defers]
  have key0 := fun i o ho => stepsS_key hst0 hfin0 (fun i o d h hd => (hL i o (htake i o h).1).2.2.1 d hd) (fun i o j o' d h h' hne hd => hone i o j o' d (htake i o h).1 (htake j o' h').1 hne hd) i o ho
  have hout0 : ∀ t : Nat, (∀ (i : Nat) (o : Oper), i < n → l[i]? = some o → o.dst ≠ some t) → aσ.tmps.getD t undef = a0.tmps.getD t undef := by
    intro t ht
    rw [← hfin0, putsS_other]
    intro o' hm' hd
    obtain ⟨k, hk, rfl⟩ := List.getElem_of_mem hm'
    have hk2 := htake k _ (List.getElem?_eq_getElem hk)
    exact ht k _ hk2.2 hk2.1 hd
  -- what stands when the call has been made
  let Post : World → Act → Prop := fun w aτ => ∃ v vs, StepsS P l.toArray (fun w' => w' = w) (l.drop (n + 1)) vs (aσ.put oc.dst v) ∧ putsS (l.drop (n + 1)) vs (aσ.put oc.dst v) = aτ ∧ Q .normal aτ w ∧ ∀ d, oc.dst = some d → aτ.tmps.getD d undef = v
  have hPost : ∀ w aτ, Post w aτ → aτ.tmps.size = a0.tmps.size ∧ aτ.defers = a0.defers ∧ (∀ t : Nat, (∀ (i : Nat) (o : Oper), l[i]? = some o → o.dst ≠ some t) → aτ.tmps.getD t undef = a0.tmps.getD t undef) ∧
      (∀ (i : Nat) (o : Oper) (d : Nat), l[i]? = some o → i < n → o.dst = some d → aτ.tmps.getD d undef = aσ.tmps.getD d undef) := by
    rintro w aτ ⟨v, vs, h1, h2, _, _⟩
    have hoth : ∀ t : Nat, (∀ (i : Nat) (o : Oper), n < i → l[i]? = some o → o.dst ≠ some t) → aτ.tmps.getD t undef = (aσ.put oc.dst v).tmps.getD t undef := by
      intro t ht
      rw [← h2, putsS_other]
      intro o' hm' hd
      obtain ⟨k, hk, rfl⟩ := List.getElem_of_mem hm'
      exact ht _ _ (by omega) (hdropg k _ (List.getElem?_eq_getElem hk)) hd
    refine ⟨by rw [← h2, putsS_size, put_size, hsize], by rw [← h2, putsS_defers, put_defers', hdef], fun t ht => ?_, fun i o d hi hin hd => ?_⟩
    · rw [hoth t fun i o _ hi => ht i o hi, put_other _ _ _ _ (ht n oc hoc), hout0 t fun i o _ hi => ht i o hi]
    · rw [hoth d fun j o' hj hj' => hone i o j o' d hi hj' (by omega) hd, put_other _ _ _ _ (hone i o n oc d hi hoc (by omega) hd)]
  have hpre_all : ∀ L : Nat → Bool, (∀ (j : Nat) (oj : Oper), l[j]? = some oj → L j = true → ∀ e ∈ oj.after, Region.binds .any e = true → L e.on = true) → (∀ e ∈ oc.after, Region.binds .any e = true → L e.on = true) → ∀ i, i < n → L i = true := by
    intro L hcl hcn
    have : ∀ d i, n - i = d → i < n → L i = true := by
      intro d
      induction d using Nat.strongRecOn with
      | _ d ih =>
        intro i hd hi
        obtain ⟨j, o, h1, h2, h3, e, he, hb, rfl⟩ := wildB_pre hw i hi
        by_cases hj : j = n
        · subst hj
          rw [hoc] at h3
          obtain rfl := Option.some.inj h3
          exact hcn e he hb
        · exact hcl j o h3 (ih (n - j) (by omega) j rfl (by omega)) e he hb
    exact fun i hi => this _ i rfl hi
  refine wp_region_inv hm hback (fun L a w => a.defers = a0.defers ∧ a.tmps.size = a0.tmps.size ∧ (∀ t : Nat, (∀ (i : Nat) (o : Oper), l[i]? = some o → o.dst ≠ some t) → a.tmps.getD t undef = a0.tmps.getD t undef) ∧
    (∀ (j : Nat) (oj : Oper), l[j]? = some oj → L j = true → ∀ e ∈ oj.after, Region.binds .any e = true → L e.on = true) ∧
    (L n = false → (∃ x : Ext B W, w = x.out) ∧ ∀ (i : Nat) (o : Oper) (d : Nat), l[i]? = some o → L i = true → o.dst = some d → a.tmps.getD d undef = aσ.tmps.getD d undef) ∧
    (L n = true → ∃ aτ, Post w aτ ∧ ∀ (i : Nat) (o : Oper) (d : Nat), l[i]? = some o → L i = true → o.dst = some d → a.tmps.getD d undef = aτ.tmps.getD d undef)) ?_ ?_ ?_
  · intro L hL0
    exact ⟨rfl, rfl, fun _ _ => rfl, fun j oj hj hLj => (by rw [hL0 j (List.getElem?_eq_some_iff.1 hj).1] at hLj; cases hLj), fun _ => ⟨⟨⟨_, (Below.refl B W).drew⟩, rfl⟩, fun i o d hi hLi => (by rw [hL0 i (List.getElem?_eq_some_iff.1 hi).1] at hLi; cases hLi)⟩, fun hLn => (by rw [hL0 n hnl] at hLn; cases hLn)⟩
  · intro L a w i o ho hLi hafter ⟨i1, i2, i3, i4, i5, i6⟩
    obtain ⟨hg, hns, hd1, hd2, heyes⟩ := hL i o ho
    rw [if_pos (by simp [Region.wanted, hg])]
    have hcl : ∀ (j : Nat) (oj : Oper), l[j]? = some oj → plus L i j = true → ∀ e ∈ oj.after, Region.binds .any e = true → plus L i e.on = true := by
      intro j oj hj hLj e he hb
      unfold plus at hLj ⊢
      by_cases hji : j = i
      · subst hji
        rw [ho] at hj
        obtain rfl := Option.some.inj hj
        split
        · rfl
        · exact hafter e he hb
      · rw [if_neg hji] at hLj
        split
        · rfl
        · exact i4 j oj hj hLj e he hb
    rcases Nat.lt_trichotomy i n with hin | hin | hin
    · -- ahead of the call
      have hLn : L n = false := by
        cases hc : L n with
        | false => rfl
        | true => have := hpre_all L i4 (fun e he hb => i4 n oc hoc hc e he hb) i hin; rw [this] at hLi; cases hLi
      obtain ⟨⟨x, hx⟩, i7⟩ := i5 hLn
      have ho' : (l.take n)[i]? = some o := by rw [List.getElem?_take, if_pos hin]; exact ho
      obtain ⟨v, ai, hY, hv, hno, hyes⟩ := key0 i o ho'
      have he : execOp a.eval o = execOp ai.eval o := by
        refine execOp_congr o (fun c b hc => by rw [notSelect, hc] at hns; cases hns) (eval_eyes fun t ht => ?_)
        by_cases hex : ∃ (j : Nat) (o' : Oper), l[j]? = some o' ∧ o'.dst = some t
        · obtain ⟨j, o', hj, hd⟩ := hex
          obtain ⟨hji, e, he, hb, hon⟩ := heyes t ht j o' hj hd
          have hLj : L j = true := hon ▸ hafter e he hb
          rw [hyes t j o' hji (by rw [List.getElem?_take, if_pos (by omega)]; exact hj) hd]
          exact i7 j o' t hj hLj hd
        · have hn' : ∀ (j : Nat) (o' : Oper), l[j]? = some o' → o'.dst ≠ some t := fun j o' hj hd => hex ⟨j, o', hj, hd⟩
          rw [i3 t hn', hno t fun j o' hj => hn' j o' (htake j o' hj).1]
      have hY' := hY.of_same he (by simp [Region.wanted, hg])
      rcases hY' with ⟨_, hq⟩ | ⟨hw0, _⟩
      · refine Oper.wp_of_quiet (C := fun w' => ∃ x : Ext B W, w' = x.out) (K := fun a' => a' = a.put o.dst v) ⟨x, hx⟩ ?_ ⟨v, hq, rfl⟩
        rintro a' w' ⟨z, rfl⟩ rfl
        refine ⟨(put_defers' _ _ _).trans i1, (put_size _ _ _).trans i2, fun t ht => ?_, hcl, fun _ => ⟨⟨z, rfl⟩, fun j o' d hj hLj hd => ?_⟩, fun hLp => ?_⟩
        · rw [put_other _ _ _ _ (ht i o ho)]; exact i3 t ht
        · by_cases hji : j = i
          · subst hji
            rw [ho] at hj
            obtain rfl := Option.some.inj hj
            rw [hd, put_here _ _ _ (by rw [i2]; exact hd1 d hd)]
            exact hv d hd
          · have hLj' : L j = true := by unfold plus at hLj; rwa [if_neg hji] at hLj
            rw [put_other _ _ _ _ (hd2 j o' hj hji d hd)]; exact i7 j o' d hj hLj' hd
        · unfold plus at hLp; rw [if_neg (by omega), hLn] at hLp; cases hLp
      · simp [Region.wanted, hg] at hw0
    · -- the call
      subst hin
      rw [hoc] at ho
      obtain rfl := Option.some.inj ho
      obtain ⟨⟨x, hx⟩, i7⟩ := i5 hLi
      have hall := hpre_all L i4 hafter
      have he : execOp a.eval oc = execOp aσ.eval oc := by
        refine execOp_congr oc (fun c b hc => by rw [notSelect, hc] at hns; cases hns) (eval_eyes fun t ht => ?_)
        by_cases hex : ∃ (j : Nat) (o' : Oper), l[j]? = some o' ∧ o'.dst = some t
        · obtain ⟨j, o', hj, hd⟩ := hex
          obtain ⟨hji, e, he, hb, hon⟩ := heyes t ht j o' hj hd
          exact i7 j o' t hj (hon ▸ hafter e he hb) hd
        · have hn' : ∀ (j : Nat) (o' : Oper), l[j]? = some o' → o'.dst ≠ some t := fun j o' hj hd => hex ⟨j, o', hj, hd⟩
          rw [i3 t hn', hout0 t fun j o' _ hj => hn' j o' hj]
      subst hx
      unfold Oper.wp
      rw [he, hent]
      simp only [Oper.upon]
      refine (hcall x).mono ?_
      rintro e w' ⟨v, rfl, hR⟩
      obtain ⟨vs, hst, hQ⟩ := stepsS_of _ _ (hpost v w' hR)
      have hdv : ∀ d, oc.dst = some d → (putsS (l.drop (i + 1)) vs (aσ.put oc.dst v)).tmps.getD d undef = v := by
        intro d hd
        rw [putsS_other, hd, put_here _ _ _ (by rw [hsize]; exact hd1 d hd)]
        intro o' hm' hd'
        obtain ⟨k, hk, rfl⟩ := List.getElem_of_mem hm'
        exact hone i oc _ _ d hoc (hdropg k _ (List.getElem?_eq_getElem hk)) (by omega) hd hd'
      have hP : Post w' (putsS (l.drop (i + 1)) vs (aσ.put oc.dst v)) := ⟨v, vs, hst, rfl, hQ, hdv⟩
      obtain ⟨_, _, _, p4⟩ := hPost _ _ hP
      refine ⟨(put_defers' _ _ _).trans i1, (put_size _ _ _).trans i2, fun t ht => ?_, hcl, fun hLn => ?_, fun _ => ⟨_, hP, fun j o' d hj hLj hd => ?_⟩⟩
      · rw [put_other _ _ _ _ (ht i oc hoc)]; exact i3 t ht
      · simp [plus] at hLn
      · by_cases hji : j = i
        · subst hji
          rw [hoc] at hj
          obtain rfl := Option.some.inj hj
          rw [hd, put_here _ _ _ (by rw [i2]; exact hd1 d hd), ← hd, hdv d hd]
        · have hLj' : L j = true := by unfold plus at hLj; rwa [if_neg hji] at hLj
          have hjn : j < i := by
            rcases Nat.lt_trichotomy j i with h | h | h
            · exact h
            · exact absurd h hji
            · exfalso
              have : ∀ d t, t = d → i < t → t < l.length → L t = true → False := by
                intro d
                induction d using Nat.strongRecOn with
                | _ d ih =>
                  intro t htd hit htl hLt
                  obtain ⟨e, he', hb, h1, h2⟩ := wildB_post hw t _ (List.getElem?_eq_getElem htl) hit
                  have h3 := i4 t _ (List.getElem?_eq_getElem htl) hLt e he' hb
                  rcases Nat.eq_or_lt_of_le h1 with h4 | h4
                  · rw [← h4, hLi] at h3; cases h3
                  · exact ih e.on (by omega) e.on rfl h4 (by omega) h3
              exact this _ j rfl h (List.getElem?_eq_some_iff.1 hj).1 hLj'
          rw [put_other _ _ _ _ (hd2 j o' hj hji d hd), i7 j o' d hj hLj' hd, p4 j o' d hj hjn hd]
    · -- behind the call
      have hLn : L n = true := by
        obtain ⟨e, he, hb, h1, h2⟩ := wildB_post hw i o ho hin
        have h3 := hafter e he hb
        have : ∀ d t, t = d → n ≤ t → t < l.length → L t = true → L n = true := by
          intro d
          induction d using Nat.strongRecOn with
          | _ d ih =>
            intro t htd hit htl hLt
            rcases Nat.eq_or_lt_of_le hit with h4 | h4
            · rw [h4]; exact hLt
            · obtain ⟨e, he', hb, h1, h2⟩ := wildB_post hw t _ (List.getElem?_eq_getElem htl) h4
              exact ih e.on (by omega) e.on rfl h1 (by omega) (i4 t _ (List.getElem?_eq_getElem htl) hLt e he' hb)
        exact this _ e.on rfl h1 (by have := (List.getElem?_eq_some_iff.1 ho).1; omega) h3
      obtain ⟨aτ, hP, i7⟩ := i6 hLn
      obtain ⟨p1, p2, p3, p4⟩ := hPost _ _ hP
      obtain ⟨v, vs, hst, hfin, hQ, hdv⟩ := hP
      have ho' : (l.drop (n + 1))[i - (n + 1)]? = some o := by rw [List.getElem?_drop]; rw [show n + 1 + (i - (n + 1)) = i by omega]; exact ho
      obtain ⟨u, ai, hY, hv, hno, hyes⟩ := stepsS_key hst hfin (fun j o' d h hd => by rw [put_size, hsize]; exact (hL _ o' (hdropg j o' h)).2.2.1 d hd) (fun j o' k o'' d h h' hne hd => hone _ o' _ o'' d (hdropg j o' h) (hdropg k o'' h') (by omega) hd) _ o ho'
      have he : execOp a.eval o = execOp ai.eval o := by
        refine execOp_congr o (fun c b hc => by rw [notSelect, hc] at hns; cases hns) (eval_eyes fun t ht => ?_)
        by_cases hex : ∃ (j : Nat) (o' : Oper), l[j]? = some o' ∧ o'.dst = some t
        · obtain ⟨j, o', hj, hd⟩ := hex
          obtain ⟨hji, e, he, hb, hon⟩ := heyes t ht j o' hj hd
          have hLj : L j = true := hon ▸ hafter e he hb
          rw [i7 j o' t hj hLj hd]
          by_cases hjn : n < j
          · rw [hyes t (j - (n + 1)) o' (by omega) (by rw [List.getElem?_drop, show n + 1 + (j - (n + 1)) = j by omega]; exact hj) hd]
          · have h9 : ai.tmps.getD t undef = (aσ.put oc.dst v).tmps.getD t undef := hno t fun k o'' hk => hone j o' _ o'' t hj (hdropg k o'' hk) (by omega) hd
            rw [h9]
            rcases Nat.lt_or_ge j n with h10 | h10
            · rw [p4 j o' t hj h10 hd, put_other _ _ _ _ (hone j o' n oc t hj hoc (by omega) hd)]
            · obtain rfl : j = n := by omega
              rw [hoc] at hj
              obtain rfl := Option.some.inj hj
              rw [hdv t hd, hd, put_here _ _ _ (by rw [hsize]; exact (hL j oc hoc).2.2.1 t hd)]
        · have hn' : ∀ (j : Nat) (o' : Oper), l[j]? = some o' → o'.dst ≠ some t := fun j o' hj hd => hex ⟨j, o', hj, hd⟩
          rw [i3 t hn', hno t fun j o' hj => hn' _ o' (hdropg j o' hj), put_other _ _ _ _ (hn' n oc hoc), hout0 t fun j o' _ hj => hn' j o' hj]
      have hY' := hY.of_same he (by simp [Region.wanted, hg])
      rcases hY' with ⟨_, hq⟩ | ⟨hw0, _⟩
      · refine Oper.wp_of_quiet (C := fun w' => w' = w) (K := fun a' => a' = a.put o.dst u) rfl ?_ ⟨u, hq, rfl⟩
        rintro a' w' rfl rfl
        refine ⟨(put_defers' _ _ _).trans i1, (put_size _ _ _).trans i2, fun t ht => ?_, hcl, fun hLp => ?_, fun _ => ⟨aτ, ⟨v, vs, hst, hfin, hQ, hdv⟩, fun j o' d hj hLj hd => ?_⟩⟩
        · rw [put_other _ _ _ _ (ht i o ho)]; exact i3 t ht
        · unfold plus at hLp; rw [if_neg (by omega), hLn] at hLp; cases hLp
        · by_cases hji : j = i
          · subst hji
            rw [ho] at hj
            obtain rfl := Option.some.inj hj
            rw [hd, put_here _ _ _ (by rw [i2]; exact hd1 d hd)]
            exact hv d hd
          · have hLj' : L j = true := by unfold plus at hLj; rwa [if_neg hji] at hLj
            rw [put_other _ _ _ _ (hd2 j o' hj hji d hd)]; exact i7 j o' d hj hLj' hd
      · simp [Region.wanted, hg] at hw0
  · intro L a w hall ⟨i1, i2, i3, i4, i5, i6⟩
    obtain ⟨aτ, hP, i7⟩ := i6 (hall n hnl)
    obtain ⟨p1, p2, p3, p4⟩ := hPost _ _ hP
    obtain ⟨v, vs, hst, hfin, hQ, hdv⟩ := hP
    have : a = aτ := by
      refine act_ext (i2.trans p1.symm) (i1.trans p2.symm) fun k => ?_
      by_cases hex : ∃ (j : Nat) (o' : Oper), l[j]? = some o' ∧ o'.dst = some k
      · obtain ⟨j, o', hj, hd⟩ := hex
        exact i7 j o' k hj (hall j (List.getElem?_eq_some_iff.1 hj).1) hd
      · have hn' : ∀ (j : Nat) (o' : Oper), l[j]? = some o' → o'.dst ≠ some k := fun j o' hj hd => hex ⟨j, o', hj, hd⟩
        rw [i3 k hn', p3 k hn']
    rw [this]; exact hQ
end Go.Proofs.Ytfbgldkdlmipoaa

/- A region (calls behind too) that draws its order: quiet operations, then one call whose result is not foreknown, then quiet operations behind it. -/
namespace Go.Proofs.Ytfbgldkdlmipoaa
open Go.RowKit
set_option linter.unusedSimpArgs false
set_option linter.unusedVariables false
set_option maxHeartbeats 1600000 in
theorem wp_region_wildD {P : Program} {id : Nat} {Q : Exit → Act → World → Prop} {a0 : Act} {W : World} {l : List Oper} (B n : Nat) (aσ : Act) (oc : Oper) (f : FuncId) (args : Array Value) (R : Value → World → Prop) (D : World → World → Prop) (hD : ∀ w, D w w)
    (hm : P.follows .mixedOrders = true) (hback : backB l = true) (hn : lawB l a0.tmps.size = true) (hw : wildB l n = true) (hoc : l[n]? = some oc) (hBW : B ≤ W.heap.size)
    (hpre : wpQuiet P l.toArray (fun w' => ∃ x : Ext B W, w' = x.out) (fun a' => a' = aσ) (l.take n) a0)
    (hent : ∀ w, (execOp aσ.eval oc).run P w = .ok (.enter f args) w)
    (hcall : ∀ x : Ext B W, Calls P f args x.out fun e w' => ∃ v, e = .returned v ∧ R v w')
    (hpost : ∀ v w1, R v w1 → wpQuiet P l.toArray (D w1) (fun a' => ∀ w', D w1 w' → Q .normal a' w') (l.drop (n + 1)) (aσ.put oc.dst v)) :
    (Code.region id l.toArray true).wp P Q a0 W := by
  have hL := fun i o ho => lawB_of hn i o ho
  have hone : ∀ (i : Nat) (o : Oper) (j : Nat) (o' : Oper) (d : Nat), l[i]? = some o → l[j]? = some o' → i ≠ j → o.dst = some d → o'.dst ≠ some d := fun i o j o' d hi hj hne hd => (hL j o' hj).2.2.2.1 i o hi hne d hd
  have hnl : n < l.length := (List.getElem?_eq_some_iff.1 hoc).1
  have htake : ∀ (i : Nat) (o : Oper), (l.take n)[i]? = some o → l[i]? = some o ∧ i < n := fun i o h => by
    rw [List.getElem?_take] at h
    split at h
    · exact ⟨h, by assumption⟩
    · cases h
  have hdropg : ∀ (i : Nat) (o : Oper), (l.drop (n + 1))[i]? = some o → l[n + 1 + i]? = some o := fun i o h => by rw [List.getElem?_drop] at h; exact h
  obtain ⟨vs0, hst0, hfin0⟩ := stepsS_of _ _ hpre
  have hsize : aσ.tmps.size = a0.tmps.size := by rw [← hfin0, putsS_size]
  have hdef : aσ.defers = a0.defers := by rw [← hfin0, putsS_defers]
  have key0 := fun i o ho => stepsS_key hst0 hfin0 (fun i o d h hd => (hL i o (htake i o h).1).2.2.1 d hd) (fun i o j o' d h h' hne hd => hone i o j o' d (htake i o h).1 (htake j o' h').1 hne hd) i o ho
  have hout0 : ∀ t : Nat, (∀ (i : Nat) (o : Oper), i < n → l[i]? = some o → o.dst ≠ some t) → aσ.tmps.getD t undef = a0.tmps.getD t undef := by
    intro t ht
    rw [← hfin0, putsS_other]
    intro o' hm' hd
    obtain ⟨k, hk, rfl⟩ := List.getElem_of_mem hm'
    have hk2 := htake k _ (List.getElem?_eq_getElem hk)
    exact ht k _ hk2.2 hk2.1 hd
  -- what stands when the call has been made
  let Post : World → Act → Prop := fun w aτ => ∃ v w0 vs, D w0 w ∧ StepsS P l.toArray (D w0) (l.drop (n + 1)) vs (aσ.put oc.dst v) ∧ putsS (l.drop (n + 1)) vs (aσ.put oc.dst v) = aτ ∧ (∀ w', D w0 w' → Q .normal aτ w') ∧ ∀ d, oc.dst = some d → aτ.tmps.getD d undef = v
  have hPost : ∀ w aτ, Post w aτ → aτ.tmps.size = a0.tmps.size ∧ aτ.defers = a0.defers ∧ (∀ t : Nat, (∀ (i : Nat) (o : Oper), l[i]? = some o → o.dst ≠ some t) → aτ.tmps.getD t undef = a0.tmps.getD t undef) ∧
      (∀ (i : Nat) (o : Oper) (d : Nat), l[i]? = some o → i < n → o.dst = some d → aτ.tmps.getD d undef = aσ.tmps.getD d undef) := by
    rintro w aτ ⟨v, w0, vs, _, h1, h2, _, _⟩
    have hoth : ∀ t : Nat, (∀ (i : Nat) (o : Oper), n < i → l[i]? = some o → o.dst ≠ some t) → aτ.tmps.getD t undef = (aσ.put oc.dst v).tmps.getD t undef := by
      intro t ht
      rw [← h2, putsS_other]
      intro o' hm' hd
      obtain ⟨k, hk, rfl⟩ := List.getElem_of_mem hm'
      exact ht _ _ (by omega) (hdropg k _ (List.getElem?_eq_getElem hk)) hd
    refine ⟨by rw [← h2, putsS_size, put_size, hsize], by rw [← h2, putsS_defers, put_defers', hdef], fun t ht => ?_, fun i o d hi hin hd => ?_⟩
    · rw [hoth t fun i o _ hi => ht i o hi, put_other _ _ _ _ (ht n oc hoc), hout0 t fun i o _ hi => ht i o hi]
    · rw [hoth d fun j o' hj hj' => hone i o j o' d hi hj' (by omega) hd, put_other _ _ _ _ (hone i o n oc d hi hoc (by omega) hd)]
  have hpre_all : ∀ L : Nat → Bool, (∀ (j : Nat) (oj : Oper), l[j]? = some oj → L j = true → ∀ e ∈ oj.after, Region.binds .any e = true → L e.on = true) → (∀ e ∈ oc.after, Region.binds .any e = true → L e.on = true) → ∀ i, i < n → L i = true := by
    intro L hcl hcn
    have : ∀ d i, n - i = d → i < n → L i = true := by
      intro d
      induction d using Nat.strongRecOn with
      | _ d ih =>
        intro i hd hi
        obtain ⟨j, o, h1, h2, h3, e, he, hb, rfl⟩ := wildB_pre hw i hi
        by_cases hj : j = n
        · subst hj
          rw [hoc] at h3
          obtain rfl := Option.some.inj h3
          exact hcn e he hb
        · exact hcl j o h3 (ih (n - j) (by omega) j rfl (by omega)) e he hb
    exact fun i hi => this _ i rfl hi
  refine wp_region_inv hm hback (fun L a w => a.defers = a0.defers ∧ a.tmps.size = a0.tmps.size ∧ (∀ t : Nat, (∀ (i : Nat) (o : Oper), l[i]? = some o → o.dst ≠ some t) → a.tmps.getD t undef = a0.tmps.getD t undef) ∧
    (∀ (j : Nat) (oj : Oper), l[j]? = some oj → L j = true → ∀ e ∈ oj.after, Region.binds .any e = true → L e.on = true) ∧
    (L n = false → (∃ x : Ext B W, w = x.out) ∧ ∀ (i : Nat) (o : Oper) (d : Nat), l[i]? = some o → L i = true → o.dst = some d → a.tmps.getD d undef = aσ.tmps.getD d undef) ∧
    (L n = true → ∃ aτ, Post w aτ ∧ ∀ (i : Nat) (o : Oper) (d : Nat), l[i]? = some o → L i = true → o.dst = some d → a.tmps.getD d undef = aτ.tmps.getD d undef)) ?_ ?_ ?_
  · intro L hL0
    exact ⟨rfl, rfl, fun _ _ => rfl, fun j oj hj hLj => (by rw [hL0 j (List.getElem?_eq_some_iff.1 hj).1] at hLj; cases hLj), fun _ => ⟨⟨⟨_, (Below.refl B W).drew⟩, rfl⟩, fun i o d hi hLi => (by rw [hL0 i (List.getElem?_eq_some_iff.1 hi).1] at hLi; cases hLi)⟩, fun hLn => (by rw [hL0 n hnl] at hLn; cases hLn)⟩
  · intro L a w i o ho hLi hafter ⟨i1, i2, i3, i4, i5, i6⟩
    obtain ⟨hg, hns, hd1, hd2, heyes⟩ := hL i o ho
    rw [if_pos (by simp [Region.wanted, hg])]
    have hcl : ∀ (j : Nat) (oj : Oper), l[j]? = some oj → plus L i j = true → ∀ e ∈ oj.after, Region.binds .any e = true → plus L i e.on = true := by
      intro j oj hj hLj e he hb
      unfold plus at hLj ⊢
      by_cases hji : j = i
      · subst hji
        rw [ho] at hj
        obtain rfl := Option.some.inj hj
        split
        · rfl
        · exact hafter e he hb
      · rw [if_neg hji] at hLj
        split
        · rfl
        · exact i4 j oj hj hLj e he hb
    rcases Nat.lt_trichotomy i n with hin | hin | hin
    · -- ahead of the call
      have hLn : L n = false := by
        cases hc : L n with
        | false => rfl
        | true => have := hpre_all L i4 (fun e he hb => i4 n oc hoc hc e he hb) i hin; rw [this] at hLi; cases hLi
      obtain ⟨⟨x, hx⟩, i7⟩ := i5 hLn
      have ho' : (l.take n)[i]? = some o := by rw [List.getElem?_take, if_pos hin]; exact ho
      obtain ⟨v, ai, hY, hv, hno, hyes⟩ := key0 i o ho'
      have he : execOp a.eval o = execOp ai.eval o := by
        refine execOp_congr o (fun c b hc => by rw [notSelect, hc] at hns; cases hns) (eval_eyes fun t ht => ?_)
        by_cases hex : ∃ (j : Nat) (o' : Oper), l[j]? = some o' ∧ o'.dst = some t
        · obtain ⟨j, o', hj, hd⟩ := hex
          obtain ⟨hji, e, he, hb, hon⟩ := heyes t ht j o' hj hd
          have hLj : L j = true := hon ▸ hafter e he hb
          rw [hyes t j o' hji (by rw [List.getElem?_take, if_pos (by omega)]; exact hj) hd]
          exact i7 j o' t hj hLj hd
        · have hn' : ∀ (j : Nat) (o' : Oper), l[j]? = some o' → o'.dst ≠ some t := fun j o' hj hd => hex ⟨j, o', hj, hd⟩
          rw [i3 t hn', hno t fun j o' hj => hn' j o' (htake j o' hj).1]
      have hY' := hY.of_same he (by simp [Region.wanted, hg])
      rcases hY' with ⟨_, hq⟩ | ⟨hw0, _⟩
      · refine Oper.wp_of_quiet (C := fun w' => ∃ x : Ext B W, w' = x.out) (K := fun a' => a' = a.put o.dst v) ⟨x, hx⟩ ?_ ⟨v, hq, rfl⟩
        rintro a' w' ⟨z, rfl⟩ rfl
        refine ⟨(put_defers' _ _ _).trans i1, (put_size _ _ _).trans i2, fun t ht => ?_, hcl, fun _ => ⟨⟨z, rfl⟩, fun j o' d hj hLj hd => ?_⟩, fun hLp => ?_⟩
        · rw [put_other _ _ _ _ (ht i o ho)]; exact i3 t ht
        · by_cases hji : j = i
          · subst hji
            rw [ho] at hj
            obtain rfl := Option.some.inj hj
            rw [hd, put_here _ _ _ (by rw [i2]; exact hd1 d hd)]
            exact hv d hd
          · have hLj' : L j = true := by unfold plus at hLj; rwa [if_neg hji] at hLj
            rw [put_other _ _ _ _ (hd2 j o' hj hji d hd)]; exact i7 j o' d hj hLj' hd
        · unfold plus at hLp; rw [if_neg (by omega), hLn] at hLp; cases hLp
      · simp [Region.wanted, hg] at hw0
    · -- the call
      subst hin
      rw [hoc] at ho
      obtain rfl := Option.some.inj ho
      obtain ⟨⟨x, hx⟩, i7⟩ := i5 hLi
      have hall := hpre_all L i4 hafter
      have he : execOp a.eval oc = execOp aσ.eval oc := by
        refine execOp_congr oc (fun c b hc => by rw [notSelect, hc] at hns; cases hns) (eval_eyes fun t ht => ?_)
        by_cases hex : ∃ (j : Nat) (o' : Oper), l[j]? = some o' ∧ o'.dst = some t
        · obtain ⟨j, o', hj, hd⟩ := hex
          obtain ⟨hji, e, he, hb, hon⟩ := heyes t ht j o' hj hd
          exact i7 j o' t hj (hon ▸ hafter e he hb) hd
        · have hn' : ∀ (j : Nat) (o' : Oper), l[j]? = some o' → o'.dst ≠ some t := fun j o' hj hd => hex ⟨j, o', hj, hd⟩
          rw [i3 t hn', hout0 t fun j o' _ hj => hn' j o' hj]
      subst hx
      unfold Oper.wp
      rw [he, hent]
      simp only [Oper.upon]
      refine (hcall x).mono ?_
      rintro e w' ⟨v, rfl, hR⟩
      obtain ⟨vs, hst, hQ⟩ := stepsS_of _ _ (hpost v w' hR)
      have hdv : ∀ d, oc.dst = some d → (putsS (l.drop (i + 1)) vs (aσ.put oc.dst v)).tmps.getD d undef = v := by
        intro d hd
        rw [putsS_other, hd, put_here _ _ _ (by rw [hsize]; exact hd1 d hd)]
        intro o' hm' hd'
        obtain ⟨k, hk, rfl⟩ := List.getElem_of_mem hm'
        exact hone i oc _ _ d hoc (hdropg k _ (List.getElem?_eq_getElem hk)) (by omega) hd hd'
      have hP : Post w' (putsS (l.drop (i + 1)) vs (aσ.put oc.dst v)) := ⟨v, w', vs, hD _, hst, rfl, hQ, hdv⟩
      obtain ⟨_, _, _, p4⟩ := hPost _ _ hP
      refine ⟨(put_defers' _ _ _).trans i1, (put_size _ _ _).trans i2, fun t ht => ?_, hcl, fun hLn => ?_, fun _ => ⟨_, hP, fun j o' d hj hLj hd => ?_⟩⟩
      · rw [put_other _ _ _ _ (ht i oc hoc)]; exact i3 t ht
      · simp [plus] at hLn
      · by_cases hji : j = i
        · subst hji
          rw [hoc] at hj
          obtain rfl := Option.some.inj hj
          rw [hd, put_here _ _ _ (by rw [i2]; exact hd1 d hd), ← hd, hdv d hd]
        · have hLj' : L j = true := by unfold plus at hLj; rwa [if_neg hji] at hLj
          have hjn : j < i := by
            rcases Nat.lt_trichotomy j i with h | h | h
            · exact h
            · exact absurd h hji
            · exfalso
              have : ∀ d t, t = d → i < t → t < l.length → L t = true → False := by
                intro d
                induction d using Nat.strongRecOn with
                | _ d ih =>
                  intro t htd hit htl hLt
                  obtain ⟨e, he', hb, h1, h2⟩ := wildB_post hw t _ (List.getElem?_eq_getElem htl) hit
                  have h3 := i4 t _ (List.getElem?_eq_getElem htl) hLt e he' hb
                  rcases Nat.eq_or_lt_of_le h1 with h4 | h4
                  · rw [← h4, hLi] at h3; cases h3
                  · exact ih e.on (by omega) e.on rfl h4 (by omega) h3
              exact this _ j rfl h (List.getElem?_eq_some_iff.1 hj).1 hLj'
          rw [put_other _ _ _ _ (hd2 j o' hj hji d hd), i7 j o' d hj hLj' hd, p4 j o' d hj hjn hd]
    · -- behind the call
      have hLn : L n = true := by
        obtain ⟨e, he, hb, h1, h2⟩ := wildB_post hw i o ho hin
        have h3 := hafter e he hb
        have : ∀ d t, t = d → n ≤ t → t < l.length → L t = true → L n = true := by
          intro d
          induction d using Nat.strongRecOn with
          | _ d ih =>
            intro t htd hit htl hLt
            rcases Nat.eq_or_lt_of_le hit with h4 | h4
            · rw [h4]; exact hLt
            · obtain ⟨e, he', hb, h1, h2⟩ := wildB_post hw t _ (List.getElem?_eq_getElem htl) h4
              exact ih e.on (by omega) e.on rfl h1 (by omega) (i4 t _ (List.getElem?_eq_getElem htl) hLt e he' hb)
        exact this _ e.on rfl h1 (by have := (List.getElem?_eq_some_iff.1 ho).1; omega) h3
      obtain ⟨aτ, hP, i7⟩ := i6 hLn
      obtain ⟨p1, p2, p3, p4⟩ := hPost _ _ hP
      obtain ⟨v, w0, vs, hDw, hst, hfin, hQ, hdv⟩ := hP
      have ho' : (l.drop (n + 1))[i - (n + 1)]? = some o := by rw [List.getElem?_drop]; rw [show n + 1 + (i - (n + 1)) = i by omega]; exact ho
      obtain ⟨u, ai, hY, hv, hno, hyes⟩ := stepsS_key hst hfin (fun j o' d h hd => by rw [put_size, hsize]; exact (hL _ o' (hdropg j o' h)).2.2.1 d hd) (fun j o' k o'' d h h' hne hd => hone _ o' _ o'' d (hdropg j o' h) (hdropg k o'' h') (by omega) hd) _ o ho'
      have he : execOp a.eval o = execOp ai.eval o := by
        refine execOp_congr o (fun c b hc => by rw [notSelect, hc] at hns; cases hns) (eval_eyes fun t ht => ?_)
        by_cases hex : ∃ (j : Nat) (o' : Oper), l[j]? = some o' ∧ o'.dst = some t
        · obtain ⟨j, o', hj, hd⟩ := hex
          obtain ⟨hji, e, he, hb, hon⟩ := heyes t ht j o' hj hd
          have hLj : L j = true := hon ▸ hafter e he hb
          rw [i7 j o' t hj hLj hd]
          by_cases hjn : n < j
          · rw [hyes t (j - (n + 1)) o' (by omega) (by rw [List.getElem?_drop, show n + 1 + (j - (n + 1)) = j by omega]; exact hj) hd]
          · have h9 : ai.tmps.getD t undef = (aσ.put oc.dst v).tmps.getD t undef := hno t fun k o'' hk => hone j o' _ o'' t hj (hdropg k o'' hk) (by omega) hd
            rw [h9]
            rcases Nat.lt_or_ge j n with h10 | h10
            · rw [p4 j o' t hj h10 hd, put_other _ _ _ _ (hone j o' n oc t hj hoc (by omega) hd)]
            · obtain rfl : j = n := by omega
              rw [hoc] at hj
              obtain rfl := Option.some.inj hj
              rw [hdv t hd, hd, put_here _ _ _ (by rw [hsize]; exact (hL j oc hoc).2.2.1 t hd)]
        · have hn' : ∀ (j : Nat) (o' : Oper), l[j]? = some o' → o'.dst ≠ some t := fun j o' hj hd => hex ⟨j, o', hj, hd⟩
          rw [i3 t hn', hno t fun j o' hj => hn' _ o' (hdropg j o' hj), put_other _ _ _ _ (hn' n oc hoc), hout0 t fun j o' _ hj => hn' j o' hj]
      have hY' := hY.of_same he (by simp [Region.wanted, hg])
      rcases hY' with ⟨_, hq⟩ | ⟨hw0, _⟩
      · refine Oper.wp_of_quiet (C := D w0) (K := fun a' => a' = a.put o.dst u) hDw ?_ ⟨u, hq, rfl⟩
        rintro a' w' hDw' rfl
        refine ⟨(put_defers' _ _ _).trans i1, (put_size _ _ _).trans i2, fun t ht => ?_, hcl, fun hLp => ?_, fun _ => ⟨aτ, ⟨v, w0, vs, hDw', hst, hfin, hQ, hdv⟩, fun j o' d hj hLj hd => ?_⟩⟩
        · rw [put_other _ _ _ _ (ht i o ho)]; exact i3 t ht
        · unfold plus at hLp; rw [if_neg (by omega), hLn] at hLp; cases hLp
        · by_cases hji : j = i
          · subst hji
            rw [ho] at hj
            obtain rfl := Option.some.inj hj
            rw [hd, put_here _ _ _ (by rw [i2]; exact hd1 d hd)]
            exact hv d hd
          · have hLj' : L j = true := by unfold plus at hLj; rwa [if_neg hji] at hLj
            rw [put_other _ _ _ _ (hd2 j o' hj hji d hd)]; exact i7 j o' d hj hLj' hd
      · simp [Region.wanted, hg] at hw0
  · intro L a w hall ⟨i1, i2, i3, i4, i5, i6⟩
    obtain ⟨aτ, hP, i7⟩ := i6 (hall n hnl)
    obtain ⟨p1, p2, p3, p4⟩ := hPost _ _ hP
    obtain ⟨v, w0, vs, hDw, hst, hfin, hQ, hdv⟩ := hP
    have : a = aτ := by
      refine act_ext (i2.trans p1.symm) (i1.trans p2.symm) fun k => ?_
      by_cases hex : ∃ (j : Nat) (o' : Oper), l[j]? = some o' ∧ o'.dst = some k
      · obtain ⟨j, o', hj, hd⟩ := hex
        exact i7 j o' k hj (hall j (List.getElem?_eq_some_iff.1 hj).1) hd
      · have hn' : ∀ (j : Nat) (o' : Oper), l[j]? = some o' → o'.dst ≠ some k := fun j o' hj hd => hex ⟨j, o', hj, hd⟩
        rw [i3 k hn', p3 k hn']
    rw [this]; exact hQ _ hDw
/-- The same; what stands behind the call turns nothing below the heap that the call has left. -/
theorem wp_region_wildE {P : Program} {id : Nat} {Q : Exit → Act → World → Prop} {a0 : Act} {W : World} {l : List Oper} (B n : Nat) (aσ : Act) (oc : Oper) (f : FuncId) (args : Array Value) (R : Value → World → Prop)
    (hm : P.follows .mixedOrders = true) (hback : backB l = true) (hn : lawB l a0.tmps.size = true) (hw : wildB l n = true) (hoc : l[n]? = some oc) (hBW : B ≤ W.heap.size)
    (hpre : wpQuiet P l.toArray (fun w' => ∃ x : Ext B W, w' = x.out) (fun a' => a' = aσ) (l.take n) a0)
    (hent : ∀ w, (execOp aσ.eval oc).run P w = .ok (.enter f args) w)
    (hcall : ∀ x : Ext B W, Calls P f args x.out fun e w' => ∃ v, e = .returned v ∧ R v w')
    (hpost : ∀ v w1, R v w1 → wpQuiet P l.toArray (fun w' => ∃ y : Ext w1.heap.size w1, w' = y.out) (fun a' => ∀ w', (∃ y : Ext w1.heap.size w1, w' = y.out) → Q .normal a' w') (l.drop (n + 1)) (aσ.put oc.dst v)) :
    (Code.region id l.toArray true).wp P Q a0 W :=
  wp_region_wildD B n aσ oc f args R (fun w1 w' => ∃ y : Ext w1.heap.size w1, w' = y.out) (fun w => ⟨⟨w, Below.refl _ _⟩, rfl⟩) hm hback hn hw hoc hBW hpre hent hcall hpost
end Go.Proofs.Ytfbgldkdlmipoaa

/- A region that draws its order with one call of unforeknown result; what stands ahead of it may run behind it. -/
namespace Go.Proofs.Ytfbgldkdlmipoaa
open Go.RowKit
set_option linter.unusedSimpArgs false
set_option linter.unusedVariables false
/-- Each operation behind number n waits for it, or for one behind it. -/
def wildB2 (l : List Oper) (n : Nat) : Bool := (List.range l.length).all fun t => decide (t ≤ n) || (match l[t]? with | some o => o.after.toList.any fun e => Region.binds .any e && decide (n ≤ e.on) && decide (e.on < t) | none => true)
theorem wildB2_post {l : List Oper} {n : Nat} (h : wildB2 l n = true) (t : Nat) (o : Oper) (ho : l[t]? = some o) (ht : n < t) : ∃ e ∈ o.after, Region.binds .any e = true ∧ n ≤ e.on ∧ e.on < t := by
  have h1 := List.all_eq_true.1 h t (List.mem_range.2 (List.getElem?_eq_some_iff.1 ho).1)
  rw [ho] at h1
  simp only [Bool.or_eq_true, decide_eq_true_eq] at h1
  rcases h1 with h1 | h1
  · omega
  · obtain ⟨e, he, h5⟩ := List.any_eq_true.1 h1
    simp only [Bool.and_eq_true, decide_eq_true_eq] at h5
    exact ⟨e, by simpa using he, h5.1.1, h5.1.2, h5.2⟩
set_option maxHeartbeats 1600000 in
theorem wp_region_wildF {P : Program} {id : Nat} {Q : Exit → Act → World → Prop} {a0 : Act} {W : World} {l : List Oper} (B n : Nat) (aσ : Act) (oc : Oper) (f : FuncId) (args : Array Value) (R : Value → World → Prop) (D : World → World → Prop) (hD : ∀ w, D w w)
    (hm : P.follows .mixedOrders = true) (hback : backB l = true) (hn : lawB l a0.tmps.size = true) (hw : wildB2 l n = true) (hoc : l[n]? = some oc) (hBW : B ≤ W.heap.size)
    (hpre : wpQuiet P l.toArray (fun w' => ∃ x : Ext B W, w' = x.out) (fun a' => a' = aσ) (l.take n) a0)
    (hpre2 : ∀ v w1, R v w1 → wpQuiet P l.toArray (D w1) (fun a' => a' = aσ) (l.take n) a0)
    (hent : ∀ w, (execOp aσ.eval oc).run P w = .ok (.enter f args) w)
    (hcall : ∀ x : Ext B W, Calls P f args x.out fun e w' => ∃ v, e = .returned v ∧ R v w')
    (hpost : ∀ v w1, R v w1 → wpQuiet P l.toArray (D w1) (fun a' => ∀ w', D w1 w' → Q .normal a' w') (l.drop (n + 1)) (aσ.put oc.dst v)) :
    (Code.region id l.toArray true).wp P Q a0 W := by
  have hL := fun i o ho => lawB_of hn i o ho
  have hone : ∀ (i : Nat) (o : Oper) (j : Nat) (o' : Oper) (d : Nat), l[i]? = some o → l[j]? = some o' → i ≠ j → o.dst = some d → o'.dst ≠ some d := fun i o j o' d hi hj hne hd => (hL j o' hj).2.2.2.1 i o hi hne d hd
  have hnl : n < l.length := (List.getElem?_eq_some_iff.1 hoc).1
  have htake : ∀ (i : Nat) (o : Oper), (l.take n)[i]? = some o → l[i]? = some o ∧ i < n := fun i o h => by
    rw [List.getElem?_take] at h
    split at h
    · exact ⟨h, by assumption⟩
    · cases h
  have hdropg : ∀ (i : Nat) (o : Oper), (l.drop (n + 1))[i]? = some o → l[n + 1 + i]? = some o := fun i o h => by rw [List.getElem?_drop] at h; exact h
  obtain ⟨vs0, hst0, hfin0⟩ := stepsS_of _ _ hpre
  have hsize : aσ.tmps.size = a0.tmps.size := by rw [← hfin0, putsS_size]
  have hdef : aσ.defers = a0.defers := by rw [← hfin0, putsS_defers]
  have key0 := fun i o ho => stepsS_key hst0 hfin0 (fun i o d h hd => (hL i o (htake i o h).1).2.2.1 d hd) (fun i o j o' d h h' hne hd => hone i o j o' d (htake i o h).1 (htake j o' h').1 hne hd) i o ho
  have hout0 : ∀ t : Nat, (∀ (i : Nat) (o : Oper), i < n → l[i]? = some o → o.dst ≠ some t) → aσ.tmps.getD t undef = a0.tmps.getD t undef := by
    intro t ht
    rw [← hfin0, putsS_other]
    intro o' hm' hd
    obtain ⟨k, hk, rfl⟩ := List.getElem_of_mem hm'
    have hk2 := htake k _ (List.getElem?_eq_getElem hk)
    exact ht k _ hk2.2 hk2.1 hd
  -- what stands when the call has been made
  let Post : World → Act → Prop := fun w aτ => ∃ v w0 vs, R v w0 ∧ D w0 w ∧ StepsS P l.toArray (D w0) (l.drop (n + 1)) vs (aσ.put oc.dst v) ∧ putsS (l.drop (n + 1)) vs (aσ.put oc.dst v) = aτ ∧ (∀ w', D w0 w' → Q .normal aτ w') ∧ ∀ d, oc.dst = some d → aτ.tmps.getD d undef = v
  have hPost : ∀ w aτ, Post w aτ → aτ.tmps.size = a0.tmps.size ∧ aτ.defers = a0.defers ∧ (∀ t : Nat, (∀ (i : Nat) (o : Oper), l[i]? = some o → o.dst ≠ some t) → aτ.tmps.getD t undef = a0.tmps.getD t undef) ∧
      (∀ (i : Nat) (o : Oper) (d : Nat), l[i]? = some o → i < n → o.dst = some d → aτ.tmps.getD d undef = aσ.tmps.getD d undef) := by
    rintro w aτ ⟨v, w0, vs, _, _, h1, h2, _, _⟩
    have hoth : ∀ t : Nat, (∀ (i : Nat) (o : Oper), n < i → l[i]? = some o → o.dst ≠ some t) → aτ.tmps.getD t undef = (aσ.put oc.dst v).tmps.getD t undef := by
      intro t ht
      rw [← h2, putsS_other]
      intro o' hm' hd
      obtain ⟨k, hk, rfl⟩ := List.getElem_of_mem hm'
      exact ht _ _ (by omega) (hdropg k _ (List.getElem?_eq_getElem hk)) hd
    refine ⟨by rw [← h2, putsS_size, put_size, hsize], by rw [← h2, putsS_defers, put_defers', hdef], fun t ht => ?_, fun i o d hi hin hd => ?_⟩
    · rw [hoth t fun i o _ hi => ht i o hi, put_other _ _ _ _ (ht n oc hoc), hout0 t fun i o _ hi => ht i o hi]
    · rw [hoth d fun j o' hj hj' => hone i o j o' d hi hj' (by omega) hd, put_other _ _ _ _ (hone i o n oc d hi hoc (by omega) hd)]
  refine wp_region_inv hm hback (fun L a w => a.defers = a0.defers ∧ a.tmps.size = a0.tmps.size ∧ (∀ t : Nat, (∀ (i : Nat) (o : Oper), l[i]? = some o → o.dst ≠ some t) → a.tmps.getD t undef = a0.tmps.getD t undef) ∧
    (∀ (j : Nat) (oj : Oper), l[j]? = some oj → L j = true → ∀ e ∈ oj.after, Region.binds .any e = true → L e.on = true) ∧
    (L n = false → (∃ x : Ext B W, w = x.out) ∧ ∀ (i : Nat) (o : Oper) (d : Nat), l[i]? = some o → L i = true → o.dst = some d → a.tmps.getD d undef = aσ.tmps.getD d undef) ∧
    (L n = true → ∃ aτ, Post w aτ ∧ ∀ (i : Nat) (o : Oper) (d : Nat), l[i]? = some o → L i = true → o.dst = some d → a.tmps.getD d undef = aτ.tmps.getD d undef)) ?_ ?_ ?_
  · intro L hL0
    exact ⟨rfl, rfl, fun _ _ => rfl, fun j oj hj hLj => (by rw [hL0 j (List.getElem?_eq_some_iff.1 hj).1] at hLj; cases hLj), fun _ => ⟨⟨⟨_, (Below.refl B W).drew⟩, rfl⟩, fun i o d hi hLi => (by rw [hL0 i (List.getElem?_eq_some_iff.1 hi).1] at hLi; cases hLi)⟩, fun hLn => (by rw [hL0 n hnl] at hLn; cases hLn)⟩
  · intro L a w i o ho hLi hafter ⟨i1, i2, i3, i4, i5, i6⟩
    obtain ⟨hg, hns, hd1, hd2, heyes⟩ := hL i o ho
    rw [if_pos (by simp [Region.wanted, hg])]
    have hcl : ∀ (j : Nat) (oj : Oper), l[j]? = some oj → plus L i j = true → ∀ e ∈ oj.after, Region.binds .any e = true → plus L i e.on = true := by
      intro j oj hj hLj e he hb
      unfold plus at hLj ⊢
      by_cases hji : j = i
      · subst hji
        rw [ho] at hj
        obtain rfl := Option.some.inj hj
        split
        · rfl
        · exact hafter e he hb
      · rw [if_neg hji] at hLj
        split
        · rfl
        · exact i4 j oj hj hLj e he hb
    rcases Nat.lt_trichotomy i n with hin | hin | hin
    · -- ahead of the call
      cases hLn : L n with
      | false =>
        obtain ⟨⟨x, hx⟩, i7⟩ := i5 hLn
        have ho' : (l.take n)[i]? = some o := by rw [List.getElem?_take, if_pos hin]; exact ho
        obtain ⟨v, ai, hY, hv, hno, hyes⟩ := key0 i o ho'
        have he : execOp a.eval o = execOp ai.eval o := by
          refine execOp_congr o (fun c b hc => by rw [notSelect, hc] at hns; cases hns) (eval_eyes fun t ht => ?_)
          by_cases hex : ∃ (j : Nat) (o' : Oper), l[j]? = some o' ∧ o'.dst = some t
          · obtain ⟨j, o', hj, hd⟩ := hex
            obtain ⟨hji, e, he, hb, hon⟩ := heyes t ht j o' hj hd
            have hLj : L j = true := hon ▸ hafter e he hb
            rw [hyes t j o' hji (by rw [List.getElem?_take, if_pos (by omega)]; exact hj) hd]
            exact i7 j o' t hj hLj hd
          · have hn' : ∀ (j : Nat) (o' : Oper), l[j]? = some o' → o'.dst ≠ some t := fun j o' hj hd => hex ⟨j, o', hj, hd⟩
            rw [i3 t hn', hno t fun j o' hj => hn' j o' (htake j o' hj).1]
        have hY' := hY.of_same he (by simp [Region.wanted, hg])
        rcases hY' with ⟨_, hq⟩ | ⟨hw0, _⟩
        · refine Oper.wp_of_quiet (C := fun w' => ∃ x : Ext B W, w' = x.out) (K := fun a' => a' = a.put o.dst v) ⟨x, hx⟩ ?_ ⟨v, hq, rfl⟩
          rintro a' w' ⟨z, rfl⟩ rfl
          refine ⟨(put_defers' _ _ _).trans i1, (put_size _ _ _).trans i2, fun t ht => ?_, hcl, fun _ => ⟨⟨z, rfl⟩, fun j o' d hj hLj hd => ?_⟩, fun hLp => ?_⟩
          · rw [put_other _ _ _ _ (ht i o ho)]; exact i3 t ht
          · by_cases hji : j = i
            · subst hji
              rw [ho] at hj
              obtain rfl := Option.some.inj hj
              rw [hd, put_here _ _ _ (by rw [i2]; exact hd1 d hd)]
              exact hv d hd
            · have hLj' : L j = true := by unfold plus at hLj; rwa [if_neg hji] at hLj
              rw [put_other _ _ _ _ (hd2 j o' hj hji d hd)]; exact i7 j o' d hj hLj' hd
          · unfold plus at hLp; rw [if_neg (by omega), hLn] at hLp; cases hLp
        · simp [Region.wanted, hg] at hw0
      | true =>
        obtain ⟨aτ, hP, i7⟩ := i6 hLn
        have hP0 := hP
        obtain ⟨p1, p2, p3, p4⟩ := hPost _ _ hP
        obtain ⟨v1, w0, vs1, hR0, hDw, hst1, hfin1, hQ1, hdv1⟩ := hP
        obtain ⟨vs2, hst2, hfin2⟩ := stepsS_of _ _ (hpre2 v1 w0 hR0)
        have ho' : (l.take n)[i]? = some o := by rw [List.getElem?_take, if_pos hin]; exact ho
        obtain ⟨v, ai, hY, hv, hno, hyes⟩ := stepsS_key hst2 hfin2 (fun i o d h hd => (hL i o (htake i o h).1).2.2.1 d hd) (fun i o j o' d h h' hne hd => hone i o j o' d (htake i o h).1 (htake j o' h').1 hne hd) i o ho'
        have he : execOp a.eval o = execOp ai.eval o := by
          refine execOp_congr o (fun c b hc => by rw [notSelect, hc] at hns; cases hns) (eval_eyes fun t ht => ?_)
          by_cases hex : ∃ (j : Nat) (o' : Oper), l[j]? = some o' ∧ o'.dst = some t
          · obtain ⟨j, o', hj, hd⟩ := hex
            obtain ⟨hji, e, he, hb, hon⟩ := heyes t ht j o' hj hd
            have hLj : L j = true := hon ▸ hafter e he hb
            rw [hyes t j o' hji (by rw [List.getElem?_take, if_pos (by omega)]; exact hj) hd, i7 j o' t hj hLj hd]
            exact p4 j o' t hj (by omega) hd
          · have hn' : ∀ (j : Nat) (o' : Oper), l[j]? = some o' → o'.dst ≠ some t := fun j o' hj hd => hex ⟨j, o', hj, hd⟩
            rw [i3 t hn', hno t fun j o' hj => hn' j o' (htake j o' hj).1]
        have hY' := hY.of_same he (by simp [Region.wanted, hg])
        rcases hY' with ⟨_, hq⟩ | ⟨hw0, _⟩
        · refine Oper.wp_of_quiet (C := D w0) (K := fun a' => a' = a.put o.dst v) hDw ?_ ⟨v, hq, rfl⟩
          rintro a' w' hDw' rfl
          refine ⟨(put_defers' _ _ _).trans i1, (put_size _ _ _).trans i2, fun t ht => ?_, hcl, fun hLp => ?_, fun _ => ⟨aτ, ⟨v1, w0, vs1, hR0, hDw', hst1, hfin1, hQ1, hdv1⟩, fun j o' d hj hLj hd => ?_⟩⟩
          · rw [put_other _ _ _ _ (ht i o ho)]; exact i3 t ht
          · unfold plus at hLp; rw [if_neg (by omega), hLn] at hLp; cases hLp
          · by_cases hji : j = i
            · subst hji
              rw [ho] at hj
              obtain rfl := Option.some.inj hj
              rw [hd, put_here _ _ _ (by rw [i2]; exact hd1 d hd), hv d hd]
              exact (p4 j o d ho hin hd).symm
            · have hLj' : L j = true := by unfold plus at hLj; rwa [if_neg hji] at hLj
              rw [put_other _ _ _ _ (hd2 j o' hj hji d hd)]; exact i7 j o' d hj hLj' hd
        · simp [Region.wanted, hg] at hw0
    · -- the call
      subst hin
      rw [hoc] at ho
      obtain rfl := Option.some.inj ho
      obtain ⟨⟨x, hx⟩, i7⟩ := i5 hLi
      have he : execOp a.eval oc = execOp aσ.eval oc := by
        refine execOp_congr oc (fun c b hc => by rw [notSelect, hc] at hns; cases hns) (eval_eyes fun t ht => ?_)
        by_cases hex : ∃ (j : Nat) (o' : Oper), l[j]? = some o' ∧ o'.dst = some t
        · obtain ⟨j, o', hj, hd⟩ := hex
          obtain ⟨hji, e, he, hb, hon⟩ := heyes t ht j o' hj hd
          exact i7 j o' t hj (hon ▸ hafter e he hb) hd
        · have hn' : ∀ (j : Nat) (o' : Oper), l[j]? = some o' → o'.dst ≠ some t := fun j o' hj hd => hex ⟨j, o', hj, hd⟩
          rw [i3 t hn', hout0 t fun j o' _ hj => hn' j o' hj]
      subst hx
      unfold Oper.wp
      rw [he, hent]
      simp only [Oper.upon]
      refine (hcall x).mono ?_
      rintro e w' ⟨v, rfl, hR⟩
      obtain ⟨vs, hst, hQ⟩ := stepsS_of _ _ (hpost v w' hR)
      have hdv : ∀ d, oc.dst = some d → (putsS (l.drop (i + 1)) vs (aσ.put oc.dst v)).tmps.getD d undef = v := by
        intro d hd
        rw [putsS_other, hd, put_here _ _ _ (by rw [hsize]; exact hd1 d hd)]
        intro o' hm' hd'
        obtain ⟨k, hk, rfl⟩ := List.getElem_of_mem hm'
        exact hone i oc _ _ d hoc (hdropg k _ (List.getElem?_eq_getElem hk)) (by omega) hd hd'
      have hP : Post w' (putsS (l.drop (i + 1)) vs (aσ.put oc.dst v)) := ⟨v, w', vs, hR, hD _, hst, rfl, hQ, hdv⟩
      obtain ⟨_, _, _, p4⟩ := hPost _ _ hP
      refine ⟨(put_defers' _ _ _).trans i1, (put_size _ _ _).trans i2, fun t ht => ?_, hcl, fun hLn => ?_, fun _ => ⟨_, hP, fun j o' d hj hLj hd => ?_⟩⟩
      · rw [put_other _ _ _ _ (ht i oc hoc)]; exact i3 t ht
      · simp [plus] at hLn
      · by_cases hji : j = i
        · subst hji
          rw [hoc] at hj
          obtain rfl := Option.some.inj hj
          rw [hd, put_here _ _ _ (by rw [i2]; exact hd1 d hd), ← hd, hdv d hd]
        · have hLj' : L j = true := by unfold plus at hLj; rwa [if_neg hji] at hLj
          have hjn : j < i := by
            rcases Nat.lt_trichotomy j i with h | h | h
            · exact h
            · exact absurd h hji
            · exfalso
              have : ∀ d t, t = d → i < t → t < l.length → L t = true → False := by
                intro d
                induction d using Nat.strongRecOn with
                | _ d ih =>
                  intro t htd hit htl hLt
                  obtain ⟨e, he', hb, h1, h2⟩ := wildB2_post hw t _ (List.getElem?_eq_getElem htl) hit
                  have h3 := i4 t _ (List.getElem?_eq_getElem htl) hLt e he' hb
                  rcases Nat.eq_or_lt_of_le h1 with h4 | h4
                  · rw [← h4, hLi] at h3; cases h3
                  · exact ih e.on (by omega) e.on rfl h4 (by omega) h3
              exact this _ j rfl h (List.getElem?_eq_some_iff.1 hj).1 hLj'
          rw [put_other _ _ _ _ (hd2 j o' hj hji d hd), i7 j o' d hj hLj' hd, p4 j o' d hj hjn hd]
    · -- behind the call
      have hLn : L n = true := by
        obtain ⟨e, he, hb, h1, h2⟩ := wildB2_post hw i o ho hin
        have h3 := hafter e he hb
        have : ∀ d t, t = d → n ≤ t → t < l.length → L t = true → L n = true := by
          intro d
          induction d using Nat.strongRecOn with
          | _ d ih =>
            intro t htd hit htl hLt
            rcases Nat.eq_or_lt_of_le hit with h4 | h4
            · rw [h4]; exact hLt
            · obtain ⟨e, he', hb, h1, h2⟩ := wildB2_post hw t _ (List.getElem?_eq_getElem htl) h4
              exact ih e.on (by omega) e.on rfl h1 (by omega) (i4 t _ (List.getElem?_eq_getElem htl) hLt e he' hb)
        exact this _ e.on rfl h1 (by have := (List.getElem?_eq_some_iff.1 ho).1; omega) h3
      obtain ⟨aτ, hP, i7⟩ := i6 hLn
      obtain ⟨p1, p2, p3, p4⟩ := hPost _ _ hP
      obtain ⟨v, w0, vs, hR0, hDw, hst, hfin, hQ, hdv⟩ := hP
      have ho' : (l.drop (n + 1))[i - (n + 1)]? = some o := by rw [List.getElem?_drop]; rw [show n + 1 + (i - (n + 1)) = i by omega]; exact ho
      obtain ⟨u, ai, hY, hv, hno, hyes⟩ := stepsS_key hst hfin (fun j o' d h hd => by rw [put_size, hsize]; exact (hL _ o' (hdropg j o' h)).2.2.1 d hd) (fun j o' k o'' d h h' hne hd => hone _ o' _ o'' d (hdropg j o' h) (hdropg k o'' h') (by omega) hd) _ o ho'
      have he : execOp a.eval o = execOp ai.eval o := by
        refine execOp_congr o (fun c b hc => by rw [notSelect, hc] at hns; cases hns) (eval_eyes fun t ht => ?_)
        by_cases hex : ∃ (j : Nat) (o' : Oper), l[j]? = some o' ∧ o'.dst = some t
        · obtain ⟨j, o', hj, hd⟩ := hex
          obtain ⟨hji, e, he, hb, hon⟩ := heyes t ht j o' hj hd
          have hLj : L j = true := hon ▸ hafter e he hb
          rw [i7 j o' t hj hLj hd]
          by_cases hjn : n < j
          · rw [hyes t (j - (n + 1)) o' (by omega) (by rw [List.getElem?_drop, show n + 1 + (j - (n + 1)) = j by omega]; exact hj) hd]
          · have h9 : ai.tmps.getD t undef = (aσ.put oc.dst v).tmps.getD t undef := hno t fun k o'' hk => hone j o' _ o'' t hj (hdropg k o'' hk) (by omega) hd
            rw [h9]
            rcases Nat.lt_or_ge j n with h10 | h10
            · rw [p4 j o' t hj h10 hd, put_other _ _ _ _ (hone j o' n oc t hj hoc (by omega) hd)]
            · obtain rfl : j = n := by omega
              rw [hoc] at hj
              obtain rfl := Option.some.inj hj
              rw [hdv t hd, hd, put_here _ _ _ (by rw [hsize]; exact (hL j oc hoc).2.2.1 t hd)]
        · have hn' : ∀ (j : Nat) (o' : Oper), l[j]? = some o' → o'.dst ≠ some t := fun j o' hj hd => hex ⟨j, o', hj, hd⟩
          rw [i3 t hn', hno t fun j o' hj => hn' _ o' (hdropg j o' hj), put_other _ _ _ _ (hn' n oc hoc), hout0 t fun j o' _ hj => hn' j o' hj]
      have hY' := hY.of_same he (by simp [Region.wanted, hg])
      rcases hY' with ⟨_, hq⟩ | ⟨hw0, _⟩
      · refine Oper.wp_of_quiet (C := D w0) (K := fun a' => a' = a.put o.dst u) hDw ?_ ⟨u, hq, rfl⟩
        rintro a' w' hDw' rfl
        refine ⟨(put_defers' _ _ _).trans i1, (put_size _ _ _).trans i2, fun t ht => ?_, hcl, fun hLp => ?_, fun _ => ⟨aτ, ⟨v, w0, vs, hR0, hDw', hst, hfin, hQ, hdv⟩, fun j o' d hj hLj hd => ?_⟩⟩
        · rw [put_other _ _ _ _ (ht i o ho)]; exact i3 t ht
        · unfold plus at hLp; rw [if_neg (by omega), hLn] at hLp; cases hLp
        · by_cases hji : j = i
          · subst hji
            rw [ho] at hj
            obtain rfl := Option.some.inj hj
            rw [hd, put_here _ _ _ (by rw [i2]; exact hd1 d hd)]
            exact hv d hd
          · have hLj' : L j = true := by unfold plus at hLj; rwa [if_neg hji] at hLj
            rw [put_other _ _ _ _ (hd2 j o' hj hji d hd)]; exact i7 j o' d hj hLj' hd
      · simp [Region.wanted, hg] at hw0
  · intro L a w hall ⟨i1, i2, i3, i4, i5, i6⟩
    obtain ⟨aτ, hP, i7⟩ := i6 (hall n hnl)
    obtain ⟨p1, p2, p3, p4⟩ := hPost _ _ hP
    obtain ⟨v, w0, vs, hR0, hDw, hst, hfin, hQ, hdv⟩ := hP
    have : a = aτ := by
      refine act_ext (i2.trans p1.symm) (i1.trans p2.symm) fun k => ?_
      by_cases hex : ∃ (j : Nat) (o' : Oper), l[j]? = some o' ∧ o'.dst = some k
      · obtain ⟨j, o', hj, hd⟩ := hex
        exact i7 j o' k hj (hall j (List.getElem?_eq_some_iff.1 hj).1) hd
      · have hn' : ∀ (j : Nat) (o' : Oper), l[j]? = some o' → o'.dst ≠ some k := fun j o' hj hd => hex ⟨j, o', hj, hd⟩
        rw [i3 k hn', p3 k hn']
    rw [this]; exact hQ _ hDw
/-- The same; what stands behind the call, and what may run behind it, turns nothing below the heap that the call has left. -/
theorem wp_region_wildG {P : Program} {id : Nat} {Q : Exit → Act → World → Prop} {a0 : Act} {W : World} {l : List Oper} (B n : Nat) (aσ : Act) (oc : Oper) (f : FuncId) (args : Array Value) (R : Value → World → Prop)
    (hm : P.follows .mixedOrders = true) (hback : backB l = true) (hn : lawB l a0.tmps.size = true) (hw : wildB2 l n = true) (hoc : l[n]? = some oc) (hBW : B ≤ W.heap.size)
    (hpre : ∀ (B' : Nat) (W' : World), Below B W W' → B ≤ B' → B' ≤ W'.heap.size → wpQuiet P l.toArray (fun w' => ∃ x : Ext B' W', w' = x.out) (fun a' => a' = aσ) (l.take n) a0)
    (hent : ∀ w, (execOp aσ.eval oc).run P w = .ok (.enter f args) w)
    (hcall : ∀ x : Ext B W, Calls P f args x.out fun e w' => ∃ v, e = .returned v ∧ R v w' ∧ Below B W w')
    (hpost : ∀ v w1, R v w1 → Below B W w1 → wpQuiet P l.toArray (fun w' => ∃ y : Ext w1.heap.size w1, w' = y.out) (fun a' => ∀ w', (∃ y : Ext w1.heap.size w1, w' = y.out) → Q .normal a' w') (l.drop (n + 1)) (aσ.put oc.dst v)) :
    (Code.region id l.toArray true).wp P Q a0 W :=
  wp_region_wildF B n aσ oc f args (fun v w1 => R v w1 ∧ Below B W w1) (fun w1 w' => ∃ y : Ext w1.heap.size w1, w' = y.out) (fun w => ⟨⟨w, Below.refl _ _⟩, rfl⟩) hm hback hn hw hoc hBW (hpre B W (Below.refl _ _) (Nat.le_refl _) hBW)
    (fun v w1 hR => hpre w1.heap.size w1 hR.2 (Nat.le_trans hBW hR.2.size) (Nat.le_refl _)) hent hcall (fun v w1 hR => hpost v w1 hR.1 hR.2)
end Go.Proofs.Ytfbgldkdlmipoaa

/- A region that draws its order with one operation of unforeknown result (a slice that is built). -/
namespace Go.Proofs.Ytfbgldkdlmipoaa
open Go.RowKit
set_option linter.unusedSimpArgs false
set_option linter.unusedVariables false
set_option maxHeartbeats 1600000 in
theorem wp_region_wildX {P : Program} {id : Nat} {Q : Exit → Act → World → Prop} {a0 : Act} {W : World} {l : List Oper} (B n : Nat) (aσ : Act) (oc : Oper) (R : Value → World → Prop) (D : World → World → Prop) (hD : ∀ w, D w w)
    (hm : P.follows .mixedOrders = true) (hback : backB l = true) (hn : lawB l a0.tmps.size = true) (hw : wildB2 l n = true) (hoc : l[n]? = some oc) (hBW : B ≤ W.heap.size)
    (hpre : wpQuiet P l.toArray (fun w' => ∃ x : Ext B W, w' = x.out) (fun a' => a' = aσ) (l.take n) a0)
    (hpre2 : ∀ v w1, R v w1 → wpQuiet P l.toArray (D w1) (fun a' => a' = aσ) (l.take n) a0)
    (hop : ∀ (x : Ext B W) (a : Act) (K : Act → World → Prop) (Q' : Exit → Act → World → Prop), execOp a.eval oc = execOp aσ.eval oc → (∀ v w', R v w' → K (a.put oc.dst v) w') → Oper.wp P oc a x.out K Q')
    (hpost : ∀ v w1, R v w1 → wpQuiet P l.toArray (D w1) (fun a' => ∀ w', D w1 w' → Q .normal a' w') (l.drop (n + 1)) (aσ.put oc.dst v)) :
    (Code.region id l.toArray true).wp P Q a0 W := by
  have hL := fun i o ho => lawB_of hn i o ho
  have hone : ∀ (i : Nat) (o : Oper) (j : Nat) (o' : Oper) (d : Nat), l[i]? = some o → l[j]? = some o' → i ≠ j → o.dst = some d → o'.dst ≠ some d := fun i o j o' d hi hj hne hd => (hL j o' hj).2.2.2.1 i o hi hne d hd
  have hnl : n < l.length := (List.getElem?_eq_some_iff.1 hoc).1
  have htake : ∀ (i : Nat) (o : Oper), (l.take n)[i]? = some o → l[i]? = some o ∧ i < n := fun i o h => by
    rw [List.getElem?_take] at h
    split at h
    · exact ⟨h, by assumption⟩
    · cases h
  have hdropg : ∀ (i : Nat) (o : Oper), (l.drop (n + 1))[i]? = some o → l[n + 1 + i]? = some o := fun i o h => by rw [List.getElem?_drop] at h; exact h
  obtain ⟨vs0, hst0, hfin0⟩ := stepsS_of _ _ hpre
  have hsize : aσ.tmps.size = a0.tmps.size := by rw [← hfin0, putsS_size]
  have hdef : aσ.defers = a0.defers := by rw [← hfin0, putsS_defers]
  have key0 := fun i o ho => stepsS_key hst0 hfin0 (fun i o d h hd => (hL i o (htake i o h).1).2.2.1 d hd) (fun i o j o' d h h' hne hd => hone i o j o' d (htake i o h).1 (htake j o' h').1 hne hd) i o ho
  have hout0 : ∀ t : Nat, (∀ (i : Nat) (o : Oper), i < n → l[i]? = some o → o.dst ≠ some t) → aσ.tmps.getD t undef = a0.tmps.getD t undef := by
    intro t ht
    rw [← hfin0, putsS_other]
    intro o' hm' hd
    obtain ⟨k, hk, rfl⟩ := List.getElem_of_mem hm'
    have hk2 := htake k _ (List.getElem?_eq_getElem hk)
    exact ht k _ hk2.2 hk2.1 hd
  -- what stands when the call has been made
  let Post : World → Act → Prop := fun w aτ => ∃ v w0 vs, R v w0 ∧ D w0 w ∧ StepsS P l.toArray (D w0) (l.drop (n + 1)) vs (aσ.put oc.dst v) ∧ putsS (l.drop (n + 1)) vs (aσ.put oc.dst v) = aτ ∧ (∀ w', D w0 w' → Q .normal aτ w') ∧ ∀ d, oc.dst = some d → aτ.tmps.getD d undef = v
  have hPost : ∀ w aτ, Post w aτ → aτ.tmps.size = a0.tmps.size ∧ aτ.defers = a0.defers ∧ (∀ t : Nat, (∀ (i : Nat) (o : Oper), l[i]? = some o → o.dst ≠ some t) → aτ.tmps.getD t undef = a0.tmps.getD t undef) ∧
      (∀ (i : Nat) (o : Oper) (d : Nat), l[i]? = some o → i < n → o.dst = some d → aτ.tmps.getD d undef = aσ.tmps.getD d undef) := by
    rintro w aτ ⟨v, w0, vs, _, _, h1, h2, _, _⟩
    have hoth : ∀ t : Nat, (∀ (i : Nat) (o : Oper), n < i → l[i]? = some o → o.dst ≠ some t) → aτ.tmps.getD t undef = (aσ.put oc.dst v).tmps.getD t undef := by
      intro t ht
      rw [← h2, putsS_other]
      intro o' hm' hd
      obtain ⟨k, hk, rfl⟩ := List.getElem_of_mem hm'
      exact ht _ _ (by omega) (hdropg k _ (List.getElem?_eq_getElem hk)) hd
    refine ⟨by rw [← h2, putsS_size, put_size, hsize], by rw [← h2, putsS_defers, put_defers', hdef], fun t ht => ?_, fun i o d hi hin hd => ?_⟩
    · rw [hoth t fun i o _ hi => ht i o hi, put_other _ _ _ _ (ht n oc hoc), hout0 t fun i o _ hi => ht i o hi]
    · rw [hoth d fun j o' hj hj' => hone i o j o' d hi hj' (by omega) hd, put_other _ _ _ _ (hone i o n oc d hi hoc (by omega) hd)]
  refine wp_region_inv hm hback (fun L a w => a.defers = a0.defers ∧ a.tmps.size = a0.tmps.size ∧ (∀ t : Nat, (∀ (i : Nat) (o : Oper), l[i]? = some o → o.dst ≠ some t) → a.tmps.getD t undef = a0.tmps.getD t undef) ∧
    (∀ (j : Nat) (oj : Oper), l[j]? = some oj → L j = true → ∀ e ∈ oj.after, Region.binds .any e = true → L e.on = true) ∧
    (L n = false → (∃ x : Ext B W, w = x.out) ∧ ∀ (i : Nat) (o : Oper) (d : Nat), l[i]? = some o → L i = true → o.dst = some d → a.tmps.getD d undef = aσ.tmps.getD d undef) ∧
    (L n = true → ∃ aτ, Post w aτ ∧ ∀ (i : Nat) (o : Oper) (d : Nat), l[i]? = some o → L i = true → o.dst = some d → a.tmps.getD d undef = aτ.tmps.getD d undef)) ?_ ?_ ?_
  · intro L hL0
    exact ⟨rfl, rfl, fun _ _ => rfl, fun j oj hj hLj => (by rw [hL0 j (List.getElem?_eq_some_iff.1 hj).1] at hLj; cases hLj), fun _ => ⟨⟨⟨_, (Below.refl B W).drew⟩, rfl⟩, fun i o d hi hLi => (by rw [hL0 i (List.getElem?_eq_some_iff.1 hi).1] at hLi; cases hLi)⟩, fun hLn => (by rw [hL0 n hnl] at hLn; cases hLn)⟩
  · intro L a w i o ho hLi hafter ⟨i1, i2, i3, i4, i5, i6⟩
    obtain ⟨hg, hns, hd1, hd2, heyes⟩ := hL i o ho
    rw [if_pos (by simp [Region.wanted, hg])]
    have hcl : ∀ (j : Nat) (oj : Oper), l[j]? = some oj → plus L i j = true → ∀ e ∈ oj.after, Region.binds .any e = true → plus L i e.on = true := by
      intro j oj hj hLj e he hb
      unfold plus at hLj ⊢
      by_cases hji : j = i
      · subst hji
        rw [ho] at hj
        obtain rfl := Option.some.inj hj
        split
        · rfl
        · exact hafter e he hb
      · rw [if_neg hji] at hLj
        split
        · rfl
        · exact i4 j oj hj hLj e he hb
    rcases Nat.lt_trichotomy i n with hin | hin | hin
    · -- ahead of the call
      cases hLn : L n with
      | false =>
        obtain ⟨⟨x, hx⟩, i7⟩ := i5 hLn
        have ho' : (l.take n)[i]? = some o := by rw [List.getElem?_take, if_pos hin]; exact ho
        obtain ⟨v, ai, hY, hv, hno, hyes⟩ := key0 i o ho'
        have he : execOp a.eval o = execOp ai.eval o := by
          refine execOp_congr o (fun c b hc => by rw [notSelect, hc] at hns; cases hns) (eval_eyes fun t ht => ?_)
          by_cases hex : ∃ (j : Nat) (o' : Oper), l[j]? = some o' ∧ o'.dst = some t
          · obtain ⟨j, o', hj, hd⟩ := hex
            obtain ⟨hji, e, he, hb, hon⟩ := heyes t ht j o' hj hd
            have hLj : L j = true := hon ▸ hafter e he hb
            rw [hyes t j o' hji (by rw [List.getElem?_take, if_pos (by omega)]; exact hj) hd]
            exact i7 j o' t hj hLj hd
          · have hn' : ∀ (j : Nat) (o' : Oper), l[j]? = some o' → o'.dst ≠ some t := fun j o' hj hd => hex ⟨j, o', hj, hd⟩
            rw [i3 t hn', hno t fun j o' hj => hn' j o' (htake j o' hj).1]
        have hY' := hY.of_same he (by simp [Region.wanted, hg])
        rcases hY' with ⟨_, hq⟩ | ⟨hw0, _⟩
        · refine Oper.wp_of_quiet (C := fun w' => ∃ x : Ext B W, w' = x.out) (K := fun a' => a' = a.put o.dst v) ⟨x, hx⟩ ?_ ⟨v, hq, rfl⟩
          rintro a' w' ⟨z, rfl⟩ rfl
          refine ⟨(put_defers' _ _ _).trans i1, (put_size _ _ _).trans i2, fun t ht => ?_, hcl, fun _ => ⟨⟨z, rfl⟩, fun j o' d hj hLj hd => ?_⟩, fun hLp => ?_⟩
          · rw [put_other _ _ _ _ (ht i o ho)]; exact i3 t ht
          · by_cases hji : j = i
            · subst hji
              rw [ho] at hj
              obtain rfl := Option.some.inj hj
              rw [hd, put_here _ _ _ (by rw [i2]; exact hd1 d hd)]
              exact hv d hd
            · have hLj' : L j = true := by unfold plus at hLj; rwa [if_neg hji] at hLj
              rw [put_other _ _ _ _ (hd2 j o' hj hji d hd)]; exact i7 j o' d hj hLj' hd
          · unfold plus at hLp; rw [if_neg (by omega), hLn] at hLp; cases hLp
        · simp [Region.wanted, hg] at hw0
      | true =>
        obtain ⟨aτ, hP, i7⟩ := i6 hLn
        have hP0 := hP
        obtain ⟨p1, p2, p3, p4⟩ := hPost _ _ hP
        obtain ⟨v1, w0, vs1, hR0, hDw, hst1, hfin1, hQ1, hdv1⟩ := hP
        obtain ⟨vs2, hst2, hfin2⟩ := stepsS_of _ _ (hpre2 v1 w0 hR0)
        have ho' : (l.take n)[i]? = some o := by rw [List.getElem?_take, if_pos hin]; exact ho
        obtain ⟨v, ai, hY, hv, hno, hyes⟩ := stepsS_key hst2 hfin2 (fun i o d h hd => (hL i o (htake i o h).1).2.2.1 d hd) (fun i o j o' d h h' hne hd => hone i o j o' d (htake i o h).1 (htake j o' h').1 hne hd) i o ho'
        have he : execOp a.eval o = execOp ai.eval o := by
          refine execOp_congr o (fun c b hc => by rw [notSelect, hc] at hns; cases hns) (eval_eyes fun t ht => ?_)
          by_cases hex : ∃ (j : Nat) (o' : Oper), l[j]? = some o' ∧ o'.dst = some t
          · obtain ⟨j, o', hj, hd⟩ := hex
            obtain ⟨hji, e, he, hb, hon⟩ := heyes t ht j o' hj hd
            have hLj : L j = true := hon ▸ hafter e he hb
            rw [hyes t j o' hji (by rw [List.getElem?_take, if_pos (by omega)]; exact hj) hd, i7 j o' t hj hLj hd]
            exact p4 j o' t hj (by omega) hd
          · have hn' : ∀ (j : Nat) (o' : Oper), l[j]? = some o' → o'.dst ≠ some t := fun j o' hj hd => hex ⟨j, o', hj, hd⟩
            rw [i3 t hn', hno t fun j o' hj => hn' j o' (htake j o' hj).1]
        have hY' := hY.of_same he (by simp [Region.wanted, hg])
        rcases hY' with ⟨_, hq⟩ | ⟨hw0, _⟩
        · refine Oper.wp_of_quiet (C := D w0) (K := fun a' => a' = a.put o.dst v) hDw ?_ ⟨v, hq, rfl⟩
          rintro a' w' hDw' rfl
          refine ⟨(put_defers' _ _ _).trans i1, (put_size _ _ _).trans i2, fun t ht => ?_, hcl, fun hLp => ?_, fun _ => ⟨aτ, ⟨v1, w0, vs1, hR0, hDw', hst1, hfin1, hQ1, hdv1⟩, fun j o' d hj hLj hd => ?_⟩⟩
          · rw [put_other _ _ _ _ (ht i o ho)]; exact i3 t ht
          · unfold plus at hLp; rw [if_neg (by omega), hLn] at hLp; cases hLp
          · by_cases hji : j = i
            · subst hji
              rw [ho] at hj
              obtain rfl := Option.some.inj hj
              rw [hd, put_here _ _ _ (by rw [i2]; exact hd1 d hd), hv d hd]
              exact (p4 j o d ho hin hd).symm
            · have hLj' : L j = true := by unfold plus at hLj; rwa [if_neg hji] at hLj
              rw [put_other _ _ _ _ (hd2 j o' hj hji d hd)]; exact i7 j o' d hj hLj' hd
        · simp [Region.wanted, hg] at hw0
    · -- the call
      subst hin
      rw [hoc] at ho
      obtain rfl := Option.some.inj ho
      obtain ⟨⟨x, hx⟩, i7⟩ := i5 hLi
      have he : execOp a.eval oc = execOp aσ.eval oc := by
        refine execOp_congr oc (fun c b hc => by rw [notSelect, hc] at hns; cases hns) (eval_eyes fun t ht => ?_)
        by_cases hex : ∃ (j : Nat) (o' : Oper), l[j]? = some o' ∧ o'.dst = some t
        · obtain ⟨j, o', hj, hd⟩ := hex
          obtain ⟨hji, e, he, hb, hon⟩ := heyes t ht j o' hj hd
          exact i7 j o' t hj (hon ▸ hafter e he hb) hd
        · have hn' : ∀ (j : Nat) (o' : Oper), l[j]? = some o' → o'.dst ≠ some t := fun j o' hj hd => hex ⟨j, o', hj, hd⟩
          rw [i3 t hn', hout0 t fun j o' _ hj => hn' j o' hj]
      subst hx
      refine hop x a _ _ he ?_
      rintro v w' hR
      obtain ⟨vs, hst, hQ⟩ := stepsS_of _ _ (hpost v w' hR)
      have hdv : ∀ d, oc.dst = some d → (putsS (l.drop (i + 1)) vs (aσ.put oc.dst v)).tmps.getD d undef = v := by
        intro d hd
        rw [putsS_other, hd, put_here _ _ _ (by rw [hsize]; exact hd1 d hd)]
        intro o' hm' hd'
        obtain ⟨k, hk, rfl⟩ := List.getElem_of_mem hm'
        exact hone i oc _ _ d hoc (hdropg k _ (List.getElem?_eq_getElem hk)) (by omega) hd hd'
      have hP : Post w' (putsS (l.drop (i + 1)) vs (aσ.put oc.dst v)) := ⟨v, w', vs, hR, hD _, hst, rfl, hQ, hdv⟩
      obtain ⟨_, _, _, p4⟩ := hPost _ _ hP
      refine ⟨(put_defers' _ _ _).trans i1, (put_size _ _ _).trans i2, fun t ht => ?_, hcl, fun hLn => ?_, fun _ => ⟨_, hP, fun j o' d hj hLj hd => ?_⟩⟩
      · rw [put_other _ _ _ _ (ht i oc hoc)]; exact i3 t ht
      · simp [plus] at hLn
      · by_cases hji : j = i
        · subst hji
          rw [hoc] at hj
          obtain rfl := Option.some.inj hj
          rw [hd, put_here _ _ _ (by rw [i2]; exact hd1 d hd), ← hd, hdv d hd]
        · have hLj' : L j = true := by unfold plus at hLj; rwa [if_neg hji] at hLj
          have hjn : j < i := by
            rcases Nat.lt_trichotomy j i with h | h | h
            · exact h
            · exact absurd h hji
            · exfalso
              have : ∀ d t, t = d → i < t → t < l.length → L t = true → False := by
                intro d
                induction d using Nat.strongRecOn with
                | _ d ih =>
                  intro t htd hit htl hLt
                  obtain ⟨e, he', hb, h1, h2⟩ := wildB2_post hw t _ (List.getElem?_eq_getElem htl) hit
                  have h3 := i4 t _ (List.getElem?_eq_getElem htl) hLt e he' hb
                  rcases Nat.eq_or_lt_of_le h1 with h4 | h4
                  · rw [← h4, hLi] at h3; cases h3
                  · exact ih e.on (by omega) e.on rfl h4 (by omega) h3
              exact this _ j rfl h (List.getElem?_eq_some_iff.1 hj).1 hLj'
          rw [put_other _ _ _ _ (hd2 j o' hj hji d hd), i7 j o' d hj hLj' hd, p4 j o' d hj hjn hd]
    · -- behind the call
      have hLn : L n = true := by
        obtain ⟨e, he, hb, h1, h2⟩ := wildB2_post hw i o ho hin
        have h3 := hafter e he hb
        have : ∀ d t, t = d → n ≤ t → t < l.length → L t = true → L n = true := by
          intro d
          induction d using Nat.strongRecOn with
          | _ d ih =>
            intro t htd hit htl hLt
            rcases Nat.eq_or_lt_of_le hit with h4 | h4
            · rw [h4]; exact hLt
            · obtain ⟨e, he', hb, h1, h2⟩ := wildB2_post hw t _ (List.getElem?_eq_getElem htl) h4
              exact ih e.on (by omega) e.on rfl h1 (by omega) (i4 t _ (List.getElem?_eq_getElem htl) hLt e he' hb)
        exact this _ e.on rfl h1 (by have := (List.getElem?_eq_some_iff.1 ho).1; omega) h3
      obtain ⟨aτ, hP, i7⟩ := i6 hLn
      obtain ⟨p1, p2, p3, p4⟩ := hPost _ _ hP
      obtain ⟨v, w0, vs, hR0, hDw, hst, hfin, hQ, hdv⟩ := hP
      have ho' : (l.drop (n + 1))[i - (n + 1)]? = some o := by rw [List.getElem?_drop]; rw [show n + 1 + (i - (n + 1)) = i by omega]; exact ho
      obtain ⟨u, ai, hY, hv, hno, hyes⟩ := stepsS_key hst hfin (fun j o' d h hd => by rw [put_size, hsize]; exact (hL _ o' (hdropg j o' h)).2.2.1 d hd) (fun j o' k o'' d h h' hne hd => hone _ o' _ o'' d (hdropg j o' h) (hdropg k o'' h') (by omega) hd) _ o ho'
      have he : execOp a.eval o = execOp ai.eval o := by
        refine execOp_congr o (fun c b hc => by rw [notSelect, hc] at hns; cases hns) (eval_eyes fun t ht => ?_)
        by_cases hex : ∃ (j : Nat) (o' : Oper), l[j]? = some o' ∧ o'.dst = some t
        · obtain ⟨j, o', hj, hd⟩ := hex
          obtain ⟨hji, e, he, hb, hon⟩ := heyes t ht j o' hj hd
          have hLj : L j = true := hon ▸ hafter e he hb
          rw [i7 j o' t hj hLj hd]
          by_cases hjn : n < j
          · rw [hyes t (j - (n + 1)) o' (by omega) (by rw [List.getElem?_drop, show n + 1 + (j - (n + 1)) = j by omega]; exact hj) hd]
          · have h9 : ai.tmps.getD t undef = (aσ.put oc.dst v).tmps.getD t undef := hno t fun k o'' hk => hone j o' _ o'' t hj (hdropg k o'' hk) (by omega) hd
            rw [h9]
            rcases Nat.lt_or_ge j n with h10 | h10
            · rw [p4 j o' t hj h10 hd, put_other _ _ _ _ (hone j o' n oc t hj hoc (by omega) hd)]
            · obtain rfl : j = n := by omega
              rw [hoc] at hj
              obtain rfl := Option.some.inj hj
              rw [hdv t hd, hd, put_here _ _ _ (by rw [hsize]; exact (hL j oc hoc).2.2.1 t hd)]
        · have hn' : ∀ (j : Nat) (o' : Oper), l[j]? = some o' → o'.dst ≠ some t := fun j o' hj hd => hex ⟨j, o', hj, hd⟩
          rw [i3 t hn', hno t fun j o' hj => hn' _ o' (hdropg j o' hj), put_other _ _ _ _ (hn' n oc hoc), hout0 t fun j o' _ hj => hn' j o' hj]
      have hY' := hY.of_same he (by simp [Region.wanted, hg])
      rcases hY' with ⟨_, hq⟩ | ⟨hw0, _⟩
      · refine Oper.wp_of_quiet (C := D w0) (K := fun a' => a' = a.put o.dst u) hDw ?_ ⟨u, hq, rfl⟩
        rintro a' w' hDw' rfl
        refine ⟨(put_defers' _ _ _).trans i1, (put_size _ _ _).trans i2, fun t ht => ?_, hcl, fun hLp => ?_, fun _ => ⟨aτ, ⟨v, w0, vs, hR0, hDw', hst, hfin, hQ, hdv⟩, fun j o' d hj hLj hd => ?_⟩⟩
        · rw [put_other _ _ _ _ (ht i o ho)]; exact i3 t ht
        · unfold plus at hLp; rw [if_neg (by omega), hLn] at hLp; cases hLp
        · by_cases hji : j = i
          · subst hji
            rw [ho] at hj
            obtain rfl := Option.some.inj hj
            rw [hd, put_here _ _ _ (by rw [i2]; exact hd1 d hd)]
            exact hv d hd
          · have hLj' : L j = true := by unfold plus at hLj; rwa [if_neg hji] at hLj
            rw [put_other _ _ _ _ (hd2 j o' hj hji d hd)]; exact i7 j o' d hj hLj' hd
      · simp [Region.wanted, hg] at hw0
  · intro L a w hall ⟨i1, i2, i3, i4, i5, i6⟩
    obtain ⟨aτ, hP, i7⟩ := i6 (hall n hnl)
    obtain ⟨p1, p2, p3, p4⟩ := hPost _ _ hP
    obtain ⟨v, w0, vs, hR0, hDw, hst, hfin, hQ, hdv⟩ := hP
    have : a = aτ := by
      refine act_ext (i2.trans p1.symm) (i1.trans p2.symm) fun k => ?_
      by_cases hex : ∃ (j : Nat) (o' : Oper), l[j]? = some o' ∧ o'.dst = some k
      · obtain ⟨j, o', hj, hd⟩ := hex
        exact i7 j o' k hj (hall j (List.getElem?_eq_some_iff.1 hj).1) hd
      · have hn' : ∀ (j : Nat) (o' : Oper), l[j]? = some o' → o'.dst ≠ some k := fun j o' hj hd => hex ⟨j, o', hj, hd⟩
        rw [i3 k hn', p3 k hn']
    rw [this]; exact hQ _ hDw
/-- The same, at one operation of unforeknown result that is no call; what stands behind it, and what may run behind it, turns nothing below the heap that the call has left. -/
theorem wp_region_wildO {P : Program} {id : Nat} {Q : Exit → Act → World → Prop} {a0 : Act} {W : World} {l : List Oper} (B n : Nat) (aσ : Act) (oc : Oper) (R : Value → World → Prop)
    (hm : P.follows .mixedOrders = true) (hback : backB l = true) (hn : lawB l a0.tmps.size = true) (hw : wildB2 l n = true) (hoc : l[n]? = some oc) (hBW : B ≤ W.heap.size)
    (hpre : ∀ (B' : Nat) (W' : World), Below B W W' → B ≤ B' → B' ≤ W'.heap.size → wpQuiet P l.toArray (fun w' => ∃ x : Ext B' W', w' = x.out) (fun a' => a' = aσ) (l.take n) a0)
    (hrun : ∀ x : Ext B W, ∃ v w', (execOp aσ.eval oc).run P x.out = .ok (.value v) w' ∧ R v w' ∧ Below B W w')
    (hpost : ∀ v w1, R v w1 → Below B W w1 → wpQuiet P l.toArray (fun w' => ∃ y : Ext w1.heap.size w1, w' = y.out) (fun a' => ∀ w', (∃ y : Ext w1.heap.size w1, w' = y.out) → Q .normal a' w') (l.drop (n + 1)) (aσ.put oc.dst v)) :
    (Code.region id l.toArray true).wp P Q a0 W :=
  wp_region_wildX B n aσ oc (fun v w1 => R v w1 ∧ Below B W w1) (fun w1 w' => ∃ y : Ext w1.heap.size w1, w' = y.out) (fun w => ⟨⟨w, Below.refl _ _⟩, rfl⟩) hm hback hn hw hoc hBW (hpre B W (Below.refl _ _) (Nat.le_refl _) hBW)
    (fun v w1 hR => hpre w1.heap.size w1 hR.2 (Nat.le_trans hBW hR.2.size) (Nat.le_refl _)) (fun x a K Q' he hK => by
      obtain ⟨v, w', h1, h2, h3⟩ := hrun x
      unfold Oper.wp
      rw [he, h1]
      exact hK v w' ⟨h2, h3⟩) (fun v w1 hR => hpost v w1 hR.1 hR.2)
end Go.Proofs.Ytfbgldkdlmipoaa

/- KindAt, the program's and the reference's. -/
namespace Go.Proofs.Ytfbgldkdlmipoaa
open Go.RowKit
set_option linter.unusedSimpArgs false
set_option linter.unusedVariables false

/-- What KindAt returns. -/
def kindAtV (r : Rf) (c t : Int) : Int := if codeOf (validB r) (isPl r c t) = 0 then r.at c.toNat t.toNat else 0
theorem codeOf_pl0 {r : Rf} {c t : Int} (h : codeOf (validB r) (isPl r c t) = 0) : validB r = true ∧ (0 ≤ c ∧ c ≤ r.h - 1 ∧ 0 ≤ t ∧ t ≤ r.w - 1) ∧ (0 ≤ c ∧ c ≤ 7) ∧ (0 ≤ t ∧ t ≤ 7) := by
  rcases codeOf_cases (validB r) (isPl r c t) with ⟨_, h1⟩ | ⟨_, _, h1⟩ | ⟨h1, h2, _⟩
  · rw [h1] at h; cases h
  · rw [h1] at h; cases h
  · have := valid_head h1; have := isPl_iff.1 h2; exact ⟨h1, by omega⟩
end Go.Proofs.Ytfbgldkdlmipoaa

/- The code of jobs: the program's. -/
namespace Go.Proofs.Ytfbgldkdlmipoaa
open Go.RowKit
set_option linter.unusedSimpArgs false
set_option linter.unusedVariables false

/-- The code of a roof, of what has to be so, and of whether lists are short. -/
def jobK (v g ok : Bool) : Int := if codeOf v g = 0 then (if ok then 0 else 3) else codeOf v g
theorem jobK_zero {v g ok : Bool} (h : jobK v g ok = 0) : v = true ∧ g = true ∧ ok = true := by
  unfold jobK at h
  by_cases h1 : codeOf v g = 0
  · rw [if_pos h1] at h
    have := codeOf_zero h1
    cases ok with
    | true => exact ⟨this.1, this.2, rfl⟩
    | false => cases h
  · rw [if_neg h1] at h; exact absurd h h1
theorem jobK_cases (v g ok : Bool) : jobK v g ok = 1 ∨ jobK v g ok = 2 ∨ jobK v g ok = 3 ∨ jobK v g ok = 0 := by
  unfold jobK
  by_cases h1 : codeOf v g = 0
  · rw [if_pos h1]; cases ok <;> simp
  · rw [if_neg h1]
    rcases codeOf_012 v g with h | h | h
    · exact .inl h
    · exact .inr (.inl h)
    · exact absurd h h1
set_option maxRecDepth 100000 in
theorem c_jobClo (n : Int) (w : World) : Calls Try.prog 83 #[.int .i64 n] w fun e w' => e = .returned (.bool (decide (n ≤ 8))) ∧ Below w.heap.size w w' := by
  go_enter Try.func83, Try.ntmps83
  go_wp2_with fail
  go_ret
  exact ⟨rfl, Below.refl _ _⟩
set_option maxHeartbeats 800000 in
set_option maxRecDepth 100000 in
theorem c_jobCode (r : Rf) (hr : r.Ok) (g : Bool) (A : Option Addr) (c : Nat) (ns : List Int) (hlen : ns.length ≤ 1048576) (w : World) (hA : SlI w A ns) :
    Calls Try.prog 57 #[.agg (rcells r), .bool g, .slice A ns.length c] w fun e w' => e = .returned (.int .i64 (jobK (validB r) g (ns.all fun n => decide (n ≤ 8)))) ∧ Below w.heap.size w w' := by
  have B0 : Below w.heap.size w (w.alloc (.cells (rcells r) 31)) := (Below.refl _ w).alloc (Nat.le_refl _) _
  have HX := hid (block_new1 w (.cells (rcells r) 31) rfl)
  have HA := hid (hA.below B0 (Nat.le_refl _))
  have HR := hid (c_roofCode r hr g)
  have HE := fun w' h => hid (c_areAllN 83 #[] #[] (enters_of Try.func83 (by kernel_rfl) rfl) (fun n => decide (n ≤ 8)) A c ns hlen w' h (fun W p _ _ => c_jobClo p W))
  obtain ⟨ok, hok⟩ : ∃ ok, ok = ns.all fun n => decide (n ≤ 8) := ⟨_, rfl⟩
  rw [← hok] at HE ⊢
  have key : ∀ k : Int, codeOf (validB r) g = k → (k = 1 ∨ k = 2 ∨ k = 0) → Calls Try.prog 57 #[.agg (rcells r), .bool g, .slice A ns.length c] w fun e w' => e = .returned (.int .i64 (if k = 0 then (if ok then 0 else 3) else k)) ∧ Below w.heap.size w w' := by
    intro k hk hcs
    have HK := hid hk
    rw [hk] at HR
    clear hk hA hok
    rcases hcs with rfl | rfl | rfl
    · go_enter Try.func57, Try.ntmps57
      go_wp2_with (first
        | ((with_reducible refine gate (N := 8) rfl ?_); refine wp_roof 31 Try.underlying31 rfl Try.infoRoof rfl (.tmp 3) rfl w.heap.size rfl r hr HX.out ?_)
        | (go_at_call 81; ((with_reducible refine (HR.out _).mono ?_); rintro e w1 ⟨rfl, hb1⟩)))
      go_ret
      exact ⟨rfl, B0.trans (hb1.mono (by simp))⟩
    · go_enter Try.func57, Try.ntmps57
      go_wp2_with (first
        | ((with_reducible refine gate (N := 8) rfl ?_); refine wp_roof 31 Try.underlying31 rfl Try.infoRoof rfl (.tmp 3) rfl w.heap.size rfl r hr HX.out ?_)
        | (go_at_call 81; ((with_reducible refine (HR.out _).mono ?_); rintro e w1 ⟨rfl, hb1⟩)))
      go_ret
      exact ⟨rfl, B0.trans (hb1.mono (by simp))⟩
    · cases ok with
      | true =>
        go_enter Try.func57, Try.ntmps57
        go_wp2_with (first
          | ((with_reducible refine gate (N := 8) rfl ?_); refine wp_roof 31 Try.underlying31 rfl Try.infoRoof rfl (.tmp 3) rfl w.heap.size rfl r hr HX.out ?_)
          | (go_at_call 81; ((with_reducible refine (HR.out _).mono ?_); rintro e w1 ⟨rfl, hb1⟩))
          | (go_at_call 82; ((with_reducible refine (HE _ (HA.out.below hb1 (Nat.le_refl _))).out.mono ?_); rintro e w2 ⟨rfl, hb2⟩)))
        go_ret
        have b1 := B0.trans (hb1.mono (by simp))
        exact ⟨rfl, b1.trans (hb2.mono b1.size)⟩
      | false =>
        go_enter Try.func57, Try.ntmps57
        go_wp2_with (first
          | ((with_reducible refine gate (N := 8) rfl ?_); refine wp_roof 31 Try.underlying31 rfl Try.infoRoof rfl (.tmp 3) rfl w.heap.size rfl r hr HX.out ?_)
          | (go_at_call 81; ((with_reducible refine (HR.out _).mono ?_); rintro e w1 ⟨rfl, hb1⟩))
          | (go_at_call 82; ((with_reducible refine (HE _ (HA.out.below hb1 (Nat.le_refl _))).out.mono ?_); rintro e w2 ⟨rfl, hb2⟩)))
        go_ret
        have b1 := B0.trans (hb1.mono (by simp))
        exact ⟨rfl, b1.trans (hb2.mono b1.size)⟩
  exact key _ rfl (codeOf_012 _ _)
set_option maxRecDepth 100000 in
theorem c_isCarry (n : Int) (w : World) (g : Bool) (hg : inB n 1 20 = g) : Calls Try.prog 50 #[.int .i64 n] w fun e w' => e = .returned (.bool g) ∧ w = w' := by
  have HG := hid hg; clear hg
  go_enter Try.func50, Try.ntmps50
  go_wp2_with (go_at_call 51; (with_reducible refine (c_within64 _ _ _ _ _ HG.out).mono ?_); rintro e w9 ⟨rfl, rfl⟩)
  go_ret
  exact ⟨rfl, rfl⟩
end Go.Proofs.Ytfbgldkdlmipoaa

/- climbs: the sum over chunks. -/
namespace Go.Proofs.Ytfbgldkdlmipoaa
open Go.RowKit Go.Shelf
set_option linter.unusedSimpArgs false
set_option linter.unusedVariables false

attribute [local go_sem] Oper.semAt_some
theorem cell_new_l (W : World) (v : Value) (t : TypeId) : (W.alloc (.cells #[v] t)).cell? ⟨W.heap.size, 0, none⟩ = some v ∧ (W.alloc (.cells #[v] t)).frozen? ⟨W.heap.size, 0, none⟩ = false :=
  ⟨cell_block (block_new1 W _ rfl) rfl, frozen_of_row _ _ _ _ _ (block_new1 W _ rfl)⟩
theorem cell_alloc_l {W : World} {a : Addr} {v : Value} (o : Obj) (h : W.cell? a = some v) : (W.alloc o).cell? a = some v := cell_kept h (World.grownBy_alloc W o none) (fun r e => by cases e)
theorem frozen_alloc_l {W : World} {a : Addr} {v : Value} (o : Obj) (h : W.cell? a = some v) (hf : W.frozen? a = false) : (W.alloc o).frozen? a = false := (frozen_kept h (World.grownBy_alloc W o none) (fun r e => by cases e)).trans hf
theorem chunkV_sli {w W : World} {A : Option Addr} {l : List Int} {b off : Nat} (hA : SlI W A l) (hAe : l ≠ [] → A = some ⟨b, off, none⟩) (k j : Nat) (hne : l ≠ []) : SlI W (some ⟨b, off + j * k, none⟩) (chunkJ l k j) := fun i x hi => by
  obtain rfl := hAe hne
  have h1 : l[j * k + i]? = some x := by
    unfold chunkJ at hi
    rw [List.getElem?_take] at hi
    split at hi
    · rwa [List.getElem?_drop] at hi
    · cases hi
  obtain ⟨b', off', e, h2, h3⟩ := hA _ _ h1
  obtain ⟨rfl, rfl⟩ : b = b' ∧ off = off' := by simpa using e
  exact ⟨b, _, rfl, h2, by rw [← Nat.add_assoc] at h3; exact h3⟩
set_option maxRecDepth 100000 in
set_option maxHeartbeats 2000000 in
theorem c_climbs (A : Option Addr) (c : Nat) (l : List Int) (hlen : l.length ≤ 1000) (lc : l.length ≤ c) (cm : c ≤ 9223372036854775807) (hB : ∀ x ∈ l, 0 ≤ x ∧ x ≤ 1000) (k : Nat) (hk : 1 ≤ k ∧ k ≤ 1000) (w : World) (hA : SlI w A l) :
    Calls Try.prog 74 #[.slice A l.length c, .int .i64 k] w fun e w' => e = .returned (.int .i64 (climbsL l k)) ∧ Below w.heap.size w w' := by
  refine (callsIn_wide (n := 3)).1 ?_
  obtain ⟨b, off, hAe⟩ : ∃ b off, l ≠ [] → A = some ⟨b, off, none⟩ := by
    by_cases hz : l = []
    · exact ⟨0, 0, fun h => absurd hz h⟩
    · have h0 : 0 < l.length := List.length_pos_iff.2 hz
      obtain ⟨b, off, e, _⟩ := hA 0 _ (List.getElem?_eq_getElem h0)
      exact ⟨b, off, fun _ => e⟩
  have HA := hid hA; have HE := hid hAe; have HB := hid hB
  clear hA hAe hB
  refine callsIn_of_wp_marks Try.func74 rfl trivial ?_ rfl
  simp only [Try.ntmps74, List.size_toArray, List.length_cons, List.length_nil, Nat.reduceAdd, Nat.reduceSub, Array.replicate_succ, Array.replicate_zero, List.push_toArray, List.append_toArray, List.nil_append, List.cons_append]
  gi_wp2_with (refine ⟨trivial, ?_⟩; gi_at_call 96; refine (chunk_in _ _ trivial rfl _ _ _ k hk _).mono ?_; rintro e w' ⟨rfl, rfl⟩)
  have hs := cell_new_l w (.int .i64 0) 2
  have hb1 := cell_new_l (w.alloc (.cells #[.int .i64 0] 2)) (.slice A l.length c) 73
  have hb2 := cell_new_l ((w.alloc (.cells #[.int .i64 0] 2)).alloc (.cells #[.slice A l.length c] 73)) (.int .i64 k) 3
  simp only [World.size_alloc] at hb1 hb2
  have hB0 : Below w.heap.size w (((w.alloc (.cells #[.int .i64 0] 2)).alloc (.cells #[.slice A l.length c] 73)).alloc (.cells #[.int .i64 k] 3)) := (((Below.refl _ w).alloc (Nat.le_refl _) _).alloc (by simp) _).alloc (by simp; omega) _
  refine wpIn_rangeFunc_ownF (F := Fence.wide) (n := 3) (ps := #[10]) rfl (by decide) (gf := 117) (lb := #[.pointer (some ⟨w.heap.size + 1, 0, none⟩), .pointer (some ⟨w.heap.size + 1 + 1, 0, none⟩)]) rfl trivial (enters_of Try.func117 (by kernel_rfl) rfl)
    (chunk_stops Fence.wide (3 - 1) trivial rfl (by decide) (w.heap.size + 1) (w.heap.size + 1 + 1) w.heap.size A c k b off l hk (by omega) lc cm _ ⟨by simp, by omega⟩ ⟨by simp, by omega⟩ (cell_alloc_l _ hb1.1) hb2.1 HE.out) (fun h1 h2 => h1.trans h2) (fun W lq o o' hl _ _ _ => KeepB.putObj W lq o' hl) (Below.refl _ _) (fun _ => rfl)
    (fun pre W => ((∀ x ∈ pre, True) ∧ W.cell? ⟨w.heap.size, 0, none⟩ = some (.int .i64 (rungs l k (pre.map fun x => min x (chunkN l.length k - 1)))) ∧ W.frozen? ⟨w.heap.size, 0, none⟩ = false) ∧ Below w.heap.size w W)
    (fun _ _ _ => False)
    (OwnFrom.and (Own.from (fun s A B row hs hg hr => ⟨hs.1, cell_kept hs.2.1 hg hr, (frozen_kept hs.2.1 hg hr).trans hs.2.2⟩) _) (ownFrom_below (Nat.le_refl _) (by simp; omega)))
    (fun _ _ _ _ _ hs _ _ => hs)
    ⟨⟨fun _ _ => trivial, cell_alloc_l _ (cell_alloc_l _ hs.1), frozen_alloc_l _ (cell_alloc_l _ hs.1) (frozen_alloc_l _ hs.1 hs.2)⟩, hB0⟩
    (fun x => { tmps := #[.slice A l.length c, .int .i64 k, undef, undef, .int .i64 0, .pointer (some ⟨w.heap.size, 0, none⟩), chunkV b off l.length k x, .slice A l.length c, .int .i64 k, .func (.func 117) #[] #[.pointer (some ⟨w.heap.size + 1, 0, none⟩), .pointer (some ⟨w.heap.size + 1 + 1, 0, none⟩)], chunkV b off l.length k x, undef, undef, undef, undef, undef, undef], defers := [] }) ?assign ?body ?done ?stop
  case assign =>
    intro lq x W K hK
    gi_wp2
    exact hK
  case body =>
    rintro lq pre x W ⟨⟨_, hc, hf⟩, hB⟩ hpre
    obtain ⟨N, hN⟩ : ∃ N, N = chunkN l.length k := ⟨_, rfl⟩
    have hx : min x (N - 1) < N := by rw [hN]; omega
    have hlt := (chunkN_lt (n := l.length) (by omega : 0 < k) (min x (N - 1))).1 (by rw [← hN]; exact hx)
    have hNl : N ≤ 1000 := by
      rcases Nat.eq_zero_or_pos N with h | h
      · omega
      · have h1 := (chunkN_lt (n := l.length) (by omega : 0 < k) (N - 1)).1 (by rw [← hN]; omega)
        have h2 : (N - 1) * 1 ≤ (N - 1) * k := Nat.mul_le_mul_left _ hk.1
        omega
    have hne : l ≠ [] := by rintro rfl; simp at hlt
    have hv : chunkV b off l.length k x = .slice (some ⟨b, off + min x (N - 1) * k, none⟩) (chunkJ l k (min x (N - 1))).length (chunkJ l k (min x (N - 1))).length := by
      unfold chunkV
      rw [← hN]
      have : (chunkJ l k (min x (N - 1))).length = min k (l.length - min x (N - 1) * k) := by simp [chunkJ]
      rw [this]
    have hS := hid (chunkV_sli (w := w) (HA.out.below hB (Nat.le_refl _)) HE.out k (min x (N - 1)) hne)
    have HCB : Hid (∀ y ∈ chunkJ l k (min x (N - 1)), 0 ≤ y ∧ y ≤ 1000) := chunkJ_b HB.out k _
    have hl1 : 0 < (chunkJ l k (min x (N - 1))).length := by simp [chunkJ]; omega
    have hl2 : (chunkJ l k (min x (N - 1))).length ≤ 1048576 := by simp [chunkJ]; omega
    have hr := rungs_b (by decide : (0 : Int) ≤ 1000) HB.out k (pre.map fun x => min x (chunkN l.length k - 1))
    rw [List.length_map] at hr
    have hsn := rungs_snoc l k (pre.map fun x => min x (chunkN l.length k - 1)) (min x (N - 1))
    have hmp : (pre ++ [x]).map (fun x => min x (chunkN l.length k - 1)) = pre.map (fun x => min x (chunkN l.length k - 1)) ++ [min x (N - 1)] := by rw [List.map_append, ← hN]; rfl
    have HMP := hid (hmp.symm ▸ hsn)
    rw [hv]
    obtain ⟨r, hrr⟩ : ∃ r, r = rungs l k (pre.map fun x => min x (chunkN l.length k - 1)) := ⟨_, rfl⟩
    rw [← hrr] at hc hr HMP
    obtain ⟨cl, hcl⟩ : ∃ cl, cl = chunkJ l k (min x (N - 1)) := ⟨_, rfl⟩
    rw [← hcl] at hS HCB hl1 hl2 HMP ⊢
    have hmb := maxA_b HCB.out 0 (by omega) (by omega)
    have HCM : Hid (∀ W' : World, SlI W' (some ⟨b, off + min x (N - 1) * k, none⟩) cl → Calls Try.prog 97 #[.slice (some ⟨b, off + min x (N - 1) * k, none⟩) cl.length cl.length] W' fun e w' => e = .returned (.int .i64 (maxA 0 cl)) ∧ W' = w') := fun W' h => c_max _ _ cl hl1 hl2 (fun y hy => by have := HCB.out y hy; omega) W' h
    obtain ⟨m, hm⟩ : ∃ m, m = maxA 0 cl := ⟨_, rfl⟩
    rw [← hm] at HCM hmb HMP
    obtain ⟨q, hq⟩ : ∃ q, q = off + min x (N - 1) * k := ⟨_, rfl⟩
    rw [← hq] at HCM hS ⊢
    have hb1 : 0 ≤ r + 2 * m ∧ r + 2 * m ≤ 3000000 := by omega
    clear hm hcl hrr hmp hsn hv hlt hx hNl hne hl1 hl2 hq
    have hmx : Try.prog.follows .mixedOrders = true := by kernel_rfl
    have HBW := hid hB
    clear hB
    gi_wp2
    gi_region_with_o (refine ⟨trivial, ?_⟩; gi_at_call 97; refine (CallsIn.inRound lq (callsIn_wide.2 (HCM.out _ (hS.out.below (below_drewN _ W 1) (Nat.le_refl _))))).mono ?_; rintro e w' ⟨rfl, rfl⟩)
    all_goals
      gi_wp2
      have ew1 : IntKind.i64.wrap (2 * m) = 2 * m := by simp [IntKind.wrap, IntKind.bits, IntKind.signed]; omega
      have ew2 : IntKind.i64.wrap (r + 2 * m) = r + 2 * m := by simp [IntKind.wrap, IntKind.bits, IntKind.signed]; omega
      try rw [ew1, ew2]
      refine ⟨(KeepsOthers.drew W).trans (KeepsOthers.setCell _ _ _), (KeepB.drewN W 1).trans (KeepB.setCell _ 0 _), ⟨⟨fun _ _ => trivial, ?_, ?_⟩, ?_⟩⟩
      · rw [HMP.out]
        exact World.cell?_setCell_same' _ _ _ (by show (W.cell? _).isSome = true; rw [hc]; rfl)
      · rw [World.frozen?_setCell]; exact hf
      · exact ((HBW.out.trans (below_drewN w.heap.size W 1))).setCell (p := ⟨w.heap.size, 0, none⟩) (Nat.le_refl _) _
  case done =>
    rintro D ys W hD rfl ⟨⟨_, hc, _⟩, hB⟩ hK
    have e : (List.range (chunkN l.length k)).map (fun x => min x (chunkN l.length k - 1)) = List.range (chunkN l.length k) := by
      apply List.ext_getElem
      · simp
      · intro i h1 h2; simp at h1 h2 ⊢; omega
    rw [e] at hc
    have hc : W.cell? ⟨w.heap.size, 0, none⟩ = some (.int .i64 (climbsL l k)) := hc
    gi_wp2
    refine ⟨by simp, .inl ⟨_, _, rfl, run_takeDeferred hK, ?_⟩⟩
    exact ⟨_, results_tmp rfl _ _ _, rfl, hB.trans (belowK_b (w := w) (Nat.le_refl _) W D _ _ (by simp at hD; omega) hK rfl rfl)⟩
  case stop =>
    rintro D c pre W _ _ h _
    exact h.elim
end Go.Proofs.Ytfbgldkdlmipoaa
