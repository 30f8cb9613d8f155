/- The places of a roof that are as told, by a function value. -/
import Derived.Test.YtecobdnpbkojmaaAll
import Derived.Shelf.Abstract
import Derived.Deep.Onto
namespace Go.Proofs.Ytecobdnpbkojmaa
open Go.RowKit
set_option linter.unusedSimpArgs false
set_option linter.unusedVariables false

/-- The places that are as told. -/
def pickL (f : Int → Int → Bool) (l : List (Int × Int)) : List (Int × Int) := l.filter fun p => f p.1 p.2
theorem pickL_yes {f : Int → Int → Bool} {l : List (Int × Int)} {c t : Int} (h : f c t = true) : pickL f (l ++ [(c, t)]) = pickL f l ++ [(c, t)] := by simp [pickL, h]
theorem pickL_no {f : Int → Int → Bool} {l : List (Int × Int)} {c t : Int} (h : f c t = false) : pickL f (l ++ [(c, t)]) = pickL f l := by simp [pickL, h]
theorem pickL_len (f : Int → Int → Bool) (l : List (Int × Int)) : (pickL f l).length ≤ l.length := List.length_filter_le _ _
/-- A function value that tells of places, in all worlds above a world. -/
def Tells (g : Nat) (fst cap : Array Value) (f : Int → Int → Bool) (r : Rf) (w : World) : Prop :=
  ∀ (W : World) (c t : Int), 0 ≤ c ∧ c < r.h → 0 ≤ t ∧ t < r.w → Below w.heap.size w W → Calls Try.prog g (fst ++ #[.agg #[.int .i8 c, .int .i8 t]] ++ cap) W fun e w' => e = .returned (.bool (f c t)) ∧ Below W.heap.size W w'
set_option maxHeartbeats 800000 in
set_option maxRecDepth 100000 in
theorem c_places (g : Nat) (fst cap : Array Value) (eg : ∀ args w, (callFunc g args).run Try.prog w = .ok (.enter g args) w) (f : Int → Int → Bool) (r : Rf) (hr : r.Ok) (hv : validB r = true) (w : World) (hf : Tells g fst cap f r w) :
    Calls Try.prog 61 #[.agg (rcells r), .func (.func g) fst cap] w fun e w' => ∃ v, e = .returned v ∧ Below w.heap.size w w' ∧ w'.ownsRow w.heap.size 43 2 v (pickL f (allUp r.w.toNat r.h.toNat 0)).length (pcells (pickL f (allUp r.w.toNat r.h.toNat 0))) := by
  obtain ⟨i0, hi, hz0, hz1, hz2⟩ := info_parts Try.infoPlace
  have vh := valid_head hv
  have HF := hid hf; clear hf
  obtain ⟨W, hW⟩ := Int.eq_ofNat_of_zero_le (by omega : 0 ≤ r.w)
  obtain ⟨H, hH⟩ := Int.eq_ofNat_of_zero_le (by omega : 0 ≤ r.h)
  have W8 : W ≤ 8 := by omega
  have H8 : H ≤ 8 := by omega
  have HR := hid (heap_alloc_new w (.cells (rcells r) 27))
  have HW := hid hW
  have HH := hid hH
  have c0 := cell_eq' HR.out (rc0 r) hW
  have c1 := cell_eq' HR.out (rc1 r) hH
  have lR : w.heap.size < (w.alloc (.cells (rcells r) 27)).heap.size := by simp
  rw [hW, hH, Int.toNat_natCast, Int.toNat_natCast]
  clear hW hH vh
  go_enter Try.func61, Try.ntmps61
  go_wp2_with fail
  have HB0 : Hid (Below (w.heap.size + 1) (w.alloc (.cells (rcells r) 27)) (w.alloc (.cells (rcells r) 27))) := Below.refl _ _
  go_loopw [5, 10] (fun v i wr => ∃ n : Nat, n ≤ H ∧ i = .int .i8 n ∧ Hid (Below (w.heap.size + 1) (w.alloc (.cells (rcells r) 27)) wr) ∧ Hid (wr.ownsRow (w.heap.size + 1) 43 2 v (pickL f (allUp W n 0)).length (pcells (pickL f (allUp W n 0))))) (fun _ i _ => H - (intOf i).toNat)
  case atStart => exact ⟨0, by omega, rfl, HB0, World.ownsRow_nil _ _ _ _⟩
  case round =>
    obtain ⟨n, hn, rfl, hb, hO⟩ := hrel
    have c0w := (hb.out.cell (p := ⟨w.heap.size, 0, none⟩) (Nat.lt_succ_self _)).trans c0
    by_cases hnH : n < H
    · have hd : decide ((n : Int) < (H : Int)) = true := decide_eq_true (by omega)
      go_wp2_with fail
      go_loopw [5, 15] (fun v i wr => ∃ k : Nat, k ≤ W ∧ i = .int .i8 k ∧ Hid (Below (w.heap.size + 1) (w.alloc (.cells (rcells r) 27)) wr) ∧ Hid (wr.ownsRow (w.heap.size + 1) 43 2 v (pickL f (allUp W n k)).length (pcells (pickL f (allUp W n k))))) (fun _ i _ => W - (intOf i).toNat)
      case atStart => exact ⟨0, by omega, rfl, hb, hO⟩
      case round =>
        clear c0w
        obtain ⟨k, hk, rfl, hb, hO⟩ := hrel
        by_cases hkW : k < W
        · have hd2 : decide ((k : Int) < (W : Int)) = true := decide_eq_true (by omega)
          have hlen : (pickL f (allUp W n k)).length ≤ 72 := by
            refine Nat.le_trans (pickL_len _ _) ?_
            rw [allUp_len]
            have := Nat.mul_le_mul (Nat.le_of_lt (Nat.lt_of_lt_of_le hnH H8)) W8
            omega
          have hB0 : Below w.heap.size w wr := ((Below.refl _ w).alloc (Nat.le_refl _) _).trans (hb.out.mono (by omega))
          have hcall := HF.out wr n k ⟨by omega, by have := HH.out; omega⟩ ⟨by omega, by have := HW.out; omega⟩ hB0
          have HC := hid hcall
          clear hcall
          have HS : Hid (w.heap.size + 1 ≤ wr.heap.size) := by have := hb.out.size; simpa [Hid] using this
          cases hq : f n k with
          | true =>
            have HY := hid (pickL_yes (l := allUp W n k) hq)
            rw [allUp_step] at HY
            have HQ := hid hq; clear hq
            have hcall := HC.out
            rw [HQ.out] at hcall
            have HC' := hid hcall
            clear hcall HC
            go_wp2_with (first
              | (go_at_fn g; refine HC'.out.mono ?_; rintro e w2 ⟨rfl, hb2⟩)
              | ((with_reducible refine gate (N := 28) rfl ?_); refine wpList_append_own _ rfl (.tmp 23) (.tmp 27) 37 rfl (w.heap.size + 1) 43 i0 (.agg #[.int .i8 0, .int .i8 0]) 2 2 Try.underlying37 hi hz0 hz1 hz2 rfl (by decide) _ _ _ rfl ((owns_below hO.out hb2).alloc _) ⟨w2.heap.size, 0, none⟩ 1 1 [.int .i8 n, .int .i8 k] rfl rfl (cell_two_new w2 _ _ _) (by simp [Value.oneCell']) (Nat.le_trans (Nat.add_le_add_right hlen 1) (by decide)) (by omega) (Nat.le_trans HS.out (Nat.le_trans hb2.size (by simp))) ?_; intro v' w1 hown1 hgrow _))
            have b2 := hb.out.trans (hb2.mono HS.out)
            refine ⟨⟨k + 1, by omega, by go_num, (b2.alloc (Nat.le_trans HS.out hb2.size) _).grown hgrow (by have := HS.out; have := hb2.size; simp; omega) (fun k hk => ((owns_below hO.out hb2).lt k hk).1), ?_⟩, by simp [intOf]; omega⟩
            show World.ownsRow _ _ _ _ _ _ _
            rw [HY.out, List.length_append, pcells_snoc]; exact hown1
          | false =>
            have HY := hid (pickL_no (l := allUp W n k) hq)
            rw [allUp_step] at HY
            have HQ := hid hq; clear hq
            have hcall := HC.out
            rw [HQ.out] at hcall
            have HC' := hid hcall
            clear hcall HC
            go_wp2_with (go_at_fn g; refine HC'.out.mono ?_; rintro e w2 ⟨rfl, hb2⟩)
            refine ⟨⟨k + 1, by omega, by go_num, hb.out.trans (hb2.mono HS.out), ?_⟩, by simp [intOf]; omega⟩
            show World.ownsRow _ _ _ _ _ _ _
            rw [HY.out]; exact owns_below hO.out hb2
        · obtain rfl : k = W := by omega
          have hd2 : decide ((k : Int) < (k : Int)) = false := decide_eq_false (by omega)
          rw [allUp_row] at hO
          go_wp2_with fail
          exact ⟨⟨n + 1, by omega, by go_num, hb, hO⟩, by simp [intOf]; omega⟩
    · obtain rfl : n = H := by omega
      have hd : decide ((n : Int) < (n : Int)) = false := decide_eq_false (by omega)
      clear c0w
      go_wp2_with fail
      go_ret
      exact ⟨_, rfl, ((Below.refl _ w).alloc (Nat.le_refl _) _).trans (hb.out.mono (by omega)), hO.out.mono (by omega)⟩
end Go.Proofs.Ytecobdnpbkojmaa
