/- The pieces of a course and how many tiles are laid whole: the program's and the reference's. -/
import Derived.Test.YtgbihaliiogboaaSlc
import Derived.Test.YtgbihaliiogboaaUnits
import Derived.Laws.AppendOwn
import Derived.WalkSmall
namespace Go.Proofs.Ytgbihaliiogboaa
open Go.RowKit
set_option linter.unusedSimpArgs false
set_option linter.unusedVariables false

/-- The piece that a tile from b on is cut to, if it is cut. -/
def pieceAt (L R b : Int) : Option (Int × Int) := if b + 8 ≤ L then none else if L ≤ b ∧ b + 8 ≤ R then none else if b < L ∧ ¬ b + 8 ≤ R then some (2, R - L) else if b < L then some (1, b + 8 - L) else some (0, R - b)
def wholeAt (L R b : Int) : Bool := decide (L ≤ b ∧ b + 8 ≤ R)
theorem pieceAt_none {L R b : Int} (h1 : b + 8 ≤ L) : pieceAt L R b = none := by unfold pieceAt; rw [if_pos h1]
theorem pieceAt_whole {L R b : Int} (h2 : L ≤ b) (h3 : b + 8 ≤ R) : pieceAt L R b = none := by unfold pieceAt; rw [if_neg (by omega), if_pos ⟨h2, h3⟩]
theorem pieceAt_left {L R b : Int} (h1 : ¬ b + 8 ≤ L) (h2 : L ≤ b) (h3 : ¬ b + 8 ≤ R) : pieceAt L R b = some (0, R - b) := by unfold pieceAt; rw [if_neg h1, if_neg (by omega), if_neg (by omega), if_neg (by omega)]
theorem pieceAt_mid {L R b : Int} (h1 : ¬ b + 8 ≤ L) (h2 : ¬ L ≤ b) (h3 : ¬ b + 8 ≤ R) : pieceAt L R b = some (2, R - L) := by unfold pieceAt; rw [if_neg h1, if_neg (by omega), if_pos ⟨by omega, h3⟩]
theorem pieceAt_right {L R b : Int} (h1 : ¬ b + 8 ≤ L) (h2 : ¬ L ≤ b) (h3 : b + 8 ≤ R) : pieceAt L R b = some (1, b + 8 - L) := by unfold pieceAt; rw [if_neg h1, if_neg (by omega), if_neg (by omega), if_pos (by omega)]
theorem wholeAt_no1 {L R b : Int} (h : b + 8 ≤ L) : wholeAt L R b = false := decide_eq_false (by omega)
theorem wholeAt_no2 {L R b : Int} (h : ¬ L ≤ b) : wholeAt L R b = false := decide_eq_false (by omega)
theorem wholeAt_no3 {L R b : Int} (h : ¬ b + 8 ≤ R) : wholeAt L R b = false := decide_eq_false (by omega)
theorem wholeAt_yes {L R b : Int} (h2 : L ≤ b) (h3 : b + 8 ≤ R) : wholeAt L R b = true := decide_eq_true ⟨h2, h3⟩
/-- The pieces of the first k tiles, and how many of these are whole; the first one begins at B - 8. -/
def laidP (L R B : Int) (k : Nat) : List (Int × Int) := (List.range k).filterMap fun i : Nat => pieceAt L R (B - 8 + 8 * (i : Int))
def laidW (L R B : Int) (k : Nat) : Int := (((List.range k).filter fun i : Nat => wholeAt L R (B - 8 + 8 * (i : Int))).length : Int)
/-- How many tiles there are. -/
def laidN (R B : Int) : Nat := ((R - B + 15) / 8).toNat
theorem laidN_lt {R B : Int} (hB : 0 ≤ B ∧ B ≤ 4) (hR : 0 < R) (k : Nat) : k < laidN R B ↔ B - 8 + 8 * (k : Int) < R := by unfold laidN; omega
theorem laidP_none (L R B : Int) (k : Nat) (h : pieceAt L R (B - 8 + 8 * (k : Int)) = none) : laidP L R B (k + 1) = laidP L R B k := by
  unfold laidP; rw [List.range_succ, List.filterMap_append]; simp [h]
theorem laidP_some (L R B : Int) (k : Nat) (p : Int × Int) (h : pieceAt L R (B - 8 + 8 * (k : Int)) = some p) : laidP L R B (k + 1) = laidP L R B k ++ [p] := by
  unfold laidP; rw [List.range_succ, List.filterMap_append]; simp [h]
theorem laidW_no (L R B : Int) (k : Nat) (h : wholeAt L R (B - 8 + 8 * (k : Int)) = false) : laidW L R B (k + 1) = laidW L R B k := by
  unfold laidW; rw [List.range_succ, List.filter_append]; simp [h]
theorem laidW_yes (L R B : Int) (k : Nat) (h : wholeAt L R (B - 8 + 8 * (k : Int)) = true) : laidW L R B (k + 1) = laidW L R B k + 1 := by
  unfold laidW; rw [List.range_succ, List.filter_append]; simp [h]
theorem laidP_len (L R B : Int) (k : Nat) : (laidP L R B k).length ≤ k := by
  unfold laidP; exact Nat.le_trans (List.length_filterMap_le _ _) (by simp)
theorem laidW_le (L R B : Int) (k : Nat) : 0 ≤ laidW L R B k ∧ laidW L R B k ≤ k := by
  unfold laidW
  have := List.length_filter_le (fun i : Nat => wholeAt L R (B - 8 + 8 * (i : Int))) (List.range k)
  rw [List.length_range] at this
  omega
theorem Try.infoPiece : (Try.prog.info? 64).map (fun i => (i.zero, i.size, i.bytes)) = some (some (.agg #[.int .i8 0, .int .i8 0]), 2, 2) := by kernel_rfl
/-- Where the first tile of a course begins, and 8 more. -/
def beginB (s course : Int) : Int := (course + s) % 2 * 4
theorem beginB_04 (s course : Int) : 0 ≤ beginB s course ∧ beginB s course ≤ 4 := by unfold beginB; omega
set_option maxHeartbeats 3200000 in
set_option maxRecDepth 100000 in
theorem c_laid (s : Int) (hs : 0 ≤ s ∧ s ≤ 1) (A : Option Addr) (c : Nat) (l : List (Int × Int)) (course : Nat) (L R : Int) (hc : l[course]? = some (L, R)) (hLR : 0 ≤ L ∧ L < R ∧ R ≤ 200) (hlen : l.length ≤ 1048576) (w : World) (hA : PairsAt .i16 .i16 w A l) :
    Calls Try.prog 37 #[.agg #[.int .u8 s, .slice A l.length c], .int .i64 course] w fun e w' => ∃ v, e = .returned (.tuple #[.int .i64 (laidW L R (beginB s course) (laidN R (beginB s course))), v]) ∧ Below w.heap.size w w' ∧ w'.ownsRow w.heap.size 64 2 v (laidP L R (beginB s course) (laidN R (beginB s course))).length (ccells (laidP L R (beginB s course) (laidN R (beginB s course)))) := by
  obtain ⟨i0, hi, hz0, hz1, hz2⟩ := info_parts Try.infoPiece
  have hcl := (List.getElem?_eq_some_iff.1 hc).1
  obtain ⟨ba, off, rfl, r1, r2, r3⟩ := hA course _ hc
  dsimp only at r2 r3
  obtain ⟨B, hB⟩ : ∃ B, B = beginB s course := ⟨_, rfl⟩
  have hB4 : 0 ≤ B ∧ B ≤ 4 := by rw [hB]; exact beginB_04 _ _
  rw [← hB]
  have hBe : (((course : Int) + s) % 2) * 4 = B := by rw [hB]; rfl
  obtain ⟨N, hN⟩ : ∃ N, N = laidN R B := ⟨_, rfl⟩
  have HNlt : Hid (∀ k : Nat, k < N ↔ B - 8 + 8 * (k : Int) < R) := by intro k; rw [hN]; exact laidN_lt hB4 (by omega) k
  have HM : Hid ((N : Int) ≤ 30) := by have : N = laidN R B := hN; unfold laidN at this; show (N : Int) ≤ 30; omega
  have B0 : Below w.heap.size w (w.alloc (.cells #[.int .u8 s, .slice (some ⟨ba, off, none⟩) l.length c] 31)) := (Below.refl _ w).alloc (Nat.le_refl _) _
  have k2 := (B0.cell (p := ⟨ba, _, none⟩) r1).trans r2
  have k3 := (B0.cell (p := ⟨ba, _, none⟩) r1).trans r3
  have hcI : (course : Int) < (l.length : Int) := by omega
  have hc0 : (0 : Int) ≤ (course : Int) := by omega
  have hs8 : 0 ≤ (course : Int) + s ∧ (course : Int) + s ≤ 2000000 := by omega
  have HW0 : Hid (Below w.heap.size w ((w.alloc (.cells #[.int .u8 s, .slice (some ⟨ba, off, none⟩) l.length c] 31)).alloc (.cells #[.int .i16 L, .int .i16 R] 82))) := B0.alloc (by simp) _
  have HC0 := hid (block_new1 (w.alloc (.cells #[.int .u8 s, .slice (some ⟨ba, off, none⟩) l.length c] 31)) (.cells #[.int .i16 L, .int .i16 R] 82) (n := w.heap.size + 1) (by simp))
  rw [← hN]
  clear hN hB hA hc r2 r3
  go_enter Try.func37, Try.ntmps37
  go_wp2_with fail
  clear k2 k3
  obtain ⟨W1, hW1⟩ : ∃ W1, W1 = (w.alloc (.cells #[.int .u8 s, .slice (some ⟨ba, off, none⟩) l.length c] 31)).alloc (.cells #[.int .i16 L, .int .i16 R] 82) := ⟨_, rfl⟩
  rw [← hW1] at HW0 HC0 ⊢
  clear hW1
  have HC1 := hid (block_lt HC0.out)
  trace_state
  go_loopw [8, 9, 10] (fun q v i wr => ∃ k : Nat, k ≤ N ∧ q = .int .i64 (laidW L R B k) ∧ i = .int .i16 (B - 8 + 8 * (k : Int)) ∧ Hid (Below W1.heap.size W1 wr) ∧ Hid (wr.ownsRow W1.heap.size 64 2 v (laidP L R B k).length (ccells (laidP L R B k)))) (fun _ _ i _ => (R + 8 - intOf i).toNat)
  case atStart => exact ⟨0, by omega, by simp [laidW], by simp, Below.refl _ _, World.ownsRow_nil _ _ _ _⟩
  case round =>
    obtain ⟨k, hk, rfl, rfl, hb, hO⟩ := hrel
    have HCw := hid (block_below hb.out HC0.out HC1.out)
    have c0 := cell_block HCw.out (j := 0) rfl
    have c1 := cell_block HCw.out (j := 1) rfl
    have hM := HM.out
    obtain ⟨b, hbk⟩ : ∃ b : Int, b = B - 8 + 8 * (k : Int) := ⟨_, rfl⟩
    rw [← hbk]
    have HBk := hid hbk
    have hwl := laidW_le L R B k
    obtain ⟨q, hq⟩ : ∃ q, q = laidW L R B k := ⟨_, rfl⟩
    have HWq := hid hq
    rw [← hq] at hwl ⊢
    have hbb : -8 ≤ b ∧ b ≤ 240 := by omega
    by_cases hkN : k < N
    · have hbR : b < R := by rw [hbk]; exact (HNlt.out k).1 hkN
      have HLE : Hid ((laidP L R B k).length ≤ 1000) := Nat.le_trans (laidP_len L R B k) (by omega)
      have HBS := hid hb.out.size
      clear hq
      by_cases h1 : b + 8 ≤ L
      · have HPn := hid (laidP_none L R B k (by rw [← hbk]; exact pieceAt_none h1)); have HWn := hid (laidW_no L R B k (by rw [← hbk]; exact wholeAt_no1 h1))
        have d1 : decide (b + 8 ≤ L) = true := decide_eq_true h1
        clear hbk
        go_wp2_with fail
        exact ⟨⟨k + 1, by omega, congrArg (Value.int .i64) (by rw [HWn.out, HWq.out]), congrArg (Value.int .i16) (by rw [HBk.out]; omega), hb, by show World.ownsRow _ _ _ _ _ _ _; rw [HPn.out]; exact hO.out⟩, by have := HM.out; have := HBk.out; simp [intOf]; omega⟩
      · by_cases h2 : L ≤ b
        · by_cases h3 : b + 8 ≤ R
          · have HPn := hid (laidP_none L R B k (by rw [← hbk]; exact pieceAt_whole h2 h3)); have HWn := hid (laidW_yes L R B k (by rw [← hbk]; exact wholeAt_yes h2 h3))
            have d1 : decide (b + 8 ≤ L) = false := decide_eq_false h1; have d2 : decide (b ≥ L) = true := decide_eq_true h2; have d3 : decide (b + 8 ≤ R) = true := decide_eq_true h3
            clear hbk
            go_wp2_with fail
            exact ⟨⟨k + 1, by omega, congrArg (Value.int .i64) (by rw [HWn.out, HWq.out]), congrArg (Value.int .i16) (by rw [HBk.out]; omega), hb, by show World.ownsRow _ _ _ _ _ _ _; rw [HPn.out]; exact hO.out⟩, by have := HM.out; have := HBk.out; simp [intOf]; omega⟩
          · have HPn := hid (laidP_some L R B k (0, R - b) (by rw [← hbk]; exact pieceAt_left h1 h2 h3)); have HWn := hid (laidW_no L R B k (by rw [← hbk]; exact wholeAt_no3 h3))
            have d1 : decide (b + 8 ≤ L) = false := decide_eq_false h1; have d2 : decide (b ≥ L) = true := decide_eq_true h2; have d3 : decide (b + 8 ≤ R) = false := decide_eq_false h3; have d4 : decide (b < L) = false := decide_eq_false (by omega)
            clear hbk
            go_wp2_with (((with_reducible refine gate (N := 43) rfl ?_); (refine wpList_append_own _ rfl (.tmp 35) (.tmp 42) 26 rfl W1.heap.size 64 i0 (.agg #[.int .i8 0, .int .i8 0]) 2 2 Try.underlying26 hi hz0 hz1 hz2 rfl (by decide) _ _ _ rfl (hO.out.alloc _) ⟨wr.heap.size, 0, none⟩ 1 1 [.int .i8 (0), .int .i8 (R - b)] rfl rfl (cell_two_new wr _ _ _) (by simp [Value.oneCell']) (Nat.le_trans (Nat.add_le_add_right HLE.out 1) (by decide)) (by have := HLE.out; omega) (Nat.le_trans HBS.out (by simp)) ?_; intro v' w3 hown3 hgrow _)))
            refine ⟨⟨k + 1, by omega, congrArg (Value.int .i64) (by rw [HWn.out, HWq.out]), congrArg (Value.int .i16) (by rw [HBk.out]; omega), (hb.out.alloc HBS.out _).grown hgrow (by have := HBS.out; simp; omega) (fun k hk => (hO.out.lt k hk).1), ?_⟩, by have := HM.out; have := HBk.out; simp [intOf]; omega⟩
            show World.ownsRow _ _ _ _ _ _ _
            rw [HPn.out, List.length_append, ccells_snoc]; exact hown3
        · by_cases h3 : b + 8 ≤ R
          · have HPn := hid (laidP_some L R B k (1, b + 8 - L) (by rw [← hbk]; exact pieceAt_right h1 h2 h3)); have HWn := hid (laidW_no L R B k (by rw [← hbk]; exact wholeAt_no2 h2))
            have d1 : decide (b + 8 ≤ L) = false := decide_eq_false h1; have d2 : decide (b ≥ L) = false := decide_eq_false h2; have d3 : decide (b + 8 > R) = false := decide_eq_false (by omega); have d4 : decide (b < L) = true := decide_eq_true (by omega)
            clear hbk
            go_wp2_with (((with_reducible refine gate (N := 96) rfl ?_); (refine wpList_append_own _ rfl (.tmp 88) (.tmp 95) 26 rfl W1.heap.size 64 i0 (.agg #[.int .i8 0, .int .i8 0]) 2 2 Try.underlying26 hi hz0 hz1 hz2 rfl (by decide) _ _ _ rfl (hO.out.alloc _) ⟨wr.heap.size, 0, none⟩ 1 1 [.int .i8 (1), .int .i8 (b + 8 - L)] rfl rfl (cell_two_new wr _ _ _) (by simp [Value.oneCell']) (Nat.le_trans (Nat.add_le_add_right HLE.out 1) (by decide)) (by have := HLE.out; omega) (Nat.le_trans HBS.out (by simp)) ?_; intro v' w3 hown3 hgrow _)))
            refine ⟨⟨k + 1, by omega, congrArg (Value.int .i64) (by rw [HWn.out, HWq.out]), congrArg (Value.int .i16) (by rw [HBk.out]; omega), (hb.out.alloc HBS.out _).grown hgrow (by have := HBS.out; simp; omega) (fun k hk => (hO.out.lt k hk).1), ?_⟩, by have := HM.out; have := HBk.out; simp [intOf]; omega⟩
            show World.ownsRow _ _ _ _ _ _ _
            rw [HPn.out, List.length_append, ccells_snoc]; exact hown3
          · have HPn := hid (laidP_some L R B k (2, R - L) (by rw [← hbk]; exact pieceAt_mid h1 h2 h3)); have HWn := hid (laidW_no L R B k (by rw [← hbk]; exact wholeAt_no3 h3))
            have d1 : decide (b + 8 ≤ L) = false := decide_eq_false h1; have d2 : decide (b ≥ L) = false := decide_eq_false h2; have d3 : decide (b + 8 > R) = true := decide_eq_true (by omega); have d4 : decide (b < L) = true := decide_eq_true (by omega)
            clear hbk
            go_wp2_with (((with_reducible refine gate (N := 82) rfl ?_); (refine wpList_append_own _ rfl (.tmp 73) (.tmp 81) 26 rfl W1.heap.size 64 i0 (.agg #[.int .i8 0, .int .i8 0]) 2 2 Try.underlying26 hi hz0 hz1 hz2 rfl (by decide) _ _ _ rfl (hO.out.alloc _) ⟨wr.heap.size, 0, none⟩ 1 1 [.int .i8 (2), .int .i8 (R - L)] rfl rfl (cell_two_new wr _ _ _) (by simp [Value.oneCell']) (Nat.le_trans (Nat.add_le_add_right HLE.out 1) (by decide)) (by have := HLE.out; omega) (Nat.le_trans HBS.out (by simp)) ?_; intro v' w3 hown3 hgrow _)))
            refine ⟨⟨k + 1, by omega, congrArg (Value.int .i64) (by rw [HWn.out, HWq.out]), congrArg (Value.int .i16) (by rw [HBk.out]; omega), (hb.out.alloc HBS.out _).grown hgrow (by have := HBS.out; simp; omega) (fun k hk => (hO.out.lt k hk).1), ?_⟩, by have := HM.out; have := HBk.out; simp [intOf]; omega⟩
            show World.ownsRow _ _ _ _ _ _ _
            rw [HPn.out, List.length_append, ccells_snoc]; exact hown3
    · have hbR : ¬ b < R := by rw [hbk]; exact fun h => hkN ((HNlt.out k).2 h)
      obtain rfl : k = N := by omega
      clear hbk hq
      go_wp2_with fail
      go_ret2
      have hq' := HWq.out
      subst hq'
      exact ⟨_, rfl, HW0.out.trans (hb.out.mono HW0.out.size), hO.out.mono HW0.out.size⟩
theorem c_l00Max (a b : Int) (w : World) : Calls Try.prog 55 #[.int .i64 a, .int .i64 b] w fun e w' => e = .returned (.int .i64 (if a > b then a else b)) ∧ w = w' := by
  by_cases h : a > b
  · rw [if_pos h]
    go_enter Try.func55, Try.ntmps55
    go_wp2_with fail
    go_ret
    exact ⟨rfl, rfl⟩
  · rw [if_neg h]
    go_enter Try.func55, Try.ntmps55
    go_wp2_with fail
    go_ret
    exact ⟨rfl, rfl⟩
theorem c_l00Min (a b : Int) (w : World) : Calls Try.prog 56 #[.int .i64 a, .int .i64 b] w fun e w' => e = .returned (.int .i64 (if a < b then a else b)) ∧ w = w' := by
  by_cases h : a < b
  · rw [if_pos h]
    go_enter Try.func56, Try.ntmps56
    go_wp2_with fail
    go_ret
    exact ⟨rfl, rfl⟩
  · rw [if_neg h]
    go_enter Try.func56, Try.ntmps56
    go_wp2_with fail
    go_ret
    exact ⟨rfl, rfl⟩
set_option maxHeartbeats 3200000 in
set_option maxRecDepth 100000 in
theorem c_l05Course (s : Int) (hs : 0 ≤ s ∧ s ≤ 1) (A : Option Addr) (c : Nat) (l : List (Int × Int)) (course : Nat) (L R : Int) (hc : l[course]? = some (L, R)) (hLR : 0 ≤ L ∧ L < R ∧ R ≤ 200) (hlen : l.length ≤ 1048576) (bs : Nat) (w : World) (hx : w.heap[bs]? = some (.cells #[.int .u8 s, .slice A l.length c] 31 (0, 0))) (hA : PairsAt .i16 .i16 w A l) :
    Calls Try.prog 33 #[.pointer (some ⟨bs, 0, none⟩), .int .i64 course] w fun e w' => ∃ v, e = .returned (.tuple #[.int .i64 (laidW L R (beginB s course) (laidN R (beginB s course))), v]) ∧ Below w.heap.size w w' ∧ w'.ownsRow w.heap.size 64 2 v (laidP L R (beginB s course) (laidN R (beginB s course))).length (ccells (laidP L R (beginB s course) (laidN R (beginB s course)))) := by
  obtain ⟨i0, hi, hz0, hz1, hz2⟩ := info_parts Try.infoPiece
  have hcl := (List.getElem?_eq_some_iff.1 hc).1
  obtain ⟨ba, off, rfl, r1, k2, k3⟩ := hA course _ hc
  dsimp only at k2 k3
  obtain ⟨B, hB⟩ : ∃ B, B = beginB s course := ⟨_, rfl⟩
  have hB4 : 0 ≤ B ∧ B ≤ 4 := by rw [hB]; exact beginB_04 _ _
  rw [← hB]
  have hBe : 4 * (((course : Int) + s) % 2) = B := by rw [hB]; unfold beginB; omega
  obtain ⟨N, hN⟩ : ∃ N, N = laidN R B := ⟨_, rfl⟩
  have HNlt : Hid (∀ k : Nat, k < N ↔ B - 8 + 8 * (k : Int) < R) := by intro k; rw [hN]; exact laidN_lt hB4 (by omega) k
  have HM : Hid ((N : Int) ≤ 30) := by have : N = laidN R B := hN; unfold laidN at this; show (N : Int) ≤ 30; omega
  have HX := hid hx
  have k0 := cell_block HX.out (j := 0) rfl
  have k1 := cell_block HX.out (j := 1) rfl
  have hcI : (course : Int) < (l.length : Int) := by omega
  have hc0 : (0 : Int) ≤ (course : Int) := by omega
  have hs8 : 0 ≤ (course : Int) + s ∧ (course : Int) + s ≤ 2000000 := by omega
  rw [← hN]
  clear hN hB hA hc hx
  go_enter Try.func33, Try.ntmps33
  go_wp2_with fail
  clear k0 k1 k2 k3 HX
  go_loopw [9, 10, 11] (fun q v i wr => ∃ k : Nat, k ≤ N ∧ q = .int .i64 (laidW L R B k) ∧ i = .int .i64 (B - 8 + 8 * (k : Int)) ∧ Hid (Below w.heap.size w wr) ∧ Hid (wr.ownsRow w.heap.size 64 2 v (laidP L R B k).length (ccells (laidP L R B k)))) (fun _ _ i _ => (R + 8 - intOf i).toNat)
  case atStart => exact ⟨0, by omega, by simp [laidW], by simp; try omega, (Below.refl _ w).alloc (Nat.le_refl _) _, World.ownsRow_made w #[] 0 (Nat.le_refl _) (by decide) rfl⟩
  case round =>
    obtain ⟨k, hk, rfl, rfl, hb, hO⟩ := hrel
    have hM := HM.out
    obtain ⟨b, hbk⟩ : ∃ b : Int, b = B - 8 + 8 * (k : Int) := ⟨_, rfl⟩
    rw [← hbk]
    have HBk := hid hbk
    have hwl := laidW_le L R B k
    obtain ⟨q, hq⟩ : ∃ q, q = laidW L R B k := ⟨_, rfl⟩
    have HWq := hid hq
    rw [← hq] at hwl ⊢
    have hbb : -8 ≤ b ∧ b ≤ 240 := by omega
    by_cases hkN : k < N
    · have hbR : b < R := by rw [hbk]; exact (HNlt.out k).1 hkN
      have HLE : Hid ((laidP L R B k).length ≤ 1000) := Nat.le_trans (laidP_len L R B k) (by omega)
      have HBS := hid hb.out.size
      clear hq
      by_cases h1 : b + 8 ≤ L
      · have HPn := hid (laidP_none L R B k (by rw [← hbk]; exact pieceAt_none h1)); have HWn := hid (laidW_no L R B k (by rw [← hbk]; exact wholeAt_no1 h1))
        have eM : (if b > L then b else L) = L := if_neg (by omega); have eN : (if b + 8 < R then b + 8 else R) = b + 8 := if_pos (by omega); have HX1 : Hid (Calls Try.prog 55 #[.int .i64 b, .int .i64 L] wr fun e w' => e = .returned (.int .i64 L) ∧ wr = w') := (by have h := c_l00Max b L wr; rw [eM] at h; exact h); have HX2 : Hid (Calls Try.prog 56 #[.int .i64 (b + 8), .int .i64 R] wr fun e w' => e = .returned (.int .i64 (b + 8)) ∧ wr = w') := (by have h := c_l00Min (b + 8) R wr; rw [eN] at h; exact h); clear eM eN
        clear hbk
        go_wp2_with (first
          | (go_at_call 55; ((with_reducible refine HX1.out.mono ?_); rintro e w8 ⟨rfl, rfl⟩))
          | (go_at_call 56; ((with_reducible refine HX2.out.mono ?_); rintro e w8 ⟨rfl, rfl⟩)))
        exact ⟨⟨k + 1, by omega, congrArg (Value.int .i64) (by rw [HWn.out, HWq.out]), congrArg (Value.int .i64) (by rw [HBk.out]; omega), hb, by show World.ownsRow _ _ _ _ _ _ _; rw [HPn.out]; exact hO.out⟩, by have := HM.out; have := HBk.out; simp [intOf]; omega⟩
      · by_cases h2 : L ≤ b
        · by_cases h3 : b + 8 ≤ R
          · have HPn := hid (laidP_none L R B k (by rw [← hbk]; exact pieceAt_whole h2 h3)); have HWn := hid (laidW_yes L R B k (by rw [← hbk]; exact wholeAt_yes h2 h3))
            have eM : (if b > L then b else L) = b := (by split <;> omega); have eN : (if b + 8 < R then b + 8 else R) = b + 8 := (by split <;> omega); have HX1 : Hid (Calls Try.prog 55 #[.int .i64 b, .int .i64 L] wr fun e w' => e = .returned (.int .i64 b) ∧ wr = w') := (by have h := c_l00Max b L wr; rw [eM] at h; exact h); have HX2 : Hid (Calls Try.prog 56 #[.int .i64 (b + 8), .int .i64 R] wr fun e w' => e = .returned (.int .i64 (b + 8)) ∧ wr = w') := (by have h := c_l00Min (b + 8) R wr; rw [eN] at h; exact h); clear eM eN
            clear hbk
            go_wp2_with (first
              | (go_at_call 55; ((with_reducible refine HX1.out.mono ?_); rintro e w8 ⟨rfl, rfl⟩))
              | (go_at_call 56; ((with_reducible refine HX2.out.mono ?_); rintro e w8 ⟨rfl, rfl⟩)))
            exact ⟨⟨k + 1, by omega, congrArg (Value.int .i64) (by rw [HWn.out, HWq.out]), congrArg (Value.int .i64) (by rw [HBk.out]; omega), hb, by show World.ownsRow _ _ _ _ _ _ _; rw [HPn.out]; exact hO.out⟩, by have := HM.out; have := HBk.out; simp [intOf]; omega⟩
          · have HPn := hid (laidP_some L R B k (0, R - b) (by rw [← hbk]; exact pieceAt_left h1 h2 h3)); have HWn := hid (laidW_no L R B k (by rw [← hbk]; exact wholeAt_no3 h3))
            have eM : (if b > L then b else L) = b := (by split <;> omega); have eN : (if b + 8 < R then b + 8 else R) = R := if_neg (by omega); have HX1 : Hid (Calls Try.prog 55 #[.int .i64 b, .int .i64 L] wr fun e w' => e = .returned (.int .i64 b) ∧ wr = w') := (by have h := c_l00Max b L wr; rw [eM] at h; exact h); have HX2 : Hid (Calls Try.prog 56 #[.int .i64 (b + 8), .int .i64 R] wr fun e w' => e = .returned (.int .i64 R) ∧ wr = w') := (by have h := c_l00Min (b + 8) R wr; rw [eN] at h; exact h); clear eM eN
            clear hbk
            go_wp2_with (first
              | (((with_reducible refine gate (N := 65) rfl ?_); (refine wpList_append_own _ rfl (.tmp 58) (.tmp 64) 26 rfl w.heap.size 64 i0 (.agg #[.int .i8 0, .int .i8 0]) 2 2 Try.underlying26 hi hz0 hz1 hz2 rfl (by decide) _ _ _ rfl (hO.out.alloc _) ⟨wr.heap.size, 0, none⟩ 1 1 [.int .i8 (0), .int .i8 (R - b)] rfl rfl (cell_two_new wr _ _ _) (by simp [Value.oneCell']) (Nat.le_trans (Nat.add_le_add_right HLE.out 1) (by decide)) (by have := HLE.out; omega) (Nat.le_trans HBS.out (by simp)) ?_; intro v' w3 hown3 hgrow _)))
              | (go_at_call 55; ((with_reducible refine HX1.out.mono ?_); rintro e w8 ⟨rfl, rfl⟩))
              | (go_at_call 56; ((with_reducible refine HX2.out.mono ?_); rintro e w8 ⟨rfl, rfl⟩)))
            refine ⟨⟨k + 1, by omega, congrArg (Value.int .i64) (by rw [HWn.out, HWq.out]), congrArg (Value.int .i64) (by rw [HBk.out]; omega), (hb.out.alloc HBS.out _).grown hgrow (by have := HBS.out; simp; omega) (fun k hk => (hO.out.lt k hk).1), ?_⟩, by have := HM.out; have := HBk.out; simp [intOf]; omega⟩
            show World.ownsRow _ _ _ _ _ _ _
            rw [HPn.out, List.length_append, ccells_snoc]; exact hown3
        · by_cases h3 : b + 8 ≤ R
          · have HPn := hid (laidP_some L R B k (1, b + 8 - L) (by rw [← hbk]; exact pieceAt_right h1 h2 h3)); have HWn := hid (laidW_no L R B k (by rw [← hbk]; exact wholeAt_no2 h2))
            have eM : (if b > L then b else L) = L := if_neg (by omega); have eN : (if b + 8 < R then b + 8 else R) = b + 8 := (by split <;> omega); have HX1 : Hid (Calls Try.prog 55 #[.int .i64 b, .int .i64 L] wr fun e w' => e = .returned (.int .i64 L) ∧ wr = w') := (by have h := c_l00Max b L wr; rw [eM] at h; exact h); have HX2 : Hid (Calls Try.prog 56 #[.int .i64 (b + 8), .int .i64 R] wr fun e w' => e = .returned (.int .i64 (b + 8)) ∧ wr = w') := (by have h := c_l00Min (b + 8) R wr; rw [eN] at h; exact h); clear eM eN
            clear hbk
            go_wp2_with (first
              | (((with_reducible refine gate (N := 109) rfl ?_); (refine wpList_append_own _ rfl (.tmp 102) (.tmp 108) 26 rfl w.heap.size 64 i0 (.agg #[.int .i8 0, .int .i8 0]) 2 2 Try.underlying26 hi hz0 hz1 hz2 rfl (by decide) _ _ _ rfl (hO.out.alloc _) ⟨wr.heap.size, 0, none⟩ 1 1 [.int .i8 (1), .int .i8 (b + 8 - L)] rfl rfl (cell_two_new wr _ _ _) (by simp [Value.oneCell']) (Nat.le_trans (Nat.add_le_add_right HLE.out 1) (by decide)) (by have := HLE.out; omega) (Nat.le_trans HBS.out (by simp)) ?_; intro v' w3 hown3 hgrow _)))
              | (go_at_call 55; ((with_reducible refine HX1.out.mono ?_); rintro e w8 ⟨rfl, rfl⟩))
              | (go_at_call 56; ((with_reducible refine HX2.out.mono ?_); rintro e w8 ⟨rfl, rfl⟩)))
            refine ⟨⟨k + 1, by omega, congrArg (Value.int .i64) (by rw [HWn.out, HWq.out]), congrArg (Value.int .i64) (by rw [HBk.out]; omega), (hb.out.alloc HBS.out _).grown hgrow (by have := HBS.out; simp; omega) (fun k hk => (hO.out.lt k hk).1), ?_⟩, by have := HM.out; have := HBk.out; simp [intOf]; omega⟩
            show World.ownsRow _ _ _ _ _ _ _
            rw [HPn.out, List.length_append, ccells_snoc]; exact hown3
          · have HPn := hid (laidP_some L R B k (2, R - L) (by rw [← hbk]; exact pieceAt_mid h1 h2 h3)); have HWn := hid (laidW_no L R B k (by rw [← hbk]; exact wholeAt_no3 h3))
            have eM : (if b > L then b else L) = L := if_neg (by omega); have eN : (if b + 8 < R then b + 8 else R) = R := if_neg (by omega); have HX1 : Hid (Calls Try.prog 55 #[.int .i64 b, .int .i64 L] wr fun e w' => e = .returned (.int .i64 L) ∧ wr = w') := (by have h := c_l00Max b L wr; rw [eM] at h; exact h); have HX2 : Hid (Calls Try.prog 56 #[.int .i64 (b + 8), .int .i64 R] wr fun e w' => e = .returned (.int .i64 R) ∧ wr = w') := (by have h := c_l00Min (b + 8) R wr; rw [eN] at h; exact h); clear eM eN
            clear hbk
            go_wp2_with (first
              | (((with_reducible refine gate (N := 97) rfl ?_); (refine wpList_append_own _ rfl (.tmp 90) (.tmp 96) 26 rfl w.heap.size 64 i0 (.agg #[.int .i8 0, .int .i8 0]) 2 2 Try.underlying26 hi hz0 hz1 hz2 rfl (by decide) _ _ _ rfl (hO.out.alloc _) ⟨wr.heap.size, 0, none⟩ 1 1 [.int .i8 (2), .int .i8 (R - L)] rfl rfl (cell_two_new wr _ _ _) (by simp [Value.oneCell']) (Nat.le_trans (Nat.add_le_add_right HLE.out 1) (by decide)) (by have := HLE.out; omega) (Nat.le_trans HBS.out (by simp)) ?_; intro v' w3 hown3 hgrow _)))
              | (go_at_call 55; ((with_reducible refine HX1.out.mono ?_); rintro e w8 ⟨rfl, rfl⟩))
              | (go_at_call 56; ((with_reducible refine HX2.out.mono ?_); rintro e w8 ⟨rfl, rfl⟩)))
            refine ⟨⟨k + 1, by omega, congrArg (Value.int .i64) (by rw [HWn.out, HWq.out]), congrArg (Value.int .i64) (by rw [HBk.out]; omega), (hb.out.alloc HBS.out _).grown hgrow (by have := HBS.out; simp; omega) (fun k hk => (hO.out.lt k hk).1), ?_⟩, by have := HM.out; have := HBk.out; simp [intOf]; omega⟩
            show World.ownsRow _ _ _ _ _ _ _
            rw [HPn.out, List.length_append, ccells_snoc]; exact hown3
    · have hbR : ¬ b < R := by rw [hbk]; exact fun h => hkN ((HNlt.out k).2 h)
      obtain rfl : k = N := by omega
      clear hbk hq
      go_wp2_with fail
      go_ret2
      have hq' := HWq.out
      subst hq'
      exact ⟨_, rfl, hb.out, hO.out⟩
end Go.Proofs.Ytgbihaliiogboaa
