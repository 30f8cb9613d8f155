/- SameRoof and WholeRoof, the program's and the reference's. -/
import Derived.Test.YtajopobhpfajfaaEq
import Derived.Test.YtajopobhpfajfaaEqv
import Derived.Test.YtajopobhpfajfaaNum
namespace Go.Proofs.Ytajopobhpfajfaa
open Go.RowKit
set_option linter.unusedSimpArgs false
set_option linter.unusedVariables false

theorem Try.guardRoof : Try.prog.eqGuardType Try.prog.depth 31 = false := by kernel_rfl
set_option maxRecDepth 100000 in
theorem c_SameRoof (a b : Rf) (ha : a.Ok) (hb : b.Ok) (w : World) : Calls Try.prog 13 #[.agg (rcells a), .agg (rcells b)] w fun e w' => e = .returned (.bool (eqRf a b)) ∧ Below w.heap.size w w' := by
  go_enter Try.func13, Try.ntmps13
  go_wp2_with (first
    | ((with_reducible refine gate (N := 5) rfl ?_); refine wp_roof 31 Try.underlying31 rfl Try.infoRoof rfl (.tmp 2) rfl w.heap.size rfl a ha (block_alloc (block_new1 w _ rfl) _) ?_)
    | ((with_reducible refine gate (N := 6) rfl ?_); refine wp_roof 31 Try.underlying31 rfl Try.infoRoof rfl (.tmp 3) rfl (w.heap.size + 1) rfl b hb (block_new1 _ _ (by simp)) ?_)
    | ((with_reducible refine gate (N := 7) rfl ?_); refine wpList_run rfl _ (execOp_eql rfl rfl rfl Try.guardRoof (run_eql_roof _ a b ha hb)) ?_))
  go_ret
  exact ⟨rfl, ((Below.refl _ w).alloc (Nat.le_refl _) _).alloc (by simp) _⟩
set_option maxRecDepth 100000 in
theorem c_sSameRoof (a b : Rf) (ha : a.Ok) (hb : b.Ok) (w : World) : Calls Try.prog 11 #[.agg (rcells a), .agg (rcells b)] w fun e w' => e = .returned (.bool (eqRf a b)) ∧ Below w.heap.size w w' := by
  go_enter Try.func11, Try.ntmps11
  go_wp2_with (first
    | ((with_reducible refine gate (N := 5) rfl ?_); refine wp_roof 31 Try.underlying31 rfl Try.infoRoof rfl (.tmp 2) rfl w.heap.size rfl a ha (block_alloc (block_new1 w _ rfl) _) ?_)
    | ((with_reducible refine gate (N := 6) rfl ?_); refine wp_roof 31 Try.underlying31 rfl Try.infoRoof rfl (.tmp 3) rfl (w.heap.size + 1) rfl b hb (block_new1 _ _ (by simp)) ?_)
    | ((with_reducible refine gate (N := 7) rfl ?_); refine wpList_run rfl _ (execOp_eql rfl rfl rfl Try.guardRoof (run_eql_roof _ a b ha hb)) ?_))
  go_ret
  exact ⟨rfl, ((Below.refl _ w).alloc (Nat.le_refl _) _).alloc (by simp) _⟩
/-- What WholeRoof returns. -/
def wholeR (a b c : Int) : Rf × Int := if inB a 1 8 && (inB b 1 8 && inB c 0 1) then (⟨a, b, c, List.replicate 64 0⟩, 0) else (Rf.zero, 2)
theorem wholeR_ok (a b c : Int) : (wholeR a b c).1.Ok := by
  unfold wholeR
  split
  · rename_i h
    simp only [Bool.and_eq_true, inB_iff] at h
    exact ⟨by dsimp only; omega, by dsimp only; omega, by dsimp only; omega, by dsimp only; omega, by dsimp only; omega, by dsimp only; omega, by simp, fun n hn => by simp at hn; omega⟩
  · exact Rf.zero_ok
set_option maxRecDepth 100000 in
theorem c_WholeRoof (a b c : Int) (w : World) : Calls Try.prog 15 #[.int .i64 a, .int .i64 b, .int .i64 c] w fun e w' => e = .returned (.tuple #[.agg (rcells (wholeR a b c).1), .int .i64 (wholeR a b c).2]) ∧ Below w.heap.size w w' := by
  by_cases hall : (inB a 1 8 && (inB b 1 8 && inB c 0 1)) = true
  · have hy : wholeR a b c = (⟨a, b, c, List.replicate 64 0⟩, 0) := by unfold wholeR; rw [if_pos hall]
    have hok := wholeR_ok a b c
    rw [hy] at hok ⊢
    simp only [Bool.and_eq_true] at hall
    obtain ⟨h1, h2, h3⟩ := hall
    have b1 := inB_iff.1 h1; have b2 := inB_iff.1 h2; have b3 := inB_iff.1 h3
    obtain ⟨b11, b12⟩ := b1; obtain ⟨b21, b22⟩ := b2; obtain ⟨b31, b32⟩ := b3
    have H1 := hid h1; clear h1
    have H2 := hid h2; clear h2
    have H3 := hid h3; clear h3
    clear hy
    go_enter Try.func15, Try.ntmps15
    go_wp2_with (first
      | (go_at_call 25; first | ((with_reducible refine (c_within64 _ _ _ _ true H1.out).mono ?_); rintro e w' ⟨rfl, rfl⟩) | ((with_reducible refine (c_within64 _ _ _ _ true H2.out).mono ?_); rintro e w' ⟨rfl, rfl⟩) | ((with_reducible refine (c_within64 _ _ _ _ true H3.out).mono ?_); rintro e w' ⟨rfl, rfl⟩))
      | ((with_reducible refine gate (N := 28) rfl ?_); refine wpList_run rfl (.agg (rcells ⟨a, b, c, List.replicate 64 0⟩)) (by unfold execOp; go_simp; exact run_build_roof _ a b c) ?_)
      | ((with_reducible refine gateN rfl ?_); refine wp_store_roof rfl (.tmp 6) (.tmp 28) rfl w.heap.size Rf.zero _ Rf.zero_ok hok (block_new1 w _ rfl) rfl rfl ?_; intro w2 hw2 hg hsz; have HW := hid hw2; clear hw2))
    exact bodyPost_ret (res_roof rfl _ _ w.heap.size _ hok _ rfl HW.out rfl) rfl ⟨rfl, ((Below.refl _ w).alloc (Nat.le_refl _) _).grown hg (by simp) (fun k hk => by cases hk; exact Nat.le_refl _)⟩
  · have hy : wholeR a b c = (Rf.zero, 2) := by unfold wholeR; rw [if_neg hall]
    rw [hy]
    clear hy
    cases h1 : inB a 1 8
    · have H1 := hid h1; clear h1 hall
      go_enter Try.func15, Try.ntmps15
      go_wp2_with (first
        | (go_at_call 25; first | ((with_reducible refine (c_within64 _ _ _ _ false H1.out).mono ?_); rintro e w' ⟨rfl, rfl⟩))
        | ((with_reducible refine gate (N := 21) rfl ?_); refine wpList_run rfl (.agg (rcells Rf.zero)) (by unfold execOp; go_simp; exact run_build_zero _) ?_)
        | ((with_reducible refine gateN rfl ?_); refine wp_store_roof rfl (.tmp 6) (.tmp 21) rfl w.heap.size Rf.zero _ Rf.zero_ok Rf.zero_ok (block_new1 w _ rfl) rfl rfl ?_; intro w2 hw2 hg hsz; have HW := hid hw2; clear hw2))
      exact bodyPost_ret (res_roof rfl _ _ w.heap.size _ Rf.zero_ok _ rfl HW.out rfl) rfl ⟨rfl, ((Below.refl _ w).alloc (Nat.le_refl _) _).grown hg (by simp) (fun k hk => by cases hk; exact Nat.le_refl _)⟩
    cases h2 : inB b 1 8
    · have H1 := hid h1; have H2 := hid h2; clear h1 h2 hall
      go_enter Try.func15, Try.ntmps15
      go_wp2_with (first
        | (go_at_call 25; first | ((with_reducible refine (c_within64 _ _ _ _ true H1.out).mono ?_); rintro e w' ⟨rfl, rfl⟩) | ((with_reducible refine (c_within64 _ _ _ _ false H2.out).mono ?_); rintro e w' ⟨rfl, rfl⟩))
        | ((with_reducible refine gate (N := 21) rfl ?_); refine wpList_run rfl (.agg (rcells Rf.zero)) (by unfold execOp; go_simp; exact run_build_zero _) ?_)
        | ((with_reducible refine gateN rfl ?_); refine wp_store_roof rfl (.tmp 6) (.tmp 21) rfl w.heap.size Rf.zero _ Rf.zero_ok Rf.zero_ok (block_new1 w _ rfl) rfl rfl ?_; intro w2 hw2 hg hsz; have HW := hid hw2; clear hw2))
      exact bodyPost_ret (res_roof rfl _ _ w.heap.size _ Rf.zero_ok _ rfl HW.out rfl) rfl ⟨rfl, ((Below.refl _ w).alloc (Nat.le_refl _) _).grown hg (by simp) (fun k hk => by cases hk; exact Nat.le_refl _)⟩
    have h3 : inB c 0 1 = false := by
      cases h3 : inB c 0 1 with
      | false => rfl
      | true => rw [h1, h2, h3] at hall; exact absurd rfl hall
    have H1 := hid h1; have H2 := hid h2; have H3 := hid h3; clear h1 h2 h3 hall
    go_enter Try.func15, Try.ntmps15
    go_wp2_with (first
      | (go_at_call 25; first | ((with_reducible refine (c_within64 _ _ _ _ true H1.out).mono ?_); rintro e w' ⟨rfl, rfl⟩) | ((with_reducible refine (c_within64 _ _ _ _ true H2.out).mono ?_); rintro e w' ⟨rfl, rfl⟩) | ((with_reducible refine (c_within64 _ _ _ _ false H3.out).mono ?_); rintro e w' ⟨rfl, rfl⟩))
      | ((with_reducible refine gate (N := 21) rfl ?_); refine wpList_run rfl (.agg (rcells Rf.zero)) (by unfold execOp; go_simp; exact run_build_zero _) ?_)
      | ((with_reducible refine gateN rfl ?_); refine wp_store_roof rfl (.tmp 6) (.tmp 21) rfl w.heap.size Rf.zero _ Rf.zero_ok Rf.zero_ok (block_new1 w _ rfl) rfl rfl ?_; intro w2 hw2 hg hsz; have HW := hid hw2; clear hw2))
    exact bodyPost_ret (res_roof rfl _ _ w.heap.size _ Rf.zero_ok _ rfl HW.out rfl) rfl ⟨rfl, ((Below.refl _ w).alloc (Nat.le_refl _) _).grown hg (by simp) (fun k hk => by cases hk; exact Nat.le_refl _)⟩
set_option maxRecDepth 100000 in
theorem c_sWholeRoof (a b c : Int) (w : World) : Calls Try.prog 14 #[.int .i64 a, .int .i64 b, .int .i64 c] w fun e w' => e = .returned (.tuple #[.agg (rcells (wholeR a b c).1), .int .i64 (wholeR a b c).2]) ∧ Below w.heap.size w w' := by
  by_cases hall : (inB a 1 8 && (inB b 1 8 && inB c 0 1)) = true
  · have hy : wholeR a b c = (⟨a, b, c, List.replicate 64 0⟩, 0) := by unfold wholeR; rw [if_pos hall]
    have hok := wholeR_ok a b c
    rw [hy] at hok ⊢
    simp only [Bool.and_eq_true] at hall
    obtain ⟨h1, h2, h3⟩ := hall
    have b1 := inB_iff.1 h1; have b2 := inB_iff.1 h2; have b3 := inB_iff.1 h3
    obtain ⟨b11, b12⟩ := b1; obtain ⟨b21, b22⟩ := b2; obtain ⟨b31, b32⟩ := b3
    have H1 := hid h1; clear h1
    have H2 := hid h2; clear h2
    have H3 := hid h3; clear h3
    clear hy
    go_enter Try.func14, Try.ntmps14
    go_wp2_with (first
      | (go_at_call 24; first | ((with_reducible refine (c_l00In _ _ _ _ true H1.out).mono ?_); rintro e w' ⟨rfl, rfl⟩) | ((with_reducible refine (c_l00In _ _ _ _ true H2.out).mono ?_); rintro e w' ⟨rfl, rfl⟩) | ((with_reducible refine (c_l00In _ _ _ _ true H3.out).mono ?_); rintro e w' ⟨rfl, rfl⟩))
      | ((with_reducible refine gate (N := 28) rfl ?_); refine wpList_run rfl (.agg (rcells ⟨a, b, c, List.replicate 64 0⟩)) (by unfold execOp; go_simp; exact run_build_roof _ a b c) ?_)
      | ((with_reducible refine gateN rfl ?_); refine wp_store_roof rfl (.tmp 6) (.tmp 28) rfl w.heap.size Rf.zero _ Rf.zero_ok hok (block_new1 w _ rfl) rfl rfl ?_; intro w2 hw2 hg hsz; have HW := hid hw2; clear hw2))
    exact bodyPost_ret (res_roof rfl _ _ w.heap.size _ hok _ rfl HW.out rfl) rfl ⟨rfl, ((Below.refl _ w).alloc (Nat.le_refl _) _).grown hg (by simp) (fun k hk => by cases hk; exact Nat.le_refl _)⟩
  · have hy : wholeR a b c = (Rf.zero, 2) := by unfold wholeR; rw [if_neg hall]
    rw [hy]
    clear hy
    cases h1 : inB a 1 8
    · have H1 := hid h1; clear h1 hall
      go_enter Try.func14, Try.ntmps14
      go_wp2_with (first
        | (go_at_call 24; first | ((with_reducible refine (c_l00In _ _ _ _ false H1.out).mono ?_); rintro e w' ⟨rfl, rfl⟩))
        | ((with_reducible refine gate (N := 21) rfl ?_); refine wpList_run rfl (.agg (rcells Rf.zero)) (by unfold execOp; go_simp; exact run_build_zero _) ?_)
        | ((with_reducible refine gateN rfl ?_); refine wp_store_roof rfl (.tmp 6) (.tmp 21) rfl w.heap.size Rf.zero _ Rf.zero_ok Rf.zero_ok (block_new1 w _ rfl) rfl rfl ?_; intro w2 hw2 hg hsz; have HW := hid hw2; clear hw2))
      exact bodyPost_ret (res_roof rfl _ _ w.heap.size _ Rf.zero_ok _ rfl HW.out rfl) rfl ⟨rfl, ((Below.refl _ w).alloc (Nat.le_refl _) _).grown hg (by simp) (fun k hk => by cases hk; exact Nat.le_refl _)⟩
    cases h2 : inB b 1 8
    · have H1 := hid h1; have H2 := hid h2; clear h1 h2 hall
      go_enter Try.func14, Try.ntmps14
      go_wp2_with (first
        | (go_at_call 24; first | ((with_reducible refine (c_l00In _ _ _ _ true H1.out).mono ?_); rintro e w' ⟨rfl, rfl⟩) | ((with_reducible refine (c_l00In _ _ _ _ false H2.out).mono ?_); rintro e w' ⟨rfl, rfl⟩))
        | ((with_reducible refine gate (N := 21) rfl ?_); refine wpList_run rfl (.agg (rcells Rf.zero)) (by unfold execOp; go_simp; exact run_build_zero _) ?_)
        | ((with_reducible refine gateN rfl ?_); refine wp_store_roof rfl (.tmp 6) (.tmp 21) rfl w.heap.size Rf.zero _ Rf.zero_ok Rf.zero_ok (block_new1 w _ rfl) rfl rfl ?_; intro w2 hw2 hg hsz; have HW := hid hw2; clear hw2))
      exact bodyPost_ret (res_roof rfl _ _ w.heap.size _ Rf.zero_ok _ rfl HW.out rfl) rfl ⟨rfl, ((Below.refl _ w).alloc (Nat.le_refl _) _).grown hg (by simp) (fun k hk => by cases hk; exact Nat.le_refl _)⟩
    have h3 : inB c 0 1 = false := by
      cases h3 : inB c 0 1 with
      | false => rfl
      | true => rw [h1, h2, h3] at hall; exact absurd rfl hall
    have H1 := hid h1; have H2 := hid h2; have H3 := hid h3; clear h1 h2 h3 hall
    go_enter Try.func14, Try.ntmps14
    go_wp2_with (first
      | (go_at_call 24; first | ((with_reducible refine (c_l00In _ _ _ _ true H1.out).mono ?_); rintro e w' ⟨rfl, rfl⟩) | ((with_reducible refine (c_l00In _ _ _ _ true H2.out).mono ?_); rintro e w' ⟨rfl, rfl⟩) | ((with_reducible refine (c_l00In _ _ _ _ false H3.out).mono ?_); rintro e w' ⟨rfl, rfl⟩))
      | ((with_reducible refine gate (N := 21) rfl ?_); refine wpList_run rfl (.agg (rcells Rf.zero)) (by unfold execOp; go_simp; exact run_build_zero _) ?_)
      | ((with_reducible refine gateN rfl ?_); refine wp_store_roof rfl (.tmp 6) (.tmp 21) rfl w.heap.size Rf.zero _ Rf.zero_ok Rf.zero_ok (block_new1 w _ rfl) rfl rfl ?_; intro w2 hw2 hg hsz; have HW := hid hw2; clear hw2))
    exact bodyPost_ret (res_roof rfl _ _ w.heap.size _ Rf.zero_ok _ rfl HW.out rfl) rfl ⟨rfl, ((Below.refl _ w).alloc (Nat.le_refl _) _).grown hg (by simp) (fun k hk => by cases hk; exact Nat.le_refl _)⟩
end Go.Proofs.Ytajopobhpfajfaa
