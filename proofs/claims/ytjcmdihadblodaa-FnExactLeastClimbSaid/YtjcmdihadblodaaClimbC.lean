/- The code of places and of how many tiles are carried; ClimbsFor, the program's. -/
import Derived.Test.YtjcmdihadblodaaJob
import Derived.Test.YtjcmdihadblodaaClimbs
import Derived.Test.YtjcmdihadblodaaEachPl
import Derived.Test.YtjcmdihadblodaaClimbTo
import Derived.Test.YtjcmdihadblodaaWildG
namespace Go.Proofs.Ytjcmdihadblodaa
open Go.RowKit
set_option linter.unusedSimpArgs false
set_option linter.unusedVariables false

def hasP (r : Rf) (p : Int × Int) : Bool := hasB r p.1 p.2
/-- A slice of one number, just built. -/
def One (B : Nat) (W : World) (n : Int) (v : Value) (w' : World) : Prop := ∃ x : Ext B W, v = .slice (some ⟨x.out.heap.size, 0, none⟩) 1 1 ∧ w' = x.out.alloc (.cells #[.int .i64 n] 3)
theorem One.sli {B : Nat} {W : World} {n : Int} {v : Value} {w' : World} (h : One B W n v w') : ∃ A, v = .slice A 1 1 ∧ SlI w' A [n] := by
  obtain ⟨x, rfl, rfl⟩ := h
  refine ⟨_, rfl, fun j m hj => ?_⟩
  cases j with
  | zero => simp at hj; subst hj; exact ⟨_, 0, rfl, by simp, cell_block (block_new1 x.out _ rfl) rfl⟩
  | succ j => simp at hj
theorem One.below {B : Nat} {W : World} {n : Int} {v : Value} {w' : World} (h : One B W n v w') (hB : B ≤ W.heap.size) : Below B W w' := by
  obtain ⟨x, _, rfl⟩ := h
  exact x.below.alloc (Nat.le_trans hB x.below.size) _
theorem c_allHas (r : Rf) (hr : r.Ok) (A : Option Addr) (c : Nat) (l : List (Int × Int)) (hB : PlB l) (hlen : l.length ≤ 1048576) (w : World) (hA : PairsAt .i8 .i8 w A l) :
    Calls Try.prog 57 #[.slice A l.length c, .func (.func 58) #[.agg (rcells r)] #[]] w fun e w' => e = .returned (.bool (l.all (hasP r))) ∧ Below w.heap.size w w' :=
  c_areAllP 58 #[.agg (rcells r)] #[] (enters_of Try.func58 (by kernel_rfl) rfl) (hasP r) A c l hlen w hA (fun W p hp _ => c_has r hr p.1 p.2 (hB p hp).1 (hB p hp).2 W)
set_option maxHeartbeats 1600000 in
set_option maxRecDepth 100000 in
theorem c_climbCode (r : Rf) (hr : r.Ok) (A : Option Addr) (c : Nat) (l : List (Int × Int)) (hB : PlB l) (hlen : l.length ≤ 1048576) (n : Int) (w : World) (hA : PairsAt .i8 .i8 w A l) :
    Calls Try.prog 34 #[.agg (rcells r), .slice A l.length c, .int .i64 n] w fun e w' => e = .returned (.int .i64 (jobK (validB r) (l.all (hasP r) && inB n 1 20) (decide ((l.length : Int) ≤ 8)))) ∧ Below w.heap.size w w' := by
  have HX := hid (block_new1 w (.cells (rcells r) 38) rfl)
  obtain ⟨W0, hW0⟩ : ∃ W0, W0 = w.alloc (.cells (rcells r) 38) := ⟨_, rfl⟩
  have B0 : Hid (Below w.heap.size w W0) := by rw [hW0]; exact (Below.refl _ w).alloc (Nat.le_refl _) _
  have HL0 : Hid (w.heap.size + 1 ≤ W0.heap.size) := by rw [hW0]; simp [Hid]
  rw [← hW0] at HX
  have RD := hid hA
  have HC := fun w' h => hid (c_allHas r hr A c l hB hlen w' h)
  have HJ := fun (g : Bool) (A1 : Option Addr) (w' : World) h => hid (c_jobCode r hr g A1 1 [(l.length : Int)] (by simp) w' h)
  obtain ⟨g1, hg1⟩ : ∃ g, g = l.all (hasP r) := ⟨_, rfl⟩
  obtain ⟨g2, hg2⟩ : ∃ g, inB n 1 20 = g := ⟨_, rfl⟩
  have HG := hid hg2
  rw [← hg1] at HC
  rw [← hg1, hg2]
  have hJe : ∀ g : Bool, jobK (validB r) g ([(l.length : Int)].all fun n => decide (n ≤ 8)) = jobK (validB r) g (decide ((l.length : Int) ≤ 8)) := fun g => by simp
  have HJ := fun (g : Bool) (A1 : Option Addr) (w' : World) h => hid ((hJe g) ▸ (HJ g A1 w' h).out)
  have hlI : (l.length : Int) ≤ 1048576 := by omega
  have l0 : w.heap.size < w.heap.size + 1 := by omega
  clear hA hg1 hg2 hB hJe
  go_enter Try.func34, Try.ntmps34
  go_wp2_with fail
  rw [← hW0]
  clear hW0
  cases g1 with
  | true =>
    refine wp_region_wildOG (w.heap.size + 1) 11 ?s1 _ (One (w.heap.size + 1) W0 (l.length : Int)) (by kernel_rfl) (by kernel_rfl) (by kernel_rfl) rfl (by kernel_rfl) rfl HL0.out ?pre1 ?run1 ?post1
    case pre1 =>
      intro B' W' hb hB hS
      have HXb := hid (block_below hb HX.out l0)
      have hlb : w.heap.size < B' := by omega
      have HAb := hid (B0.out.trans (hb.mono (Nat.le_succ _)))
      have HS := hid hS
      have R0 : Hid (∀ x : Ext B' W', (Instr.loadAt 38 (.pointer (some ⟨w.heap.size, 0, none⟩))).run Try.prog x.out = .ok (.agg (rcells r)) x.out) := fun x =>
        run_load_roof 38 Try.underlying38 rfl Try.infoRoof hr (block_below x.below HXb.out hlb)
      simp only [List.take_succ_cons, List.take_zero]
      repeat (first
        | ((with_reducible refine wpQuiet_run (N := 7) rfl rfl (.agg (rcells r)) ?_ ?_); (rintro _ ⟨x, rfl⟩; exact execOp_load rfl rfl (R0.out x)); go_simp)
        | ((with_reducible refine wpQuiet_run (N := 9) rfl rfl (.agg (rcells r)) ?_ ?_); (rintro _ ⟨x, rfl⟩; exact execOp_load rfl rfl (R0.out x)); go_simp)
        | go_big_quiet_step (first
          | (go_at_call 57; exact Calls.ext HS.out (HC _ (RD.out.below (HAb.out.trans ((Ext.below _).mono (by omega))) (Nat.le_refl _))).out)
          | (go_at_call 59; with_reducible exact Calls.ext_same (c_isCarry n _ _ HG.out))))
      refine wpQuiet_nil ?_
      exact rfl
    case run1 =>
      intro x
      refine ⟨_, _, ?_, ⟨x, rfl, rfl⟩, ?_⟩
      · unfold execOp; go_simp
      · exact x.below.alloc (Nat.le_trans HL0.out x.below.size) _
    case post1 =>
      intro v w1 hR hb1
      obtain ⟨A1, rfl, hs1⟩ := hR.sli
      have HS1 := hid hs1
      have HB1 := hid (B0.out.trans (hb1.mono (Nat.le_succ _)))
      clear hR hs1 hb1
      simp only [List.drop_succ_cons, List.drop_zero, Act.put, List.setIfInBounds_toArray, List.set_cons_zero, List.set_cons_succ]
      repeat (go_big_quiet_step ((go_at_call 56; exact Calls.ext (Nat.le_refl _) (HJ _ _ _ (HS1.out.below (Ext.below _) (Nat.le_refl _))).out)))
      refine wpQuiet_nil ?_
      rintro _ ⟨y, rfl⟩
      go_wp2_with fail
      go_ret
      exact ⟨by first | rfl | (rw [Bool.true_and]; rfl) | (rw [Bool.false_and]; rfl), HB1.out.trans (y.below.mono HB1.out.size)⟩
  | false =>
    refine wp_region_wildOG (w.heap.size + 1) 11 ?s2 _ (One (w.heap.size + 1) W0 (l.length : Int)) (by kernel_rfl) (by kernel_rfl) (by kernel_rfl) rfl (by kernel_rfl) rfl HL0.out ?pre2 ?run2 ?post2
    case pre2 =>
      intro B' W' hb hB hS
      have HXb := hid (block_below hb HX.out l0)
      have hlb : w.heap.size < B' := by omega
      have HAb := hid (B0.out.trans (hb.mono (Nat.le_succ _)))
      have HS := hid hS
      have R0 : Hid (∀ x : Ext B' W', (Instr.loadAt 38 (.pointer (some ⟨w.heap.size, 0, none⟩))).run Try.prog x.out = .ok (.agg (rcells r)) x.out) := fun x =>
        run_load_roof 38 Try.underlying38 rfl Try.infoRoof hr (block_below x.below HXb.out hlb)
      simp only [List.take_succ_cons, List.take_zero]
      repeat (first
        | ((with_reducible refine wpQuiet_run (N := 7) rfl rfl (.agg (rcells r)) ?_ ?_); (rintro _ ⟨x, rfl⟩; exact execOp_load rfl rfl (R0.out x)); go_simp)
        | ((with_reducible refine wpQuiet_run (N := 9) rfl rfl (.agg (rcells r)) ?_ ?_); (rintro _ ⟨x, rfl⟩; exact execOp_load rfl rfl (R0.out x)); go_simp)
        | go_big_quiet_step (first
          | (go_at_call 57; exact Calls.ext HS.out (HC _ (RD.out.below (HAb.out.trans ((Ext.below _).mono (by omega))) (Nat.le_refl _))).out)
          | (go_at_call 59; with_reducible exact Calls.ext_same (c_isCarry n _ _ HG.out))))
      refine wpQuiet_nil ?_
      exact rfl
    case run2 =>
      intro x
      refine ⟨_, _, ?_, ⟨x, rfl, rfl⟩, ?_⟩
      · unfold execOp; go_simp
      · exact x.below.alloc (Nat.le_trans HL0.out x.below.size) _
    case post2 =>
      intro v w1 hR hb1
      obtain ⟨A1, rfl, hs1⟩ := hR.sli
      have HS1 := hid hs1
      have HB1 := hid (B0.out.trans (hb1.mono (Nat.le_succ _)))
      clear hR hs1 hb1
      simp only [List.drop_succ_cons, List.drop_zero, Act.put, List.setIfInBounds_toArray, List.set_cons_zero, List.set_cons_succ]
      repeat (go_big_quiet_step ((go_at_call 56; exact Calls.ext (Nat.le_refl _) (HJ _ _ _ (HS1.out.below (Ext.below _) (Nat.le_refl _))).out)))
      refine wpQuiet_nil ?_
      rintro _ ⟨y, rfl⟩
      go_wp2_with fail
      go_ret
      exact ⟨by first | rfl | (rw [Bool.true_and]; rfl) | (rw [Bool.false_and]; rfl), HB1.out.trans (y.below.mono HB1.out.size)⟩
end Go.Proofs.Ytjcmdihadblodaa
