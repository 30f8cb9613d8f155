/- l03Less on lists of one place. -/
import Derived.Test.YtjcmdihadblodaaHas
import Derived.Test.YtjcmdihadblodaaToI
namespace Go.Proofs.Ytjcmdihadblodaa
open Go.RowKit
set_option linter.unusedSimpArgs false
set_option linter.unusedVariables false

def lessP (p q : Int × Int) : Bool := decide (p.1 < q.1) || (p.1 == q.1 && decide (p.2 < q.2))
theorem run_neq_place (W : World) (p1 p2 q1 q2 : Int) : (binOp .neq 58 (.agg #[.int .i8 p1, .int .i8 p2]) (.agg #[.int .i8 q1, .int .i8 q2])).run Try.prog W = .ok (.bool (!decide ((p1, p2) = (q1, q2)))) W := by
  have h := run_eql_place W p1 p2 q1 q2
  rw [run_eql_struct] at h
  rw [run_neq_struct]
  revert h
  cases (Op.equalIn 10000 58 (.agg #[.int .i8 p1, .int .i8 p2]) (.agg #[.int .i8 q1, .int .i8 q2])).run Try.prog W with
  | ok b w' =>
    intro h
    simp only [Result.andThen_ok] at h ⊢
    injection h with h1 h2
    injection h1 with h1
    rw [h1, h2]
  | _ => intro h; simp [Result.andThen] at h
theorem execOp_neq {P : Program} {o : Oper} {a : Act} {w : World} {t t' : TypeId} {x y : Operand} {xs ys : Array Value} {v : Value} (ho : o.op = .binOp .neq t x y t') (hx : a.eval x = .agg xs) (hy : a.eval y = .agg ys) (hm : P.eqGuardType P.depth t = false)
    (h : (binOp .neq t (.agg xs) (.agg ys)).run P w = .ok v w) : (execOp a.eval o).run P w = .ok (.value v) w := by
  unfold execOp; simp [ho, hx, hy, Sem.run_bind, run_eqGuard_agg w .neq t x y xs ys hm, h]
set_option maxHeartbeats 1600000 in
set_option maxRecDepth 100000 in
theorem c_l03Less1 (p1 p2 q1 q2 : Int) (b o b' o' c c' : Nat) (w : World) (h1 : w.cell? ⟨b, o, none⟩ = some (.int .i8 p1)) (h2 : w.cell? ⟨b, o + 1, none⟩ = some (.int .i8 p2)) (h1' : w.cell? ⟨b', o', none⟩ = some (.int .i8 q1)) (h2' : w.cell? ⟨b', o' + 1, none⟩ = some (.int .i8 q2)) (hb : b < w.heap.size) (hb' : b' < w.heap.size) :
    Calls Try.prog 62 #[.slice (some ⟨b, o, none⟩) 1 c, .slice (some ⟨b', o', none⟩) 1 c'] w fun e w' => e = .returned (.bool (lessP (p1, p2) (q1, q2))) ∧ Below w.heap.size w w' := by
  by_cases he : (p1, p2) = (q1, q2)
  · have R : Hid (∀ W : World, (binOp .neq 58 (.agg #[.int .i8 p1, .int .i8 p2]) (.agg #[.int .i8 q1, .int .i8 q2])).run Try.prog W = .ok (.bool false) W) := fun W => by rw [run_neq_place, decide_eq_true he]; rfl
    have hv : lessP (p1, p2) (q1, q2) = false := by rw [he]; simp [lessP]
    rw [hv]
    clear he hv
    go_enter Try.func62, Try.ntmps62
    go_wp2_with fail
    refine wp_loop_rounds 2 ?_
    rw [rounds_succ]
    go_wp2_with fail
    refine wp_region_ext w.heap.size (by kernel_rfl) (by kernel_rfl) ?_
    repeat (first
      | ((with_reducible refine wpQuiet_run (N := 26) rfl rfl (.bool false) ?_ ?_); (rintro _ ⟨x, rfl⟩; exact execOp_neq rfl rfl rfl (by kernel_rfl) (R.out x.out)); go_simp)
      | go_big_quiet_step (fail))
    refine wpQuiet_nil ?_
    intro x
    go_wp2_with fail
    rw [rounds_succ]
    go_wp2_with fail
    go_ret
    exact ⟨rfl, x.below⟩
  · have R : Hid (∀ W : World, (binOp .neq 58 (.agg #[.int .i8 p1, .int .i8 p2]) (.agg #[.int .i8 q1, .int .i8 q2])).run Try.prog W = .ok (.bool true) W) := fun W => by rw [run_neq_place, decide_eq_false he]; rfl
    have h4 : (decide (p1 < q1) = true ∧ lessP (p1, p2) (q1, q2) = true) ∨ (decide (p1 < q1) = false ∧ (p1 == q1) = false ∧ lessP (p1, p2) (q1, q2) = false) ∨ (decide (p1 < q1) = false ∧ (p1 == q1) = true ∧ decide (p2 < q2) = lessP (p1, p2) (q1, q2)) := by
      unfold lessP
      simp only
      cases h1 : decide (p1 < q1) with
      | true => exact .inl ⟨rfl, rfl⟩
      | false =>
        cases h2 : (p1 == q1) with
        | false => exact .inr (.inl ⟨rfl, rfl, rfl⟩)
        | true => exact .inr (.inr ⟨rfl, rfl, rfl⟩)
    obtain ⟨v, hv⟩ : ∃ v, v = lessP (p1, p2) (q1, q2) := ⟨_, rfl⟩
    rw [← hv] at h4 ⊢
    clear hv he
    rcases h4 with ⟨g1, rfl⟩ | ⟨g1, g2, rfl⟩ | ⟨g1, g2, g3⟩
    all_goals
      go_enter Try.func62, Try.ntmps62
      go_wp2_with fail
      refine wp_loop_rounds 1 ?_
      rw [rounds_succ]
      go_wp2_with fail
      refine wp_region_ext w.heap.size (by kernel_rfl) (by kernel_rfl) ?_
      repeat (first
        | ((with_reducible refine wpQuiet_run (N := 26) rfl rfl (.bool true) ?_ ?_); (rintro _ ⟨x, rfl⟩; exact execOp_neq rfl rfl rfl (by kernel_rfl) (R.out x.out)); go_simp)
        | go_big_quiet_step (fail))
      refine wpQuiet_nil ?_
      intro x
      have l1 : b < x.out.heap.size := Nat.lt_of_lt_of_le hb x.below.size
      have l1' : b' < x.out.heap.size := Nat.lt_of_lt_of_le hb' x.below.size
      have k1 := (x.below.cell (p := ⟨b, o, none⟩) hb).trans h1
      have k2 := (x.below.cell (p := ⟨b, o + 1, none⟩) hb).trans h2
      have k1' := (x.below.cell (p := ⟨b', o', none⟩) hb').trans h1'
      have k2' := (x.below.cell (p := ⟨b', o' + 1, none⟩) hb').trans h2'
      have HX := hid x.below
      obtain ⟨Y, hY⟩ : ∃ Y, Y = x.out := ⟨_, rfl⟩
      rw [← hY] at l1 l1' k1 k2 k1' k2' HX ⊢
      clear hY
      go_wp2_with fail
      refine wp_region_ext Y.heap.size (by kernel_rfl) (by kernel_rfl) ?_
      repeat (go_big_quiet_step (fail))
      refine wpQuiet_nil ?_
      intro y
      go_wp2_with fail
      go_ret
      exact ⟨rfl, HX.out.trans (y.below.mono HX.out.size)⟩
end Go.Proofs.Ytjcmdihadblodaa
