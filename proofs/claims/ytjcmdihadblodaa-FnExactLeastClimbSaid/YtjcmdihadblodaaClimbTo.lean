/- ClimbTo, the program's and the reference's. -/
import Derived.Test.YtjcmdihadblodaaKindAt
import Derived.Test.YtjcmdihadblodaaList
namespace Go.Proofs.Ytjcmdihadblodaa
open Go.RowKit
set_option linter.unusedSimpArgs false
set_option linter.unusedVariables false

set_option maxRecDepth 100000 in
theorem c_climb (r : Rf) (hr : r.Ok) (c t : Int) (hc : 0 ≤ c ∧ c ≤ 7) (hh : 1 ≤ r.h ∧ r.h ≤ 8) (w : World) : Calls Try.prog 37 #[.agg (rcells r), .agg #[.int .i8 c, .int .i8 t]] w fun e w' => e = .returned (.int .i64 (r.h - c)) ∧ Below w.heap.size w w' := by
  obtain ⟨c1, c2⟩ := hc
  obtain ⟨h1, h2⟩ := hh
  go_enter Try.func37, Try.ntmps37
  go_wp2_with fail
  go_ret
  exact ⟨rfl, ((Below.refl _ w).alloc (Nat.le_refl _) _).alloc (by simp) _⟩
set_option maxRecDepth 100000 in
theorem c_l04Climb (r : Rf) (hr : r.Ok) (b : Nat) (c t : Int) (hc : 0 ≤ c ∧ c ≤ 7) (hh : 1 ≤ r.h ∧ r.h ≤ 8) (w : World) (hb : w.heap[b]? = some (.cells (rcells r) 38 (0,0))) : Calls Try.prog 54 #[.pointer (some ⟨b,0,none⟩), .agg #[.int .i8 c, .int .i8 t]] w fun e w' => e = .returned (.int .i64 (r.h - c)) ∧ Below w.heap.size w w' := by
  have c1 := cell_block hb (rc1 r)
  have hlt := block_lt hb
  have hlt' : b < w.heap.size + 1 := by omega
  clear hb
  have l0 : w.heap.size < w.heap.size + 1 := by omega
  obtain ⟨q1, q2⟩ := hc
  obtain ⟨h1, h2⟩ := hh
  go_enter Try.func54, Try.ntmps54
  go_wp2_with fail
  refine wp_region_ext (w.heap.size + 1) (by kernel_rfl) (by kernel_rfl) ?_
  repeat (go_big_quiet_step (fail))
  refine wpQuiet_nil ?_
  intro x
  go_wp2_with fail
  go_ret
  exact ⟨rfl, ((Below.refl _ w).alloc (Nat.le_refl _) _).trans (x.h.mono (by omega))⟩
/-- What ClimbTo returns. -/
def climbV (r : Rf) (c t : Int) : Int := if codeOf (validB r) (isPl r c t) = 0 then r.h - c else 0
theorem codeL_one (v g : Bool) : codeL v g 1 = codeOf v g := by simp [codeL]
theorem allPl_one (r : Rf) (c t : Int) : allPl r [(c, t)] = isPl r c t := by simp [allPl]
theorem SlP_one {w : World} {b : Nat} {c t : Int} {T : TypeId} (h : w.heap[b]? = some (.cells #[.int .i8 c, .int .i8 t] T (0,0))) : SlP w (some ⟨b, 0, none⟩) [(c, t)] := fun j p hj => by
  cases j with
  | zero =>
    simp at hj; subst hj
    exact ⟨b, 0, rfl, block_lt h, cell_block h rfl, cell_block h rfl⟩
  | succ j => simp at hj
theorem c_asked1 (r : Rf) (hr : r.Ok) (b : Nat) (Ac : Option Addr) (cc : Nat) (bb : Nat) (n : Nat) (c t : Int) (hc : -128 ≤ c ∧ c ≤ 127) (ht : -128 ≤ t ∧ t ≤ 127) (k : Int) (hk : codeOf (validB r) (isPl r c t) = k) (w : World) (hb : w.heap[b]? = some (.cells (rcells r) 38 (0,0)))
    {T : TypeId} (h : w.heap[bb]? = some (.cells #[.int .i8 c, .int .i8 t] T (0,0))) :
    Calls Try.prog 29 #[.pointer (some ⟨b,0,none⟩), .slice Ac 0 cc, .slice (some ⟨bb, 0, none⟩) 1 n, .bool true] w fun e w' => e = .returned (.int .i64 k) ∧ Below w.heap.size w w' := by
  have := c_l04Asked r hr b Ac cc (some ⟨bb, 0, none⟩) n [(c, t)] (fun p hp => by simp at hp; subst hp; exact ⟨hc, ht⟩) (by simp) true w hb (SlP_one h)
  rw [Bool.true_and, allPl_one] at this
  have e : codeL (validB r) (isPl r c t) [(c, t)].length = k := (codeL_one _ _).trans hk
  rw [e] at this
  exact this
end Go.Proofs.Ytjcmdihadblodaa
