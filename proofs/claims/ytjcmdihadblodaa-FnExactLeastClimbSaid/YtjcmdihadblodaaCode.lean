/- Codes of roofs; places, courses, shifts: the program's and the reference's small functions. -/
import Derived.Test.YtjcmdihadblodaaVal
namespace Go.Proofs.Ytjcmdihadblodaa
open Go.RowKit
set_option linter.unusedSimpArgs false
set_option linter.unusedVariables false

/-- The code of a roof and of what has to be so. -/
def codeOf (v g : Bool) : Int := if v = true then (if g = true then 0 else 2) else 1
theorem codeOf_cases (v g : Bool) : (v = false ∧ codeOf v g = 1) ∨ (v = true ∧ g = false ∧ codeOf v g = 2) ∨ (v = true ∧ g = true ∧ codeOf v g = 0) := by cases v <;> cases g <;> simp [codeOf]
theorem codeOf_012 (v g : Bool) : codeOf v g = 1 ∨ codeOf v g = 2 ∨ codeOf v g = 0 := by cases v <;> cases g <;> simp [codeOf]
theorem codeOf_zero {v g : Bool} (h : codeOf v g = 0) : v = true ∧ g = true := by cases v <;> cases g <;> simp [codeOf] at h <;> simp
theorem valid_head {r : Rf} (h : validB r = true) : 1 ≤ r.w ∧ r.w ≤ 8 ∧ 1 ≤ r.h ∧ r.h ≤ 8 ∧ r.s ≤ 1 := by
  simp only [validB, headOk, Bool.and_eq_true, inB_iff, decide_eq_true_eq] at h
  omega
theorem valid_tile {r : Rf} (h : validB r = true) {i k : Nat} (hi : i < 8) (hk : k < 8) : r.at i k ≤ 3 ∧ (r.at i k = 0 ∨ ((i : Int) < r.h ∧ (k : Int) < r.w)) := by
  have : tileOk r i k = true := by
    cases ht : tileOk r i k with
    | true => rfl
    | false => rw [validB_tile hi hk ht] at h; cases h
  simpa [tileOk] using this

set_option maxRecDepth 100000 in
theorem c_roofCode (r : Rf) (hr : r.Ok) (g : Bool) (w : World) : Calls Try.prog 70 #[.agg (rcells r), .bool g] w fun e w' => e = .returned (.int .i64 (codeOf (validB r) g)) ∧ Below w.heap.size w w' := by
  have key : ∀ v, validB r = v → Calls Try.prog 70 #[.agg (rcells r), .bool g] w fun e w' => e = .returned (.int .i64 (codeOf v g)) ∧ Below w.heap.size w w' := by
    intro v hv
    have HV := hid hv; clear hv
    cases v <;> cases g
    all_goals
      go_enter Try.func70, Try.ntmps70
      go_wp2_with (first
        | ((with_reducible refine gate (N := 6) rfl ?_); refine wp_roof 38 Try.underlying38 rfl Try.infoRoof rfl (.tmp 2) rfl w.heap.size rfl r hr (block_new1 w _ rfl) ?_)
        | (go_at_call 88; ((with_reducible refine (c_ValidRoof r hr _).mono ?_); rintro e w1 ⟨rfl, hb1⟩); rw [HV.out]))
      go_ret
      exact ⟨rfl, ((Below.refl _ w).alloc (Nat.le_refl _) _).trans (hb1.mono (by simp))⟩
  exact key _ rfl
theorem c_l01Told (r : Rf) (hr : r.Ok) (b : Nat) (g : Bool) (w : World) (hb : w.heap[b]? = some (.cells (rcells r) 38 (0,0))) : Calls Try.prog 53 #[.pointer (some ⟨b,0,none⟩), .bool g] w fun e w' => e = .returned (.int .i64 (codeOf (validB r) g)) ∧ Below w.heap.size w w' := by
  have HB := hid hb; clear hb
  have key : ∀ v, validB r = v → Calls Try.prog 53 #[.pointer (some ⟨b,0,none⟩), .bool g] w fun e w' => e = .returned (.int .i64 (codeOf v g)) ∧ Below w.heap.size w w' := by
    intro v hv
    have HV := hid hv; clear hv
    cases v <;> cases g
    all_goals
      go_enter Try.func53, Try.ntmps53
      go_wp2_with (go_at_call 69; ((with_reducible refine (c_l01Ok r hr b _ HB.out).mono ?_); rintro e w1 ⟨rfl, hb1⟩); rw [HV.out])
      go_ret
      exact ⟨rfl, hb1⟩
  exact key _ rfl
/-- 1 for a course that is shifted, 0 otherwise. -/
def shiftOf (r : Rf) (n : Int) : Int := (n + r.s) % 2
theorem shiftOf_01 (r : Rf) (n : Int) : 0 ≤ shiftOf r n ∧ shiftOf r n ≤ 1 := by unfold shiftOf; omega
/-- Whether a roof has a place, in int8. -/
def hasB (r : Rf) (c t : Int) : Bool := inB c 0 (IntKind.i8.wrap (r.h - 1)) && inB t 0 (IntKind.i8.wrap (r.w - 1))
theorem hasB_valid {r : Rf} (h : validB r = true) (c t : Int) : hasB r c t = isPl r c t := by
  have := valid_head h
  have e1 : IntKind.i8.wrap (r.h - 1) = r.h - 1 := by simp [IntKind.wrap, IntKind.bits, IntKind.signed]; omega
  have e2 : IntKind.i8.wrap (r.w - 1) = r.w - 1 := by simp [IntKind.wrap, IntKind.bits, IntKind.signed]; omega
  unfold hasB isPl; rw [e1, e2]
theorem codeOf_has (r : Rf) (c t : Int) (g : Bool) : codeOf (validB r) (hasB r c t && g) = codeOf (validB r) (isPl r c t && g) := by
  cases hv : validB r with
  | false => rfl
  | true => rw [hasB_valid hv]
set_option maxRecDepth 100000 in
theorem c_has (r : Rf) (hr : r.Ok) (c t : Int) (hc : -128 ≤ c ∧ c ≤ 127) (ht : -128 ≤ t ∧ t ≤ 127) (w : World) : Calls Try.prog 58 #[.agg (rcells r), .agg #[.int .i8 c, .int .i8 t]] w fun e w' => e = .returned (.bool (hasB r c t)) ∧ Below w.heap.size w w' := by
  have key : ∀ h1 h2 g1 g2, IntKind.i8.wrap (r.h - 1) = h1 → IntKind.i8.wrap (r.w - 1) = h2 → inB c 0 h1 = g1 → inB t 0 h2 = g2 → Calls Try.prog 58 #[.agg (rcells r), .agg #[.int .i8 c, .int .i8 t]] w fun e w' => e = .returned (.bool (g1 && g2)) ∧ Below w.heap.size w w' := by
    intro h1 h2 g1 g2 e1 e2 hg1 hg2
    have G1 := hid hg1; clear hg1
    have G2 := hid hg2; clear hg2
    cases g1
    all_goals
      go_enter Try.func58, Try.ntmps58
      go_wp2_with (go_at_call 75; first | ((with_reducible refine (c_within8 _ _ _ _ _ G1.out).mono ?_); rintro e w1 ⟨rfl, rfl⟩) | ((with_reducible refine (c_within8 _ _ _ _ _ G2.out).mono ?_); rintro e w1 ⟨rfl, rfl⟩))
      go_ret
      exact ⟨by simp, ((Below.refl _ w).alloc (Nat.le_refl _) _).alloc (by simp) _⟩
  exact key _ _ _ _ rfl rfl rfl rfl
theorem c_roofCodeK (r : Rf) (hr : r.Ok) (g : Bool) (k : Int) (hk : codeOf (validB r) g = k) (w : World) : Calls Try.prog 70 #[.agg (rcells r), .bool g] w fun e w' => e = .returned (.int .i64 k) ∧ Below w.heap.size w w' := hk ▸ c_roofCode r hr g w
theorem c_l01ToldK (r : Rf) (hr : r.Ok) (b : Nat) (g : Bool) (k : Int) (hk : codeOf (validB r) g = k) (w : World) (hb : w.heap[b]? = some (.cells (rcells r) 38 (0,0))) : Calls Try.prog 53 #[.pointer (some ⟨b,0,none⟩), .bool g] w fun e w' => e = .returned (.int .i64 k) ∧ Below w.heap.size w w' := hk ▸ c_l01Told r hr b g w hb
theorem Calls.ext_hid {B : Nat} {W : World} (h : B ≤ W.heap.size) : Hid (B ≤ W.heap.size) := h
end Go.Proofs.Ytjcmdihadblodaa
