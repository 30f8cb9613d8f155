/- Codes of roofs; places, courses, shifts: the program's and the reference's small functions. -/
import Derived.Test.YtecobdnpbkojmaaVal
namespace Go.Proofs.Ytecobdnpbkojmaa
open Go.RowKit
set_option linter.unusedSimpArgs false
set_option linter.unusedVariables false

/-- The code of a roof and of what has to be so. -/
def codeOf (v g : Bool) : Int := if v = true then (if g = true then 0 else 2) else 1
theorem codeOf_cases (v g : Bool) : (v = false ∧ codeOf v g = 1) ∨ (v = true ∧ g = false ∧ codeOf v g = 2) ∨ (v = true ∧ g = true ∧ codeOf v g = 0) := by cases v <;> cases g <;> simp [codeOf]
theorem codeOf_012 (v g : Bool) : codeOf v g = 1 ∨ codeOf v g = 2 ∨ codeOf v g = 0 := by cases v <;> cases g <;> simp [codeOf]
theorem codeOf_zero {v g : Bool} (h : codeOf v g = 0) : v = true ∧ g = true := by cases v <;> cases g <;> simp [codeOf] at h <;> simp
theorem valid_head {r : Rf} (h : validB r = true) : 1 ≤ r.w ∧ r.w ≤ 8 ∧ 1 ≤ r.h ∧ r.h ≤ 8 ∧ r.s ≤ 1 := by
  simp only [validB, headOk, Bool.and_eq_true, inB_iff, decide_eq_true_eq] at h
  omega
theorem valid_tile {r : Rf} (h : validB r = true) {i k : Nat} (hi : i < 8) (hk : k < 8) : r.at i k ≤ 3 ∧ (r.at i k = 0 ∨ ((i : Int) < r.h ∧ (k : Int) < r.w)) := by
  have : tileOk r i k = true := by
    cases ht : tileOk r i k with
    | true => rfl
    | false => rw [validB_tile hi hk ht] at h; cases h
  simpa [tileOk] using this

set_option maxRecDepth 100000 in
theorem c_roofCode (r : Rf) (hr : r.Ok) (g : Bool) (w : World) : Calls Try.prog 40 #[.agg (rcells r), .bool g] w fun e w' => e = .returned (.int .i64 (codeOf (validB r) g)) ∧ Below w.heap.size w w' := by
  have key : ∀ v, validB r = v → Calls Try.prog 40 #[.agg (rcells r), .bool g] w fun e w' => e = .returned (.int .i64 (codeOf v g)) ∧ Below w.heap.size w w' := by
    intro v hv
    have HV := hid hv; clear hv
    cases v <;> cases g
    all_goals
      go_enter Try.func40, Try.ntmps40
      go_wp2_with (first
        | ((with_reducible refine gate (N := 6) rfl ?_); refine wp_roof 27 Try.underlying27 rfl Try.infoRoof rfl (.tmp 2) rfl w.heap.size rfl r hr (block_new1 w _ rfl) ?_)
        | (go_at_call 33; ((with_reducible refine (c_ValidRoof r hr _).mono ?_); rintro e w1 ⟨rfl, hb1⟩); rw [HV.out]))
      go_ret
      exact ⟨rfl, ((Below.refl _ w).alloc (Nat.le_refl _) _).trans (hb1.mono (by simp))⟩
  exact key _ rfl
theorem c_l01Told (r : Rf) (hr : r.Ok) (b : Nat) (g : Bool) (w : World) (hb : w.heap[b]? = some (.cells (rcells r) 27 (0,0))) : Calls Try.prog 37 #[.pointer (some ⟨b,0,none⟩), .bool g] w fun e w' => e = .returned (.int .i64 (codeOf (validB r) g)) ∧ Below w.heap.size w w' := by
  have HB := hid hb; clear hb
  have key : ∀ v, validB r = v → Calls Try.prog 37 #[.pointer (some ⟨b,0,none⟩), .bool g] w fun e w' => e = .returned (.int .i64 (codeOf v g)) ∧ Below w.heap.size w w' := by
    intro v hv
    have HV := hid hv; clear hv
    cases v <;> cases g
    all_goals
      go_enter Try.func37, Try.ntmps37
      go_wp2_with (go_at_call 31; ((with_reducible refine (c_l01Ok r hr b _ HB.out).mono ?_); rintro e w1 ⟨rfl, hb1⟩); rw [HV.out])
      go_ret
      exact ⟨rfl, hb1⟩
  exact key _ rfl
set_option maxRecDepth 100000 in
theorem c_l01Asked (r : Rf) (hr : r.Ok) (b : Nat) (c t : Int) (hc : -128 ≤ c ∧ c ≤ 127) (ht : -128 ≤ t ∧ t ≤ 127) (g : Bool) (w : World) (hb : w.heap[b]? = some (.cells (rcells r) 27 (0,0))) :
    Calls Try.prog 46 #[.pointer (some ⟨b,0,none⟩), .agg #[.int .i8 c, .int .i8 t], .bool g] w fun e w' => e = .returned (.int .i64 (codeOf (validB r) (isPl r c t && g))) ∧ Below w.heap.size w w' := by
  have hlt := block_lt hb
  have HB := hid (block_alloc hb (.cells #[.int .i8 c, .int .i8 t] 43)); clear hb
  have key : ∀ v p, validB r = v → isPl r c t = p → Calls Try.prog 46 #[.pointer (some ⟨b,0,none⟩), .agg #[.int .i8 c, .int .i8 t], .bool g] w fun e w' => e = .returned (.int .i64 (codeOf v (p && g))) ∧ Below w.heap.size w w' := by
    intro v p hv hp
    have HV := hid hv; clear hv
    have HP := hid hp; clear hp
    cases v
    · go_enter Try.func46, Try.ntmps46
      go_wp2_with (go_at_call 31; ((with_reducible refine (c_l01Ok r hr b _ HB.out).mono ?_); rintro e w1 ⟨rfl, hb1⟩); rw [HV.out])
      go_ret
      exact ⟨rfl, ((Below.refl _ w).alloc (Nat.le_refl _) _).trans (hb1.mono (by simp))⟩
    · cases p <;> cases g
      all_goals
        go_enter Try.func46, Try.ntmps46
        go_wp2_with (first
          | (go_at_call 31; ((with_reducible refine (c_l01Ok r hr b _ HB.out).mono ?_); rintro e w1 ⟨rfl, hb1⟩); rw [HV.out]; have k0 : w1.cell? ⟨w.heap.size, 0, none⟩ = some (.int .i8 c) := cell_block (block_below hb1 (block_new1 w _ rfl) (by simp)) rfl; have k1 : w1.cell? ⟨w.heap.size, 1, none⟩ = some (.int .i8 t) := cell_block (block_below hb1 (block_new1 w _ rfl) (by simp)) rfl)
          | (go_at_call 44; ((with_reducible refine (c_l01Is c t hc ht r hr b _ (block_below hb1 HB.out (by simp; omega)) _ HP.out).mono ?_); rintro e w2 ⟨rfl, hb2⟩)))
        go_ret
        have b1 := ((Below.refl _ w).alloc (Nat.le_refl _) (.cells #[.int .i8 c, .int .i8 t] 43)).trans (hb1.mono (by simp))
        exact ⟨rfl, b1.trans (hb2.mono b1.size)⟩
  exact key _ _ rfl rfl
/-- 1 for a course that is shifted, 0 otherwise. -/
def shiftOf (r : Rf) (n : Int) : Int := (n + r.s) % 2
theorem shiftOf_01 (r : Rf) (n : Int) : 0 ≤ shiftOf r n ∧ shiftOf r n ≤ 1 := by unfold shiftOf; omega
theorem c_shift (r : Rf) (hr : r.Ok) (n : Int) (hn : 0 ≤ n ∧ n ≤ 1000000) (w : World) : Calls Try.prog 59 #[.agg (rcells r), .int .i64 n] w fun e w' => e = .returned (.int .i64 (shiftOf r n)) ∧ Below w.heap.size w w' := by
  have h7 := hr.s1; have h8 := hr.s2
  obtain ⟨n1, n2⟩ := hn
  go_enter Try.func59, Try.ntmps59
  go_wp2_with fail
  go_ret
  exact ⟨rfl, (Below.refl _ w).alloc (Nat.le_refl _) _⟩
theorem c_l01By (r : Rf) (hr : r.Ok) (b : Nat) (n : Int) (hn : 0 ≤ n ∧ n ≤ 1000000) (w : World) (hb : w.heap[b]? = some (.cells (rcells r) 27 (0,0))) : Calls Try.prog 56 #[.pointer (some ⟨b,0,none⟩), .int .i64 n] w fun e w' => e = .returned (.int .i64 (shiftOf r n)) ∧ w = w' := by
  have h7 := hr.s1; have h8 := hr.s2
  have c1 := cell_block hb (rc2 r)
  clear hb
  obtain ⟨n1, n2⟩ := hn
  go_enter Try.func56, Try.ntmps56
  go_wp2_with fail
  go_ret
  exact ⟨rfl, rfl⟩
/-- Whether a roof has a place, in int8. -/
def hasB (r : Rf) (c t : Int) : Bool := inB c 0 (IntKind.i8.wrap (r.h - 1)) && inB t 0 (IntKind.i8.wrap (r.w - 1))
theorem hasB_valid {r : Rf} (h : validB r = true) (c t : Int) : hasB r c t = isPl r c t := by
  have := valid_head h
  have e1 : IntKind.i8.wrap (r.h - 1) = r.h - 1 := by simp [IntKind.wrap, IntKind.bits, IntKind.signed]; omega
  have e2 : IntKind.i8.wrap (r.w - 1) = r.w - 1 := by simp [IntKind.wrap, IntKind.bits, IntKind.signed]; omega
  unfold hasB isPl; rw [e1, e2]
theorem codeOf_has (r : Rf) (c t : Int) (g : Bool) : codeOf (validB r) (hasB r c t && g) = codeOf (validB r) (isPl r c t && g) := by
  cases hv : validB r with
  | false => rfl
  | true => rw [hasB_valid hv]
set_option maxRecDepth 100000 in
theorem c_has (r : Rf) (hr : r.Ok) (c t : Int) (hc : -128 ≤ c ∧ c ≤ 127) (ht : -128 ≤ t ∧ t ≤ 127) (w : World) : Calls Try.prog 48 #[.agg (rcells r), .agg #[.int .i8 c, .int .i8 t]] w fun e w' => e = .returned (.bool (hasB r c t)) ∧ Below w.heap.size w w' := by
  have key : ∀ h1 h2 g1 g2, IntKind.i8.wrap (r.h - 1) = h1 → IntKind.i8.wrap (r.w - 1) = h2 → inB c 0 h1 = g1 → inB t 0 h2 = g2 → Calls Try.prog 48 #[.agg (rcells r), .agg #[.int .i8 c, .int .i8 t]] w fun e w' => e = .returned (.bool (g1 && g2)) ∧ Below w.heap.size w w' := by
    intro h1 h2 g1 g2 e1 e2 hg1 hg2
    have G1 := hid hg1; clear hg1
    have G2 := hid hg2; clear hg2
    cases g1
    all_goals
      go_enter Try.func48, Try.ntmps48
      go_wp2_with (go_at_call 54; first | ((with_reducible refine (c_within8 _ _ _ _ _ G1.out).mono ?_); rintro e w1 ⟨rfl, rfl⟩) | ((with_reducible refine (c_within8 _ _ _ _ _ G2.out).mono ?_); rintro e w1 ⟨rfl, rfl⟩))
      go_ret
      exact ⟨by simp, ((Below.refl _ w).alloc (Nat.le_refl _) _).alloc (by simp) _⟩
  exact key _ _ _ _ rfl rfl rfl rfl
theorem c_roofCodeK (r : Rf) (hr : r.Ok) (g : Bool) (k : Int) (hk : codeOf (validB r) g = k) (w : World) : Calls Try.prog 40 #[.agg (rcells r), .bool g] w fun e w' => e = .returned (.int .i64 k) ∧ Below w.heap.size w w' := hk ▸ c_roofCode r hr g w
theorem c_l01ToldK (r : Rf) (hr : r.Ok) (b : Nat) (g : Bool) (k : Int) (hk : codeOf (validB r) g = k) (w : World) (hb : w.heap[b]? = some (.cells (rcells r) 27 (0,0))) : Calls Try.prog 37 #[.pointer (some ⟨b,0,none⟩), .bool g] w fun e w' => e = .returned (.int .i64 k) ∧ Below w.heap.size w w' := hk ▸ c_l01Told r hr b g w hb
theorem c_l01AskedK (r : Rf) (hr : r.Ok) (b : Nat) (c t : Int) (hc : -128 ≤ c ∧ c ≤ 127) (ht : -128 ≤ t ∧ t ≤ 127) (g : Bool) (k : Int) (hk : codeOf (validB r) (isPl r c t && g) = k) (w : World) (hb : w.heap[b]? = some (.cells (rcells r) 27 (0,0))) :
    Calls Try.prog 46 #[.pointer (some ⟨b,0,none⟩), .agg #[.int .i8 c, .int .i8 t], .bool g] w fun e w' => e = .returned (.int .i64 k) ∧ Below w.heap.size w w' := hk ▸ c_l01Asked r hr b c t hc ht g w hb
theorem Calls.ext_hid {B : Nat} {W : World} (h : B ≤ W.heap.size) : Hid (B ≤ W.heap.size) := h
end Go.Proofs.Ytecobdnpbkojmaa
