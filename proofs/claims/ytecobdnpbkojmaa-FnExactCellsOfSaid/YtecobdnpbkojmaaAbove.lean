/- AboveOf and BelowOf, the program's and the reference's. -/
import Derived.Test.YtecobdnpbkojmaaLap
namespace Go.Proofs.Ytecobdnpbkojmaa
open Go.RowKit
set_option linter.unusedSimpArgs false
set_option linter.unusedVariables false

/-- What AboveOf and BelowOf return. -/
def besL (r : Rf) (c t b : Int) : List (Int × Int) := if codeOf (validB r) (isPl r c t) = 0 then lapL r c t (c + b) else []
theorem besL_len (r : Rf) (c t b : Int) : (besL r c t b).length ≤ 64 := by
  unfold besL; split
  · have := lapL_len r c t (c + b); omega
  · simp
theorem codeOf_pl {r : Rf} {c t : Int} (h : codeOf (validB r) (isPl r c t) = 0) : validB r = true ∧ (0 ≤ c ∧ c ≤ 7) ∧ (0 ≤ t ∧ t ≤ 7) := by
  have := codeOf_zero h
  have h1 := valid_head this.1
  have h2 := isPl_iff.1 this.2
  exact ⟨this.1, by omega, by omega⟩
set_option maxRecDepth 100000 in
theorem c_l01First (r : Rf) (hr : r.Ok) (b : Nat) (c t : Int) (hc : 0 ≤ c ∧ c ≤ 7) (ht : 0 ≤ t ∧ t ≤ 7) (w : World) (hb : w.heap[b]? = some (.cells (rcells r) 27 (0,0))) :
    Calls Try.prog 47 #[.pointer (some ⟨b,0,none⟩), .agg #[.int .i8 c, .int .i8 t]] w fun e w' => e = .returned (.int .i64 (firstOf r c t)) ∧ Below w.heap.size w w' := by
  have hs := shiftOf_01 r c
  have lb := block_lt hb
  have lb' : b < w.heap.size + 1 := by omega
  have HP := hid (block_alloc hb (.cells #[.int .i8 c, .int .i8 t] 43))
  have HC := hid (fun W hW => c_l01By r hr b c ⟨hc.1, by omega⟩ W hW)
  have e : firstOf r c t = 2 * t + shiftOf r c := rfl
  rw [e]
  obtain ⟨s, hse⟩ : ∃ s, s = shiftOf r c := ⟨_, rfl⟩
  rw [← hse] at hs HC ⊢
  clear hse e hb
  obtain ⟨c1, c2⟩ := hc
  obtain ⟨t1, t2⟩ := ht
  have HB : Hid (w.heap.size + 1 ≤ (w.alloc (.cells #[.int .i8 c, .int .i8 t] 43)).heap.size) := by simp [Hid]
  have l1 : w.heap.size < w.heap.size + 1 := by omega
  have HX : Hid (∀ x : Ext (w.heap.size + 1) (w.alloc (.cells #[.int .i8 c, .int .i8 t] 43)), x.out.heap[b]? = some (.cells (rcells r) 27 (0,0))) := fun x => block_below x.below HP.out lb'
  have e1 : IntKind.i64.wrap c = c := IntWalk.i64_in _ (by omega)
  have e2 : IntKind.i64.wrap t = t := IntWalk.i64_in _ (by omega)
  have e3 : IntKind.i64.wrap (2 * t) = 2 * t := IntWalk.i64_in _ (by omega)
  have e4 : IntKind.i64.wrap (2 * t + s) = 2 * t + s := IntWalk.i64_in _ (by omega)
  go_enter Try.func47, Try.ntmps47
  go_wp2_with fail
  refine wp_region_ext (w.heap.size + 1) (by kernel_rfl) (by kernel_rfl) ?_
  repeat (go_big_quiet_step ((go_at_call 56; with_reducible exact Calls.ext_same (HC.out _ (HX.out _)))))
  refine wpQuiet_nil ?_
  intro x
  go_wp2_with fail
  go_ret
  exact ⟨rfl, ((Below.refl _ w).alloc (Nat.le_refl _) _).trans (x.below.mono (by omega))⟩
theorem lapK_small {r : Rf} (hv : validB r = true) {c t d : Int} {k : Nat} (hk : k < 2) : lapK r c t d k = [] ∨ ∃ u, lapK r c t d k = [(d, u)] ∧ 0 ≤ u ∧ u ≤ 7 := by
  have hl := lapK_len r c t d k
  have hm := lapK_mem hv (c := c) (t := t) (d := d) k
  have vh := valid_head hv
  cases hL : lapK r c t d k with
  | nil => exact .inl rfl
  | cons p l =>
    rw [hL] at hl hm
    have : l = [] := List.eq_nil_of_length_eq_zero (by simp at hl; omega)
    subst this
    have := hm p (List.mem_cons_self ..)
    obtain ⟨p1, p2⟩ := p
    dsimp only at this
    exact .inr ⟨p2, by rw [this.1], by omega, by omega⟩
end Go.Proofs.Ytecobdnpbkojmaa
