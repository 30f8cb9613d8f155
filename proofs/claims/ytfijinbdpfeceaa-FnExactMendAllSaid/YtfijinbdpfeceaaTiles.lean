/- TilesOf and CountKind, the program's and the reference's. -/
import Derived.Test.YtfijinbdpfeceaaPlaces
import Derived.Test.YtfijinbdpfeceaaLawP
namespace Go.Proofs.Ytfijinbdpfeceaa
open Go.RowKit
set_option linter.unusedSimpArgs false
set_option linter.unusedVariables false

theorem owns_of_alloc {w w' : World} {o : Obj} {T : TypeId} {v : Value} {n : Nat} {xs : List Value} (h : w'.ownsRow (w.alloc o).heap.size T 2 v n xs) : w'.ownsRow w.heap.size T 2 v n xs := h.mono (by simp)
set_option maxRecDepth 100000 in
theorem c_ofKindClo (r : Rf) (hr : r.Ok) (n c t : Int) (hc : 0 ≤ c ∧ c ≤ 7) (ht : 0 ≤ t ∧ t ≤ 7) (b1 b2 : Nat) (w : World) (h1 : w.heap[b1]? = some (.cells (rcells r) 27 (0,0))) (h2 : w.heap[b2]? = some (.cells #[.int .u8 n] 5 (0,0))) :
    Calls Try.prog 75 #[.agg #[.int .i8 c, .int .i8 t], .pointer (some ⟨b1,0,none⟩), .pointer (some ⟨b2,0,none⟩)] w fun e w' => e = .returned (.bool (decide (r.at c.toNat t.toNat = n))) ∧ Below w.heap.size w w' := by
  have l1 := block_lt h1
  have l2 := block_lt h2
  have l1' : b1 < w.heap.size + 1 := by omega
  have l2' : b2 < w.heap.size + 1 := by omega
  have l0 : w.heap.size < w.heap.size + 1 := by omega
  have c2 : (w.alloc (.cells #[.int .i8 c, .int .i8 t] 42)).cell? ⟨b2, 0, none⟩ = some (.int .u8 n) := cell_block (block_alloc h2 _) rfl
  have HB : Hid (w.heap.size + 1 ≤ (w.alloc (.cells #[.int .i8 c, .int .i8 t] 42)).heap.size) := by simp [Hid]
  have L0 : ∀ x : Ext (w.heap.size + 1) (w.alloc (.cells #[.int .i8 c, .int .i8 t] 42)), (Instr.loadAt 27 (.pointer (some ⟨b1, 0, none⟩))).run Try.prog x.out = .ok (.agg (rcells r)) x.out := fun x =>
    run_load_roof 27 Try.underlying27 rfl Try.infoRoof hr (block_below x.h (block_alloc h1 _) (by omega))
  have R0 := hid L0; clear L0
  clear h1 h2
  go_enter Try.func75, Try.ntmps75
  go_wp2_with fail
  refine wp_region_ext (w.heap.size + 1) (by kernel_rfl) (by kernel_rfl) ?_
  repeat (first
    | ((with_reducible refine wpQuiet_run (N := 5) rfl rfl (.agg (rcells r)) ?_ ?_); (rintro _ ⟨x, rfl⟩; exact execOp_load rfl rfl (R0.out x)); go_simp)
    | go_big_quiet_step ((go_at_call 42; with_reducible exact Calls.ext HB.out (c_kind r hr c t hc ht _))))
  refine wpQuiet_nil ?_
  intro x
  go_wp2_with fail
  go_ret
  exact ⟨by simp; rfl, ((Below.refl _ w).alloc (Nat.le_refl _) _).trans (x.h.mono (by omega))⟩
set_option maxRecDepth 100000 in
theorem c_ofKind (r : Rf) (hr : r.Ok) (hv : validB r = true) (n : Int) (w : World) :
    Calls Try.prog 55 #[.agg (rcells r), .int .u8 n] w fun e w' => ∃ v, e = .returned v ∧ Below w.heap.size w w' ∧ w'.ownsRow w.heap.size 42 2 v (tilesL r n (allUp r.w.toNat r.h.toNat 0)).length (pcells (tilesL r n (allUp r.w.toNat r.h.toNat 0))) := by
  have vh := valid_head hv
  have HV := hid hv; clear hv
  have HR := hid (block_alloc (block_new1 w (.cells (rcells r) 27) rfl) (.cells #[.int .u8 n] 5))
  have HN := hid (block_new1 (w.alloc (.cells (rcells r) 27)) (.cells #[.int .u8 n] 5) rfl)
  have HT : Hid (Tells 75 #[] #[.pointer (some ⟨w.heap.size,0,none⟩), .pointer (some ⟨w.heap.size + 1,0,none⟩)] (fun c t => decide (r.at c.toNat t.toNat = n)) r ((w.alloc (.cells (rcells r) 27)).alloc (.cells #[.int .u8 n] 5))) := by
    intro W c t hc ht hb
    refine c_ofKindClo r hr n c t (by omega) (by omega) _ _ W (block_below hb HR.out (by simp; omega)) (block_below hb ?_ (by simp))
    have := HN.out; simpa using this
  have HC := hid (c_places 75 #[] _ (enters_of Try.func75 (by kernel_rfl) rfl) _ r hr HV.out _ HT.out)
  clear vh
  go_enter Try.func55, Try.ntmps55
  go_wp2_with (first
    | ((with_reducible refine gate (N := 5) rfl ?_); refine wp_roof 27 Try.underlying27 rfl Try.infoRoof rfl (.tmp 2) rfl w.heap.size rfl r hr HR.out ?_)
    | (go_at_call 40; ((with_reducible refine HC.out.mono ?_); rintro e w1 ⟨v, rfl, hb1, ho1⟩)))
  go_ret
  exact ⟨v, rfl, (((Below.refl _ w).alloc (Nat.le_refl _) _).alloc (by simp) _).trans (hb1.mono (by simp; omega)), ho1.mono (by simp; omega)⟩
/-- What TilesOf returns. -/
def tilesOfV (r : Rf) (n : Int) : List (Int × Int) := if codeOf (validB r) (inB n 0 3) = 0 then tilesL r n (allUp r.w.toNat r.h.toNat 0) else []
theorem tilesOfV_yes {r : Rf} {n : Int} (h : codeOf (validB r) (inB n 0 3) = 0) : tilesOfV r n = tilesL r n (allUp r.w.toNat r.h.toNat 0) := if_pos h
theorem tilesOfV_no {r : Rf} {n : Int} (h : codeOf (validB r) (inB n 0 3) ≠ 0) : tilesOfV r n = [] := if_neg h
theorem tilesOfV_len (r : Rf) (n : Int) : (tilesOfV r n).length ≤ 64 := by
  unfold tilesOfV
  split
  · rename_i h
    have hv : validB r = true := by
      rcases codeOf_cases (validB r) (inB n 0 3) with ⟨_, h1⟩ | ⟨_, _, h1⟩ | ⟨h1, _, _⟩
      · rw [h1] at h; cases h
      · rw [h1] at h; cases h
      · exact h1
    have := valid_head hv
    refine Nat.le_trans (List.length_filter_le _ _) ?_
    rw [allUp_len]
    have := Nat.mul_le_mul (by omega : r.h.toNat ≤ 8) (by omega : r.w.toNat ≤ 8)
    omega
  · simp
end Go.Proofs.Ytfijinbdpfeceaa
