/- A kind replaced; SetTile, the program's and the reference's. -/
import Derived.Test.YtfijinbdpfeceaaKind
namespace Go.Proofs.Ytfijinbdpfeceaa
open Go.RowKit
set_option linter.unusedSimpArgs false
set_option linter.unusedVariables false

/-- A roof with another kind at one place. -/
def Rf.set (r : Rf) (i k : Nat) (v : Int) : Rf := { r with t := r.t.set (8 * i + k) v }
theorem Rf.set_ok {r : Rf} (h : r.Ok) (i k : Nat) {v : Int} (hv : 0 ≤ v ∧ v ≤ 255) : (r.set i k v).Ok :=
  ⟨h.w1, h.w2, h.h1, h.h2, h.s1, h.s2, by simp [Rf.set, h.len], fun n hn => by
    rcases List.mem_or_eq_of_mem_set hn with h1 | rfl
    · exact h.t1 n h1
    · exact hv⟩
theorem rset (r : Rf) (h : r.Ok) (i k : Nat) (v : Int) : (rcells r).setIfInBounds (3 + i * 8 + k) (.int .u8 v) = rcells (r.set i k v) := by
  apply Array.toList_inj.1
  have e : 3 + i * 8 + k = (8 * i + k) + 1 + 1 + 1 := by omega
  rw [e]
  simp [rcells, Rf.set, List.map_set]
set_option maxRecDepth 100000 in
theorem c_with (r : Rf) (hr : r.Ok) (c t v : Int) (hc : 0 ≤ c ∧ c ≤ 7) (ht : 0 ≤ t ∧ t ≤ 7) (hv : 0 ≤ v ∧ v ≤ 255) (w : World) : Calls Try.prog 61 #[.agg (rcells r), .agg #[.int .i8 c, .int .i8 t], .int .u8 v] w fun e w' => e = .returned (.agg (rcells (r.set c.toNat t.toNat v))) ∧ Below w.heap.size w w' := by
  obtain ⟨i, rfl⟩ := Int.eq_ofNat_of_zero_le hc.1
  obtain ⟨k, rfl⟩ := Int.eq_ofNat_of_zero_le ht.1
  rw [Int.toNat_natCast, Int.toNat_natCast]
  have i8 : i < 8 := by omega
  have k8 : k < 8 := by omega
  have i1 : (i : Int) < 8 := by omega
  have k1 : (k : Int) < 8 := by omega
  have i0 : (0 : Int) ≤ (i : Int) := by omega
  have k0 : (0 : Int) ≤ (k : Int) := by omega
  have hok := Rf.set_ok hr i k hv
  have hcell : (rcells r)[3 + i * 8 + k]? = some (.int .u8 (r.at i k)) := by
    have := rct r hr (8 * i + k) (by omega)
    have e : 3 + i * 8 + k = 3 + (8 * i + k) := by omega
    rw [e]; exact this
  obtain ⟨u, hu⟩ : ∃ u, u = r.at i k := ⟨_, rfl⟩
  rw [← hu] at hcell
  clear hu hc ht
  have HS := hid (rset r hr i k v)
  go_enter Try.func61, Try.ntmps61
  go_wp2_with fail
  refine wp_region_tail 8 (by kernel_rfl) (by kernel_rfl) ?_
  simp only [List.take_succ_cons, List.take_zero, List.drop_succ_cons, List.drop_zero]
  repeat still_step
  refine wpStill_nil ?_
  go_wp2_with (first
    | ((with_reducible refine gate (N := 15) rfl ?_); refine wp_roof 27 Try.underlying27 rfl Try.infoRoof rfl (.tmp 3) rfl w.heap.size rfl _ hok (T := 27) (fr := (0, 0)) (by rw [← HS.out]; exact block_alloc (block_alloc (block_new1 _ _ rfl) _) _) ?_)
    | ((with_reducible refine gateN rfl ?_); refine wp_store_roof rfl (.tmp 6) (.tmp 15) rfl (w.heap.size + 1 + 1) Rf.zero _ Rf.zero_ok hok (T := 27) (block_new1 _ _ (by simp)) rfl rfl ?_; intro w2 hw2 hg hsz; have HW := hid hw2; clear hw2))
  exact bodyPost_ret (results_cell_row rfl _ _ (w.heap.size + 1 + 1) _ _ _ _ rfl HW.out Try.underlying27 rfl (by rw [Try.infoRoof, size_rcells, hok.len])) rfl ⟨rfl, ((((Below.refl _ w).alloc (Nat.le_refl _) _).alloc (by simp) _).alloc (by simp; omega) _).drew.grown hg (by simp; omega) (fun k hk => by cases hk; omega)⟩
end Go.Proofs.Ytfijinbdpfeceaa
