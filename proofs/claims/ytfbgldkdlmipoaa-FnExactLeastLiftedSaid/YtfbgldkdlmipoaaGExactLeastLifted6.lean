/- Texts of the claim FnExactLeastLifted, part 6 of 7. -/
import Derived.Test.YtfbgldkdlmipoaaGExactLeastLifted5
/- IsUpward, the program's and the reference's. -/
namespace Go.Proofs.Ytfbgldkdlmipoaa
open Go.RowKit
set_option linter.unusedSimpArgs false
set_option linter.unusedVariables false

theorem hasP_b {r : Rf} (hv : validB r = true) {p : Int × Int} (h : hasP r p = true) : (0 ≤ p.1 ∧ p.1 ≤ 7) ∧ (0 ≤ p.2 ∧ p.2 ≤ 7) := by
  have h1 := hasP_pl hv h
  have vh := valid_head hv
  omega
set_option maxHeartbeats 1600000 in
set_option maxRecDepth 100000 in
theorem c_lapsOver (r : Rf) (hr : r.Ok) (hv : validB r = true) (a1 a2 b1 b2 : Int) (ha : hasP r (a1, a2) = true) (hb : hasP r (b1, b2) = true) (w : World) :
    Calls Try.prog 31 #[.agg (rcells r), .agg #[.int .i8 a1, .int .i8 a2], .agg #[.int .i8 b1, .int .i8 b2]] w fun e w' => e = .returned (.bool (overB r (a1, a2) (b1, b2))) ∧ Below w.heap.size w w' := by
  obtain ⟨L, hL⟩ : ∃ L, L = lapL r a1 a2 (a1 + 1) := ⟨_, rfl⟩
  have HO : Hid (decide ((b1, b2) ∈ L) = overB r (a1, a2) (b1, b2)) := by rw [hL]; exact over_lap hv ha hb
  have hab := hasP_b hv ha
  dsimp only at hab
  have HL2 : Hid (L.length ≤ 2) := by rw [hL]; exact lapL_len r a1 a2 (a1 + 1)
  have HLAP := fun W => hid (c_lapped r hr hv a1 a2 (a1 + 1) hab.1 hab.2 (by omega) W)
  rw [← hL] at HLAP
  have HLX := hid HLAP
  have HX := hid (block_alloc (block_alloc (block_new1 w (.cells (rcells r) 31) rfl) (.cells #[.int .i8 a1, .int .i8 a2] 50)) (.cells #[.int .i8 b1, .int .i8 b2] 50))
  have HA := hid (block_alloc (block_new1 (w.alloc (.cells (rcells r) 31)) (.cells #[.int .i8 a1, .int .i8 a2] 50) (n := w.heap.size + 1) (by simp)) (.cells #[.int .i8 b1, .int .i8 b2] 50))
  have HBb := hid (block_new1 ((w.alloc (.cells (rcells r) 31)).alloc (.cells #[.int .i8 a1, .int .i8 a2] 50)) (.cells #[.int .i8 b1, .int .i8 b2] 50) (n := w.heap.size + 1 + 1) (by simp))
  obtain ⟨W0, hW0⟩ : ∃ W0, W0 = ((w.alloc (.cells (rcells r) 31)).alloc (.cells #[.int .i8 a1, .int .i8 a2] 50)).alloc (.cells #[.int .i8 b1, .int .i8 b2] 50) := ⟨_, rfl⟩
  have HW : Hid (Below w.heap.size w W0) := by rw [hW0]; exact (((Below.refl _ w).alloc (Nat.le_refl _) _).alloc (by simp) _).alloc (by simp; omega) _
  have HS : Hid (w.heap.size + 3 ≤ W0.heap.size) := by rw [hW0]; simp [Hid]
  rw [← hW0] at HX HA HBb
  have e0 : IntKind.i64.wrap a1 = a1 := IntWalk.i64_in _ (by omega)
  have e1 : IntKind.i64.wrap (a1 + 1) = a1 + 1 := IntWalk.i64_in _ (by omega)
  clear hL ha hb hv hab HLAP
  go_enter Try.func31, Try.ntmps31
  go_wp2_with fail
  rw [← hW0]
  clear hW0
  refine wp_region_wildH (w.heap.size + 3) 6 1 ?s1 _ 62 #[.agg (rcells r), .agg #[.int .i8 a1, .int .i8 a2], .int .i64 (a1 + 1)] (fun v w' => ∃ (V : World) (Av : Option Addr) (cv : Nat), v = .slice Av L.length cv ∧ RowQ V.heap.size w' (.slice Av L.length cv) L) (by kernel_rfl) (by kernel_rfl) (by kernel_rfl) (by kernel_rfl) rfl HS.out ?pre1 ?ent1 ?call1 ?post1
  case pre1 =>
    intro B' W' hb hB hS
    have l0 : w.heap.size < B' := by omega
    have l1 : w.heap.size + 1 < B' := by omega
    have l2 : w.heap.size + 1 + 1 < B' := by omega
    have HXb := hid (block_below hb HX.out (by omega))
    have HAb := hid (block_below hb HA.out (by omega))
    have HBb' := hid (block_below hb HBb.out (by omega))
    have q0 : W'.cell? ⟨w.heap.size + 1, 0, none⟩ = some (.int .i8 a1) := cell_block HAb.out rfl
    have q1 : W'.cell? ⟨w.heap.size + 1, 1, none⟩ = some (.int .i8 a2) := cell_block HAb.out rfl
    have q2 : W'.cell? ⟨w.heap.size + 1 + 1, 0, none⟩ = some (.int .i8 b1) := cell_block HBb'.out rfl
    have q3 : W'.cell? ⟨w.heap.size + 1 + 1, 1, none⟩ = some (.int .i8 b2) := cell_block HBb'.out rfl
    have R0 : Hid (∀ x : Ext B' W', (Instr.loadAt 31 (.pointer (some ⟨w.heap.size, 0, none⟩))).run Try.prog x.out = .ok (.agg (rcells r)) x.out) := fun x =>
      run_load_roof 31 Try.underlying31 rfl Try.infoRoof hr (block_below x.below HXb.out l0)
    simp only [preL, List.take_succ_cons, List.take_zero, List.drop_succ_cons, List.drop_zero, List.cons_append, List.nil_append]
    repeat (first
      | ((with_reducible refine wpQuiet_run (N := 7) rfl rfl (.agg (rcells r)) ?_ ?_); (rintro _ ⟨x, rfl⟩; exact execOp_load rfl rfl (R0.out x)); go_simp)
      | go_big_quiet_step (fail))
    refine wpQuiet_nil ?_
    exact rfl
  case ent1 => intro w; unfold execOp; go_simp
  case call1 =>
    intro x
    refine (HLX.out x.out).out.mono ?_
    rintro e w' ⟨v, rfl, h1, h2⟩
    obtain ⟨Av, cv, rfl⟩ := owns_slc h2
    exact ⟨_, rfl, ⟨x.out, Av, cv, rfl, h2⟩, x.below.trans (h1.mono (Nat.le_trans HS.out x.below.size))⟩
  case post1 =>
    rintro v w1 ⟨V, Av, cv, rfl, hr1⟩ hb1
    have HR1 := hid hr1
    have HC := fun W h => hid (c_containsP Av cv L (Nat.le_trans HL2.out (by decide)) b1 b2 W h)
    rw [HO.out] at HC
    have HB1 := hid (HW.out.trans (hb1.mono (by omega)))
    clear hr1 hb1
    simp only [List.drop_succ_cons, List.drop_zero, Act.put, List.setIfInBounds_toArray, List.set_cons_zero, List.set_cons_succ]
    repeat (go_big_quiet_step ((go_at_call 61; exact Calls.ext (Nat.le_refl _) (HC _ ((HR1.out.below (Ext.below _) (Nat.le_refl _)).pairs)).out)))
    refine wpQuiet_nil ?_
    rintro _ ⟨y, rfl⟩
    go_wp2_with fail
    go_ret
    exact ⟨rfl, HB1.out.trans (y.below.mono HB1.out.size)⟩
set_option maxHeartbeats 1600000 in
set_option maxRecDepth 100000 in
theorem c_l04Over (r : Rf) (hr : r.Ok) (b : Nat) (a1 a2 b1 b2 : Int) (ha : (0 ≤ a1 ∧ a1 ≤ 7) ∧ (0 ≤ a2 ∧ a2 ≤ 7)) (hb : (0 ≤ b1 ∧ b1 ≤ 7) ∧ (0 ≤ b2 ∧ b2 ≤ 7)) (w : World) (hX : w.heap[b]? = some (.cells (rcells r) 31 (0,0))) :
    Calls Try.prog 25 #[.pointer (some ⟨b,0,none⟩), .agg #[.int .i8 a1, .int .i8 a2], .agg #[.int .i8 b1, .int .i8 b2]] w fun e w' => e = .returned (.bool (overB r (a1, a2) (b1, b2))) ∧ Below w.heap.size w w' := by
  have HX := hid (block_alloc (block_alloc hX (.cells #[.int .i8 a1, .int .i8 a2] 50)) (.cells #[.int .i8 b1, .int .i8 b2] 50))
  have HA := hid (block_alloc (block_new1 w (.cells #[.int .i8 a1, .int .i8 a2] 50) rfl) (.cells #[.int .i8 b1, .int .i8 b2] 50))
  have HBb := hid (block_new1 (w.alloc (.cells #[.int .i8 a1, .int .i8 a2] 50)) (.cells #[.int .i8 b1, .int .i8 b2] 50) (n := w.heap.size + 1) (by simp))
  obtain ⟨W0, hW0⟩ : ∃ W0, W0 = (w.alloc (.cells #[.int .i8 a1, .int .i8 a2] 50)).alloc (.cells #[.int .i8 b1, .int .i8 b2] 50) := ⟨_, rfl⟩
  have HW : Hid (Below w.heap.size w W0) := by rw [hW0]; exact ((Below.refl _ w).alloc (Nat.le_refl _) _).alloc (by simp) _
  rw [← hW0] at HX HA HBb
  have LX := hid (block_lt HX.out)
  have l1 := block_lt HA.out
  have l2 := block_lt HBb.out
  have q0 : W0.cell? ⟨w.heap.size, 0, none⟩ = some (.int .i8 a1) := cell_block HA.out rfl
  have q1 : W0.cell? ⟨w.heap.size, 1, none⟩ = some (.int .i8 a2) := cell_block HA.out rfl
  have q2 : W0.cell? ⟨w.heap.size + 1, 0, none⟩ = some (.int .i8 b1) := cell_block HBb.out rfl
  have q3 : W0.cell? ⟨w.heap.size + 1, 1, none⟩ = some (.int .i8 b2) := cell_block HBb.out rfl
  have HF1 := fun W h => hid (c_l01First r hr b a1 a2 ha.1 ha.2 W h)
  have HF2 := fun W h => hid (c_l01First r hr b b1 b2 hb.1 hb.2 W h)
  have f1 : 0 ≤ firstOf r a1 a2 ∧ firstOf r a1 a2 ≤ 20 := by have := shiftOf_01 r a1; unfold firstOf; omega
  have f2 : 0 ≤ firstOf r b1 b2 ∧ firstOf r b1 b2 ≤ 20 := by have := shiftOf_01 r b1; unfold firstOf; omega
  have HOV : Hid (overB r (a1, a2) (b1, b2) = (decide (a1 + 1 = b1) && inB (firstOf r a1 a2 - firstOf r b1 b2) (-1) 1)) := rfl
  obtain ⟨x, hx⟩ : ∃ x, x = firstOf r a1 a2 := ⟨_, rfl⟩
  obtain ⟨y, hy⟩ : ∃ y, y = firstOf r b1 b2 := ⟨_, rfl⟩
  rw [← hx] at HF1 f1 HOV
  rw [← hy] at HF2 f2 HOV
  have e0 : IntKind.i8.wrap (a1 + 1) = a1 + 1 := IntWalk.i8_in _ (by omega)
  have e1 : IntKind.i64.wrap (x - y) = x - y := IntWalk.i64_in _ (by omega)
  have HI := fun W => hid (c_l00In (x - y) (-1) 1 W (inB (x - y) (-1) 1) rfl)
  clear hx hy hX ha hb f1 f2
  by_cases he : a1 + 1 = b1
  · have he1 : (a1 + 1 == b1) = true := by rw [beq_iff_eq]; exact he
    have HOV : Hid (overB r (a1, a2) (b1, b2) = inB (x - y) (-1) 1) := by rw [HOV.out, decide_eq_true he, Bool.true_and]; rfl
    clear he
    go_enter Try.func25, Try.ntmps25
    go_wp2_with fail
    rw [← hW0]
    clear hW0
    refine wp_region_ext W0.heap.size (by kernel_rfl) (by kernel_rfl) ?_
    repeat (go_big_quiet_step (first
      | (go_at_call 55; with_reducible exact Calls.ext (Nat.le_refl _) (HF1 _ (block_below (Ext.below _) HX.out LX.out)).out)
      | (go_at_call 55; with_reducible exact Calls.ext (Nat.le_refl _) (HF2 _ (block_below (Ext.below _) HX.out LX.out)).out)
      | (go_at_call 54; exact Calls.ext_same (HI _).out)))
    refine wpQuiet_nil ?_
    intro z
    go_wp2_with fail
    go_ret
    exact ⟨ret_bool HOV.out.symm, HW.out.trans (z.below.mono HW.out.size)⟩
  · have he1 : (a1 + 1 == b1) = false := by rw [beq_eq_false_iff_ne]; exact he
    have HOV : Hid (overB r (a1, a2) (b1, b2) = false) := by rw [HOV.out, decide_eq_false he, Bool.false_and]; rfl
    clear he
    go_enter Try.func25, Try.ntmps25
    go_wp2_with fail
    rw [← hW0]
    clear hW0
    refine wp_region_ext W0.heap.size (by kernel_rfl) (by kernel_rfl) ?_
    repeat (go_big_quiet_step (fail))
    refine wpQuiet_nil ?_
    intro z
    go_wp2_with fail
    go_ret
    exact ⟨ret_bool HOV.out.symm, HW.out.trans (z.below.mono HW.out.size)⟩
end Go.Proofs.Ytfbgldkdlmipoaa

/- IsUpward, the program's and the reference's: the loops. -/
namespace Go.Proofs.Ytfbgldkdlmipoaa
open Go.RowKit
set_option linter.unusedSimpArgs false
set_option linter.unusedVariables false

def upV (r : Rf) (l : List (Int × Int)) : Bool := if onceK r l true = 0 then upB r l else false
theorem drop_pairs {w : World} {b off : Nat} {l : List (Int × Int)} (h : PairsAt .i8 .i8 w (some ⟨b, off, none⟩) l) (m : Nat) : PairsAt .i8 .i8 w (some ⟨b, off + m * 2, none⟩) (l.drop m) := fun j p hj => by
  rw [List.getElem?_drop] at hj
  obtain ⟨b', off', e, h1, h2, h3⟩ := h _ p hj
  obtain ⟨rfl, rfl⟩ : b = b' ∧ off = off' := by simpa using e
  refine ⟨b, _, rfl, h1, ?_, ?_⟩
  · rw [show off + m * 2 + j * 2 = off + (m + j) * 2 by omega]; exact h2
  · rw [show off + m * 2 + j * 2 + 1 = off + (m + j) * 2 + 1 by omega]; exact h3
theorem drop_any {r : Rf} {l : List (Int × Int)} {a : Int × Int} {k : Nat} : (l.drop (k + 1)).any (overB r a) = true ↔ ∃ j, ∃ h : j < l.length, k < j ∧ overB r a l[j] = true := by
  rw [List.any_eq_true]
  constructor
  · rintro ⟨x, hx, h⟩
    obtain ⟨i, hi, e⟩ := List.getElem_of_mem hx
    rw [List.length_drop] at hi
    rw [List.getElem_drop] at e
    exact ⟨k + 1 + i, by omega, by omega, by rw [e]; exact h⟩
  · rintro ⟨j, h, hk, ho⟩
    refine ⟨l[j], ?_, ho⟩
    rw [List.mem_iff_getElem]
    exact ⟨j - (k + 1), by rw [List.length_drop]; omega, by rw [List.getElem_drop]; congr 1; omega⟩
set_option maxRecDepth 100000 in
theorem c_isUpClo (r : Rf) (hr : r.Ok) (hv : validB r = true) (a1 a2 p1 p2 : Int) (ha : hasP r (a1, a2) = true) (hp : hasP r (p1, p2) = true) (bx ba : Nat) (w : World) (hX : w.heap[bx]? = some (.cells (rcells r) 31 (0,0))) (hA : w.heap[ba]? = some (.cells #[.int .i8 a1, .int .i8 a2] 50 (0,0))) :
    Calls Try.prog 30 #[.agg #[.int .i8 p1, .int .i8 p2], .pointer (some ⟨bx,0,none⟩), .pointer (some ⟨ba,0,none⟩)] w fun e w' => e = .returned (.bool (overB r (a1, a2) (p1, p2))) ∧ Below w.heap.size w w' := by
  have HX := hid (block_alloc hX (.cells #[.int .i8 p1, .int .i8 p2] 50))
  have hA' := block_alloc hA (.cells #[.int .i8 p1, .int .i8 p2] 50)
  have q0 : (w.alloc (.cells #[.int .i8 p1, .int .i8 p2] 50)).cell? ⟨ba, 0, none⟩ = some (.int .i8 a1) := cell_block hA' rfl
  have q1 : (w.alloc (.cells #[.int .i8 p1, .int .i8 p2] 50)).cell? ⟨ba, 1, none⟩ = some (.int .i8 a2) := cell_block hA' rfl
  have HL := fun W => hid (c_lapsOver r hr hv a1 a2 p1 p2 ha hp W)
  clear hA hA' hX ha hp hv
  go_enter Try.func30, Try.ntmps30
  go_wp2_with (first
    | ((with_reducible refine gate (N := 5) rfl ?_); refine wp_roof 31 Try.underlying31 rfl Try.infoRoof rfl (.tmp 1) rfl bx rfl r hr HX.out ?_)
    | (go_at_call 31; ((with_reducible refine (HL _).out.mono ?_); rintro e w1 ⟨rfl, hb1⟩); have HB := hid hb1; clear hb1))
  go_ret
  exact ⟨rfl, ((Below.refl _ w).alloc (Nat.le_refl _) _).trans (HB.out.mono (by simp))⟩
set_option maxHeartbeats 3200000 in
set_option maxRecDepth 100000 in
theorem c_IsUpward (r : Rf) (hr : r.Ok) (A : Option Addr) (c : Nat) (l : List (Int × Int)) (hB : PlB l) (hlen : l.length ≤ 1048576) (hlc : l.length ≤ c) (w : World) (hA : PairsAt .i8 .i8 w A l) :
    Calls Try.prog 12 #[.agg (rcells r), .slice A l.length c] w fun e w' => e = .returned (.tuple #[.bool (upV r l), .int .i64 (onceK r l true)]) ∧ Below w.heap.size w w' := by
  have HX := hid (block_new1 w (.cells (rcells r) 31) rfl)
  have HW : Hid (Below w.heap.size w (w.alloc (.cells (rcells r) 31))) := (Below.refl _ w).alloc (Nat.le_refl _) _
  have HA := hid hA
  have HC := fun W h => hid (c_orderCode r hr A c l hB hlen true W h)
  unfold upV
  by_cases h0 : onceK r l true = 0
  · rw [if_pos h0, h0]
    rw [h0] at HC
    obtain ⟨hv, hall, _, h8, _, _⟩ := onceK_zero h0
    have HV := hid hv
    have HALL : Hid (∀ p ∈ l, hasP r p = true) := List.all_eq_true.1 hall
    clear h0 hv hall hA hB hlen
    go_enter Try.func12, Try.ntmps12
    go_wp2_with (first
      | ((with_reducible refine gate (N := 9) rfl ?_); refine wp_roof 31 Try.underlying31 rfl Try.infoRoof rfl (.tmp 2) rfl w.heap.size rfl r hr HX.out ?_)
      | (go_at_call 28; ((with_reducible refine (HC _ (HA.out.below HW.out (Nat.le_refl _))).out.mono ?_); rintro e w1 ⟨rfl, hb1⟩); have B1 := hid hb1; clear hb1))
    have HX1 := hid (block_below B1.out HX.out (block_lt HX.out))
    have HW1 := hid (HW.out.trans (B1.out.mono HW.out.size))
    go_loopw [17] (fun i wr => ∃ k : Nat, k ≤ l.length ∧ i = .int .i64 k ∧ Hid (Below w1.heap.size w1 wr) ∧ Hid (∀ i (hi : i < l.length), i < k → ∀ j (hj : j < l.length), i < j → overB r l[i] l[j] = false)) (fun i _ => l.length - (intOf i).toNat)
    case atStart => exact ⟨0, by omega, rfl, Below.refl _ _, fun i hi h => absurd h (by omega)⟩
    case round =>
      obtain ⟨k, hk, rfl, hb, hno⟩ := hrel
      have HB := hid (HW1.out.trans (hb.out.mono HW1.out.size))
      by_cases hkl : k < l.length
      · have hd : decide ((k : Int) < (l.length : Int)) = true := decide_eq_true (by omega)
        have hkI : (k : Int) < (l.length : Int) := by omega
        have hk0 : (0 : Int) ≤ (k : Int) := by omega
        have hp := List.getElem?_eq_getElem hkl
        obtain ⟨⟨p1, p2⟩, hpp⟩ : ∃ p, p = l[k] := ⟨_, rfl⟩
        rw [← hpp] at hp
        have HPP := hid hpp
        have hpm := HALL.out (p1, p2) (by rw [hpp]; exact List.getElem_mem hkl)
        obtain ⟨ba, off, rfl, r1, r2, r3⟩ := HA.out.below HB.out (Nat.le_refl _) k _ hp
        dsimp only at r2 r3
        have HXw := hid (block_below hb.out HX1.out (block_lt HX1.out))
        obtain ⟨W1, hW1⟩ : ∃ W1, W1 = wr.alloc (.cells #[.int .i8 p1, .int .i8 p2] 50) := ⟨_, rfl⟩
        have HX2 : Hid (W1.heap[w.heap.size]? = some (.cells (rcells r) 31 (0,0))) := by rw [hW1]; exact block_alloc HXw.out _
        have HN2 : Hid (W1.heap[wr.heap.size]? = some (.cells #[.int .i8 p1, .int .i8 p2] 50 (0,0))) := by rw [hW1]; exact block_new1 wr _ rfl
        have Hb2 : Hid (Below w1.heap.size w1 W1) := by rw [hW1]; exact hb.out.trans ((Below.refl _ wr).alloc hb.out.size _)
        have HB2 : Hid (Below w.heap.size w W1) := by rw [hW1]; exact HB.out.trans ((Below.refl _ wr).alloc HB.out.size _)
        have HT : Hid (TellsP 30 #[] #[.pointer (some ⟨w.heap.size, 0, none⟩), .pointer (some ⟨wr.heap.size, 0, none⟩)] (overB r (p1, p2)) (l.drop (k + 1)) W1) := by
          intro W p hp hbW
          exact c_isUpClo r hr HV.out p1 p2 p.1 p.2 hpm (HALL.out p (List.mem_of_mem_drop hp)) _ _ W (block_below hbW HX2.out (block_lt HX2.out)) (block_below hbW HN2.out (block_lt HN2.out))
        have HAd : ∀ A2 : Option Addr, (c = k + 1 ∨ A2 = some ⟨ba, off + (k + 1) * 2, none⟩) → Hid (PairsAt .i8 .i8 W1 A2 (l.drop (k + 1))) := fun A2 h => by
          rcases h with h | rfl
          · have : l.drop (k + 1) = [] := List.drop_eq_nil_of_le (by omega)
            rw [Hid, this]
            intro j p hj; simp at hj
          · exact drop_pairs (HA.out.below HB2.out (Nat.le_refl _)) (k + 1)
        have HCF := fun (A2 : Option Addr) (c2 : Nat) h => hid (c_containsFP 30 #[] #[.pointer (some ⟨w.heap.size, 0, none⟩), .pointer (some ⟨wr.heap.size, 0, none⟩)] (enters_of Try.func30 (by kernel_rfl) rfl) (overB r (p1, p2)) A2 c2 (l.drop (k + 1)) (by rw [List.length_drop]; omega) W1 (HAd A2 h).out HT.out)
        rw [List.length_drop] at HCF
        have e1 : IntKind.i64.wrap ((k : Int) + 1) = (k : Int) + 1 := IntWalk.i64_in _ (by omega)
        have e2 : ((k : Int) + 1).toNat = k + 1 := by omega
        have e3 : (0 : Int) ≤ (k : Int) + 1 := by omega
        have e4 : (k : Int) + 1 ≤ (l.length : Int) := by omega
        have e5 : k + 1 ≤ c := by omega
        have H8 := hid h8
        clear hp hpp hpm HT HAd h8
        by_cases hcc : c = k + 1
        · have HCZ : Hid (∀ (A2 : Option Addr) (c2 : Nat), Calls Try.prog 29 #[.slice A2 0 c2, .func (.func 30) #[] #[.pointer (some ⟨w.heap.size, 0, none⟩), .pointer (some ⟨wr.heap.size, 0, none⟩)]] W1 fun e w' => e = .returned (.bool false) ∧ Below W1.heap.size W1 w') := fun A2 c2 => c_containsFP 30 #[] #[.pointer (some ⟨w.heap.size, 0, none⟩), .pointer (some ⟨wr.heap.size, 0, none⟩)] (enters_of Try.func30 (by kernel_rfl) rfl) (overB r (p1, p2)) A2 c2 [] (by simp) W1 (fun j p h => by simp at h) (fun W p hp => by cases hp)
          subst hcc
          go_wp2_with (go_at_call 29; go_loud (rw [← hW1]; ((refine (HCZ.out _ _).mono ?_); rintro e w3 ⟨rfl, hb3⟩)); have Hb3 := hid (Hb2.out.trans (hb3.mono Hb2.out.size)); clear hb3)
          refine ⟨⟨k + 1, by omega, by go_num, Hb3.out, fun i hi hik j hj hij => ?_⟩, by simp [intOf]; omega⟩
          rcases Nat.lt_succ_iff_lt_or_eq.1 hik with h1 | rfl
          · exact hno.out i hi h1 j hj hij
          · omega
        · have HCF := fun (c2 : Nat) => HCF (some ⟨ba, off + (k + 1) * 2, none⟩) c2 (.inr rfl)
          cases hq : (l.drop (k + 1)).any (overB r (p1, p2)) with
          | true =>
            rw [hq] at HCF
            have HU : Hid (upB r l = false) := by
              obtain ⟨j, hj, hkj, ho⟩ := drop_any.1 hq
              rw [HPP.out] at ho
              exact upB_no hkl hj hkj ho
            clear hq
            go_wp2_with (go_at_call 29; rw [← hW1]; ((with_reducible refine (HCF _).out.mono ?_); rintro e w3 ⟨rfl, hb3⟩); have HB3 := hid (HB2.out.trans (hb3.mono HB2.out.size)); clear hb3)
            go_ret2
            exact ⟨congrArg (fun b => Ending.returned (.tuple #[.bool b, .int .i64 0])) HU.out.symm, HB3.out⟩
          | false =>
            rw [hq] at HCF
            have HQ := hid hq
            clear hq
            go_wp2_with (go_at_call 29; rw [← hW1]; ((with_reducible refine (HCF _).out.mono ?_); rintro e w3 ⟨rfl, hb3⟩); have Hb3 := hid (Hb2.out.trans (hb3.mono Hb2.out.size)); clear hb3)
            refine ⟨⟨k + 1, by omega, by go_num, Hb3.out, fun i hi hik j hj hij => ?_⟩, by simp [intOf]; omega⟩
            rcases Nat.lt_succ_iff_lt_or_eq.1 hik with h1 | rfl
            · exact hno.out i hi h1 j hj hij
            · cases ho : overB r l[i] l[j] with
              | false => rfl
              | true =>
                have := drop_any.2 ⟨j, hj, hij, ho⟩
                rw [← HPP.out, HQ.out] at this; cases this
      · obtain rfl : k = l.length := by omega
        have hd : decide ((l.length : Int) < (l.length : Int)) = false := decide_eq_false (by omega)
        have HU : Hid (upB r l = true) := upB_yes fun i hi j hj hij => hno.out i hi hi j hj hij
        go_wp2_with fail
        go_ret2
        exact ⟨congrArg (fun b => Ending.returned (.tuple #[.bool b, .int .i64 0])) HU.out.symm, HB.out⟩
  · rw [if_neg h0]
    obtain ⟨k, hkk⟩ : ∃ k, k = onceK r l true := ⟨_, rfl⟩
    rw [← hkk] at HC h0 ⊢
    have hk0 : (k == 0) = false := by rw [beq_eq_false_iff_ne]; exact h0
    have hk1 : (k != 0) = true := by unfold bne; rw [hk0]; rfl
    clear hkk hA hB h0
    go_enter Try.func12, Try.ntmps12
    go_wp2_with (first
      | ((with_reducible refine gate (N := 9) rfl ?_); refine wp_roof 31 Try.underlying31 rfl Try.infoRoof rfl (.tmp 2) rfl w.heap.size rfl r hr HX.out ?_)
      | (go_at_call 28; ((with_reducible refine (HC _ (HA.out.below HW.out (Nat.le_refl _))).out.mono ?_); rintro e w1 ⟨rfl, hb1⟩); have B2 := hid (HW.out.trans (hb1.mono HW.out.size)); clear hb1))
    go_ret2
    exact ⟨rfl, B2.out⟩
set_option maxHeartbeats 3200000 in
set_option maxRecDepth 100000 in
theorem c_sIsUpward (r : Rf) (hr : r.Ok) (A : Option Addr) (c : Nat) (l : List (Int × Int)) (hB : PlB l) (hlen : l.length ≤ 1048576) (hlc : l.length ≤ c) (w : World) (hA : PairsAt .i8 .i8 w A l) :
    Calls Try.prog 9 #[.agg (rcells r), .slice A l.length c] w fun e w' => e = .returned (.tuple #[.bool (upV r l), .int .i64 (onceK r l true)]) ∧ Below w.heap.size w w' := by
  have HX := hid (block_new1 w (.cells (rcells r) 31) rfl)
  have HW : Hid (Below w.heap.size w (w.alloc (.cells (rcells r) 31))) := (Below.refl _ w).alloc (Nat.le_refl _) _
  have HA := hid hA
  have HC := fun W h1 h2 => hid (c_l04Once r hr w.heap.size A c l hB hlen hlc true W h1 h2)
  unfold upV
  by_cases h0 : onceK r l true = 0
  · rw [if_pos h0, h0]
    rw [h0] at HC
    obtain ⟨hv, hall, _, h8, _, _⟩ := onceK_zero h0
    have HV := hid hv
    have HALL := hid (all_pl hv hall)
    have H8 := hid h8
    clear h0 hv hall hA hB hlen h8
    go_enter Try.func9, Try.ntmps9
    go_wp2_with (go_at_call 24; ((with_reducible refine (HC _ HX.out (HA.out.below HW.out (Nat.le_refl _))).out.mono ?_); rintro e w1 ⟨rfl, hb1⟩); have B1 := hid hb1; clear hb1)
    have HX1 := hid (block_below B1.out HX.out (block_lt HX.out))
    have HW1 := hid (HW.out.trans (B1.out.mono HW.out.size))
    go_loopw [7] (fun i wr => ∃ k : Nat, k ≤ l.length ∧ i = .int .i64 k ∧ Hid (Below w1.heap.size w1 wr) ∧ Hid (∀ j (hj : j < l.length), j < k → ∀ i (hi : i < l.length), i < j → overB r l[i] l[j] = false)) (fun i _ => l.length - (intOf i).toNat)
    case atStart => exact ⟨0, by omega, rfl, Below.refl _ _, fun i hi h => absurd h (by omega)⟩
    case round =>
      obtain ⟨k, hk, rfl, hb, hno⟩ := hrel
      have HB := hid (HW1.out.trans (hb.out.mono HW1.out.size))
      by_cases hkl : k < l.length
      · have hd : decide ((k : Int) < (l.length : Int)) = true := decide_eq_true (by omega)
        have hkI : (k : Int) < (l.length : Int) := by omega
        have hk0 : (0 : Int) ≤ (k : Int) := by omega
        have hk8 : (k : Int) ≤ 8 := by have := H8.out; omega
        go_wp2_with fail
        go_loopw [8] (fun i wr => ∃ q : Nat, q ≤ k ∧ i = .int .i64 q ∧ Hid (Below w1.heap.size w1 wr) ∧ Hid (∀ i (hi : i < l.length), i < q → overB r l[i] l[k] = false)) (fun i _ => k - (intOf i).toNat)
        case atStart => exact ⟨0, by omega, rfl, hb.out, fun i hi h => absurd h (by omega)⟩
        case round =>
          clear hb HB
          obtain ⟨q, hq, rfl, hb, hno2⟩ := hrel
          have HB := hid (HW1.out.trans (hb.out.mono HW1.out.size))
          by_cases hqk : q < k
          · have hd2 : decide ((q : Int) < (k : Int)) = true := decide_eq_true (by omega)
            have hqI : (q : Int) < (l.length : Int) := by omega
            have hq0 : (0 : Int) ≤ (q : Int) := by omega
            have hql : q < l.length := by omega
            have hq8 : (q : Int) ≤ 8 := by omega
            have hp := List.getElem?_eq_getElem hkl
            have hs := List.getElem?_eq_getElem hql
            obtain ⟨⟨p1, p2⟩, hpp⟩ : ∃ p, p = l[k] := ⟨_, rfl⟩
            obtain ⟨⟨s1, s2⟩, hss⟩ : ∃ p, p = l[q] := ⟨_, rfl⟩
            rw [← hpp] at hp
            rw [← hss] at hs
            have hmp := HALL.out (p1, p2) (by rw [hpp]; exact List.getElem_mem hkl)
            have hms := HALL.out (s1, s2) (by rw [hss]; exact List.getElem_mem hql)
            dsimp only at hmp hms
            obtain ⟨ba, off, e1, r1, r2, r3⟩ := HA.out.below HB.out (Nat.le_refl _) k _ hp
            obtain ⟨ba', off', e2, t1, t2, t3⟩ := HA.out.below HB.out (Nat.le_refl _) q _ hs
            rw [e1] at e2
            obtain ⟨rfl, rfl⟩ : ba = ba' ∧ off = off' := by simpa using e2
            dsimp only at r2 r3 t2 t3
            have HXw := hid (block_below hb.out HX1.out (block_lt HX1.out))
            have LXw := hid (block_lt HXw.out)
            have HOV := fun W h => hid (c_l04Over r hr w.heap.size s1 s2 p1 p2 hms hmp W h)
            have HPS : Hid (overB r l[q] l[k] = overB r (s1, s2) (p1, p2)) := by rw [hpp, hss]; rfl
            subst e1
            clear hp hs hpp hss hmp hms e2
            cases ho : overB r (s1, s2) (p1, p2) with
            | true =>
              rw [ho] at HOV
              have HU : Hid (upB r l = false) := upB_no hql hkl hqk (HPS.out.trans ho)
              clear ho
              go_wp2_with fail
              refine wp_region_ext wr.heap.size (by kernel_rfl) (by kernel_rfl) ?_
              repeat (go_big_quiet_step ((go_at_call 25; exact Calls.ext (Nat.le_refl _) (HOV _ (block_below (Ext.below _) HXw.out LXw.out)).out)))
              refine wpQuiet_nil ?_
              intro x
              go_wp2_with fail
              go_ret2
              exact ⟨congrArg (fun b => Ending.returned (.tuple #[.bool b, .int .i64 0])) HU.out.symm, HB.out.trans (x.below.mono HB.out.size)⟩
            | false =>
              rw [ho] at HOV
              have HO := hid (HPS.out.trans ho)
              clear ho
              go_wp2_with fail
              refine wp_region_ext wr.heap.size (by kernel_rfl) (by kernel_rfl) ?_
              repeat (go_big_quiet_step ((go_at_call 25; exact Calls.ext (Nat.le_refl _) (HOV _ (block_below (Ext.below _) HXw.out LXw.out)).out)))
              refine wpQuiet_nil ?_
              intro x
              go_wp2_with fail
              refine ⟨⟨q + 1, by omega, by go_num, hb.out.trans (x.below.mono hb.out.size), fun i hi hik => ?_⟩, by simp [intOf]; omega⟩
              rcases Nat.lt_succ_iff_lt_or_eq.1 hik with h1 | rfl
              · exact hno2.out i hi h1
              · exact HO.out
          · obtain rfl : q = k := by omega
            have hd2 : decide ((q : Int) < (q : Int)) = false := decide_eq_false (by omega)
            go_wp2_with fail
            refine ⟨⟨q + 1, by omega, by go_num, hb.out, fun j hj hjk i hi hij => ?_⟩, by simp [intOf]; omega⟩
            rcases Nat.lt_succ_iff_lt_or_eq.1 hjk with h1 | rfl
            · exact hno.out j hj h1 i hi hij
            · exact hno2.out i hi hij
      · obtain rfl : k = l.length := by omega
        have hd : decide ((l.length : Int) < (l.length : Int)) = false := decide_eq_false (by omega)
        have HU : Hid (upB r l = true) := upB_yes fun i hi j hj hij => hno.out j hj hj i hi hij
        go_wp2_with fail
        go_ret2
        exact ⟨congrArg (fun b => Ending.returned (.tuple #[.bool b, .int .i64 0])) HU.out.symm, HB.out⟩
  · rw [if_neg h0]
    obtain ⟨k, hkk⟩ : ∃ k, k = onceK r l true := ⟨_, rfl⟩
    rw [← hkk] at HC h0 ⊢
    have hk0 : (k == 0) = false := by rw [beq_eq_false_iff_ne]; exact h0
    have hk1 : (k != 0) = true := by unfold bne; rw [hk0]; rfl
    clear hkk hA hB h0
    go_enter Try.func9, Try.ntmps9
    go_wp2_with (go_at_call 24; ((with_reducible refine (HC _ HX.out (HA.out.below HW.out (Nat.le_refl _))).out.mono ?_); rintro e w1 ⟨rfl, hb1⟩); have B2 := hid (HW.out.trans (hb1.mono HW.out.size)); clear hb1)
    go_ret2
    exact ⟨rfl, B2.out⟩
end Go.Proofs.Ytfbgldkdlmipoaa

/- FirstUpward, the program's. -/
namespace Go.Proofs.Ytfbgldkdlmipoaa
open Go.RowKit
set_option linter.unusedSimpArgs false
set_option linter.unusedVariables false

def firV (r : Rf) (l : List (Int × Int)) : List (Int × Int) := if onceK r l true = 0 then firL r l.length (sortP l) else []
set_option maxRecDepth 100000 in
theorem c_firClo2 (r : Rf) (hr : r.Ok) (hv : validB r = true) (a1 a2 p1 p2 : Int) (ha : hasP r (a1, a2) = true) (hp : hasP r (p1, p2) = true) (bx ba : Nat) (w : World) (hX : w.heap[bx]? = some (.cells (rcells r) 31 (0,0))) (hA : w.heap[ba]? = some (.cells #[.int .i8 a1, .int .i8 a2] 50 (0,0))) :
    Calls Try.prog 42 #[.agg #[.int .i8 p1, .int .i8 p2], .pointer (some ⟨bx,0,none⟩), .pointer (some ⟨ba,0,none⟩)] w fun e w' => e = .returned (.bool (overB r (a1, a2) (p1, p2))) ∧ Below w.heap.size w w' := by
  have HX := hid (block_alloc hX (.cells #[.int .i8 p1, .int .i8 p2] 50))
  have hA' := block_alloc hA (.cells #[.int .i8 p1, .int .i8 p2] 50)
  have q0 : (w.alloc (.cells #[.int .i8 p1, .int .i8 p2] 50)).cell? ⟨ba, 0, none⟩ = some (.int .i8 a1) := cell_block hA' rfl
  have q1 : (w.alloc (.cells #[.int .i8 p1, .int .i8 p2] 50)).cell? ⟨ba, 1, none⟩ = some (.int .i8 a2) := cell_block hA' rfl
  have HL := fun W => hid (c_lapsOver r hr hv a1 a2 p1 p2 ha hp W)
  clear hA hA' hX ha hp hv
  go_enter Try.func42, Try.ntmps42
  go_wp2_with (first
    | ((with_reducible refine gate (N := 5) rfl ?_); refine wp_roof 31 Try.underlying31 rfl Try.infoRoof rfl (.tmp 1) rfl bx rfl r hr HX.out ?_)
    | (go_at_call 31; ((with_reducible refine (HL _).out.mono ?_); rintro e w1 ⟨rfl, hb1⟩); have HB := hid hb1; clear hb1))
  go_ret
  exact ⟨rfl, ((Below.refl _ w).alloc (Nat.le_refl _) _).trans (HB.out.mono (by simp))⟩
set_option maxRecDepth 100000 in
theorem c_firClo1 (r : Rf) (hr : r.Ok) (hv : validB r = true) (a1 a2 : Int) (ha : hasP r (a1, a2) = true) (L : List (Int × Int)) (hL : ∀ p ∈ L, hasP r p = true) (h8 : L.length ≤ 1000) (Al : Option Addr) (cl : Nat) (bl bx : Nat) (w : World) (hX : w.heap[bx]? = some (.cells (rcells r) 31 (0,0))) (hl : w.heap[bl]? = some (.cells #[.slice Al L.length cl] 33 (0,0))) (hA : PairsAt .i8 .i8 w Al L) :
    Calls Try.prog 41 #[.agg #[.int .i8 a1, .int .i8 a2], .pointer (some ⟨bl,0,none⟩), .pointer (some ⟨bx,0,none⟩)] w fun e w' => e = .returned (.bool (freeIn r L (a1, a2))) ∧ Below w.heap.size w w' := by
  have HX := hid (block_alloc hX (.cells #[.int .i8 a1, .int .i8 a2] 50))
  have HN := hid (block_new1 w (.cells #[.int .i8 a1, .int .i8 a2] 50) rfl)
  have HB0 : Hid (Below w.heap.size w (w.alloc (.cells #[.int .i8 a1, .int .i8 a2] 50))) := (Below.refl _ w).alloc (Nat.le_refl _) _
  have q0 : (w.alloc (.cells #[.int .i8 a1, .int .i8 a2] 50)).cell? ⟨bl, 0, none⟩ = some (.slice Al L.length cl) := cell_block (block_alloc hl _) rfl
  have HT : Hid (TellsP 42 #[] #[.pointer (some ⟨bx, 0, none⟩), .pointer (some ⟨w.heap.size, 0, none⟩)] (overB r (a1, a2)) L (w.alloc (.cells #[.int .i8 a1, .int .i8 a2] 50))) := by
    intro W p hp hbW
    exact c_firClo2 r hr hv a1 a2 p.1 p.2 ha (hL p hp) _ _ W (block_below hbW HX.out (block_lt HX.out)) (block_below hbW HN.out (block_lt HN.out))
  have HCF := hid (c_containsFP 42 #[] #[.pointer (some ⟨bx, 0, none⟩), .pointer (some ⟨w.heap.size, 0, none⟩)] (enters_of Try.func42 (by kernel_rfl) rfl) (overB r (a1, a2)) Al cl L (by omega) _ (hA.below HB0.out (Nat.le_refl _)) HT.out)
  have HF : Hid (freeIn r L (a1, a2) = !L.any (overB r (a1, a2))) := rfl
  obtain ⟨g, hg⟩ : ∃ g, g = L.any (overB r (a1, a2)) := ⟨_, rfl⟩
  rw [← hg] at HCF HF
  clear hX hl hA hv ha hL HT hg
  cases g <;>
  · go_enter Try.func41, Try.ntmps41
    go_wp2_with (go_at_call 29; ((with_reducible refine HCF.out.mono ?_); rintro e w1 ⟨rfl, hb1⟩); have HB := hid hb1; clear hb1)
    go_ret
    exact ⟨ret_bool HF.out.symm, HB0.out.trans (HB.out.mono HB0.out.size)⟩
set_option maxHeartbeats 3200000 in
set_option maxRecDepth 100000 in
theorem c_FirstUpward (r : Rf) (hr : r.Ok) (A : Option Addr) (c : Nat) (l : List (Int × Int)) (hB : PlB l) (hlen : l.length ≤ 1048576) (w : World) (hA : PairsAt .i8 .i8 w A l) :
    Calls Try.prog 17 #[.agg (rcells r), .slice A l.length c] w (RetP w (firV r l) (onceK r l true)) := by
  have HX := hid (block_new1 w (.cells (rcells r) 31) rfl)
  have HW : Hid (Below w.heap.size w (w.alloc (.cells (rcells r) 31))) := (Below.refl _ w).alloc (Nat.le_refl _) _
  have HA := hid hA
  have HC := fun W h => hid (c_orderCode r hr A c l hB hlen true W h)
  unfold firV
  by_cases h0 : onceK r l true = 0
  · rw [if_pos h0, h0]
    rw [h0] at HC
    obtain ⟨hv, hall, _, h8, _, _⟩ := onceK_zero h0
    have HV := hid hv
    have HALL : Hid (∀ p ∈ sortP l, hasP r p = true) := fun p hp => List.all_eq_true.1 hall p ((sortP_perm l).mem_iff.1 hp)
    have HSL := hid (sortP_lenQ l)
    have H8 := hid h8
    obtain ⟨F, hF⟩ : ∃ F, F = firL r l.length (sortP l) := ⟨_, rfl⟩
    have HF : Hid (firL r (sortP l).length (sortP l) = F) := by rw [hF, sortP_lenQ]; rfl
    rw [← hF]
    clear h0 hv hall hA hB hlen hF h8
    go_enter Try.func17, Try.ntmps17
    go_wp2_with (first
      | ((with_reducible refine gate (N := 10) rfl ?_); refine wp_roof 31 Try.underlying31 rfl Try.infoRoof rfl (.tmp 2) rfl w.heap.size rfl r hr HX.out ?_)
      | (go_at_call 28; ((with_reducible refine (HC _ (HA.out.below HW.out (Nat.le_refl _))).out.mono ?_); rintro e w1 ⟨rfl, hb1⟩); have B1 := hid hb1; have HW1 := hid (HW.out.trans (hb1.mono HW.out.size)); clear hb1)
      | (go_at_call 38; ((with_reducible refine (c_values A l.length c w1).mono ?_); rintro e w2 ⟨rfl, rfl⟩); have HB2 := hid ((Below.refl w1.heap.size w1).alloc (Nat.le_refl _) (.cells #[.slice A l.length c] 33)); have HW2 := hid (HW1.out.trans (HB2.out.mono HW1.out.size)))
      | (go_at_call 37; ((refine (c_sortedQ w1.heap.size A c l (Nat.le_trans H8.out (by decide)) _ (cell_block (block_new1 w1 _ rfl) rfl) (by simp) (HA.out.below HW2.out (Nat.le_refl _))).mono ?_); rintro e w3 ⟨v, rfl, hb3, hr3⟩); obtain ⟨Av, cv, rfl⟩ := owns_slc hr3; have HB3 := hid hb3; have HR3 := hid hr3; clear hb3 hr3))
    have LW1 : w.heap.size + 1 ≤ w1.heap.size := by have := B1.out.size; simpa using this
    have HB12 : Hid (Below (w.heap.size + 1) (w.alloc (.cells (rcells r) 31)) (w1.alloc (.cells #[.slice A l.length c] 33))) := (B1.out.mono (by simp)).trans (HB2.out.mono LW1)
    have HB13 : Hid (Below (w.heap.size + 1) (w.alloc (.cells (rcells r) 31)) w3) := HB12.out.trans (HB3.out.mono (by simp; omega))
    have LW3 : w.heap.size + 1 ≤ w3.heap.size := by have := HB13.out.size; simpa using this
    have HR3' : Hid (RowQ (w.heap.size + 1) w3 (.slice Av (sortP l).length cv) (sortP l)) := World.ownsRow.mono HR3.out (by simp; omega)
    obtain ⟨bq, hbq⟩ : ∃ b, b = w3.heap.size := ⟨_, rfl⟩
    rw [← hbq]
    have HBX := hid (block_new1 w3 (.cells #[.slice Av (sortP l).length cv] 33) hbq)
    have HB4 := hid (HB13.out.trans ((Below.refl (w.heap.size + 1) w3).alloc LW3 (.cells #[.slice Av (sortP l).length cv] 33)))
    have HR4 : Hid (RowQ (w.heap.size + 1) (w3.alloc (.cells #[.slice Av (sortP l).length cv] 33)) (.slice Av (sortP l).length cv) (sortP l)) := World.ownsRow.alloc HR3'.out _
    have HOB : Hid (∀ g, (Value.slice Av (sortP l).length cv).ownBlock = some g → g < bq) := fun g hg => by rw [hbq]; exact (World.ownsRow.lt HR3'.out g hg).2
    have HN4 : Hid (RowQ (w.heap.size + 1) (w3.alloc (.cells #[.slice Av (sortP l).length cv] 33)) (.slice none 0 0) []) := World.ownsRow_nil _ _ _ _
    obtain ⟨W4, hW4⟩ : ∃ W4, W4 = w3.alloc (.cells #[.slice Av (sortP l).length cv] 33) := ⟨_, rfl⟩
    rw [← hW4] at HBX HB4 HR4 HN4 ⊢
    have LQ : Hid (w.heap.size + 1 ≤ bq) := by rw [hbq]; exact LW3
    have HL8 : Hid ((sortP l).length ≤ 8) := by rw [HSL.out]; exact H8.out
    clear hbq hW4 HR3 HR3' HB13 HB3 HB12 HB2 HW2 HW1 B1
    go_loopw [8] (fun vo wr => ∃ (Al : Option Addr) (cl : Nat) (out L : List (Int × Int)), Hid (wr.heap[bq]? = some (.cells #[.slice Al L.length cl] 33 (0, 0))) ∧ Hid (RowQ (w.heap.size + 1) wr (.slice Al L.length cl) L) ∧ Hid (RowQ (w.heap.size + 1) wr vo out) ∧
      Hid (∀ g, (Value.slice Al L.length cl).ownBlock = some g → g < bq) ∧ Hid (∀ g, vo.ownBlock = some g → bq < g) ∧ Hid (Below (w.heap.size + 1) (w.alloc (.cells (rcells r) 31)) wr) ∧ Hid (out ++ firL r L.length L = F) ∧ Hid (∀ p ∈ L, hasP r p = true) ∧ Hid (L.length ≤ 8) ∧ Hid (out.length ≤ 8 - L.length))
      (fun _ wr => match wr.cell? ⟨bq, 0, none⟩ with | some (.slice _ n _) => n | _ => 0)
    case atStart =>
      refine ⟨Av, cv, [], sortP l, HBX.out, HR4.out, HN4.out, HOB.out, fun g h => ?_, HB4.out, HF.out, HALL.out, HL8.out, Nat.zero_le _⟩
      simp [Value.ownBlock] at h
    case round =>
      clear HBX HR4 HN4 HOB HB4 HF HALL HL8
      obtain ⟨Al, cl, out, L, hbx, hrl, hro, hol, hoo, hb, hfe, hal, hl8, ho8⟩ := hrel
      have q0 : wr.cell? ⟨bq, 0, none⟩ = some (.slice Al L.length cl) := cell_block hbx.out rfl
      by_cases hL0 : L = []
      · have hd : decide ((L.length : Int) > 0) = false := by rw [hL0]; rfl
        have HE := hid (show out = F by have := hfe.out; rw [hL0] at this; simpa [firL] using this)
        obtain ⟨Ao, co, rfl⟩ := owns_slc hro.out
        have HRO : Hid (RowQ w.heap.size wr (.slice Ao out.length co) out) := World.ownsRow.mono hro.out (Nat.le_succ _)
        subst hL0
        simp only [List.length_nil] at q0 hd
        go_wp2_with fail
        go_ret2
        refine ⟨_, rfl, HW.out.trans (hb.out.mono (Nat.le_succ _)), ?_⟩
        rw [← HE.out]
        exact HRO.out
      · have hLp : 0 < L.length := List.length_pos_iff.2 hL0
        have hd : decide ((L.length : Int) > 0) = true := decide_eq_true (by omega)
        have HANY := hid (free_ex r hL0)
        have hidx := findIdx_lt HANY.out
        have HIP : Hid (idxP (freeIn r L) L = ((L.findIdx (freeIn r L) : Nat) : Int)) := by show _ = _; unfold idxP; rw [if_pos HANY.out]
        obtain ⟨idx, hie⟩ : ∃ i, i = L.findIdx (freeIn r L) := ⟨_, rfl⟩
        rw [← hie] at hidx HIP
        have HIE := hid hie
        have hp := List.getElem?_eq_getElem hidx
        obtain ⟨⟨p1, p2⟩, hpp⟩ : ∃ p, p = L[idx] := ⟨_, rfl⟩
        rw [← hpp] at hp
        have HPP := hid hp
        obtain ⟨Ao, co, rfl⟩ := owns_slc hro.out
        obtain ⟨g, cg, e, hgB, hgl, c0, c1, _, _⟩ := hrl.out.cell hp
        obtain ⟨rfl, -, rfl⟩ : Al = some ⟨g, 0, none⟩ ∧ L.length = L.length ∧ cl = cg := by simpa using e
        dsimp only at c0 c1
        have HXr := hid (block_below hb.out HX.out (by omega))
        have hgq := hol.out g rfl
        have hbl := block_lt hbx.out
        have LB : w.heap.size + 1 ≤ wr.heap.size := by have := hb.out.size; simpa using this
        have HT : Hid (TellsP 41 #[] #[.pointer (some ⟨bq, 0, none⟩), .pointer (some ⟨w.heap.size, 0, none⟩)] (freeIn r L) L wr) := by
          intro W p hp hbW
          exact c_firClo1 r hr HV.out p.1 p.2 (hal.out p hp) L hal.out (Nat.le_trans hl8.out (by decide)) _ _ bq w.heap.size W (block_below hbW HXr.out (block_lt HXr.out)) (block_below hbW hbx.out hbl) (hrl.out.below hbW (Nat.le_refl _)).pairs
        have HIF : Hid (Calls Try.prog 40 #[.slice (some ⟨g, 0, none⟩) L.length cl, .func (.func 41) #[] #[.pointer (some ⟨bq, 0, none⟩), .pointer (some ⟨w.heap.size, 0, none⟩)]] wr fun e w' => e = .returned (.int .i64 (idx : Int)) ∧ Below wr.heap.size wr w') :=
          (c_indexFP 41 #[] #[.pointer (some ⟨bq, 0, none⟩), .pointer (some ⟨w.heap.size, 0, none⟩)] (enters_of Try.func41 (by kernel_rfl) rfl) (freeIn r L) _ cl L (Nat.le_trans hl8.out (by decide)) wr hrl.out.pairs HT.out).mono fun e w' ⟨n, h1, h2, _, h3⟩ => ⟨by rw [h1, h3, HIP.out], h2⟩
        have hcast : ((idx + 1 : Nat) : Int) = (idx : Int) + 1 := by omega
        have HDEL := fun (W : World) (h : RowQ (w.heap.size + 1) W (.slice (some ⟨g, 0, none⟩) L.length cl) L) => hid (hcast ▸ c_deleteQ (w.heap.size + 1) g cl L (Nat.le_trans hl8.out (by decide)) idx (idx + 1) hidx rfl W h)
        have hiI : (idx : Int) < (L.length : Int) := by omega
        have hi0 : (0 : Int) ≤ (idx : Int) := by omega
        have hi8 : (idx : Int) ≤ 8 := by have := hl8.out; omega
        have e1 : IntKind.i64.wrap ((idx : Int) + 1) = (idx : Int) + 1 := IntWalk.i64_in _ (by omega)
        have HID := hid hidx
        have HLp := hid hLp
        have C0 := hid c0
        have C1 := hid c1
        clear hp hpp e c0 c1 HT hie hcast hidx hL0 hLp
        go_wp2_with (first
          | (go_at_call 40; ((with_reducible refine HIF.out.mono ?_); rintro e w5 ⟨rfl, hb5⟩); have HB5 := hid hb5; have LB5 := Nat.le_trans LB hb5.size; have q5 : w5.cell? ⟨bq, 0, none⟩ = some (.slice (some ⟨g, 0, none⟩) L.length cl) := (hb5.cell (p := ⟨bq, 0, none⟩) hbl).trans q0; have c05 := (hb5.cell (p := ⟨g, _, none⟩) hgl).trans C0.out; have c15 := (hb5.cell (p := ⟨g, _, none⟩) hgl).trans C1.out; have HRO5 := hid (hro.out.below hb5 (Nat.le_refl _)); have HRL5 := hid (hrl.out.below hb5 (Nat.le_refl _)); have HBX5 := hid (block_below hb5 hbx.out hbl); clear hb5)
          | ((with_reducible refine gate (N := 31) rfl ?_); (refine wp_app1Q rfl (.tmp 25) (.tmp 30) rfl (w.heap.size + 1) (.slice Ao out.length co) out p1 p2 HRO5.out rfl w5.heap.size rfl (Nat.le_trans ho8.out (by omega)) LB5 rfl ?_); intro v' w6 hown hg; obtain ⟨A6, c6, rfl⟩ := owns_slc hown; have HBX6 := hid (hg.block bq _ HBX5.out (fun e => by have := hoo.out bq e; omega)); have q6 : w6.cell? ⟨bq, 0, none⟩ = some (.slice (some ⟨g, 0, none⟩) L.length cl) := cell_block HBX6.out rfl; have HG6 := hid hg; have HRO6 := hid hown; have HRL6 : Hid (RowQ (w.heap.size + 1) w6 (.slice (some ⟨g, 0, none⟩) L.length cl) L) := hg.row HRL5.out (fun g' h1 h2 => by have := hol.out g' h1; have := hoo.out g' h2; omega); have HD6 := hid (HDEL w6 HRL6.out).out; clear hg hown)
          | (go_at_call 43; ((with_reducible refine HD6.out.mono ?_); rintro e w7 ⟨rfl, hb7, hk7, hr7⟩); have HB7 := hid hb7; have HK7 := hid hk7; have HR7 := hid hr7; have HBX7 := hid (hk7 bq _ (by omega) HBX6.out); have q7 : w7.cell? ⟨bq, 0, none⟩ = some (.slice (some ⟨g, 0, none⟩) L.length cl) := cell_block HBX7.out rfl; have f7 : w7.frozen? ⟨bq, 0, none⟩ = false := frozen_of_row _ _ _ _ _ HBX7.out; clear hb7 hk7 hr7))
        have hel : (L.eraseIdx idx).length = L.length - 1 := List.length_eraseIdx_of_lt HID.out
        have hLpos := HLp.out
        have hbxN := heap_setCell_same w7 bq 0 _ _ (.slice (some ⟨g, 0, none⟩) (L.length - 1) cl) HBX7.out
        have hown6 : ∀ g', (Value.slice A6 (out ++ [(p1, p2)]).length c6).ownBlock = some g' → bq < g' := fun g' h => by
          rcases HG6.out.own g' h with h1 | h1
          · exact hoo.out g' h1
          · have := HB5.out.size; omega
        have hb6 : Below (w.heap.size + 1) w5 w6 := HRO5.out.belowG HG6.out LB5
        have hbAll := ((hb.out.trans (HB5.out.mono LB)).trans hb6).trans HB7.out
        have hro7 : RowQ (w.heap.size + 1) w7 (.slice A6 (out ++ [(p1, p2)]).length c6) (out ++ [(p1, p2)]) := owns_keep HRO6.out (fun g' o h1 h2 => HK7.out g' o (by have := hown6 g' h1; omega) h2)
        refine ⟨⟨some ⟨g, 0, none⟩, cl, out ++ [(p1, p2)], L.eraseIdx idx, ?_, ?_, ?_, fun g' h => hol.out g' h, ?_, hbAll.setCell (p := ⟨bq, 0, none⟩) LQ.out _, ?_, fun p hp => hal.out p (List.mem_of_mem_eraseIdx hp), ?_, ?_⟩, ?_⟩
        · show _ = _
          rw [hel]; exact hbxN
        · show RowQ _ _ _ _
          rw [hel]
          exact HR7.out.setO (fun e => by have := hol.out bq e; omega) 0 _
        · have := hro7.setO (g := bq) (fun e => by have := hown6 bq e; omega) 0 (.slice (some ⟨g, 0, none⟩) (L.length - 1) cl)
          rw [List.length_append] at this
          exact this
        · intro g' h
          exact hown6 g' (by rw [List.length_append]; exact h)
        · show _ = _
          rw [List.append_assoc, ← hfe.out, firL_step r HIE.out HPP.out]; rfl
        · show _ ≤ _
          have := hl8.out; omega
        · show _ ≤ _
          have := ho8.out; have := hl8.out; rw [List.length_append, List.length_singleton]; omega
        · have m1 : (w7.setCell ⟨bq, 0, none⟩ (.slice (some ⟨g, 0, none⟩) (L.length - 1) cl)).cell? ⟨bq, 0, none⟩ = some (.slice (some ⟨g, 0, none⟩) (L.length - 1) cl) := cell_block hbxN rfl
          rw [m1, q0]
          show L.length - 1 < L.length
          omega
  · rw [if_neg h0]
    have hk := onceK_cases r l true
    obtain ⟨k, hkk⟩ : ∃ k, k = onceK r l true := ⟨_, rfl⟩
    rw [← hkk] at HC hk h0 ⊢
    have hk0 : (k == 0) = false := by rw [beq_eq_false_iff_ne]; exact h0
    have hk1 : (k != 0) = true := by unfold bne; rw [hk0]; rfl
    clear hkk hA hB hk h0
    go_enter Try.func17, Try.ntmps17
    go_wp2_with (first
      | ((with_reducible refine gate (N := 10) rfl ?_); refine wp_roof 31 Try.underlying31 rfl Try.infoRoof rfl (.tmp 2) rfl w.heap.size rfl r hr HX.out ?_)
      | (go_at_call 28; ((with_reducible refine (HC _ (HA.out.below HW.out (Nat.le_refl _))).out.mono ?_); rintro e w1 ⟨rfl, hb1⟩); have HW1 := hid (HW.out.trans (hb1.mono HW.out.size)); clear hb1))
    go_ret2
    exact ⟨_, rfl, HW1.out, World.ownsRow_nil _ _ _ _⟩
end Go.Proofs.Ytfbgldkdlmipoaa

/- A region that draws its order: some operations of unforeknown result, in whatever order their edges leave open; all others of foreknown values. -/
namespace Go.Proofs.Ytfbgldkdlmipoaa
open Go.RowKit
set_option linter.unusedSimpArgs false
set_option linter.unusedVariables false

def dstOf (l : List Oper) (j : Nat) : Option Nat := match l[j]? with | some o => o.dst | none => none
theorem dstOf_some {l : List Oper} {j : Nat} {o : Oper} (h : l[j]? = some o) : dstOf l j = o.dst := by unfold dstOf; rw [h]
theorem dstOf_inv {l : List Oper} {j t : Nat} (h : dstOf l j = some t) : ∃ o, l[j]? = some o ∧ o.dst = some t := by
  unfold dstOf at h
  cases hl : l[j]? with
  | none => rw [hl] at h; cases h
  | some o => rw [hl] at h; exact ⟨o, rfl, h⟩
/-- qi: the numbers of the foreknown ones, wi: of the others; what a foreknown one looks at no other one writes. -/
def chainB (l : List Oper) (qi wi : List Nat) : Bool :=
  ((List.range l.length).all fun i => qi.contains i != wi.contains i) && (qi.all fun i => decide (i < l.length)) && (wi.all fun i => decide (i < l.length)) && decide (qi.Pairwise (· < ·)) && decide (wi.Pairwise (· < ·)) &&
  (qi.all fun i => match l[i]? with | some o => (eyes o).all fun t => wi.all fun j => !(dstOf l j == some t) | none => true)
theorem chainB_of {l : List Oper} {qi wi : List Nat} (h : chainB l qi wi = true) :
    (∀ i, i < l.length → (i ∈ qi ∧ i ∉ wi) ∨ (i ∈ wi ∧ i ∉ qi)) ∧ (∀ i ∈ qi, i < l.length) ∧ (∀ i ∈ wi, i < l.length) ∧ qi.Pairwise (· < ·) ∧ wi.Pairwise (· < ·) ∧
    (∀ i ∈ qi, ∀ o, l[i]? = some o → ∀ t ∈ eyes o, ∀ j ∈ wi, dstOf l j ≠ some t) := by
  unfold chainB at h
  simp only [Bool.and_eq_true, List.all_eq_true, decide_eq_true_eq] at h
  obtain ⟨⟨⟨⟨⟨h1, h2⟩, h3⟩, h4⟩, h5⟩, h6⟩ := h
  refine ⟨fun i hi => ?_, h2, h3, h4, h5, fun i hi o ho t ht j hj hd => ?_⟩
  · have := h1 i (List.mem_range.2 hi)
    by_cases a : i ∈ qi <;> by_cases b : i ∈ wi <;> simp [a, b] at this ⊢
  · have := h6 i hi
    rw [ho] at this
    simp only [List.all_eq_true] at this
    have := this t ht j hj
    rw [hd] at this
    simp at this
theorem pick_get (l : List Oper) : ∀ (qi : List Nat) (_ : ∀ i ∈ qi, i < l.length) (k : Nat), (qi.filterMap fun i => l[i]?)[k]? = (qi[k]?).bind fun i => l[i]?
  | [], _, k => by simp
  | i :: qi, h, k => by
    have hi := h i (by simp)
    rw [List.filterMap_cons, List.getElem?_eq_getElem hi]
    cases k with
    | zero => simp [List.getElem?_eq_getElem hi]
    | succ k =>
      simp only [List.getElem?_cons_succ]
      exact pick_get l qi (fun j hj => h j (by simp [hj])) k
def updR (res : Nat → Option Value) (i : Nat) (v : Value) : Nat → Option Value := fun j => if j = i then some v else res j
def putW (l : List Oper) (val : Nat → Value) (ws : List Nat) (a : Act) : Act := ws.foldl (fun a j => a.put (dstOf l j) (val j)) a
theorem putW_size (l : List Oper) (val : Nat → Value) : ∀ (ws : List Nat) (a : Act), (putW l val ws a).tmps.size = a.tmps.size ∧ (putW l val ws a).defers = a.defers
  | [], a => ⟨rfl, rfl⟩
  | j :: ws, a => by
    have := putW_size l val ws (a.put (dstOf l j) (val j))
    rw [put_size, put_defers'] at this
    exact this
theorem putW_other (l : List Oper) (val : Nat → Value) (t : Nat) : ∀ (ws : List Nat) (a : Act), (∀ j ∈ ws, dstOf l j ≠ some t) → (putW l val ws a).tmps.getD t undef = a.tmps.getD t undef
  | [], a, _ => rfl
  | j :: ws, a, h => by
    have := putW_other l val t ws (a.put (dstOf l j) (val j)) (fun j' hj' => h j' (by simp [hj']))
    rw [put_other _ _ _ _ (h j (by simp))] at this
    exact this
theorem putW_here (l : List Oper) (val : Nat → Value) (t j0 : Nat) (hd : dstOf l j0 = some t) : ∀ (ws : List Nat) (a : Act), j0 ∈ ws → (∀ j ∈ ws, j ≠ j0 → dstOf l j ≠ some t) → t < a.tmps.size → (putW l val ws a).tmps.getD t undef = val j0
  | [], a, h, _, _ => by simp at h
  | j :: ws, a, h, h1, hs => by
    by_cases hin : j0 ∈ ws
    · exact putW_here l val t j0 hd ws (a.put (dstOf l j) (val j)) hin (fun j' hj' => h1 j' (by simp [hj'])) (by rw [put_size]; exact hs)
    · obtain rfl : j0 = j := by rcases List.mem_cons.1 h with h | h; exact h; exact absurd h hin
      have := putW_other l val t ws (a.put (dstOf l j0) (val j0)) (fun j' hj' => h1 j' (by simp [hj']) (by rintro rfl; exact hin hj'))
      show (putW l val ws (a.put (dstOf l j0) (val j0))).tmps.getD t undef = val j0
      rw [this, hd, put_here _ _ _ hs]
set_option maxHeartbeats 1600000 in
theorem wp_region_wildK {P : Program} {id : Nat} {Q : Exit → Act → World → Prop} {a0 : Act} {W : World} {l : List Oper} (B : Nat) (qi wi : List Nat) (aσ : Act) (R : (Nat → Option Value) → World → Prop)
    (hm : P.follows .mixedOrders = true) (hback : backB l = true) (hn : lawB l a0.tmps.size = true) (hc : chainB l qi wi = true) (hBW : B ≤ W.heap.size)
    (hpre : ∀ (B' : Nat) (W' : World), Below B W W' → B ≤ B' → B' ≤ W'.heap.size → wpQuiet P l.toArray (fun w' => ∃ x : Ext B' W', w' = x.out) (fun a' => a' = aσ) (qi.filterMap fun i => l[i]?) a0)
    (h0 : ∀ w, Below W.heap.size W w → R (fun _ => none) w)
    (hR : ∀ res V V', R res V → Below V.heap.size V V' → R res V')
    (hstep : ∀ (i : Nat) (o : Oper), i ∈ wi → l[i]? = some o → ∀ (res : Nat → Option Value) (a : Act) (w : World), res i = none → R res w → Below B W w → B ≤ w.heap.size →
      (∀ t ∈ eyes o, (∀ j ∈ wi, dstOf l j = some t → res j = some (a.tmps.getD t undef)) ∧ ((∀ j ∈ wi, dstOf l j ≠ some t) → a.tmps.getD t undef = aσ.tmps.getD t undef)) →
      (∀ e ∈ o.after, Region.binds .any e = true → e.on ∈ wi → (res e.on).isSome = true) →
      (∃ f args, (∀ w, (execOp a.eval o).run P w = .ok (.enter f args) w) ∧ Calls P f args w fun e w' => ∃ v, e = .returned v ∧ R (updR res i v) w' ∧ Below B W w') ∨
      (∃ v w', (execOp a.eval o).run P w = .ok (.value v) w' ∧ R (updR res i v) w' ∧ Below B W w') ∨
      (∃ w', (execOp a.eval o).run P w = .ok .skip w' ∧ R (updR res i undef) w' ∧ Below B W w'))
    (hend : ∀ (val : Nat → Value) (w : World), R (fun j => if j ∈ wi then some (val j) else none) w → Below B W w → Q .normal (putW l val wi aσ) w) :
    (Code.region id l.toArray true).wp P Q a0 W := by
  obtain ⟨hcov, hqi, hwi, hqp, hwp, hqe⟩ := chainB_of hc
  have hL := fun i o ho => lawB_of hn i o ho
  have hone : ∀ (i : Nat) (o : Oper) (j : Nat) (o' : Oper) (d : Nat), l[i]? = some o → l[j]? = some o' → i ≠ j → o.dst = some d → o'.dst ≠ some d := fun i o j o' d hi hj hne hd => (hL j o' hj).2.2.2.1 i o hi hne d hd
  obtain ⟨ql, hql⟩ : ∃ ql, ql = qi.filterMap fun i => l[i]? := ⟨_, rfl⟩
  rw [← hql] at hpre
  have hget : ∀ k, ql[k]? = (qi[k]?).bind fun i => l[i]? := fun k => by rw [hql]; exact pick_get l qi hqi k
  have htake : ∀ (k : Nat) (o : Oper), ql[k]? = some o → ∃ i, qi[k]? = some i ∧ l[i]? = some o := fun k o h => by
    rw [hget k] at h
    cases hk : qi[k]? with
    | none => rw [hk] at h; cases h
    | some i => rw [hk] at h; exact ⟨i, rfl, h⟩
  have hpos : ∀ (i : Nat) (o : Oper), i ∈ qi → l[i]? = some o → ∃ k, qi[k]? = some i ∧ ql[k]? = some o := fun i o hi ho => by
    obtain ⟨k, hk, e⟩ := List.getElem_of_mem hi
    have : qi[k]? = some i := by rw [List.getElem?_eq_getElem hk, e]
    exact ⟨k, this, by rw [hget k, this]; exact ho⟩
  have hord : ∀ k k' i i' : Nat, qi[k]? = some i → qi[k']? = some i' → i' < i → k' < k := fun k k' i i' h h' hlt => by
    obtain ⟨h1, rfl⟩ := List.getElem?_eq_some_iff.1 h
    obtain ⟨h2, rfl⟩ := List.getElem?_eq_some_iff.1 h'
    rcases Nat.lt_trichotomy k' k with h3 | h3 | h3
    · exact h3
    · subst h3; omega
    · have := List.pairwise_iff_getElem.1 hqp k k' h1 h2 h3; omega
  have hinj : ∀ k k' i : Nat, qi[k]? = some i → qi[k']? = some i → k = k' := fun k k' i h h' => by
    obtain ⟨h1, e1⟩ := List.getElem?_eq_some_iff.1 h
    obtain ⟨h2, e2⟩ := List.getElem?_eq_some_iff.1 h'
    rcases Nat.lt_trichotomy k' k with h3 | h3 | h3
    · have := List.pairwise_iff_getElem.1 hqp k' k h2 h1 h3; omega
    · exact h3.symm
    · have := List.pairwise_iff_getElem.1 hqp k k' h1 h2 h3; omega
  have hd1 : ∀ (k : Nat) (o : Oper) (d : Nat), ql[k]? = some o → o.dst = some d → d < a0.tmps.size := fun k o d h hd => by
    obtain ⟨i, _, hi⟩ := htake k o h
    exact (hL i o hi).2.2.1 d hd
  have honeq : ∀ (k : Nat) (o : Oper) (j : Nat) (o' : Oper) (d : Nat), ql[k]? = some o → ql[j]? = some o' → k ≠ j → o.dst = some d → o'.dst ≠ some d := fun k o j o' d h h' hne hd => by
    obtain ⟨i1, e1, h1⟩ := htake k o h
    obtain ⟨i2, e2, h2⟩ := htake j o' h'
    exact hone i1 o i2 o' d h1 h2 (by rintro rfl; exact hne (hinj _ _ _ e1 e2)) hd
  obtain ⟨vs0, hst0, hfin0⟩ := stepsS_of _ _ (hpre B W (Below.refl _ _) (Nat.le_refl _) hBW)
  have hsize : aσ.tmps.size = a0.tmps.size := by rw [← hfin0, putsS_size]
  have hdef : aσ.defers = a0.defers := by rw [← hfin0, putsS_defers]
  have hout0 : ∀ t : Nat, (∀ i ∈ qi, dstOf l i ≠ some t) → aσ.tmps.getD t undef = a0.tmps.getD t undef := by
    intro t ht
    rw [← hfin0, putsS_other]
    intro o' hm' hd
    obtain ⟨k, hk, rfl⟩ := List.getElem_of_mem hm'
    obtain ⟨i, e1, hi⟩ := htake k _ (List.getElem?_eq_getElem hk)
    exact ht i (List.mem_of_getElem? e1) (by rw [dstOf_some hi]; exact hd)
  refine wp_region_inv hm hback (fun L a w => a.defers = a0.defers ∧ a.tmps.size = a0.tmps.size ∧ (∀ t : Nat, (∀ (i : Nat) (o : Oper), l[i]? = some o → o.dst ≠ some t) → a.tmps.getD t undef = a0.tmps.getD t undef) ∧
    (∀ i ∈ qi, ∀ (o : Oper) (d : Nat), l[i]? = some o → L i = true → o.dst = some d → a.tmps.getD d undef = aσ.tmps.getD d undef) ∧
    ∃ res : Nat → Option Value, R res w ∧ Below B W w ∧ (∀ j, (res j).isSome = true ↔ (j ∈ wi ∧ L j = true)) ∧ (∀ (j : Nat) (o : Oper) (d : Nat) (v : Value), l[j]? = some o → o.dst = some d → res j = some v → a.tmps.getD d undef = v)) ?_ ?_ ?_
  · intro L hL0
    refine ⟨rfl, rfl, fun _ _ => rfl, fun i hi o d ho hLi => (by rw [hL0 i (hqi i hi)] at hLi; cases hLi), fun _ => none, h0 _ ((Below.refl _ W).drew), (Below.refl B W).drew, fun j => ⟨fun h => by simp at h, fun h => ?_⟩, fun j o d v _ _ h => by cases h⟩
    rw [hL0 j (hwi j h.1)] at h
    exact absurd h.2 (by simp)
  · intro L a w i o ho hLi hafter ⟨i1, i2, i3, i4, res, i5, i6, i7, i8⟩
    obtain ⟨hg, hns, hdl, hd2, heyes⟩ := hL i o ho
    have hil := (List.getElem?_eq_some_iff.1 ho).1
    have hBw : B ≤ w.heap.size := Nat.le_trans hBW i6.size
    rw [if_pos (by simp [Region.wanted, hg])]
    rcases hcov i hil with ⟨hq, hnw⟩ | ⟨hw, hnq⟩
    · -- a foreknown one
      obtain ⟨k, hk, hkl⟩ := hpos i o hq ho
      obtain ⟨vs, hst, hfin⟩ := stepsS_of _ _ (hpre w.heap.size w i6 hBw (Nat.le_refl _))
      obtain ⟨v, ai, hY, hv, hno, hyes⟩ := stepsS_key hst hfin hd1 honeq k o hkl
      have he : execOp a.eval o = execOp ai.eval o := by
        refine execOp_congr o (fun c b hc => by rw [notSelect, hc] at hns; cases hns) (eval_eyes fun t ht => ?_)
        by_cases hex : ∃ (j : Nat) (o' : Oper), l[j]? = some o' ∧ o'.dst = some t
        · obtain ⟨j, o', hj, hd⟩ := hex
          obtain ⟨hji, e, he, hb, hon⟩ := heyes t ht j o' hj hd
          have hLj : L j = true := hon ▸ hafter e he hb
          have hjq : j ∈ qi := by
            rcases hcov j (List.getElem?_eq_some_iff.1 hj).1 with h | h
            · exact h.1
            · exact absurd ((dstOf_some hj).trans hd) (hqe i hq o ho t ht j h.1)
          obtain ⟨k', hk', hkl'⟩ := hpos j o' hjq hj
          rw [hyes t k' o' (hord k k' i j hk hk' hji) hkl' hd]
          exact i4 j hjq o' t hj hLj hd
        · have hn' : ∀ (j : Nat) (o' : Oper), l[j]? = some o' → o'.dst ≠ some t := fun j o' hj hd => hex ⟨j, o', hj, hd⟩
          rw [i3 t hn', hno t fun k' o' hk' => by obtain ⟨j, _, hj⟩ := htake k' o' hk'; exact hn' j o' hj]
      have hY' := hY.of_same he (by simp [Region.wanted, hg])
      rcases hY' with ⟨_, hqv⟩ | ⟨hw0, _⟩
      · refine Oper.wp_of_quiet (C := fun w' => ∃ x : Ext w.heap.size w, w' = x.out) (K := fun a' => a' = a.put o.dst v) ⟨⟨w, Below.refl _ _⟩, rfl⟩ ?_ ⟨v, hqv, rfl⟩
        rintro a' w' ⟨z, rfl⟩ rfl
        refine ⟨(put_defers' _ _ _).trans i1, (put_size _ _ _).trans i2, fun t ht => ?_, fun j hj o' d hj' hLj hd => ?_, res, hR res w _ i5 z.below, i6.trans (z.below.mono hBw), fun j => ?_, fun j o' d u hj hd hr => ?_⟩
        · rw [put_other _ _ _ _ (ht i o ho)]; exact i3 t ht
        · by_cases hji : j = i
          · subst hji
            rw [ho] at hj'
            obtain rfl := Option.some.inj hj'
            rw [hd, put_here _ _ _ (by rw [i2]; exact hdl d hd)]
            exact hv d hd
          · have hLj' : L j = true := by unfold plus at hLj; rwa [if_neg hji] at hLj
            rw [put_other _ _ _ _ (hd2 j o' hj' hji d hd)]; exact i4 j hj o' d hj' hLj' hd
        · rw [i7 j]
          unfold plus
          constructor
          · rintro ⟨h1, h2⟩; exact ⟨h1, by rw [h2]; simp⟩
          · rintro ⟨h1, h2⟩
            refine ⟨h1, ?_⟩
            by_cases hji : j = i
            · subst hji; exact absurd h1 hnw
            · rwa [if_neg hji] at h2
        · have hji : j ≠ i := by
            rintro rfl
            have := (i7 j).1 (by rw [hr]; rfl)
            exact hnw this.1
          rw [put_other _ _ _ _ (hd2 j o' hj hji d hd)]; exact i8 j o' d u hj hd hr
      · simp [Region.wanted, hg] at hw0
    · -- one of unforeknown result
      have hri : res i = none := by
        cases h : res i with
        | none => rfl
        | some v => have := (i7 i).1 (by rw [h]; rfl); rw [hLi] at this; exact absurd this.2 (by simp)
      have hey : ∀ t ∈ eyes o, (∀ j ∈ wi, dstOf l j = some t → res j = some (a.tmps.getD t undef)) ∧ ((∀ j ∈ wi, dstOf l j ≠ some t) → a.tmps.getD t undef = aσ.tmps.getD t undef) := by
        intro t ht
        constructor
        · intro j hj hd
          obtain ⟨o', hj', hd'⟩ := dstOf_inv hd
          obtain ⟨hji, e, he, hb, hon⟩ := heyes t ht j o' hj' hd'
          have hLj : L j = true := hon ▸ hafter e he hb
          have := (i7 j).2 ⟨hj, hLj⟩
          obtain ⟨v, hv⟩ := Option.isSome_iff_exists.1 this
          rw [hv, i8 j o' t v hj' hd' hv]
        · intro hno
          by_cases hex : ∃ j ∈ qi, dstOf l j = some t
          · obtain ⟨j, hj, hd⟩ := hex
            obtain ⟨o', hj', hd'⟩ := dstOf_inv hd
            obtain ⟨hji, e, he, hb, hon⟩ := heyes t ht j o' hj' hd'
            exact i4 j hj o' t hj' (hon ▸ hafter e he hb) hd'
          · have hnq' : ∀ j ∈ qi, dstOf l j ≠ some t := fun j hj hd => hex ⟨j, hj, hd⟩
            rw [hout0 t hnq']
            refine i3 t fun j o' hj hd => ?_
            rcases hcov j (List.getElem?_eq_some_iff.1 hj).1 with h | h
            · exact hnq' j h.1 ((dstOf_some hj).trans hd)
            · exact hno j h.1 ((dstOf_some hj).trans hd)
      have hdep : ∀ e ∈ o.after, Region.binds .any e = true → e.on ∈ wi → (res e.on).isSome = true := fun e he hb hin => (i7 e.on).2 ⟨hin, hafter e he hb⟩
      have key : ∀ v w', R (updR res i v) w' → Below B W w' → (fun L a w => a.defers = a0.defers ∧ a.tmps.size = a0.tmps.size ∧ (∀ t : Nat, (∀ (i : Nat) (o : Oper), l[i]? = some o → o.dst ≠ some t) → a.tmps.getD t undef = a0.tmps.getD t undef) ∧
          (∀ i ∈ qi, ∀ (o : Oper) (d : Nat), l[i]? = some o → L i = true → o.dst = some d → a.tmps.getD d undef = aσ.tmps.getD d undef) ∧
          ∃ res : Nat → Option Value, R res w ∧ Below B W w ∧ (∀ j, (res j).isSome = true ↔ (j ∈ wi ∧ L j = true)) ∧ (∀ (j : Nat) (o : Oper) (d : Nat) (v : Value), l[j]? = some o → o.dst = some d → res j = some v → a.tmps.getD d undef = v)) (plus L i) (a.put o.dst v) w' := by
        intro v w' hR' hB'
        refine ⟨(put_defers' _ _ _).trans i1, (put_size _ _ _).trans i2, fun t ht => ?_, fun j hj o' d hj' hLj hd => ?_, updR res i v, hR', hB', fun j => ?_, fun j o' d u hj hd hr => ?_⟩
        · rw [put_other _ _ _ _ (ht i o ho)]; exact i3 t ht
        · have hji : j ≠ i := by rintro rfl; exact hnq hj
          have hLj' : L j = true := by unfold plus at hLj; rwa [if_neg hji] at hLj
          rw [put_other _ _ _ _ (hd2 j o' hj' hji d hd)]; exact i4 j hj o' d hj' hLj' hd
        · unfold updR plus
          by_cases hji : j = i
          · subst hji; simp [hw]
          · rw [if_neg hji, if_neg hji]; exact i7 j
        · unfold updR at hr
          by_cases hji : j = i
          · subst hji
            rw [if_pos rfl] at hr
            obtain rfl := Option.some.inj hr
            rw [ho] at hj
            obtain rfl := Option.some.inj hj
            rw [hd, put_here _ _ _ (by rw [i2]; exact hdl d hd)]
          · rw [if_neg hji] at hr
            rw [put_other _ _ _ _ (hd2 j o' hj hji d hd)]; exact i8 j o' d u hj hd hr
      rcases hstep i o hw ho res a w hri i5 i6 hBw hey hdep with ⟨f, args, h1, h2⟩ | ⟨v, w', h1, h2, h3⟩ | ⟨w', h1, h2, h3⟩
      · unfold Oper.wp
        rw [h1]
        simp only [Oper.upon]
        refine h2.mono ?_
        rintro e w' ⟨v, rfl, h3, h4⟩
        exact key v w' h3 h4
      · unfold Oper.wp
        rw [h1]
        exact key v w' h2 h3
      · unfold Oper.wp
        rw [h1]
        exact key undef w' h2 h3
  · intro L a w hall ⟨i1, i2, i3, i4, res, i5, i6, i7, i8⟩
    have hres : res = fun j => if j ∈ wi then some ((res j).getD undef) else none := by
      funext j
      by_cases hj : j ∈ wi
      · obtain ⟨v, hv⟩ := Option.isSome_iff_exists.1 ((i7 j).2 ⟨hj, hall j (hwi j hj)⟩)
        rw [if_pos hj, hv]; rfl
      · rw [if_neg hj]
        cases h : res j with
        | none => rfl
        | some v => exact absurd ((i7 j).1 (by rw [h]; rfl)).1 hj
    have : a = putW l (fun j => (res j).getD undef) wi aσ := by
      obtain ⟨p1, p2⟩ := putW_size l (fun j => (res j).getD undef) wi aσ
      refine act_ext (i2.trans (hsize.symm.trans p1.symm)) (i1.trans (hdef.symm.trans p2.symm)) fun t => ?_
      by_cases hw : ∃ j ∈ wi, dstOf l j = some t
      · obtain ⟨j, hj, hd⟩ := hw
        obtain ⟨o, ho, hdo⟩ := dstOf_inv hd
        rw [putW_here l _ t j hd wi aσ hj (fun j' hj' hne hd' => by
          obtain ⟨o', ho', hdo'⟩ := dstOf_inv hd'
          exact hone j o j' o' t ho ho' (Ne.symm hne) hdo hdo') (by rw [hsize]; exact (hL j o ho).2.2.1 t hdo)]
        obtain ⟨v, hv⟩ := Option.isSome_iff_exists.1 ((i7 j).2 ⟨hj, hall j (hwi j hj)⟩)
        rw [i8 j o t v ho hdo hv, hv]; rfl
      · rw [putW_other l _ t wi aσ fun j hj hd => hw ⟨j, hj, hd⟩]
        by_cases hq : ∃ j ∈ qi, dstOf l j = some t
        · obtain ⟨j, hj, hd⟩ := hq
          obtain ⟨o, ho, hdo⟩ := dstOf_inv hd
          exact i4 j hj o t ho (hall j (hqi j hj)) hdo
        · rw [hout0 t fun j hj hd => hq ⟨j, hj, hd⟩]
          refine i3 t fun j o' hj hd => ?_
          rcases hcov j (List.getElem?_eq_some_iff.1 hj).1 with h | h
          · exact hq ⟨j, h.1, (dstOf_some hj).trans hd⟩
          · exact hw ⟨j, h.1, (dstOf_some hj).trans hd⟩
    rw [this]
    exact hend _ w (by rw [← hres]; exact i5) i6
end Go.Proofs.Ytfbgldkdlmipoaa

/- LeastLifted, the program's. -/
namespace Go.Proofs.Ytfbgldkdlmipoaa
open Go.RowKit
set_option linter.unusedSimpArgs false
set_option linter.unusedVariables false

def leaV (r : Rf) (l : List (Int × Int)) : List (Int × Int) := if onceK r l true = 0 then leastF r (sortP l) else []
def leaC (r : Rf) (l : List (Int × Int)) : Int := if onceK r l true = 0 then leastC r (sortP l) else 0
/-- An array of numbers, as a function. -/
def arrC (f : Nat → Int) (N : Nat) : Array Value := ((List.range N).map fun x => Value.int .i64 (f x)).toArray
theorem arrC_size (f : Nat → Int) (N : Nat) : (arrC f N).size = N := by simp [arrC]
theorem arrC_get (f : Nat → Int) {N x : Nat} (h : x < N) : (arrC f N)[x]? = some (.int .i64 (f x)) := by
  unfold arrC
  rw [List.getElem?_toArray, List.getElem?_map, List.getElem?_range h]; rfl
theorem arrC_set (f : Nat → Int) {N x : Nat} (h : x < N) (v : Int) : (arrC f N).setIfInBounds x (.int .i64 v) = arrC (fun y => if y = x then v else f y) N := by
  apply Array.ext_getElem?
  intro y
  rw [Array.getElem?_setIfInBounds]
  by_cases hy : y < N
  · rw [arrC_size]
    by_cases e : x = y
    · subst e; rw [if_pos rfl, if_pos h, arrC_get _ h, if_pos rfl]
    · rw [if_neg e, arrC_get _ hy, arrC_get _ hy, if_neg (fun e' => e e'.symm)]
  · have h1 : (arrC f N)[y]? = none := Array.getElem?_eq_none (by rw [arrC_size]; omega)
    have h2 : (arrC (fun z => if z = x then v else f z) N)[y]? = none := Array.getElem?_eq_none (by rw [arrC_size]; omega)
    rw [h1, h2, if_neg (by omega)]
theorem arrC_congr {f g : Nat → Int} {N : Nat} (h : ∀ x, x < N → f x = g x) : arrC f N = arrC g N := by
  unfold arrC
  congr 1
  refine List.map_congr_left fun x hx => ?_
  rw [h x (List.mem_range.1 hx)]
theorem made_zero (N : Nat) : madeCells #[.int .i64 0] N = arrC (fun _ => 0) N := by
  apply Array.ext_getElem?
  intro y
  by_cases hy : y < N
  · rw [arrC_get _ hy]
    simp [madeCells, hy, Nat.mod_one]
  · rw [Array.getElem?_eq_none (by rw [size_madeCells]; omega), Array.getElem?_eq_none (by rw [arrC_size]; omega)]
theorem block_of_full {W : World} {B g N : Nat} {e : TypeId} {cs : Array Value} (h : W.ownsRow B e 1 (.slice (some ⟨g, 0, none⟩) N N) N cs.toList) (hc : cs.size = N) : W.heap[g]? = some (.cells cs e (0, 0)) := by
  rcases h.2 with ⟨e, _⟩ | ⟨g', cap, cur, e, hb, hheap, hn, hm, hsz, htk⟩
  · cases e
  · obtain ⟨e1, _, rfl⟩ := Value.slice.inj e
    obtain rfl : g = g' := by simpa using e1
    rw [hheap]
    have hl : cur.toList.length = N := by simpa using hsz
    rw [Nat.mul_one, List.take_of_length_le (by omega)] at htk
    rw [Array.toList_inj.1 htk]
theorem stepV_b (r : Rf) (S : List (Int × Int)) (T : Nat → Int × Nat) (s : Nat) (hT : ∀ x, 0 ≤ (T x).1) : ∀ k, 0 ≤ (stepV r S T s k).1 ∧ (stepV r S T s k).1 ≤ 1000
  | 0 => by simp [stepV]
  | k + 1 => by
    have h1 := stepV_b r S T s hT k
    have h2 := liftP_b r (S.getD k (0, 0)) (subS S s)
    have h3 := hT (s ||| 2 ^ k)
    unfold stepV
    split
    · exact h1
    · split
      · rename_i h4; exact ⟨by show 0 ≤ _ + _; omega, by show _ + _ ≤ _; omega⟩
      · exact h1
theorem tblV_b (r : Rf) (S : List (Int × Int)) : ∀ (j s : Nat), 0 ≤ (tblV r S j s).1 ∧ (tblV r S j s).1 ≤ 100000
  | 0, s => by simp [tblV]
  | j + 1, s => by
    unfold tblV
    split
    · have := stepV_b r S (tblV r S j) s (fun x => (tblV_b r S j x).1) S.length
      omega
    · exact tblV_b r S j s
/-- How the world stands: the roof, the two tables, the places. -/
structure LeaH (w : World) (r : Rf) (gl gn N : Nat) (f g : Nat → Int) (A : Option Addr) (c : Nat) (S : List (Int × Int)) (V : World) : Prop where
  roof : V.heap[w.heap.size]? = some (.cells (rcells r) 31 (0, 0))
  least : V.heap[gl]? = some (.cells (arrC f N) 2 (0, 0))
  next : V.heap[gn]? = some (.cells (arrC g N) 3 (0, 0))
  row : RowQ (w.heap.size + 1) V (.slice A S.length c) S
  off : ∀ x, (Value.slice A S.length c).ownBlock = some x → x ≠ gl ∧ x ≠ gn
  below : Below w.heap.size w V
  lo : w.heap.size < gl ∧ gl < gn
theorem LeaH.keep {w : World} {r : Rf} {gl gn N : Nat} {f g : Nat → Int} {A : Option Addr} {c : Nat} {S : List (Int × Int)} {V V' : World} (h : LeaH w r gl gn N f g A c S V) (hb : Below V.heap.size V V') : LeaH w r gl gn N f g A c S V' :=
  ⟨block_below hb h.roof (block_lt h.roof), block_below hb h.least (block_lt h.least), block_below hb h.next (block_lt h.next), h.row.below hb (Nat.le_refl _), h.off, h.below.trans (hb.mono h.below.size), h.lo⟩
theorem LeaH.setL {w : World} {r : Rf} {gl gn N : Nat} {f g : Nat → Int} {A : Option Addr} {c : Nat} {S : List (Int × Int)} {V : World} (h : LeaH w r gl gn N f g A c S V) {x : Nat} (hx : x < N) (v : Int) : LeaH w r gl gn N (fun y => if y = x then v else f y) g A c S (V.setCell ⟨gl, x, none⟩ (.int .i64 v)) := by
  have l := h.lo
  refine ⟨block_set_other h.roof _ (by simp; omega), ?_, block_set_other h.next _ (by simp; omega), h.row.setO (fun e => (h.off _ e).1 rfl) _ _, h.off, h.below.setCell (p := ⟨gl, x, none⟩) (by simp; omega) _, h.lo⟩
  rw [← arrC_set f hx v]
  exact heap_setCell_same V _ _ _ _ _ h.least
theorem LeaH.setN {w : World} {r : Rf} {gl gn N : Nat} {f g : Nat → Int} {A : Option Addr} {c : Nat} {S : List (Int × Int)} {V : World} (h : LeaH w r gl gn N f g A c S V) {x : Nat} (hx : x < N) (v : Int) : LeaH w r gl gn N f (fun y => if y = x then v else g y) A c S (V.setCell ⟨gn, x, none⟩ (.int .i64 v)) := by
  have l := h.lo
  refine ⟨block_set_other h.roof _ (by simp; omega), block_set_other h.least _ (by simp; omega), ?_, h.row.setO (fun e => (h.off _ e).2 rfl) _ _, h.off, h.below.setCell (p := ⟨gn, x, none⟩) (by simp; omega) _, h.lo⟩
  rw [← arrC_set g hx v]
  exact heap_setCell_same V _ _ _ _ _ h.next
theorem LeaH.cellL {w : World} {r : Rf} {gl gn N : Nat} {f g : Nat → Int} {A : Option Addr} {c : Nat} {S : List (Int × Int)} {V : World} (h : LeaH w r gl gn N f g A c S V) {x : Nat} (hx : x < N) : V.cell? ⟨gl, x, none⟩ = some (.int .i64 (f x)) ∧ V.frozen? ⟨gl, x, none⟩ = false :=
  ⟨cell_block h.least (arrC_get f hx), frozen_of_row _ _ _ _ _ h.least⟩
theorem LeaH.cellN {w : World} {r : Rf} {gl gn N : Nat} {f g : Nat → Int} {A : Option Addr} {c : Nat} {S : List (Int × Int)} {V : World} (h : LeaH w r gl gn N f g A c S V) {x : Nat} (hx : x < N) : V.cell? ⟨gn, x, none⟩ = some (.int .i64 (g x)) ∧ V.frozen? ⟨gn, x, none⟩ = false :=
  ⟨cell_block h.next (arrC_get g hx), frozen_of_row _ _ _ _ _ h.next⟩
theorem LeaH.congr {w : World} {r : Rf} {gl gn N : Nat} {f f' g g' : Nat → Int} {A : Option Addr} {c : Nat} {S : List (Int × Int)} {V : World} (h : LeaH w r gl gn N f g A c S V) (hf : ∀ x, x < N → f x = f' x) (hg : ∀ x, x < N → g x = g' x) : LeaH w r gl gn N f' g' A c S V :=
  ⟨h.roof, by rw [← arrC_congr hf]; exact h.least, by rw [← arrC_congr hg]; exact h.next, h.row, h.off, h.below, h.lo⟩
theorem Try.infoI64z : (Try.prog.info? 2).map (fun i => (i.zero, i.size, i.bytes)) = some (some (.int .i64 0), 1, 8) := by kernel_rfl
theorem Try.infoIntz : (Try.prog.info? 3).map (fun i => (i.zero, i.size, i.bytes)) = some (some (.int .i64 0), 1, 8) := by kernel_rfl
theorem getD_l (a : Act) (t : Nat) : a.tmps[t]?.getD undef = a.tmps.getD t undef := by simp [Array.getD_eq_getD_getElem?]
/-- What stands when some of the operations have been carried out. -/
def LeaR (B : Nat) (L : List (Int × Int)) (lift cost : Int) (res : Nat → Option Value) (V : World) : Prop :=
  (∀ v, res 4 = some v → RowQ B V v L) ∧ (∀ v, res 5 = some v → v = .int .i64 lift) ∧ (∀ v, res 13 = some v → v = .int .i64 cost) ∧ (∀ v, res 14 = some v → v = .int .i64 cost)
set_option maxHeartbeats 6400000 in
set_option maxRecDepth 100000 in
theorem c_LeastLifted (r : Rf) (hr : r.Ok) (A : Option Addr) (c : Nat) (l : List (Int × Int)) (hB : PlB l) (hlen : l.length ≤ 1048576) (w : World) (hA : PairsAt .i8 .i8 w A l) :
    Calls Try.prog 21 #[.agg (rcells r), .slice A l.length c] w fun e w' => ∃ v, e = .returned (.tuple #[v, .int .i64 (leaC r l), .int .i64 (onceK r l true)]) ∧ Below w.heap.size w w' ∧ RowQ w.heap.size w' v (leaV r l) := by
  have HX := hid (block_new1 w (.cells (rcells r) 31) rfl)
  have HW : Hid (Below w.heap.size w (w.alloc (.cells (rcells r) 31))) := (Below.refl _ w).alloc (Nat.le_refl _) _
  have HA := hid hA
  have HC := fun W h => hid (c_orderCode r hr A c l hB hlen true W h)
  unfold leaV leaC
  by_cases h0 : onceK r l true = 0
  · rw [if_pos h0, if_pos h0, h0]
    rw [h0] at HC
    obtain ⟨hv, hall, _, h8, hnd, _⟩ := onceK_zero h0
    have HV := hid hv
    have HALL : Hid (∀ p ∈ sortP l, hasP r p = true) := fun p hp => List.all_eq_true.1 hall p ((sortP_perm l).mem_iff.1 hp)
    have HND : Hid ((sortP l).Nodup) := (sortP_nodup l).2 hnd
    have hSL := sortP_lenQ l
    have H8 := hid h8
    have hS0 : (sortP l).length ≤ 8 := by omega
    have HSQ := hid (fun (W : World) h1 h2 h3 => c_sortedQ (W.heap.size) A c l (Nat.le_trans h8 (by decide)) (W.alloc (.cells #[.slice A l.length c] 33)) h1 h2 h3)
    obtain ⟨S, hS⟩ : ∃ S, S = sortP l := ⟨_, rfl⟩
    have hSQ := HSQ.out
    rw [← hS] at HALL HND hS0 hSQ ⊢
    have HSQ := hid hSQ
    obtain ⟨P, hP⟩ : ∃ P : Nat, P = 2 ^ S.length := ⟨_, rfl⟩
    have hP1 : 1 ≤ P := by rw [hP]; exact Nat.one_le_two_pow
    have hP2 : P ≤ 256 := by rw [hP, show (256 : Nat) = 2 ^ 8 by decide]; exact Nat.pow_le_pow_right (by decide) hS0
    have e1 : IntKind.i64.wrap (2 ^ S.length) = (P : Int) := by rw [hP]; exact shl_one (by omega)
    obtain ⟨U, hU⟩ : ∃ U : Nat, U = P - 1 := ⟨_, rfl⟩
    have e2 : IntKind.i64.wrap ((P : Int) - 1) = (U : Int) := by rw [show (P : Int) - 1 = ((U : Nat) : Int) by omega]; exact wrap_nat (by omega)
    have e3 : IntKind.i64.wrap ((U : Int) + 1) = (P : Int) := by rw [show (U : Int) + 1 = ((P : Nat) : Int) by omega]; exact wrap_nat (by omega)
    have e4 : IntKind.i64.wrap ((U : Int) - 1) = (U : Int) - 1 := IntWalk.i64_in _ (by omega)
    obtain ⟨i0, hi, hz0, hz1, hz2⟩ := info_parts Try.infoI64z
    obtain ⟨j0, ji, jz0, jz1, jz2⟩ := info_parts Try.infoIntz
    have HS8 := hid hS0
    have HPU : Hid (P = U + 1 ∧ P ≤ 256 ∧ U = 2 ^ S.length - 1) := ⟨by omega, hP2, by omega⟩
    clear h0 hv hall hA hB hlen h8 hnd hS hSL hSQ hP hU hP1 hP2
    go_enter Try.func21, Try.ntmps21
    go_wp2_with (first
      | ((with_reducible refine gate (N := 18) rfl ?_); refine wp_roof 31 Try.underlying31 rfl Try.infoRoof rfl (.tmp 2) rfl w.heap.size rfl r hr HX.out ?_)
      | (go_at_call 28; ((with_reducible refine (HC _ (HA.out.below HW.out (Nat.le_refl _))).out.mono ?_); rintro e w1 ⟨rfl, hb1⟩); have HX1 := hid (block_below hb1 HX.out (block_lt HX.out)); have HW1 := hid (HW.out.trans (hb1.mono HW.out.size)); have LW1 : w.heap.size + 1 ≤ w1.heap.size := (by have := hb1.size; simpa using this); clear hb1)
      | (go_at_call 38; ((with_reducible refine (c_values A l.length c w1).mono ?_); rintro e w2 ⟨rfl, rfl⟩); have HB2 := hid ((Below.refl w1.heap.size w1).alloc (Nat.le_refl _) (.cells #[.slice A l.length c] 33)); have HW2 := hid (HW1.out.trans (HB2.out.mono HW1.out.size)))
      | (go_at_call 37; ((refine (HSQ.out w1 (cell_block (block_new1 w1 _ rfl) rfl) (by simp) (HA.out.below HW2.out (Nat.le_refl _))).mono ?_); rintro e w3 ⟨v, rfl, hb3, hr3⟩); obtain ⟨Av, cv, rfl⟩ := owns_slc hr3; have HB3 := hid hb3; have HR3 := hid hr3; clear hb3 hr3; have HX3 := hid (block_below HB3.out (block_alloc HX1.out (.cells #[.slice A l.length c] 33)) (by simp; omega)); have HW3 := hid (HW2.out.trans (HB3.out.mono HW2.out.size)); have LW3 : w.heap.size + 1 ≤ w3.heap.size := (by have := HB3.out.size; simp at this; omega); have HRR3 : Hid (RowQ (w.heap.size + 1) w3 (.slice Av S.length cv) S) := World.ownsRow.mono HR3.out (by simp; omega))
      | ((with_reducible refine gate (N := 33) rfl ?_); (refine wpList_make_full w3 rfl (.tmp 32) (.tmp 32) 73 rfl w3.heap.size 2 i0 (.int .i64 0) 1 Try.underlying73 hi hz0 hz1 .i64 .i64 (P : Int) (P : Int) P rfl rfl rfl rfl (by rw [hz2]; have := HPU.out; omega) (Nat.le_trans HPU.out.2.1 (by decide)) (Nat.le_refl _) ?_; intro w4 hown4 hg4; have HL4 := hid (block_of_full hown4 (by simp [size_madeCells])); have HG4 := hid hg4; clear hown4 hg4))
      | ((with_reducible refine gate (N := 36) rfl ?_); (refine wpList_make_full w4 rfl (.tmp 35) (.tmp 35) 74 rfl w4.heap.size 3 j0 (.int .i64 0) 1 Try.underlying74 ji jz0 jz1 .i64 .i64 (P : Int) (P : Int) P rfl rfl rfl rfl (by rw [jz2]; have := HPU.out; omega) (Nat.le_trans HPU.out.2.1 (by decide)) (Nat.le_refl _) ?_; intro w5 hown5 hg5; have HL5 := hid (block_of_full hown5 (by simp [size_madeCells])); have HG5 := hid hg5; clear hown5 hg5)))
    have HLH : Hid (LeaH w r w3.heap.size w4.heap.size P (fun x => (tblV r S 0 x).1) (fun x => ((tblV r S 0 x).2 : Int)) Av cv S w5) := by
      have h1 := HL4.out
      have h2 := HL5.out
      rw [show (Value.int .i64 0).cells = #[Value.int .i64 0] from rfl, Nat.mul_one, made_zero] at h1 h2
      have hlt := block_lt h1
      have b45 : Below w4.heap.size w4 w5 := (Below.refl _ w4).grown HG5.out (Nat.le_refl _) (fun k hk => by cases hk)
      have b34 : Below w3.heap.size w3 w4 := (Below.refl _ w3).grown HG4.out (Nat.le_refl _) (fun k hk => by cases hk)
      have b35 := b34.trans (b45.mono b34.size)
      exact ⟨block_below b35 HX3.out (block_lt HX3.out), block_below b45 h1 hlt, h2, HRR3.out.below b35 (Nat.le_refl _), fun x hx => by have := (World.ownsRow.lt HRR3.out x hx).2; omega, HW3.out.trans (b35.mono HW3.out.size), by omega⟩
    obtain ⟨gl, hgl⟩ : ∃ g, g = w3.heap.size := ⟨_, rfl⟩
    obtain ⟨gn, hgn⟩ : ∃ g, g = w4.heap.size := ⟨_, rfl⟩
    rw [← hgl, ← hgn] at HLH ⊢
    clear HX3 HW3 LW3 HRR3 HB3 HR3 HL4 HG4 HL5 HG5 HSQ HX HW HC HX1 HW1 LW1 HB2 HW2 HA hgl hgn
    have hS8 := HS8.out
    go_loopw [12] (fun i wr => ∃ j : Nat, j ≤ U ∧ i = .int .i64 ((U : Int) - 1 - j) ∧ Hid (LeaH w r gl gn P (fun x => (tblV r S j x).1) (fun x => ((tblV r S j x).2 : Int)) Av cv S wr)) (fun i _ => (intOf i + 1).toNat)
    case atStart => exact ⟨0, by omega, by simp, HLH.out⟩
    case round =>
      clear HLH
      obtain ⟨wo, rfl⟩ : ∃ W, W = wr := ⟨_, rfl⟩
      obtain ⟨j, hj, rfl, hh⟩ := hrel
      have hPU := HPU.out
      by_cases hjl : j < U
      · obtain ⟨s, hs⟩ : ∃ s : Nat, s = U - 1 - j := ⟨_, rfl⟩
        rw [show (U : Int) - 1 - (j : Int) = (s : Int) by omega]
        have hd : decide ((s : Int) ≥ 0) = true := decide_eq_true (by omega)
        have hsP : s < P := by omega
        have s0 : (0 : Int) ≤ (s : Int) := by omega
        have s1 : (s : Int) < (P : Int) := by omega
        have s62 : s < 2 ^ 62 := by omega
        have es : IntKind.i64.wrap ((s : Int) - 1) = (s : Int) - 1 := IntWalk.i64_in _ (by omega)
        obtain ⟨c0, c1⟩ := hh.out.cellL hsP
        have HH1 := hid (hh.out.setL hsP 1000)
        have HSU : Hid (s + 1 = U - j ∧ j < U) := ⟨by omega, hjl⟩
        obtain ⟨T, hT⟩ : ∃ T, T = tblV r S j := ⟨_, rfl⟩
        have HTN : Hid (∀ x, tblV r S (j + 1) x = if x = s then stepV r S T s S.length else T x) := fun x => by
          rw [hT]
          show (if x = 2 ^ S.length - 1 - 1 - j then stepV r S (tblV r S j) x S.length else tblV r S j x) = _
          rw [show 2 ^ S.length - 1 - 1 - j = s by have := HPU.out.2.2; omega]
          by_cases e : x = s
          · rw [if_pos e, if_pos e, e]
          · rw [if_neg e, if_neg e]
        rw [← hT] at HH1 c0
        have HK0 : Hid (LeaH w r gl gn P (fun x => if x = s then (stepV r S T s 0).1 else (T x).1) (fun x => if x = s then ((stepV r S T s 0).2 : Int) else ((T x).2 : Int)) Av cv S (wo.setCell ⟨gl, s, none⟩ (.int .i64 1000))) := HH1.out.congr (fun x _ => rfl) (fun x _ => by by_cases e : x = s; subst e; simp [stepV]; simp [e])
        have HTB : Hid (∀ X, X < P → 0 ≤ (T X).1 ∧ (T X).1 ≤ 100000) := fun X _ => by rw [hT]; exact tblV_b r S j X
        have HS62 := hid s62
        have HsP := hid hsP
        clear hh HH1 hs hT hjl hPU
        go_wp2_with fail
        clear c0 c1
        go_loopw [48] (fun i wr => ∃ k : Nat, k ≤ S.length ∧ i = .int .i64 k ∧ Hid (LeaH w r gl gn P (fun x => if x = s then (stepV r S T s k).1 else (T x).1) (fun x => if x = s then ((stepV r S T s k).2 : Int) else ((T x).2 : Int)) Av cv S wr)) (fun i _ => S.length - (intOf i).toNat)
        case atStart => exact ⟨0, by omega, rfl, HK0.out⟩
        case round =>
          clear HK0
          obtain ⟨wm, rfl⟩ : ∃ W, W = wr := ⟨_, rfl⟩
          obtain ⟨k, hk, rfl, hh⟩ := hrel
          have hsP := HsP.out
          by_cases hkl : k < S.length
          · have hd1 : decide ((k : Int) < (S.length : Int)) = true := decide_eq_true (by omega)
            have hkI : (k : Int) < (S.length : Int) := by omega
            have hk0 : (0 : Int) ≤ (k : Int) := by omega
            have hk8 : (k : Int) ≤ 8 := by omega
            have hp := List.getElem?_eq_getElem hkl
            obtain ⟨⟨q1, q2⟩, hqq⟩ : ∃ q, q = S[k] := ⟨_, rfl⟩
            rw [← hqq] at hp
            have hpq := hasP_pl HV.out (HALL.out (q1, q2) (List.mem_of_getElem? hp))
            have vh := valid_head HV.out
            have hq7 : (0 ≤ q1 ∧ q1 ≤ 7) ∧ (0 ≤ q2 ∧ q2 ≤ 7) := by omega
            have hgd : S.getD k (0, 0) = (q1, q2) := by rw [List.getD_eq_getElem?_getD, hp]; rfl
            obtain ⟨g, cg, e, gB, hgl2, n0, n1, _, _⟩ := hh.out.row.cell hp
            obtain ⟨rfl, -, rfl⟩ : Av = some ⟨g, 0, none⟩ ∧ S.length = S.length ∧ cv = cg := by simpa using e
            dsimp only at n0 n1
            have hbt := bit_test (k := k) HS62.out
            have HSt : Hid (stepV r S T s (k + 1) = if s.testBit k = true then stepV r S T s k else if liftP r (q1, q2) (subS S s) + (T (s ||| 2 ^ k)).1 < (stepV r S T s k).1 then (liftP r (q1, q2) (subS S s) + (T (s ||| 2 ^ k)).1, k) else stepV r S T s k) := by
              rw [← hgd]; rfl
            have HH2 := hid (hh.out.keep ((Below.refl wm.heap.size wm).alloc (Nat.le_refl _) (.cells #[.int .i8 q1, .int .i8 q2] 50)))
            have HP2 := hid (block_new1 wm (.cells #[.int .i8 q1, .int .i8 q2] 50) rfl)
            have HKL := hid hkl
            have HK7 := hid hq7
            clear hp hqq e hgd vh hpq hgl2 hq7
            cases hbit : s.testBit k with
            | true =>
              rw [if_pos hbit] at hbt
              have HSt2 : Hid (stepV r S T s (k + 1) = stepV r S T s k) := by rw [HSt.out, if_pos hbit]; rfl
              clear hbit HSt
              go_wp2_with fail
              refine ⟨⟨k + 1, by have := HKL.out; omega, by go_num, ?_⟩, by have := HKL.out; simp [intOf]; omega⟩
              rw [HSt2.out]
              exact HH2.out
            | false =>
              rw [if_neg (by rw [hbit]; simp)] at hbt
              have hXP : s ||| 2 ^ k < P := by have := or_le (s := s) (n := S.length) (by have := HPU.out; omega) HKL.out; have := HPU.out; omega
              have hXs : s < s ||| 2 ^ k := or_gt hbit
              have eo := bit_or (k := k) HS62.out (by omega)
              have ek := shl_one (k := k) (by omega)
              obtain ⟨K2, hK2⟩ : ∃ K2 : Nat, K2 = 2 ^ k := ⟨_, rfl⟩
              rw [← hK2] at eo ek hXP hXs HSt
              obtain ⟨X, hX⟩ : ∃ X : Nat, X = s ||| K2 := ⟨_, rfl⟩
              rw [← hX] at eo hXP hXs HSt
              obtain ⟨tX, htX⟩ : ∃ t, t = (T X).1 := ⟨_, rfl⟩
              have hlb := liftP_b r (q1, q2) (subS S s)
              obtain ⟨lf, hlf⟩ : ∃ t, t = liftP r (q1, q2) (subS S s) := ⟨_, rfl⟩
              have HLF : Hid (lf = liftP r (q1, q2) (subS S s)) := hlf
              rw [← htX, ← hlf, if_neg (by rw [hbit]; simp)] at HSt
              rw [← hlf] at hlb
              obtain ⟨lX0, lX1⟩ := HH2.out.cellL hXP
              rw [if_neg (by omega), ← htX] at lX0
              have X0 : (0 : Int) ≤ (X : Int) := by omega
              have X1 : (X : Int) < (P : Int) := by omega
              have htb := HTB.out X hXP
              rw [← htX] at htb
              obtain ⟨cost, hcost⟩ : ∃ t, t = lf + tX := ⟨_, rfl⟩
              have HtX : Hid (tX = (T X).1) := htX
              have HXP := hid hXP
              have HXs := hid hXs
              have ew : IntKind.i64.wrap (lf + tX) = cost := by rw [hcost]; exact IntWalk.i64_in _ (by omega)
              rw [← hcost] at HSt
              have HSUB := hid (fun W h => c_subset (some ⟨g, 0, none⟩) cv S (by have := HS8.out; omega) s HS62.out W h)
              have HLIF := hid (fun A' c' W h => c_lifted r hr HV.out q1 q2 HK7.out.1 HK7.out.2 A' c' (subS S s) (Nat.le_trans (subS_len S s) (by have := HS8.out; omega)) W h)
              have hLF := HLIF.out
              rw [← hlf] at hLF
              have HLIF := hid hLF
              clear hbit hK2 hX htX hlf hcost hLF htb
              go_wp2_with fail
              obtain ⟨wq0, hwq0⟩ : ∃ W, W = wm.alloc (.cells #[.int .i8 q1, .int .i8 q2] 50) := ⟨_, rfl⟩
              obtain ⟨pb, hpb⟩ : ∃ b, b = wm.heap.size := ⟨_, rfl⟩
              rw [← hpb] at HP2
              rw [← hwq0] at HH2 HP2 lX0 lX1 ⊢
              rw [← hpb]
              have HPB : Hid (pb < wq0.heap.size) := block_lt HP2.out
              clear hh hwq0 hpb n0 n1
              refine wp_region_wildK wq0.heap.size [0, 1, 2, 3, 6, 7, 8, 9, 10, 11, 12] [4, 5, 13, 14] ?s1 (LeaR wq0.heap.size (subS S s) lf cost) (by kernel_rfl) (by kernel_rfl) (by kernel_rfl) (by kernel_rfl) (Nat.le_refl _) ?pre1 ?zero1 ?mono1 ?step1 ?end1
              case pre1 =>
                intro B' W' hb' hB hS'
                have HHq := hid (HH2.out.keep hb')
                have HPq := hid (block_below hb' HP2.out HPB.out)
                have q0 : W'.cell? ⟨pb, 0, none⟩ = some (.int .i8 q1) := cell_block HPq.out rfl
                have q1' : W'.cell? ⟨pb, 1, none⟩ = some (.int .i8 q2) := cell_block HPq.out rfl
                obtain ⟨y0, y1⟩ := (HH2.out.keep hb').cellL HXP.out
                rw [if_neg (by have := HXs.out; omega), ← HtX.out] at y0
                have l0 : w.heap.size < B' := by have := block_lt HH2.out.roof; omega
                have l1 : pb < B' := by have := HPB.out; omega
                have l2 : gl < B' := by have := block_lt HH2.out.least; omega
                have R0 : Hid (∀ x : Ext B' W', (Instr.loadAt 31 (.pointer (some ⟨w.heap.size, 0, none⟩))).run Try.prog x.out = .ok (.agg (rcells r)) x.out) := fun x =>
                  run_load_roof 31 Try.underlying31 rfl Try.infoRoof hr (block_below x.below HHq.out.roof l0)
                change wpQuiet _ _ _ _ [_, _, _, _, _, _, _, _, _, _, _] _
                repeat (first
                  | ((with_reducible refine wpQuiet_run (N := 58) rfl rfl (.agg (rcells r)) ?_ ?_); (rintro _ ⟨x, rfl⟩; exact execOp_load rfl rfl (R0.out x)); go_simp)
                  | go_big_quiet_step (fail))
                refine wpQuiet_nil ?_
                exact rfl
              case zero1 => exact fun w' _ => ⟨fun v h => (by cases h), fun v h => (by cases h), fun v h => (by cases h), fun v h => (by cases h)⟩
              case mono1 =>
                rintro res V V' ⟨h1, h2, h3, h4⟩ hb
                exact ⟨fun v a => (h1 v a).below hb (Nat.le_refl _), h2, h3, h4⟩
              case step1 =>
                intro i o hi ho res a wq hn hRq hbq hBq hey hdep
                simp only [List.mem_cons, List.not_mem_nil, or_false] at hi
                obtain ⟨h1, h2, h3, h4⟩ := hRq
                rcases hi with rfl | rfl | rfl | rfl
                · obtain rfl := Option.some.inj ho
                  have e60 : a.eval (.tmp 60) = .slice (some ⟨g, 0, none⟩) S.length cv := (hey 60 (by decide)).2 (by decide)
                  have e61 : a.eval (.tmp 61) = .int .i64 s := (hey 61 (by decide)).2 (by decide)
                  refine .inl ⟨46, #[.slice (some ⟨g, 0, none⟩) S.length cv, .int .i64 s], fun W => by unfold execOp; go_simp; exact ⟨(getD_l a 60).trans e60, (getD_l a 61).trans e61⟩, ?_⟩
                  refine (HSUB.out wq (HH2.out.keep hbq).row.pairs).mono ?_
                  rintro e w' ⟨v, rfl, hb', hr'⟩
                  refine ⟨v, rfl, ⟨fun u hu => ?_, h2, h3, h4⟩, hbq.trans (hb'.mono hBq)⟩
                  obtain rfl : v = u := Option.some.inj hu
                  exact World.ownsRow.mono hr' hBq
                · obtain rfl := Option.some.inj ho
                  have e58 : a.eval (.tmp 58) = .agg (rcells r) := (hey 58 (by decide)).2 (by decide)
                  have e59 : a.eval (.tmp 59) = .agg #[.int .i8 q1, .int .i8 q2] := (hey 59 (by decide)).2 (by decide)
                  have r4 := (hey 62 (by decide)).1 4 (by decide) (by decide)
                  have hO := h1 _ r4
                  obtain ⟨A2, c2, e2⟩ := owns_slc hO
                  rw [e2] at hO
                  refine .inl ⟨45, #[.agg (rcells r), .agg #[.int .i8 q1, .int .i8 q2], .slice A2 (subS S s).length c2], fun W => by unfold execOp; go_simp; (repeat' apply And.intro) <;> first | exact (getD_l a 58).trans e58 | exact (getD_l a 59).trans e59 | exact (getD_l a 62).trans e2, ?_⟩
                  refine (HLIF.out A2 c2 wq hO.pairs).mono ?_
                  rintro e w' ⟨rfl, hb'⟩
                  refine ⟨_, rfl, ⟨fun u hu => (h1 u hu).below hb' (Nat.le_refl _), fun u hu => (Option.some.inj hu).symm, h3, h4⟩, hbq.trans (hb'.mono hBq)⟩
                · obtain rfl := Option.some.inj ho
                  have r5 := (hey 63 (by decide)).1 5 (by decide) (by decide)
                  have e63 : a.eval (.tmp 63) = .int .i64 lf := h2 _ r5
                  have e70 : a.eval (.tmp 70) = .int .i64 tX := (hey 70 (by decide)).2 (by decide)
                  have e63' := (getD_l a 63).trans e63
                  have e70' := (getD_l a 70).trans e70
                  refine .inr (.inl ⟨.int .i64 cost, wq, ?_, ⟨h1, h2, fun u hu => (Option.some.inj hu).symm, h4⟩, hbq⟩)
                  unfold execOp
                  go_simp
                · obtain rfl := Option.some.inj ho
                  have r13 := (hey 71 (by decide)).1 13 (by decide) (by decide)
                  have e71 := h3 _ r13
                  refine .inr (.inl ⟨a.tmps.getD 71 undef, wq, by unfold execOp; go_simp, ⟨h1, h2, h3, fun u hu => ?_⟩, hbq⟩)
                  obtain rfl := Option.some.inj hu
                  exact e71
              case end1 =>
                intro val wq hRq hbq
                obtain ⟨h1, h2, h3, h4⟩ := hRq
                have hn4 : RowQ wq0.heap.size wq (val 4) (subS S s) := h1 (val 4) rfl
                have hn5 : val 5 = .int .i64 lf := h2 (val 5) rfl
                have hn13 : val 13 = .int .i64 cost := h3 (val 13) rfl
                have hn14 : val 14 = .int .i64 cost := h4 (val 14) rfl
                obtain ⟨A2, c2, e2⟩ := owns_slc hn4
                have HHq := hid (HH2.out.keep hbq)
                change Exit.then _ _ _ (((((_ : Act).put (some 62) (val 4)).put (some 63) (val 5)).put (some 71) (val 13)).put (some 15) (val 14)) _
                rw [e2, hn5, hn13, hn14]
                simp only [Act.put, List.setIfInBounds_toArray, List.set_cons_zero, List.set_cons_succ]
                clear e2 hn4 hn5 hn13 hn14 h1 h2 h3 h4
                obtain ⟨z0, z1⟩ := HHq.out.cellL HsP.out
                obtain ⟨z2, z3⟩ := HHq.out.cellN HsP.out
                rw [if_pos rfl] at z0 z2
                obtain ⟨old, hold⟩ : ∃ t, t = (stepV r S T s k).1 := ⟨_, rfl⟩
                rw [← hold] at z0
                have HSt2 := HSt.out
                rw [← hold] at HSt2
                have HHs := hid ((HHq.out.setL HsP.out cost).setN HsP.out (k : Int))
                have hlo := HHq.out.lo.2
                have hkI3 : (k : Int) < (S.length : Int) := by have := HKL.out; omega
                have hk62 : (k : Int) ≤ 8 := by have := HKL.out; have := HS8.out; omega
                by_cases hcl : cost < old
                · rw [if_pos hcl] at HSt2
                  have HSt3 := hid HSt2
                  have hd2 : decide (cost < old) = true := decide_eq_true hcl
                  have z4 : (wq.setCell ⟨gl, s, none⟩ (.int .i64 cost)).cell? ⟨gn, s, none⟩ = some (.int .i64 ((stepV r S T s k).2 : Int)) := ((HHq.out.setL HsP.out cost).cellN HsP.out).1.trans (by rw [if_pos rfl])
                  have z5 : (wq.setCell ⟨gl, s, none⟩ (.int .i64 cost)).frozen? ⟨gn, s, none⟩ = false := ((HHq.out.setL HsP.out cost).cellN HsP.out).2
                  clear HSt2 HSt hold hcl hlo
                  go_wp2_with fail
                  refine ⟨⟨k + 1, by have := HKL.out; omega, by go_num, ?_⟩, by have := HKL.out; simp [intOf]; omega⟩
                  refine hid (HHs.out.congr (fun x _ => ?_) (fun x _ => ?_))
                  · rw [HSt3.out]; by_cases e : x = s <;> simp [e]
                  · rw [HSt3.out]; by_cases e : x = s <;> simp [e]
                · rw [if_neg hcl] at HSt2
                  have HSt3 := hid HSt2
                  have hd2 : decide (cost < old) = false := decide_eq_false hcl
                  clear HSt2 HSt hold hcl hlo
                  go_wp2_with fail
                  refine ⟨⟨k + 1, by have := HKL.out; omega, by go_num, ?_⟩, by have := HKL.out; simp [intOf]; omega⟩
                  rw [HSt3.out]
                  exact HHq.out
          · obtain rfl : k = S.length := by omega
            have hd1 : decide ((S.length : Int) < (S.length : Int)) = false := decide_eq_false (by omega)
            have HH3 : Hid (LeaH w r gl gn P (fun x => (tblV r S (j + 1) x).1) (fun x => ((tblV r S (j + 1) x).2 : Int)) Av cv S wm) :=
              hh.out.congr (fun x _ => by rw [HTN.out x]; by_cases e : x = s; simp [e]; simp [e]) (fun x _ => by rw [HTN.out x]; by_cases e : x = s; simp [e]; simp [e])
            go_wp2_with fail
            refine ⟨⟨j + 1, by have := HSU.out; omega, ?_, HH3.out⟩, ?_⟩
            · congr 1; have := HSU.out; omega
            · have := HSU.out; simp only [intOf]; omega
      · obtain rfl : j = U := by omega
        have hd : decide ((j : Int) - 1 - (j : Int) ≥ 0) = false := decide_eq_false (by omega)
        have HTJ : Hid (∀ x, (tblV r S j x) = tblV r S (2 ^ S.length - 1) x) := fun x => by rw [hPU.2.2]
        obtain ⟨T, hT⟩ : ∃ T, T = tblV r S j := ⟨_, rfl⟩
        rw [← hT] at hh HTJ
        have LWo := hid (show w.heap.size ≤ wo.heap.size from hh.out.below.size)
        have HO0 : Hid ((∀ x, x ∈ ([] : List (Int × Int)) ↔ x ∈ subS S 0) ∧ ([] : List (Int × Int)).length = (subS S 0).length ∧ [] ++ (bestG r S (S.length - ([] : List (Int × Int)).length) []).2 = leastF r S) :=
          ⟨fun x => by rw [subS_zero], by rw [subS_zero], rfl⟩
        have HL0 : Hid ((T 0).1 = leastC r S) := by show _ = _; rw [HTJ.out 0]; exact table_least r HND.out (Nat.le_trans HS8.out (by decide))
        clear hT hj hPU
        go_wp2_with fail
        go_loopw [16, 17] (fun v i wr => ∃ (s : Nat) (out : List (Int × Int)), s ≤ j ∧ i = .int .i64 s ∧ Hid (Below wo.heap.size wo wr) ∧ Hid (RowQ wo.heap.size wr v out) ∧
          Hid ((∀ x, x ∈ out ↔ x ∈ subS S s) ∧ out.length = (subS S s).length ∧ out ++ (bestG r S (S.length - out.length) out).2 = leastF r S)) (fun _ i _ => j - (intOf i).toNat)
        case atStart => exact ⟨0, [], by omega, rfl, Below.refl _ _, RowQ.nil _ _, HO0.out⟩
        case round =>
          clear HO0
          obtain ⟨wm, rfl⟩ : ∃ W, W = wr := ⟨_, rfl⟩
          obtain ⟨s, out, hs, rfl, hb, hro, ho⟩ := hrel
          obtain ⟨Ao, co, rfl⟩ := owns_slc hro.out
          have HHm := hid (hh.out.keep hb.out)
          by_cases hsl : s < j
          · have hd1 : decide ((s : Int) < (j : Int)) = true := decide_eq_true (by omega)
            have hsP : s < P := by have := HPU.out; omega
            have s0 : (0 : Int) ≤ (s : Int) := by omega
            have s1 : (s : Int) < (P : Int) := by omega
            have s62 : s < 2 ^ 62 := by have := HPU.out; omega
            obtain ⟨c0, c1⟩ := HHm.out.cellN hsP
            have hst := table_step r HND.out (Nat.le_trans HS8.out (by decide)) (s := s) (by have := HPU.out; omega) ho.out.1 ho.out.2.1 ho.out.2.2
            rw [← HTJ.out s] at hst
            obtain ⟨d, hdd⟩ : ∃ d, d = (T s).2 := ⟨_, rfl⟩
            rw [← hdd] at c0 hst
            obtain ⟨hdS, hgt, hle, hst1, hst2, hst3⟩ := hst
            have hp := List.getElem?_eq_getElem hdS
            obtain ⟨⟨q1, q2⟩, hqq⟩ : ∃ q, q = S[d] := ⟨_, rfl⟩
            rw [← hqq] at hp hst1 hst2 hst3
            have HO1 := hid (show (∀ x, x ∈ out ++ [(q1, q2)] ↔ x ∈ subS S (s ||| 2 ^ d)) ∧ (out ++ [(q1, q2)]).length = (subS S (s ||| 2 ^ d)).length ∧ out ++ [(q1, q2)] ++ (bestG r S (S.length - (out ++ [(q1, q2)]).length) (out ++ [(q1, q2)])).2 = leastF r S from ⟨hst1, hst2, hst3⟩)
            obtain ⟨g, cg, e, gB, hgl2, n0, n1, _, _⟩ := HHm.out.row.cell hp
            obtain ⟨rfl, -, rfl⟩ : Av = some ⟨g, 0, none⟩ ∧ S.length = S.length ∧ cv = cg := by simpa using e
            dsimp only at n0 n1
            have hdI : (d : Int) < (S.length : Int) := by omega
            have hd0 : (0 : Int) ≤ (d : Int) := by omega
            have hd8 : (d : Int) ≤ 8 := by have := HS8.out; omega
            have eo := bit_or (k := d) s62 (by omega)
            have ek := shl_one (k := d) (by omega)
            obtain ⟨K2, hK2⟩ : ∃ K2 : Nat, K2 = 2 ^ d := ⟨_, rfl⟩
            rw [← hK2] at eo ek hgt hle HO1
            obtain ⟨X, hX⟩ : ∃ X : Nat, X = s ||| K2 := ⟨_, rfl⟩
            rw [← hX] at eo hgt hle HO1
            have HOL : Hid (out.length ≤ 8) := by have h1 := ho.out.2.1; have h2 := subS_len S s; have := HS8.out; show _ ≤ _; omega
            have LWm := hb.out.size
            have HXj := hid (show s < X ∧ X ≤ j from ⟨hgt, by have := HPU.out; omega⟩)
            have HsP := hid hsP
            clear hst1 hst2 hst3 hp hqq e hK2 hX hdd hgl2 hgt hle ho hdS
            go_wp2_with ((with_reducible refine gate (N := 106) rfl ?_); (refine wp_app1Q rfl (.tmp 97) (.tmp 105) rfl wo.heap.size _ _ q1 q2 hro.out rfl wm.heap.size rfl (Nat.le_trans HOL.out (by decide)) LWm rfl ?_); intro v' w6 hown hg; obtain ⟨A6, c6, rfl⟩ := owns_slc hown; have HB6 := hid (hb.out.trans (hro.out.belowG hg LWm)); have HRO6 := hid hown; have y0 : w6.cell? ⟨gn, s, none⟩ = some (.int .i64 d) := (HB6.out.cell (p := ⟨gn, s, none⟩) (block_lt hh.out.next)).trans ((hb.out.cell (p := ⟨gn, s, none⟩) (block_lt hh.out.next)).symm.trans c0); clear hg hown)
            refine ⟨⟨X, out ++ [(q1, q2)], HXj.out.2, by go_num, HB6.out, ?_, HO1.out⟩, by have := HXj.out; simp [intOf]; omega⟩
            have := HRO6.out
            rw [List.length_append] at this
            exact this
          · obtain rfl : s = j := by omega
            have hd1 : decide ((s : Int) < (s : Int)) = false := decide_eq_false (by omega)
            have HEQ : Hid (out = leastF r S) := table_end r (by rw [← HPU.out.2.2]; exact ho.out.2.1) ho.out.2.2
            obtain ⟨c0, c1⟩ := HHm.out.cellL (x := 0) (by have := HPU.out; omega)
            rw [HL0.out] at c0
            have p1 : (0 : Int) < (P : Int) := by have := HPU.out; omega
            have l0 : gl < wm.heap.size := block_lt HHm.out.least
            go_wp2_with fail
            refine wp_region_ext wm.heap.size (by kernel_rfl) (by kernel_rfl) ?_
            repeat (go_big_quiet_step (fail))
            refine wpQuiet_nil ?_
            intro y
            go_wp2_with fail
            go_ret3
            refine ⟨_, rfl, HHm.out.below.trans (y.below.mono HHm.out.below.size), ?_⟩
            rw [← HEQ.out]
            exact (hro.out.below y.below (Nat.le_refl _)).mono LWo.out
  · rw [if_neg h0, if_neg h0]
    have hk := onceK_cases r l true
    obtain ⟨k, hkk⟩ : ∃ k, k = onceK r l true := ⟨_, rfl⟩
    rw [← hkk] at HC hk h0 ⊢
    have hk0 : (k == 0) = false := by rw [beq_eq_false_iff_ne]; exact h0
    have hk1 : (k != 0) = true := by unfold bne; rw [hk0]; rfl
    clear hkk hA hB hk h0
    go_enter Try.func21, Try.ntmps21
    go_wp2_with (first
      | ((with_reducible refine gate (N := 18) rfl ?_); refine wp_roof 31 Try.underlying31 rfl Try.infoRoof rfl (.tmp 2) rfl w.heap.size rfl r hr HX.out ?_)
      | (go_at_call 28; ((with_reducible refine (HC _ (HA.out.below HW.out (Nat.le_refl _))).out.mono ?_); rintro e w1 ⟨rfl, hb1⟩); have HW1 := hid (HW.out.trans (hb1.mono HW.out.size)); clear hb1))
    go_ret3
    exact ⟨_, rfl, HW1.out, World.ownsRow_nil _ _ _ _⟩
end Go.Proofs.Ytfbgldkdlmipoaa

/- Worlds in which one block was turned, and others made. -/
namespace Go.Proofs.Ytfbgldkdlmipoaa
open Go.RowKit
set_option linter.unusedSimpArgs false
set_option linter.unusedVariables false

/-- From w to w' nothing is turned but the block p. -/
structure Butt (p : Nat) (w w' : World) : Prop where
  os : w'.os = w.os
  tape : w'.tape = w.tape
  output : w'.output = w.output
  size : w.heap.size ≤ w'.heap.size
  block : ∀ k, k < w.heap.size → k ≠ p → w'.heap[k]? = w.heap[k]?
theorem Butt.refl (p : Nat) (w : World) : Butt p w w := ⟨rfl, rfl, rfl, Nat.le_refl _, fun _ _ _ => rfl⟩
theorem Butt.trans {p : Nat} {a b c : World} (h : Butt p a b) (k : Butt p b c) : Butt p a c :=
  ⟨k.os.trans h.os, k.tape.trans h.tape, k.output.trans h.output, Nat.le_trans h.size k.size, fun i hi hn => (k.block i (Nat.lt_of_lt_of_le hi h.size) hn).trans (h.block i hi hn)⟩
theorem Butt.of {p : Nat} {w w' : World} (h : Below w.heap.size w w') : Butt p w w' := ⟨h.os, h.tape, h.output, h.size, fun k hk _ => h.block k hk⟩
theorem Butt.set (p : Nat) (w : World) (j : Nat) (v : Value) : Butt p w (w.setCell ⟨p, j, none⟩ v) :=
  ⟨rfl, rfl, rfl, by simp, fun k _ hn => heap_setCell_other w ⟨p, j, none⟩ k v hn⟩
theorem Butt.below {p B : Nat} {w w' : World} (h : Butt p w w') (h1 : B ≤ p) (h2 : B ≤ w.heap.size) : Below B w w' :=
  ⟨h.os, h.tape, h.output, h.size, fun k hk => h.block k (by omega) (by omega)⟩
theorem Butt.at {p : Nat} {w w' : World} (h : Butt p w w') {b : Nat} {o : Obj} (hb : w.heap[b]? = some o) (hn : b ≠ p) : w'.heap[b]? = some o := (h.block b (block_lt hb) hn).trans hb
/-- Places at A, not in the block p. -/
def PlN (p : Nat) (w : World) (A : Option Addr) (l : List (Int × Int)) : Prop := PairsAt .i8 .i8 w A l ∧ ∀ a, l ≠ [] → A = some a → a.block ≠ p
theorem PlN.butt {p : Nat} {w w' : World} {A : Option Addr} {l : List (Int × Int)} (h : PlN p w A l) (hb : Butt p w w') : PlN p w' A l :=
  ⟨fun j n hj => by
    obtain ⟨b, off, e, h1, h2, h3⟩ := h.1 j n hj
    have hne : b ≠ p := h.2 _ (by rintro rfl; simp at hj) e
    exact ⟨b, off, e, Nat.lt_of_lt_of_le h1 hb.size, (World.cell?_of_block (w := w) (a := ⟨b, off + j * 2, none⟩) (hb.block b h1 hne)).trans h2, (World.cell?_of_block (w := w) (a := ⟨b, off + j * 2 + 1, none⟩) (hb.block b h1 hne)).trans h3⟩, h.2⟩
theorem RowQ.plN {B p : Nat} {w : World} {A : Option Addr} {n c : Nat} {l : List (Int × Int)} (h : RowQ B w (.slice A n c) l) (hp : p < B) : PlN p w A l :=
  ⟨h.pairs, fun a hl e => by
    subst e
    have := (h.lt a.block rfl).1
    omega⟩
theorem RowQ.butt {B p : Nat} {w w' : World} {v : Value} {l : List (Int × Int)} (h : RowQ B w v l) (hb : Butt p w w') (hn : v.ownBlock ≠ some p) : RowQ B w' v l := by
  refine ⟨h.1, ?_⟩
  rcases h.2 with hn' | ⟨g, cap, cur, rfl, hb0, hg, rest⟩
  · exact .inl hn'
  · exact .inr ⟨g, cap, cur, rfl, hb0, hb.at hg (by rintro rfl; exact hn rfl), rest⟩
end Go.Proofs.Ytfbgldkdlmipoaa

/- A region that draws its order: some operations of unforeknown result, in whatever order their edges leave open, and one call that comes last and may do anything. -/
namespace Go.Proofs.Ytfbgldkdlmipoaa
open Go.RowKit
set_option linter.unusedSimpArgs false
set_option linter.unusedVariables false

/-- As chainB, of the operations ahead of number n; and each of them is waited for by a later one. -/
def chainL (l : List Oper) (qi wi : List Nat) (n : Nat) : Bool :=
  decide (l.length = n + 1) && ((List.range n).all fun i => qi.contains i != wi.contains i) && (qi.all fun i => decide (i < n)) && (wi.all fun i => decide (i < n)) && decide (qi.Pairwise (· < ·)) && decide (wi.Pairwise (· < ·)) &&
  (qi.all fun i => match l[i]? with | some o => (eyes o).all fun t => wi.all fun j => !(dstOf l j == some t) | none => true) &&
  ((List.range n).all fun i => (List.range (n + 1)).any fun j => decide (i < j) && match l[j]? with | some o => o.after.toList.any fun e => Region.binds .any e && decide (e.on = i) | none => false)
theorem chainL_of {l : List Oper} {qi wi : List Nat} {n : Nat} (h : chainL l qi wi n = true) :
    l.length = n + 1 ∧ (∀ i, i < n → (i ∈ qi ∧ i ∉ wi) ∨ (i ∈ wi ∧ i ∉ qi)) ∧ (∀ i ∈ qi, i < n) ∧ (∀ i ∈ wi, i < n) ∧ qi.Pairwise (· < ·) ∧ wi.Pairwise (· < ·) ∧
    (∀ i ∈ qi, ∀ o, l[i]? = some o → ∀ t ∈ eyes o, ∀ j ∈ wi, dstOf l j ≠ some t) ∧
    (∀ i, i < n → ∃ j, i < j ∧ j ≤ n ∧ ∃ o, l[j]? = some o ∧ ∃ e ∈ o.after, Region.binds .any e = true ∧ e.on = i) := by
  unfold chainL at h
  simp only [Bool.and_eq_true, List.all_eq_true, decide_eq_true_eq] at h
  obtain ⟨⟨⟨⟨⟨⟨⟨h0, h1⟩, h2⟩, h3⟩, h4⟩, h5⟩, h6⟩, h7⟩ := h
  refine ⟨h0, fun i hi => ?_, h2, h3, h4, h5, fun i hi o ho t ht j hj hd => ?_, fun i hi => ?_⟩
  · have := h1 i (List.mem_range.2 hi)
    by_cases a : i ∈ qi <;> by_cases b : i ∈ wi <;> simp [a, b] at this ⊢
  · have := h6 i hi
    rw [ho] at this
    simp only [List.all_eq_true] at this
    have := this t ht j hj
    rw [hd] at this
    simp at this
  · obtain ⟨j, hj, hj2⟩ := List.any_eq_true.1 (h7 i (List.mem_range.2 hi))
    rw [Bool.and_eq_true, decide_eq_true_eq] at hj2
    obtain ⟨hij, hj3⟩ := hj2
    have := List.mem_range.1 hj
    cases ho : l[j]? with
    | none => rw [ho] at hj3; cases hj3
    | some o =>
      rw [ho] at hj3
      obtain ⟨e, he, h8⟩ := List.any_eq_true.1 hj3
      rw [Bool.and_eq_true, decide_eq_true_eq] at h8
      exact ⟨j, hij, by omega, o, ho, e, by simpa using he, h8.1, h8.2⟩
set_option maxHeartbeats 1600000 in
theorem wp_region_wildL {P : Program} {id : Nat} {Q : Exit → Act → World → Prop} {a0 : Act} {W : World} {l : List Oper} (B : Nat) (qi wi : List Nat) (aσ : Act) (R : (Nat → Option Value) → World → Prop)
    (hm : P.follows .mixedOrders = true) (hback : backB l = true) (hn : lawB l a0.tmps.size = true) (n : Nat) (hc : chainL l qi wi n = true) (hBW : B ≤ W.heap.size)
    (hpre : ∀ (B' : Nat) (W' : World), Below B W W' → B ≤ B' → B' ≤ W'.heap.size → wpQuiet P l.toArray (fun w' => ∃ x : Ext B' W', w' = x.out) (fun a' => a' = aσ) (qi.filterMap fun i => l[i]?) a0)
    (h0 : ∀ w, Below W.heap.size W w → R (fun _ => none) w)
    (hR : ∀ res V V', R res V → Below V.heap.size V V' → R res V')
    (hstep : ∀ (i : Nat) (o : Oper), i ∈ wi → l[i]? = some o → ∀ (res : Nat → Option Value) (a : Act) (w : World), res i = none → R res w → Below B W w → B ≤ w.heap.size →
      (∀ t ∈ eyes o, (∀ j ∈ wi, dstOf l j = some t → res j = some (a.tmps.getD t undef)) ∧ ((∀ j ∈ wi, dstOf l j ≠ some t) → a.tmps.getD t undef = aσ.tmps.getD t undef)) →
      (∀ e ∈ o.after, Region.binds .any e = true → e.on ∈ wi → (res e.on).isSome = true) →
      (∃ f args, (∀ w, (execOp a.eval o).run P w = .ok (.enter f args) w) ∧ Calls P f args w fun e w' => ∃ v, e = .returned v ∧ R (updR res i v) w' ∧ Below B W w') ∨
      (∃ v w', (execOp a.eval o).run P w = .ok (.value v) w' ∧ R (updR res i v) w' ∧ Below B W w') ∨
      (∃ w', (execOp a.eval o).run P w = .ok .skip w' ∧ R (updR res i undef) w' ∧ Below B W w'))
    (hlast : ∀ (ol : Oper), l[n]? = some ol → ∀ (val : Nat → Value) (a : Act) (w : World), R (fun j => if j ∈ wi then some (val j) else none) w → Below B W w → B ≤ w.heap.size → (∀ t ∈ eyes ol, a.tmps.getD t undef = (putW l val wi aσ).tmps.getD t undef) →
      ∃ f args, (∀ w, (execOp a.eval ol).run P w = .ok (.enter f args) w) ∧ Calls P f args w fun e w' => ∃ v, e = .returned v ∧ Q .normal ((putW l val wi aσ).put ol.dst v) w') :
    (Code.region id l.toArray true).wp P Q a0 W := by
  obtain ⟨hlen, hcov, hqi, hwi, hqp, hwp, hqe, hwait⟩ := chainL_of hc
  have hnl : n < l.length := by omega
  obtain ⟨ol, hol⟩ : ∃ ol, l[n]? = some ol := ⟨_, List.getElem?_eq_getElem hnl⟩
  have hL := fun i o ho => lawB_of hn i o ho
  have hone : ∀ (i : Nat) (o : Oper) (j : Nat) (o' : Oper) (d : Nat), l[i]? = some o → l[j]? = some o' → i ≠ j → o.dst = some d → o'.dst ≠ some d := fun i o j o' d hi hj hne hd => (hL j o' hj).2.2.2.1 i o hi hne d hd
  obtain ⟨ql, hql⟩ : ∃ ql, ql = qi.filterMap fun i => l[i]? := ⟨_, rfl⟩
  rw [← hql] at hpre
  have hget : ∀ k, ql[k]? = (qi[k]?).bind fun i => l[i]? := fun k => by rw [hql]; exact pick_get l qi (fun i hi => by have := hqi i hi; omega) k
  have htake : ∀ (k : Nat) (o : Oper), ql[k]? = some o → ∃ i, qi[k]? = some i ∧ l[i]? = some o := fun k o h => by
    rw [hget k] at h
    cases hk : qi[k]? with
    | none => rw [hk] at h; cases h
    | some i => rw [hk] at h; exact ⟨i, rfl, h⟩
  have hpos : ∀ (i : Nat) (o : Oper), i ∈ qi → l[i]? = some o → ∃ k, qi[k]? = some i ∧ ql[k]? = some o := fun i o hi ho => by
    obtain ⟨k, hk, e⟩ := List.getElem_of_mem hi
    have : qi[k]? = some i := by rw [List.getElem?_eq_getElem hk, e]
    exact ⟨k, this, by rw [hget k, this]; exact ho⟩
  have hord : ∀ k k' i i' : Nat, qi[k]? = some i → qi[k']? = some i' → i' < i → k' < k := fun k k' i i' h h' hlt => by
    obtain ⟨h1, rfl⟩ := List.getElem?_eq_some_iff.1 h
    obtain ⟨h2, rfl⟩ := List.getElem?_eq_some_iff.1 h'
    rcases Nat.lt_trichotomy k' k with h3 | h3 | h3
    · exact h3
    · subst h3; omega
    · have := List.pairwise_iff_getElem.1 hqp k k' h1 h2 h3; omega
  have hinj : ∀ k k' i : Nat, qi[k]? = some i → qi[k']? = some i → k = k' := fun k k' i h h' => by
    obtain ⟨h1, e1⟩ := List.getElem?_eq_some_iff.1 h
    obtain ⟨h2, e2⟩ := List.getElem?_eq_some_iff.1 h'
    rcases Nat.lt_trichotomy k' k with h3 | h3 | h3
    · have := List.pairwise_iff_getElem.1 hqp k' k h2 h1 h3; omega
    · exact h3.symm
    · have := List.pairwise_iff_getElem.1 hqp k k' h1 h2 h3; omega
  have hd1 : ∀ (k : Nat) (o : Oper) (d : Nat), ql[k]? = some o → o.dst = some d → d < a0.tmps.size := fun k o d h hd => by
    obtain ⟨i, _, hi⟩ := htake k o h
    exact (hL i o hi).2.2.1 d hd
  have honeq : ∀ (k : Nat) (o : Oper) (j : Nat) (o' : Oper) (d : Nat), ql[k]? = some o → ql[j]? = some o' → k ≠ j → o.dst = some d → o'.dst ≠ some d := fun k o j o' d h h' hne hd => by
    obtain ⟨i1, e1, h1⟩ := htake k o h
    obtain ⟨i2, e2, h2⟩ := htake j o' h'
    exact hone i1 o i2 o' d h1 h2 (by rintro rfl; exact hne (hinj _ _ _ e1 e2)) hd
  obtain ⟨vs0, hst0, hfin0⟩ := stepsS_of _ _ (hpre B W (Below.refl _ _) (Nat.le_refl _) hBW)
  have hsize : aσ.tmps.size = a0.tmps.size := by rw [← hfin0, putsS_size]
  have hdef : aσ.defers = a0.defers := by rw [← hfin0, putsS_defers]
  have hout0 : ∀ t : Nat, (∀ i ∈ qi, dstOf l i ≠ some t) → aσ.tmps.getD t undef = a0.tmps.getD t undef := by
    intro t ht
    rw [← hfin0, putsS_other]
    intro o' hm' hd
    obtain ⟨k, hk, rfl⟩ := List.getElem_of_mem hm'
    obtain ⟨i, e1, hi⟩ := htake k _ (List.getElem?_eq_getElem hk)
    exact ht i (List.mem_of_getElem? e1) (by rw [dstOf_some hi]; exact hd)
  let I0 : (Nat → Bool) → Act → World → Prop := fun L a w => a.defers = a0.defers ∧ a.tmps.size = a0.tmps.size ∧ (∀ t : Nat, (∀ (i : Nat) (o : Oper), l[i]? = some o → o.dst ≠ some t) → a.tmps.getD t undef = a0.tmps.getD t undef) ∧
    (∀ i ∈ qi, ∀ (o : Oper) (d : Nat), l[i]? = some o → L i = true → o.dst = some d → a.tmps.getD d undef = aσ.tmps.getD d undef) ∧
    ∃ res : Nat → Option Value, R res w ∧ Below B W w ∧ (∀ j, (res j).isSome = true ↔ (j ∈ wi ∧ L j = true)) ∧ (∀ (j : Nat) (o : Oper) (d : Nat) (v : Value), l[j]? = some o → o.dst = some d → res j = some v → a.tmps.getD d undef = v)
  refine wp_region_inv hm hback (fun L a w => (∀ (j : Nat) (oj : Oper), l[j]? = some oj → L j = true → ∀ e ∈ oj.after, Region.binds .any e = true → L e.on = true) ∧ (L n = false → I0 L a w) ∧ (L n = true → Q .normal a w)) ?_ ?_ ?_
  · intro L hL0
    refine ⟨fun j oj hj hLj => (by rw [hL0 j (List.getElem?_eq_some_iff.1 hj).1] at hLj; cases hLj), fun _ => ?_, fun hLn => (by rw [hL0 n hnl] at hLn; cases hLn)⟩
    refine ⟨rfl, rfl, fun _ _ => rfl, fun i hi o d ho hLi => (by rw [hL0 i (by have := hqi i hi; omega)] at hLi; cases hLi), fun _ => none, h0 _ ((Below.refl _ W).drew), (Below.refl B W).drew, fun j => ⟨fun h => by simp at h, fun h => ?_⟩, fun j o d v _ _ h => by cases h⟩
    rw [hL0 j (by have := hwi j h.1; omega)] at h
    exact absurd h.2 (by simp)
  · intro L a w i o ho hLi hafter ⟨hcl, hI, hQ⟩
    obtain ⟨hg, hns, hdl, hd2, heyes⟩ := hL i o ho
    have hil := (List.getElem?_eq_some_iff.1 ho).1
    have hall : L n = true → ∀ k i, i + k = n → L i = true := fun hLn k => by
      induction k using Nat.strongRecOn with
      | _ k ih =>
        intro i hik
        rcases Nat.eq_zero_or_pos k with h | h
        · obtain rfl : i = n := by omega
          exact hLn
        · obtain ⟨j, h1, h2, oj, h3, e, h4, h5, h6⟩ := hwait i (by omega)
          rw [← h6]
          exact hcl j oj h3 (ih (n - j) (by omega) j (by omega)) e h4 h5
    have hLnf : L n = false := by
      cases h : L n with
      | false => rfl
      | true => have := hall h (n - i) i (by omega); rw [hLi] at this; cases this
    obtain ⟨i1, i2, i3, i4, res, i5, i6, i7, i8⟩ := hI hLnf
    have hcl' : ∀ (j : Nat) (oj : Oper), l[j]? = some oj → plus L i j = true → ∀ e ∈ oj.after, Region.binds .any e = true → plus L i e.on = true := by
      intro j oj hj hLj e he hb
      unfold plus at hLj ⊢
      by_cases hji : j = i
      · subst hji
        rw [ho] at hj
        obtain rfl := Option.some.inj hj
        split
        · rfl
        · exact hafter e he hb
      · rw [if_neg hji] at hLj
        split
        · rfl
        · exact hcl j oj hj hLj e he hb
    have hBw : B ≤ w.heap.size := Nat.le_trans hBW i6.size
    rw [if_pos (by simp [Region.wanted, hg])]
    by_cases hin : i = n
    · -- the last one
      subst hin
      rw [hol] at ho
      obtain rfl := Option.some.inj ho
      have hbef : ∀ k j, j + k = i → 0 < k → L j = true := fun k => by
        induction k using Nat.strongRecOn with
        | _ k ih =>
          intro j hjk hk
          obtain ⟨j', h1, h2, oj, h3, e, h4, h5, h6⟩ := hwait j (by omega)
          by_cases hji : j' = i
          · subst hji
            rw [hol] at h3
            obtain rfl := Option.some.inj h3
            rw [← h6]; exact hafter e h4 h5
          · rw [← h6]; exact hcl j' oj h3 (ih (i - j') (by omega) j' (by omega) (by omega)) e h4 h5
      have hall2 : ∀ j, j < i → L j = true := fun j hj => hbef (i - j) j (by omega) (by omega)
      have hres : res = fun j => if j ∈ wi then some ((res j).getD undef) else none := by
        funext j
        by_cases hj : j ∈ wi
        · obtain ⟨v, hv⟩ := Option.isSome_iff_exists.1 ((i7 j).2 ⟨hj, hall2 j (hwi j hj)⟩)
          rw [if_pos hj, hv]; rfl
        · rw [if_neg hj]
          cases h : res j with
          | none => rfl
          | some v => exact absurd ((i7 j).1 (by rw [h]; rfl)).1 hj
      obtain ⟨val, hval⟩ : ∃ val : Nat → Value, val = fun j => (res j).getD undef := ⟨_, rfl⟩
      obtain ⟨p1, p2⟩ := putW_size l val wi aσ
      have hat : ∀ t, ol.dst ≠ some t → a.tmps.getD t undef = (putW l val wi aσ).tmps.getD t undef := by
        intro t htn
        by_cases hw : ∃ j ∈ wi, dstOf l j = some t
        · obtain ⟨j, hj, hd⟩ := hw
          obtain ⟨o', ho', hdo⟩ := dstOf_inv hd
          rw [putW_here l _ t j hd wi aσ hj (fun j' hj' hne hd' => by
            obtain ⟨o'', ho'', hdo''⟩ := dstOf_inv hd'
            exact hone j o' j' o'' t ho' ho'' (Ne.symm hne) hdo hdo'') (by rw [hsize]; exact (hL j o' ho').2.2.1 t hdo)]
          obtain ⟨v, hv⟩ := Option.isSome_iff_exists.1 ((i7 j).2 ⟨hj, hall2 j (hwi j hj)⟩)
          rw [i8 j o' t v ho' hdo hv, hval]
          show _ = (res j).getD undef
          rw [hv]; rfl
        · rw [putW_other l _ t wi aσ fun j hj hd => hw ⟨j, hj, hd⟩]
          by_cases hq : ∃ j ∈ qi, dstOf l j = some t
          · obtain ⟨j, hj, hd⟩ := hq
            obtain ⟨o', ho', hdo⟩ := dstOf_inv hd
            exact i4 j hj o' t ho' (hall2 j (hqi j hj)) hdo
          · rw [hout0 t fun j hj hd => hq ⟨j, hj, hd⟩]
            refine i3 t fun j o' hj hd => ?_
            by_cases hji : j = i
            · subst hji
              rw [hol] at hj
              obtain rfl := Option.some.inj hj
              exact htn hd
            · have hjl := (List.getElem?_eq_some_iff.1 hj).1
              rcases hcov j (by omega) with h | h
              · exact hq ⟨j, h.1, (dstOf_some hj).trans hd⟩
              · exact hw ⟨j, h.1, (dstOf_some hj).trans hd⟩
      have hey : ∀ t ∈ eyes ol, a.tmps.getD t undef = (putW l val wi aσ).tmps.getD t undef := fun t ht => hat t fun hd => by
        have := (heyes t ht i ol hol hd).1
        omega
      obtain ⟨f, args, h1, h2⟩ := hlast ol hol val a w (by rw [hval, ← hres]; exact i5) i6 hBw hey
      unfold Oper.wp
      rw [h1]
      simp only [Oper.upon]
      refine h2.mono ?_
      rintro e w' ⟨v, rfl, h3⟩
      have hext : a.put ol.dst v = (putW l val wi aσ).put ol.dst v := by
        refine act_ext ?_ ?_ fun t => ?_
        · rw [put_size, put_size, i2, p1, hsize]
        · rw [put_defers', put_defers', i1, p2, hdef]
        · by_cases hd : ol.dst = some t
          · have hlt := hdl t hd
            rw [hd, put_here _ _ _ (by rw [i2]; exact hlt), put_here _ _ _ (by rw [p1, hsize]; exact hlt)]
          · rw [put_other _ _ _ _ hd, put_other _ _ _ _ hd]
            exact hat t hd
      refine ⟨hcl', fun h => ?_, fun _ => ?_⟩
      · unfold plus at h; simp at h
      · show Q .normal (a.put ol.dst v) w'
        rw [hext]; exact h3
    have hplus : plus L i n = false := by unfold plus; rw [if_neg (fun e => hin e.symm)]; exact hLnf
    rcases hcov i (by omega) with ⟨hq, hnw⟩ | ⟨hw, hnq⟩
    · -- a foreknown one
      obtain ⟨k, hk, hkl⟩ := hpos i o hq ho
      obtain ⟨vs, hst, hfin⟩ := stepsS_of _ _ (hpre w.heap.size w i6 hBw (Nat.le_refl _))
      obtain ⟨v, ai, hY, hv, hno, hyes⟩ := stepsS_key hst hfin hd1 honeq k o hkl
      have he : execOp a.eval o = execOp ai.eval o := by
        refine execOp_congr o (fun c b hc => by rw [notSelect, hc] at hns; cases hns) (eval_eyes fun t ht => ?_)
        by_cases hex : ∃ (j : Nat) (o' : Oper), l[j]? = some o' ∧ o'.dst = some t
        · obtain ⟨j, o', hj, hd⟩ := hex
          obtain ⟨hji, e, he, hb, hon⟩ := heyes t ht j o' hj hd
          have hLj : L j = true := hon ▸ hafter e he hb
          have hjq : j ∈ qi := by
            rcases hcov j (by omega) with h | h
            · exact h.1
            · exact absurd ((dstOf_some hj).trans hd) (hqe i hq o ho t ht j h.1)
          obtain ⟨k', hk', hkl'⟩ := hpos j o' hjq hj
          rw [hyes t k' o' (hord k k' i j hk hk' hji) hkl' hd]
          exact i4 j hjq o' t hj hLj hd
        · have hn' : ∀ (j : Nat) (o' : Oper), l[j]? = some o' → o'.dst ≠ some t := fun j o' hj hd => hex ⟨j, o', hj, hd⟩
          rw [i3 t hn', hno t fun k' o' hk' => by obtain ⟨j, _, hj⟩ := htake k' o' hk'; exact hn' j o' hj]
      have hY' := hY.of_same he (by simp [Region.wanted, hg])
      rcases hY' with ⟨_, hqv⟩ | ⟨hw0, _⟩
      · refine Oper.wp_of_quiet (C := fun w' => ∃ x : Ext w.heap.size w, w' = x.out) (K := fun a' => a' = a.put o.dst v) ⟨⟨w, Below.refl _ _⟩, rfl⟩ ?_ ⟨v, hqv, rfl⟩
        rintro a' w' ⟨z, rfl⟩ rfl
        refine ⟨hcl', fun _ => ?_, fun h => (by rw [hplus] at h; cases h)⟩
        refine ⟨(put_defers' _ _ _).trans i1, (put_size _ _ _).trans i2, fun t ht => ?_, fun j hj o' d hj' hLj hd => ?_, res, hR res w _ i5 z.below, i6.trans (z.below.mono hBw), fun j => ?_, fun j o' d u hj hd hr => ?_⟩
        · rw [put_other _ _ _ _ (ht i o ho)]; exact i3 t ht
        · by_cases hji : j = i
          · subst hji
            rw [ho] at hj'
            obtain rfl := Option.some.inj hj'
            rw [hd, put_here _ _ _ (by rw [i2]; exact hdl d hd)]
            exact hv d hd
          · have hLj' : L j = true := by unfold plus at hLj; rwa [if_neg hji] at hLj
            rw [put_other _ _ _ _ (hd2 j o' hj' hji d hd)]; exact i4 j hj o' d hj' hLj' hd
        · rw [i7 j]
          unfold plus
          constructor
          · rintro ⟨h1, h2⟩; exact ⟨h1, by rw [h2]; simp⟩
          · rintro ⟨h1, h2⟩
            refine ⟨h1, ?_⟩
            by_cases hji : j = i
            · subst hji; exact absurd h1 hnw
            · rwa [if_neg hji] at h2
        · have hji : j ≠ i := by
            rintro rfl
            have := (i7 j).1 (by rw [hr]; rfl)
            exact hnw this.1
          rw [put_other _ _ _ _ (hd2 j o' hj hji d hd)]; exact i8 j o' d u hj hd hr
      · simp [Region.wanted, hg] at hw0
    · -- one of unforeknown result
      have hri : res i = none := by
        cases h : res i with
        | none => rfl
        | some v => have := (i7 i).1 (by rw [h]; rfl); rw [hLi] at this; exact absurd this.2 (by simp)
      have hey : ∀ t ∈ eyes o, (∀ j ∈ wi, dstOf l j = some t → res j = some (a.tmps.getD t undef)) ∧ ((∀ j ∈ wi, dstOf l j ≠ some t) → a.tmps.getD t undef = aσ.tmps.getD t undef) := by
        intro t ht
        constructor
        · intro j hj hd
          obtain ⟨o', hj', hd'⟩ := dstOf_inv hd
          obtain ⟨hji, e, he, hb, hon⟩ := heyes t ht j o' hj' hd'
          have hLj : L j = true := hon ▸ hafter e he hb
          have := (i7 j).2 ⟨hj, hLj⟩
          obtain ⟨v, hv⟩ := Option.isSome_iff_exists.1 this
          rw [hv, i8 j o' t v hj' hd' hv]
        · intro hno
          by_cases hex : ∃ j ∈ qi, dstOf l j = some t
          · obtain ⟨j, hj, hd⟩ := hex
            obtain ⟨o', hj', hd'⟩ := dstOf_inv hd
            obtain ⟨hji, e, he, hb, hon⟩ := heyes t ht j o' hj' hd'
            exact i4 j hj o' t hj' (hon ▸ hafter e he hb) hd'
          · have hnq' : ∀ j ∈ qi, dstOf l j ≠ some t := fun j hj hd => hex ⟨j, hj, hd⟩
            rw [hout0 t hnq']
            refine i3 t fun j o' hj hd => ?_
            have hji := (heyes t ht j o' hj hd).1
            rcases hcov j (by omega) with h | h
            · exact hnq' j h.1 ((dstOf_some hj).trans hd)
            · exact hno j h.1 ((dstOf_some hj).trans hd)
      have hdep : ∀ e ∈ o.after, Region.binds .any e = true → e.on ∈ wi → (res e.on).isSome = true := fun e he hb hin => (i7 e.on).2 ⟨hin, hafter e he hb⟩
      have key : ∀ v w', R (updR res i v) w' → Below B W w' → (fun L a w => (∀ (j : Nat) (oj : Oper), l[j]? = some oj → L j = true → ∀ e ∈ oj.after, Region.binds .any e = true → L e.on = true) ∧ (L n = false → I0 L a w) ∧ (L n = true → Q .normal a w)) (plus L i) (a.put o.dst v) w' := by
        intro v w' hR' hB'
        refine ⟨hcl', fun _ => ?_, fun h => (by rw [hplus] at h; cases h)⟩
        refine ⟨(put_defers' _ _ _).trans i1, (put_size _ _ _).trans i2, fun t ht => ?_, fun j hj o' d hj' hLj hd => ?_, updR res i v, hR', hB', fun j => ?_, fun j o' d u hj hd hr => ?_⟩
        · rw [put_other _ _ _ _ (ht i o ho)]; exact i3 t ht
        · have hji : j ≠ i := by rintro rfl; exact hnq hj
          have hLj' : L j = true := by unfold plus at hLj; rwa [if_neg hji] at hLj
          rw [put_other _ _ _ _ (hd2 j o' hj' hji d hd)]; exact i4 j hj o' d hj' hLj' hd
        · unfold updR plus
          by_cases hji : j = i
          · subst hji; simp [hw]
          · rw [if_neg hji, if_neg hji]; exact i7 j
        · unfold updR at hr
          by_cases hji : j = i
          · subst hji
            rw [if_pos rfl] at hr
            obtain rfl := Option.some.inj hr
            rw [ho] at hj
            obtain rfl := Option.some.inj hj
            rw [hd, put_here _ _ _ (by rw [i2]; exact hdl d hd)]
          · rw [if_neg hji] at hr
            rw [put_other _ _ _ _ (hd2 j o' hj hji d hd)]; exact i8 j o' d u hj hd hr
      rcases hstep i o hw ho res a w hri i5 i6 hBw hey hdep with ⟨f, args, h1, h2⟩ | ⟨v, w', h1, h2, h3⟩ | ⟨w', h1, h2, h3⟩
      · unfold Oper.wp
        rw [h1]
        simp only [Oper.upon]
        refine h2.mono ?_
        rintro e w' ⟨v, rfl, h3, h4⟩
        exact key v w' h3 h4
      · unfold Oper.wp
        rw [h1]
        exact key v w' h2 h3
      · unfold Oper.wp
        rw [h1]
        exact key undef w' h2 h3
  · intro L a w hall ⟨hcl, hI, hQ⟩
    exact hQ (hall n hnl)
end Go.Proofs.Ytfbgldkdlmipoaa

/- Appends, run. -/
namespace Go.Proofs.Ytfbgldkdlmipoaa
open Go.RowKit
set_option linter.unusedSimpArgs false
set_option linter.unusedVariables false

theorem run_append_many {P : Program} {w : World} (t ty e : TypeId) (base : Nat) (i : TypeInfo) (z : Value) (size bytes : Nat) (ht : P.underlying t = some (.slice e)) (hi : P.info? e = some i) (hz : i.zero = some z)
    (hsize : i.size = size) (hby : i.bytes = bytes) (hzs : z.cells.size = size) (hsz : 0 < size) (hby2 : bytes ≤ 100)
    (v : Value) (n : Nat) (xs : List Value) (hown : w.ownsRow base e size v n xs)
    (A : Option Addr) (m c : Nat) (news : List Value) (hl : news.length = m * size) (hsrc : ∀ j u, news[j]? = some u → ∃ ad : Addr, A = some ad ∧ w.cell? (ad.add j) = some u) (h1 : ∀ u ∈ news, u.oneCell' = true)
    (hn : n + m ≤ 2200000) (hbase : base ≤ w.heap.size) :
    ∃ v' w', (Builtin.append_ #[t, t] ty #[v, .slice A m c]).run P w = .ok v' w' ∧ w'.ownsRow base e size v' (n + m) (xs ++ news) ∧ Grew v v' w w' := by
  rcases A with _ | ad
  · have hm : m = 0 := by
      rcases Nat.eq_zero_or_pos m with h0 | h0
      · exact h0
      · have hp : 0 < news.length := by rw [hl]; exact Nat.mul_pos h0 hsz
        obtain ⟨ad, h2, _⟩ := hsrc 0 _ (List.getElem?_eq_getElem hp)
        cases h2
    subst hm
    obtain rfl : news = [] := List.eq_nil_of_length_eq_zero (by simpa using hl)
    exact ⟨v, w, run_append_void w base t ty e i size ht hi v n xs hown c, by simpa using hown, Grew.of_grown hown (World.grownBy.refl w _) (.inl rfl)⟩
  · obtain ⟨v', w', hr, h2, h3, _, h5⟩ := run_append_own_at (P := P) w base t ty e i z size bytes ht hi hz hsize hby hzs hsz v n xs hown ad m c news hl (fun j u hj => by
      obtain ⟨ad', h4, h5⟩ := hsrc j u hj
      obtain rfl := Option.some.inj h4
      exact h5) h1 (Nat.le_trans hn (by decide)) (Nat.le_trans (Nat.mul_le_mul hn hby2) (by decide)) hbase
    exact ⟨v', w', hr, h2, Grew.of_grown hown h3 h5⟩
theorem run_appQ (ty : TypeId) (B : Nat) (W : World) (v : Value) (l l' : List (Int × Int)) (hO : RowQ B W v l) (A : Option Addr) (c : Nat) (hA : PairsAt .i8 .i8 W A l') (hn : l.length + l'.length ≤ 1100000) (hB : B ≤ W.heap.size) :
    ∃ v' w', (Builtin.append_ #[33, 33] ty #[v, .slice A l'.length c]).run Try.prog W = .ok v' w' ∧ RowQ B w' v' (l ++ l') ∧ Grew v v' W w' := by
  obtain ⟨i0, hi, hz0, hz1, hz2⟩ := info_parts Try.infoPlace
  obtain ⟨v', w', h1, h2, h3⟩ := run_append_many (P := Try.prog) (w := W) 33 ty 50 B i0 (.agg #[.int .i8 0, .int .i8 0]) 2 2 Try.underlying33 hi hz0 hz1 hz2 rfl (by decide) (by decide) v l.length (pcells l) hO A l'.length c (pcells l') (pcells_len l') (srcQ hA) (pcells_one l') (by omega) hB
  refine ⟨v', w', h1, ?_, h3⟩
  unfold RowQ
  rw [List.length_append, pcells_app]
  exact h2
theorem exec_append {P : Program} {o : Oper} {a : Act} {w w' : World} {s x : Operand} {t : TypeId} {v xv v' : Value} (ho : o.op = .call { callee := .builtin .append, args := #[s, x], argTypes := #[t, t] })
    (hs : a.eval s = v) (hx : a.eval x = xv) (hr : (Builtin.append_ #[t, t] o.type #[v, xv]).run P w = .ok v' w') : (execOp a.eval o).run P w = .ok (.value v') w' := by
  simp [execOp, ho, resolve, invoke, builtin, hs, hx, hr, Result.andThen]
end Go.Proofs.Ytfbgldkdlmipoaa
