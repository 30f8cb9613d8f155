/- Cells of tiles, tiles of cells; a place looked for in a list. -/
import Derived.Test.YtfijinbdpfeceaaPlaces
import Derived.Test.YtfijinbdpfeceaaLawP
import Derived.Test.YtfijinbdpfeceaaList
import Derived.Laws.StructEq
namespace Go.Proofs.Ytfijinbdpfeceaa
open Go.RowKit
set_option linter.unusedSimpArgs false
set_option linter.unusedVariables false

/-- The first cell of a tile. -/
def firstOf (r : Rf) (c t : Int) : Int := 2 * t + shiftOf r c
/-- The tile that covers a cell of a course, or -1. -/
def tileOf (r : Rf) (d n : Int) : Int := if 0 ≤ n - shiftOf r d ∧ n - shiftOf r d ≤ 2 * r.w - 1 then (n - shiftOf r d) / 2 else -1
set_option maxRecDepth 100000 in
theorem c_cellsOf (r : Rf) (hr : r.Ok) (c t : Int) (hc : 0 ≤ c ∧ c ≤ 7) (ht : 0 ≤ t ∧ t ≤ 7) (w : World) : Calls Try.prog 67 #[.agg (rcells r), .agg #[.int .i8 c, .int .i8 t]] w fun e w' =>
    ∃ g, e = .returned (.slice (some ⟨g, 0, none⟩) 2 2) ∧ Below w.heap.size w w' ∧ w.heap.size ≤ g ∧ w'.heap[g]? = some (.cells #[.int .i64 (firstOf r c t), .int .i64 (firstOf r c t + 1)] 3 (0,0)) := by
  have hs := shiftOf_01 r c
  have HC := hid (c_shift r hr c ⟨hc.1, by omega⟩)
  have e : firstOf r c t = 2 * t + shiftOf r c := rfl
  rw [e]
  obtain ⟨s, hse⟩ : ∃ s, s = shiftOf r c := ⟨_, rfl⟩
  rw [← hse] at hs HC ⊢
  clear hse e
  obtain ⟨c1, c2⟩ := hc
  obtain ⟨t1, t2⟩ := ht
  have HB : Hid (w.heap.size + 2 ≤ ((w.alloc (.cells (rcells r) 27)).alloc (.cells #[.int .i8 c, .int .i8 t] 42)).heap.size) := by simp [Hid]
  have HP := hid (block_alloc (block_new1 w (.cells (rcells r) 27) rfl) (.cells #[.int .i8 c, .int .i8 t] 42))
  have R0 : Hid (∀ x : Ext (w.heap.size + 2) ((w.alloc (.cells (rcells r) 27)).alloc (.cells #[.int .i8 c, .int .i8 t] 42)), (Instr.loadAt 27 (.pointer (some ⟨w.heap.size, 0, none⟩))).run Try.prog x.out = .ok (.agg (rcells r)) x.out) := fun x =>
    run_load_roof 27 Try.underlying27 rfl Try.infoRoof hr (block_below x.below HP.out (by omega))
  have HW : Hid (Below w.heap.size w ((w.alloc (.cells (rcells r) 27)).alloc (.cells #[.int .i8 c, .int .i8 t] 42))) := ((Below.refl _ w).alloc (Nat.le_refl _) _).alloc (by simp) _
  have l1 : w.heap.size + 1 < w.heap.size + 2 := by omega
  have e1 : IntKind.i64.wrap c = c := IntWalk.i64_in _ (by omega)
  have e2 : IntKind.i64.wrap t = t := IntWalk.i64_in _ (by omega)
  have e3 : IntKind.i64.wrap (2 * t) = 2 * t := IntWalk.i64_in _ (by omega)
  have e4 : IntKind.i64.wrap (2 * t + s) = 2 * t + s := IntWalk.i64_in _ (by omega)
  go_enter Try.func67, Try.ntmps67
  go_wp2_with fail
  refine wp_region_ext (w.heap.size + 2) (by kernel_rfl) (by kernel_rfl) ?_
  repeat (first
    | ((with_reducible refine wpQuiet_run (N := 10) rfl rfl (.agg (rcells r)) ?_ ?_); (rintro _ ⟨x, rfl⟩; exact execOp_load rfl rfl (R0.out x)); go_simp)
    | go_big_quiet_step ((go_at_call 77; with_reducible exact Calls.ext HB.out (HC.out _))))
  refine wpQuiet_nil ?_
  intro x
  have hb := HW.out.trans (x.below.mono (by omega))
  have HX := hid hb
  clear hb
  go_wp2_with fail
  go_ret
  exact ⟨x.out.heap.size, rfl, HX.out.alloc HX.out.size _, HX.out.size, block_new1 x.out _ rfl⟩
set_option maxRecDepth 100000 in
theorem c_tileAt (r : Rf) (hr : r.Ok) (hv : validB r = true) (d n : Int) (hd : 0 ≤ d ∧ d ≤ 7) (hn : 0 ≤ n ∧ n ≤ 100) (w : World) : Calls Try.prog 68 #[.agg (rcells r), .int .i64 d, .int .i64 n] w fun e w' => e = .returned (.int .i64 (tileOf r d n)) ∧ Below w.heap.size w w' := by
  have hs := shiftOf_01 r d
  have vh := valid_head hv
  have HC := hid (c_shift r hr d ⟨hd.1, by omega⟩)
  have HP := hid (block_new1 w (.cells (rcells r) 27) rfl)
  have e : tileOf r d n = if 0 ≤ n - shiftOf r d ∧ n - shiftOf r d ≤ 2 * r.w - 1 then (n - shiftOf r d) / 2 else -1 := rfl
  rw [e]
  obtain ⟨s, hse⟩ : ∃ s, s = shiftOf r d := ⟨_, rfl⟩
  obtain ⟨W, hW⟩ : ∃ W, W = r.w := ⟨_, rfl⟩
  rw [← hse] at hs HC ⊢
  rw [← hW] at vh ⊢
  have HWe := hid hW
  clear hse e hW
  have l0 : w.heap.size < (w.alloc (.cells (rcells r) 27)).heap.size := by simp
  have e1 : IntKind.i64.wrap W = W := IntWalk.i64_in _ (by omega)
  by_cases hin : 0 ≤ n - s ∧ n - s ≤ 2 * W - 1
  · rw [if_pos hin]
    have HI : Hid (inB (n - s) 0 (2 * W - 1) = true) := inB_true hin
    obtain ⟨h1, h2⟩ := hin
    go_enter Try.func68, Try.ntmps68
    go_wp2_with (first
      | ((with_reducible refine gate (N := 9) rfl ?_); refine wp_roof 27 Try.underlying27 rfl Try.infoRoof rfl (.tmp 3) rfl w.heap.size rfl r hr HP.out ?_)
      | (go_at_call 77; ((with_reducible refine (HC.out _).mono ?_); rintro e w1 ⟨rfl, hb1⟩); have c0 : w1.cell? ⟨w.heap.size, 0, none⟩ = some (.int .i8 W) := (cell_block (block_below hb1 HP.out l0) (rc0 r)).trans (by rw [HWe.out]))
      | (go_at_call 78; ((with_reducible refine (c_withinI _ _ _ _ _ HI.out).mono ?_); rintro e w2 ⟨rfl, rfl⟩)))
    go_ret
    exact ⟨rfl, ((Below.refl _ w).alloc (Nat.le_refl _) _).trans (hb1.mono (by simp))⟩
  · rw [if_neg hin]
    have HI : Hid (inB (n - s) 0 (2 * W - 1) = false) := inB_false hin
    clear hin
    go_enter Try.func68, Try.ntmps68
    go_wp2_with (first
      | ((with_reducible refine gate (N := 9) rfl ?_); refine wp_roof 27 Try.underlying27 rfl Try.infoRoof rfl (.tmp 3) rfl w.heap.size rfl r hr HP.out ?_)
      | (go_at_call 77; ((with_reducible refine (HC.out _).mono ?_); rintro e w1 ⟨rfl, hb1⟩); have c0 : w1.cell? ⟨w.heap.size, 0, none⟩ = some (.int .i8 W) := (cell_block (block_below hb1 HP.out l0) (rc0 r)).trans (by rw [HWe.out]))
      | (go_at_call 78; ((with_reducible refine (c_withinI _ _ _ _ _ HI.out).mono ?_); rintro e w2 ⟨rfl, rfl⟩)))
    go_ret
    exact ⟨rfl, ((Below.refl _ w).alloc (Nat.le_refl _) _).trans (hb1.mono (by simp))⟩
theorem run_eql_place (w : World) (a b c d : Int) : (binOp .eql 42 (.agg #[.int .i8 a, .int .i8 b]) (.agg #[.int .i8 c, .int .i8 d])).run Try.prog w = .ok (.bool (decide ((a, b) = (c, d)))) w := by
  have u3 := Try.underlying22
  have a3 : ∀ w, (isAgg 22).run Try.prog w = .ok false w := fun w => by kernel_rfl
  have hS : Try.prog.underlying 42 = some (.struct (Try.prog.fieldsOf 42)) := by kernel_rfl
  have hp : Try.prog.stoodInHeld 42 = false := by kernel_rfl
  rw [run_eql_struct, show (10000 : Nat) = 9999 + 1 from rfl, run_equalIn_struct w 9999 42 _ _ hS hp]
  simp only [Program.fieldsOf, Try.underlying42]
  go_simp
  by_cases h1 : a = c <;> by_cases h2 : b = d <;> simp [h1, h2]
/-- A place found in a list: its index. -/
theorem c_indexP (A : Option Addr) (cc : Nat) (l : List (Int × Int)) (hlen : l.length ≤ 1000000) (p1 p2 : Int) (w : World) (hA : SlP w A l) :
    Calls Try.prog 79 #[.slice A l.length cc, .agg #[.int .i8 p1, .int .i8 p2]] w fun e w' => ∃ n : Int, e = .returned (.int .i64 n) ∧ Below w.heap.size w w' ∧ (0 ≤ n ↔ (p1, p2) ∈ l) := by
  have HA := hid hA; clear hA
  have HP := hid (block_new1 w (.cells #[.int .i8 p1, .int .i8 p2] 42) rfl)
  have HB0 : Hid (Below (w.heap.size + 1) (w.alloc (.cells #[.int .i8 p1, .int .i8 p2] 42)) (w.alloc (.cells #[.int .i8 p1, .int .i8 p2] 42))) := Below.refl _ _
  go_enter Try.func79, Try.ntmps79
  go_wp2_with fail
  go_loopw [8] (fun i wr => ∃ k : Nat, k ≤ l.length ∧ i = .int .i64 k ∧ Hid (Below (w.heap.size + 1) (w.alloc (.cells #[.int .i8 p1, .int .i8 p2] 42)) wr) ∧ Hid (∀ j, j < k → l[j]? ≠ some (p1, p2))) (fun i _ => l.length - (intOf i).toNat)
  case atStart => exact ⟨0, by omega, rfl, HB0, fun j h => by omega⟩
  case round =>
    obtain ⟨k, hk, rfl, hb, hno⟩ := hrel
    by_cases hkl : k < l.length
    · have hd : decide ((k : Int) < (l.length : Int)) = true := decide_eq_true (by omega)
      have hkI : (k : Int) < (l.length : Int) := by omega
      have hk0 : (0 : Int) ≤ (k : Int) := by omega
      have hp := List.getElem?_eq_getElem hkl
      obtain ⟨⟨q1, q2⟩, hpp⟩ : ∃ q, q = l[k] := ⟨_, rfl⟩
      rw [← hpp] at hp
      obtain ⟨b, off, rfl, r1, r2, r3⟩ := HA.out k (q1, q2) hp
      have hb0 : Below w.heap.size w wr := ((Below.refl _ w).alloc (Nat.le_refl _) _).trans (hb.out.mono (by omega))
      have c0 := (hb0.cell (p := ⟨b, _, none⟩) r1).trans r2
      have c1 := (hb0.cell (p := ⟨b, _, none⟩) r1).trans r3
      have lb : b < wr.heap.size := Nat.lt_of_lt_of_le r1 hb0.size
      have HPw := hid (block_below hb.out HP.out (by omega))
      have k0 := cell_block HPw.out (j := 0) rfl
      have k1 := cell_block HPw.out (j := 1) rfl
      have lw := block_lt HPw.out
      have hs := hid (show w.heap.size + 1 ≤ wr.heap.size by have := hb.out.size; simpa using this)
      have HQ := hid hp
      clear hp hpp r2 r3 hb0
      dsimp only at c0 c1
      have run : ∀ (g : Bool), decide ((p1, p2) = (q1, q2)) = g → ∀ W : World, (binOp .eql 42 (.agg #[.int .i8 p1, .int .i8 p2]) (.agg #[.int .i8 q1, .int .i8 q2])).run Try.prog W = .ok (.bool g) W := fun g hg W => by rw [run_eql_place, hg]
      by_cases he : (p1, p2) = (q1, q2)
      · have R := hid (run true (decide_eq_true he))
        have HE := hid he
        clear run he
        go_wp2_with fail
        refine wp_region_ext wr.heap.size (by kernel_rfl) (by kernel_rfl) ?_
        repeat (first
          | ((with_reducible refine wpQuiet_run (N := 16) rfl rfl (.bool true) ?_ ?_); (rintro _ ⟨x, rfl⟩; exact execOp_eql rfl rfl rfl (by kernel_rfl) (R.out x.out)); go_simp)
          | go_big_quiet_step (fail))
        refine wpQuiet_nil ?_
        intro x
        go_wp2_with fail
        go_ret
        have b1 := hb.out.trans (x.below.mono hs.out)
        exact ⟨k, rfl, ((Below.refl _ w).alloc (Nat.le_refl _) _).trans (b1.mono (by omega)), ⟨fun _ => by rw [HE.out]; exact List.mem_of_getElem? HQ.out, fun _ => by omega⟩⟩
      · have R := hid (run false (decide_eq_false he))
        have HE := hid he
        clear run he
        go_wp2_with fail
        refine wp_region_ext wr.heap.size (by kernel_rfl) (by kernel_rfl) ?_
        repeat (first
          | ((with_reducible refine wpQuiet_run (N := 16) rfl rfl (.bool false) ?_ ?_); (rintro _ ⟨x, rfl⟩; exact execOp_eql rfl rfl rfl (by kernel_rfl) (R.out x.out)); go_simp)
          | go_big_quiet_step (fail))
        refine wpQuiet_nil ?_
        intro x
        go_wp2_with fail
        exact ⟨⟨k + 1, by omega, by go_num, hb.out.trans (x.below.mono hs.out), all_succ (p := fun j => l[j]? ≠ some (p1, p2)) hno.out (by rw [HQ.out]; intro h; exact HE.out (Option.some.inj h).symm)⟩, by simp [intOf]; omega⟩
    · obtain rfl : k = l.length := by omega
      have hd : decide ((l.length : Int) < (l.length : Int)) = false := decide_eq_false (by omega)
      go_wp2_with fail
      go_ret
      refine ⟨-1, rfl, ((Below.refl _ w).alloc (Nat.le_refl _) _).trans (hb.out.mono (by omega)), ⟨fun h => by omega, fun h => ?_⟩⟩
      obtain ⟨j, hj, e⟩ := List.getElem_of_mem h
      exact absurd (by rw [List.getElem?_eq_getElem hj, e]) (hno.out j hj)
theorem c_containsP (A : Option Addr) (cc : Nat) (l : List (Int × Int)) (hlen : l.length ≤ 1000000) (p1 p2 : Int) (w : World) (hA : SlP w A l) :
    Calls Try.prog 69 #[.slice A l.length cc, .agg #[.int .i8 p1, .int .i8 p2]] w fun e w' => e = .returned (.bool (decide ((p1, p2) ∈ l))) ∧ Below w.heap.size w w' := by
  have hA' : Hid (SlP (w.alloc (.cells #[.int .i8 p1, .int .i8 p2] 42)) A l) := hA.below ((Below.refl _ w).alloc (Nat.le_refl _) _) (Nat.le_refl _)
  go_enter Try.func69, Try.ntmps69
  go_wp2_with (go_at_call 79; ((with_reducible refine (c_indexP A cc l hlen p1 p2 _ hA'.out).mono ?_); rintro e w1 ⟨n, rfl, hb1, hn⟩); have HN := hid hn; clear hn)
  all_goals
    go_ret
    exact ⟨ret_bool (by rw [decide_eq_decide]; exact HN.out), ((Below.refl _ w).alloc (Nat.le_refl _) _).trans (hb1.mono (by simp))⟩
end Go.Proofs.Ytfijinbdpfeceaa
