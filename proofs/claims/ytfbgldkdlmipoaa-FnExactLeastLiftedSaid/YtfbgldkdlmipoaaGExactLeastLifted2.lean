/- Texts of the claim FnExactLeastLifted, part 2 of 7. -/
import Derived.Test.YtfbgldkdlmipoaaGExactLeastLifted1
import Derived.Laws.AppendOwn
import Derived.WalkSmall
import Derived.Deep.AppendLies
import Derived.Shelf.Abstract
import Derived.Deep.Onto
import Derived.Laws.StructEq
import Derived.Test.YtfbgldkdlmipoaaProg
import Derived.Test.YtfbgldkdlmipoaaRows
import Derived.WalkKit
import Derived.OpenShut
import Derived.ProofKit
import Derived.SizedLaws
import Derived.ChangeOld
import Derived.ChangeSlices
/- Validity of roofs: the program's and the reference's. -/
namespace Go.Proofs.Ytfbgldkdlmipoaa
open Go.RowKit
set_option linter.unusedVariables false
set_option linter.unusedSimpArgs false

/-- What a roof has to be at one place. -/
def tileOk (r : Rf) (i k : Nat) : Bool := decide (r.at i k ≤ 3) && (decide (r.at i k = 0) || (decide ((i : Int) < r.h) && decide ((k : Int) < r.w)))
def headOk (r : Rf) : Bool := inB r.w 1 8 && (inB r.h 1 8 && decide (r.s ≤ 1))
/-- Whether a roof is valid. -/
def validB (r : Rf) : Bool := headOk r && (List.range 8).all fun i => (List.range 8).all fun k => tileOk r i k
theorem validB_true {r : Rf} (h : headOk r = true) (ht : ∀ i k, i < 8 → k < 8 → tileOk r i k = true) : validB r = true := by
  simp [validB, h]; intro i hi k hk; exact ht i k hi hk
theorem validB_tile {r : Rf} {i k : Nat} (hi : i < 8) (hk : k < 8) (h : tileOk r i k = false) : validB r = false := by
  cases hv : validB r with
  | false => rfl
  | true => simp [validB] at hv; have := hv.2 i hi k hk; simp [h] at this
theorem validB_head {r : Rf} (h : headOk r = false) : validB r = false := by simp [validB, h]

theorem tileYes {r : Rf} {i k : Nat} (h : r.at i k ≤ 3 ∧ (r.at i k = 0 ∨ ((i : Int) < r.h ∧ (k : Int) < r.w))) : tileOk r i k = true := by simpa [tileOk] using h
theorem tileNo {r : Rf} {i k : Nat} (h : ¬ (r.at i k ≤ 3 ∧ (r.at i k = 0 ∨ ((i : Int) < r.h ∧ (k : Int) < r.w)))) : tileOk r i k = false := by
  cases ht : tileOk r i k with
  | false => rfl
  | true => exact absurd (by simpa [tileOk] using ht) h

set_option maxRecDepth 100000 in
set_option maxHeartbeats 800000 in
theorem c_ValidRoof (r : Rf) (hr : r.Ok) (w : World) : Calls Try.prog 100 #[.agg (rcells r)] w fun e w' => e = .returned (.bool (validB r)) ∧ Below w.heap.size w w' := by
  by_cases hd : headOk r = true
  · have hd' := hd
    simp only [headOk, Bool.and_eq_true, decide_eq_true_eq, inB_iff] at hd'
    obtain ⟨⟨a1, a2⟩, ⟨a3, a4⟩, a5⟩ := hd'
    have HR := hid (heap_alloc_new w (.cells (rcells r) 31))
    have e1 : IntKind.i64.wrap r.w = r.w := IntWalk.i64_in _ (by omega)
    have e2 : IntKind.i64.wrap r.h = r.h := IntWalk.i64_in _ (by omega)
    go_enter Try.func100, Try.ntmps100
    go_wp2_with (first | (go_at_call 85; refine (c_within8 _ _ _ _ true (inB_true ⟨by omega, by omega⟩)).mono ?_; rintro e w' ⟨rfl, rfl⟩) | ((with_reducible refine gate (N := 23) rfl ?_); refine wp_tiles rfl (.tmp 22) rfl w.heap.size rfl r hr HR.out ?_))
    go_loopw [24] (fun i wr => ∃ k : Nat, k ≤ 8 ∧ i = .int .i64 k ∧ Below w.heap.size w wr ∧ wr.heap[w.heap.size]? = some (.cells (rcells r) 31 (0, 0)) ∧ Hid (∀ i' k', i' < k → k' < 8 → tileOk r i' k' = true))
      (fun i _ => 8 - (intOf i).toNat)
    case atStart => exact ⟨0, by omega, rfl, (Below.refl _ w).alloc (Nat.le_refl _) _, HR.out, fun i' k' h => by omega⟩
    case round =>
      obtain ⟨k, hk, rfl, hb, hblk, hall⟩ := hrel
      have HB := hid hblk
      clear hblk
      by_cases hlt : k < 8
      · go_wp2_with (first | ((with_reducible refine gate (N := 27) rfl ?_); refine wpList_index rfl 24 (.tmp 23) (.tmp 24) rfl _ _ _ rfl rfl (run_tiles _ r.t .i64 k hlt) ?_) | ((with_reducible refine gateN rfl ?_); refine wp_store_row rfl (.tmp 4) (.tmp 27) rfl _ rfl (trow r.t k) (len_trow _ hr.len _ hlt) rfl rfl ?_) | ((with_reducible refine gate (N := 28) rfl ?_); refine wp_row rfl (.tmp 4) rfl wr.heap.size rfl (trow r.t k) (len_trow _ hr.len _ hlt) (heap_alloc_new _ _) ?_))
        go_loop [29] (fun j => ∃ q : Nat, q ≤ 8 ∧ j = .int .i64 q ∧ Hid (∀ k', k' < q → tileOk r k k' = true)) (fun j => 8 - (intOf j).toNat)
        case atStart => exact ⟨0, by omega, rfl, fun k' h => by omega⟩
        case round =>
          obtain ⟨q, hq, rfl, hrow⟩ := hrel
          by_cases hql : q < 8
          · have hat := hr.at k q
            have hv : (trow r.t k).getD q 0 = r.at k q := trow_at _ _ _ hql
            have hr1 := run_kind (wr.alloc (.cells (tcells (trow r.t k)) 23)) (trow r.t k) (len_trow _ hr.len _ hlt) .i64 q hql
            rw [hv] at hr1
            have HK := hid hr1
            have c0 : (wr.alloc (.cells (tcells (trow r.t k)) 23)).cell? ⟨w.heap.size, 0, none⟩ = some (.int .i8 r.w) := by
              rw [World.cell?_alloc_lt _ _ _ (Array.getElem?_eq_some_iff.1 HB.out).1, cell_of_row _ _ 0 _ _ _ HB.out]; exact rc0 r
            have c1 : (wr.alloc (.cells (tcells (trow r.t k)) 23)).cell? ⟨w.heap.size, 1, none⟩ = some (.int .i8 r.h) := by
              rw [World.cell?_alloc_lt _ _ _ (Array.getElem?_eq_some_iff.1 HB.out).1, cell_of_row _ _ 1 _ _ _ HB.out]; exact rc1 r
            clear hr1 hv
            obtain ⟨v, hvv⟩ : ∃ v, v = r.at k q := ⟨_, rfl⟩
            rw [← hvv] at HK hat
            have HV := hid hvv
            clear hvv
            go_wp2_with ((with_reducible refine gate (N := 32) rfl ?_); refine wpList_index rfl 23 (.tmp 28) (.tmp 29) rfl _ _ _ rfl rfl HK.out ?_)
            all_goals try simp only [bne_iff_ne, ne_eq, bne_eq_false_iff_eq] at *
            all_goals first
              | (go_ret; exact ⟨ret_bool (validB_tile hlt hql (tileNo (by rw [← HV.out]; omega))).symm, hb.alloc hb.size _⟩)
              | (go_round; (case rel => exact ⟨q + 1, by omega, by go_num, all_succ hrow.out (tileYes (by rw [← HV.out]; omega))⟩); (case measure => simp [intOf]; omega))
          · obtain rfl : q = 8 := by omega
            go_wp2
            go_roundw
            case rel => exact ⟨k + 1, by omega, by go_num, hb.alloc hb.size _, by rw [heap_alloc_old _ _ (Array.getElem?_eq_some_iff.1 HB.out).1]; exact HB.out, fun i' k' hi hk' => all_succ (p := fun i => ∀ k, k < 8 → tileOk r i k = true) (fun i hi k hk => hall.out i k hi hk) hrow.out i' hi k' hk'⟩
            case measure => simp [intOf]; omega
      · obtain rfl : k = 8 := by omega
        go_wp2
        go_ret
        exact ⟨ret_bool (validB_true hd (fun i k hi hk => hall.out i k hi hk)).symm, hb⟩
  · have hd' : headOk r = false := by simpa using hd
    have hv := validB_head hd'
    have HD := hid hd
    clear hd hd'
    have HV := hid hv
    clear hv
    by_cases a1 : 1 ≤ r.w ∧ r.w ≤ 8
    · have g1 := inB_true a1
      by_cases a2 : 1 ≤ r.h ∧ r.h ≤ 8
      · have g2 := inB_true a2
        have a3 : 1 < r.s := by
          have := HD.out
          simp [headOk, g1, g2] at this
          exact this
        clear a1 a2
        go_enter Try.func100, Try.ntmps100
        go_wp2_with (go_at_call 85; first | ((with_reducible refine (c_within8 _ _ _ _ true g1).mono ?_); rintro e w' ⟨rfl, rfl⟩) | ((with_reducible refine (c_within8 _ _ _ _ true g2).mono ?_); rintro e w' ⟨rfl, rfl⟩))
        go_ret
        exact ⟨ret_bool HV.out.symm, (Below.refl _ w).alloc (Nat.le_refl _) _⟩
      · have g2 := inB_false a2
        clear a1 a2
        go_enter Try.func100, Try.ntmps100
        go_wp2_with (go_at_call 85; first | ((with_reducible refine (c_within8 _ _ _ _ true g1).mono ?_); rintro e w' ⟨rfl, rfl⟩) | ((with_reducible refine (c_within8 _ _ _ _ false g2).mono ?_); rintro e w' ⟨rfl, rfl⟩))
        go_ret
        exact ⟨ret_bool HV.out.symm, (Below.refl _ w).alloc (Nat.le_refl _) _⟩
    · have g1 := inB_false a1
      clear a1
      go_enter Try.func100, Try.ntmps100
      go_wp2_with (go_at_call 85; ((with_reducible refine (c_within8 _ _ _ _ false g1).mono ?_); rintro e w' ⟨rfl, rfl⟩))
      go_ret
      exact ⟨ret_bool HV.out.symm, (Below.refl _ w).alloc (Nat.le_refl _) _⟩
/-- Whether there is a place. -/
def isPl (r : Rf) (c t : Int) : Bool := inB c 0 (r.h - 1) && inB t 0 (r.w - 1)

theorem isPl_true {r : Rf} {c t : Int} (h : 0 ≤ c ∧ c ≤ r.h - 1 ∧ 0 ≤ t ∧ t ≤ r.w - 1) : isPl r c t = true := by
  unfold isPl; rw [inB_true ⟨h.1, h.2.1⟩, inB_true ⟨h.2.2.1, h.2.2.2⟩]; rfl
theorem isPl_iff {r : Rf} {c t : Int} : isPl r c t = true ↔ 0 ≤ c ∧ c ≤ r.h - 1 ∧ 0 ≤ t ∧ t ≤ r.w - 1 := by
  unfold isPl; rw [Bool.and_eq_true, inB_iff, inB_iff]; omega
theorem isPl_false {r : Rf} {c t : Int} (h : ¬ (0 ≤ c ∧ c ≤ r.h - 1 ∧ 0 ≤ t ∧ t ≤ r.w - 1)) : isPl r c t = false := by
  cases hp : isPl r c t with
  | false => rfl
  | true => exact absurd (isPl_iff.1 hp) h

set_option maxRecDepth 100000 in
theorem c_l01Is (c t : Int) (hc : -128 ≤ c ∧ c ≤ 127) (ht : -128 ≤ t ∧ t ≤ 127) (r : Rf) (hr : r.Ok) (b : Nat) (w : World) (hb : w.heap[b]? = some (.cells (rcells r) 31 (0,0))) (v : Bool) (hv : isPl r c t = v) :
    Calls Try.prog 78 #[.pointer (some ⟨b,0,none⟩), .agg #[.int .i8 c, .int .i8 t]] w fun e w' => e = .returned (.bool v) ∧ Below w.heap.size w w' := by
  subst hv
  obtain ⟨h1, h2⟩ := hc
  obtain ⟨h3, h4⟩ := ht
  have h5 := hr.w1; have h6 := hr.w2; have h7 := hr.h1; have h8 := hr.h2
  have hlt : b < w.heap.size := (Array.getElem?_eq_some_iff.1 hb).1
  have hlt' : b < w.heap.size + 1 := by omega
  have c0 : w.cell? ⟨b, 0, none⟩ = some (.int .i8 r.w) := by rw [cell_of_row w b 0 _ _ _ hb]; exact rc0 r
  have c1 : w.cell? ⟨b, 1, none⟩ = some (.int .i8 r.h) := by rw [cell_of_row w b 1 _ _ _ hb]; exact rc1 r
  clear hb
  have e1 : IntKind.i64.wrap c = c := IntWalk.i64_in _ (by omega)
  have e2 : IntKind.i64.wrap t = t := IntWalk.i64_in _ (by omega)
  have e3 : IntKind.i64.wrap r.w = r.w := IntWalk.i64_in _ (by omega)
  have e4 : IntKind.i64.wrap r.h = r.h := IntWalk.i64_in _ (by omega)
  have e5 : IntKind.i64.wrap (r.w - 1) = r.w - 1 := IntWalk.i64_in _ (by omega)
  have e6 : IntKind.i64.wrap (r.h - 1) = r.h - 1 := IntWalk.i64_in _ (by omega)
  have key : ∀ g1 g2 : Bool, inB c 0 (r.h - 1) = g1 → inB t 0 (r.w - 1) = g2 → Calls Try.prog 78 #[.pointer (some ⟨b,0,none⟩), .agg #[.int .i8 c, .int .i8 t]] w fun e w' =>
      e = .returned (.bool (g1 && g2)) ∧ Below w.heap.size w w' := by
    intro g1 g2 hg1 hg2
    have G1 := hid hg1; clear hg1
    have G2 := hid hg2; clear hg2
    cases g1
    all_goals
      go_enter Try.func78, Try.ntmps78
      go_wp2_with fail
      refine wp_region_ext (w.heap.size + 1) (by kernel_rfl) (by kernel_rfl) ?_
      repeat (go_big_quiet_step ((go_at_call 54; first | with_reducible exact Calls.ext_same (c_l00In _ _ _ _ _ G1.out) | with_reducible exact Calls.ext_same (c_l00In _ _ _ _ _ G2.out))))
      refine wpQuiet_nil ?_
      intro x
      go_wp2
      go_ret
      exact ⟨by simp, ((Below.refl _ w).alloc (Nat.le_refl _) _).trans (x.h.mono (by omega))⟩
  exact key _ _ rfl rfl

set_option maxRecDepth 100000 in
set_option maxHeartbeats 800000 in
theorem c_l01Ok (r : Rf) (hr : r.Ok) (b : Nat) (w : World) (hb : w.heap[b]? = some (.cells (rcells r) 31 (0,0))) : Calls Try.prog 99 #[.pointer (some ⟨b,0,none⟩)] w fun e w' => e = .returned (.bool (validB r)) ∧ Below w.heap.size w w' := by
  have h5 := hr.w1; have h6 := hr.w2; have h7 := hr.h1; have h8 := hr.h2; have h9 := hr.s1
  have hlt : b < w.heap.size := (Array.getElem?_eq_some_iff.1 hb).1
  have c0 : w.cell? ⟨b, 0, none⟩ = some (.int .i8 r.w) := by rw [cell_of_row w b 0 _ _ _ hb]; exact rc0 r
  have c1 : w.cell? ⟨b, 1, none⟩ = some (.int .i8 r.h) := by rw [cell_of_row w b 1 _ _ _ hb]; exact rc1 r
  have c2 : w.cell? ⟨b, 2, none⟩ = some (.int .u8 r.s) := by rw [cell_of_row w b 2 _ _ _ hb]; exact rc2 r
  have ct : ∀ k q : Nat, k < 8 → q < 8 → w.cell? ⟨b, 3 + k * 8 + q, none⟩ = some (.int .u8 (r.at k q)) := fun k q hk hq => by
    have := rct r hr (8 * k + q) (by omega)
    have e : 3 + k * 8 + q = 3 + (8 * k + q) := by omega
    rw [cell_of_row w b _ _ _ _ hb, e]; exact this
  have HB := hid hb; clear hb
  have HT := hid ct; clear ct
  by_cases hd : headOk r = true
  · have hd' := hd
    simp only [headOk, Bool.and_eq_true, decide_eq_true_eq, inB_iff] at hd'
    obtain ⟨⟨a1, a2⟩, ⟨a3, a4⟩, a5⟩ := hd'
    have HD := hid hd; clear hd
    go_enter Try.func99, Try.ntmps99
    go_wp2_with (go_at_call 54; refine (c_l00In _ _ _ _ true (inB_true ⟨by omega, by omega⟩)).mono ?_; rintro e w' ⟨rfl, rfl⟩)
    go_loopw [3] (fun i wr => ∃ k : Nat, k ≤ 8 ∧ i = .int .i8 k ∧ Below w.heap.size w wr ∧ Hid (∀ i' k', i' < k → k' < 8 → tileOk r i' k' = true)) (fun i _ => 8 - (intOf i).toNat)
    case atStart => exact ⟨0, by omega, rfl, Below.refl _ _, fun i' k' h => by omega⟩
    case round =>
      obtain ⟨k, hk, rfl, hb, hall⟩ := hrel
      by_cases hkl : k < 8
      · have hk8 : decide ((k : Int) < 8) = true := decide_eq_true (by omega)
        go_wp2_with fail
        obtain ⟨wo, rfl⟩ : ∃ wo : World, wo = wr := ⟨_, rfl⟩
        go_loopw [4] (fun j wr => ∃ q : Nat, q ≤ 8 ∧ j = .int .i8 q ∧ Below w.heap.size w wr ∧ Hid (∀ k', k' < q → tileOk r k k' = true)) (fun j _ => 8 - (intOf j).toNat)
        case atStart => exact ⟨0, by omega, rfl, hb, fun k' h => by omega⟩
        case round =>
          clear hb
          obtain ⟨q, hq, rfl, hb, hrow⟩ := hrel
          by_cases hql : q < 8
          · have hat := hr.at k q
            have hc : wr.cell? ⟨b, 3 + k * 8 + q, none⟩ = some (.int .u8 (r.at k q)) := (hb.cell (p := ⟨b, _, none⟩) hlt).trans (HT.out k q hkl hql)
            have hblk : wr.heap[b]? = some (.cells (rcells r) 31 (0, 0)) := (hb.block b hlt).trans HB.out
            have HL := hid hblk; clear hblk
            obtain ⟨v, hvv⟩ : ∃ v, v = r.at k q := ⟨_, rfl⟩
            rw [← hvv] at hc hat
            have HV := hid hvv; clear hvv
            obtain ⟨v1, v2⟩ := hat
            by_cases g1 : v ≤ 3
            · have G1 : Hid (inB v 0 3 = true) := inB_true ⟨v1, g1⟩
              by_cases g2 : (k : Int) ≤ r.h - 1 ∧ (q : Int) ≤ r.w - 1
              · have G2 : Hid (isPl r k q = true) := isPl_true ⟨by omega, g2.1, by omega, g2.2⟩
                have H2 := hid g2; clear g2
                go_wp2_with (first | (go_at_call 118; (with_reducible refine (c_l01Kind _ _ _ G1.out).mono ?_); rintro e w' ⟨rfl, rfl⟩) | (go_at_call 78; ((refine (c_l01Is _ _ (by omega) (by omega) r hr b _ HL.out _ G2.out).mono ?_); rintro e w1 ⟨rfl, hb1⟩; have hb2 := hb.trans (hb1.mono hb.size); have hc1 := (hb1.cell (p := ⟨b, 3 + k * 8 + q, none⟩) (Nat.lt_of_lt_of_le hlt hb.size)).trans hc)))
                have h2 := H2.out
                (go_roundw; (case rel => exact ⟨q + 1, by omega, by go_num, hb2, all_succ hrow.out (tileYes (by rw [← HV.out]; omega))⟩); (case measure => simp [intOf]; omega))
              · have G2 : Hid (isPl r k q = false) := isPl_false (fun h => g2 ⟨h.2.1, h.2.2.2⟩)
                have H2 := hid g2; clear g2
                by_cases hz : v = 0
                · have HZ := hid hz
                  subst hz
                  go_wp2_with (first | (go_at_call 118; (with_reducible refine (c_l01Kind _ _ _ G1.out).mono ?_); rintro e w' ⟨rfl, rfl⟩) | (go_at_call 78; ((refine (c_l01Is _ _ (by omega) (by omega) r hr b _ HL.out _ G2.out).mono ?_); rintro e w1 ⟨rfl, hb1⟩; have hb2 := hb.trans (hb1.mono hb.size); have hc1 := (hb1.cell (p := ⟨b, 3 + k * 8 + q, none⟩) (Nat.lt_of_lt_of_le hlt hb.size)).trans hc)))
                  (go_roundw; (case rel => exact ⟨q + 1, by omega, by go_num, hb2, all_succ hrow.out (tileYes (by rw [← HV.out]; omega))⟩); (case measure => simp [intOf]; omega))
                · have hz' : (v != 0) = true := by simpa using hz
                  go_wp2_with (first | (go_at_call 118; (with_reducible refine (c_l01Kind _ _ _ G1.out).mono ?_); rintro e w' ⟨rfl, rfl⟩) | (go_at_call 78; ((refine (c_l01Is _ _ (by omega) (by omega) r hr b _ HL.out _ G2.out).mono ?_); rintro e w1 ⟨rfl, hb1⟩; have hb2 := hb.trans (hb1.mono hb.size); have hc1 := (hb1.cell (p := ⟨b, 3 + k * 8 + q, none⟩) (Nat.lt_of_lt_of_le hlt hb.size)).trans hc)))
                  have h2 := H2.out
                  (go_ret; exact ⟨ret_bool (validB_tile hkl hql (tileNo (by rw [← HV.out]; omega))).symm, hb2⟩)
            · have G1 : Hid (inB v 0 3 = false) := inB_false (fun h => g1 h.2)
              go_wp2_with (go_at_call 118; (with_reducible refine (c_l01Kind _ _ _ G1.out).mono ?_); rintro e w' ⟨rfl, rfl⟩)
              (go_ret; exact ⟨ret_bool (validB_tile hkl hql (tileNo (by rw [← HV.out]; omega))).symm, hb⟩)
          · obtain rfl : q = 8 := by omega
            go_wp2_with fail
            go_roundw
            case rel => exact ⟨k + 1, by omega, by go_num, hb, fun i' k' hi hk' => all_succ (p := fun i => ∀ k, k < 8 → tileOk r i k = true) (fun i hi k hk => hall.out i k hi hk) hrow.out i' hi k' hk'⟩
            case measure => simp [intOf]; omega
      · obtain rfl : k = 8 := by omega
        go_wp2_with fail
        go_ret
        exact ⟨ret_bool (validB_true HD.out (fun i k hi hk => hall.out i k hi hk)).symm, hb⟩
  · have hd' : headOk r = false := by simpa using hd
    have HV := hid (validB_head hd')
    clear hd
    have HD := hid hd'
    clear hd'
    by_cases a1 : 1 ≤ r.w ∧ r.w ≤ 8
    · have g1 := inB_true a1
      by_cases a2 : 1 ≤ r.h ∧ r.h ≤ 8
      · have g2 := inB_true a2
        have a3 : 1 < r.s := by
          have := HD.out
          simp [headOk, g1, g2] at this
          exact this
        have G1 := hid g1; clear g1
        have G2 := hid g2; clear g2
        clear a1 a2
        go_enter Try.func99, Try.ntmps99
        go_wp2_with (go_at_call 54; first | ((with_reducible refine (c_l00In _ _ _ _ true G1.out).mono ?_); rintro e w' ⟨rfl, rfl⟩) | ((with_reducible refine (c_l00In _ _ _ _ true G2.out).mono ?_); rintro e w' ⟨rfl, rfl⟩))
        go_ret
        exact ⟨ret_bool HV.out.symm, Below.refl _ _⟩
      · have G1 := hid g1; clear g1
        have G2 := hid (inB_false a2)
        clear a1 a2
        go_enter Try.func99, Try.ntmps99
        go_wp2_with (go_at_call 54; first | ((with_reducible refine (c_l00In _ _ _ _ true G1.out).mono ?_); rintro e w' ⟨rfl, rfl⟩) | ((with_reducible refine (c_l00In _ _ _ _ false G2.out).mono ?_); rintro e w' ⟨rfl, rfl⟩))
        go_ret
        exact ⟨ret_bool HV.out.symm, Below.refl _ _⟩
    · have G1 := hid (inB_false a1)
      clear a1
      go_enter Try.func99, Try.ntmps99
      go_wp2_with (go_at_call 54; ((with_reducible refine (c_l00In _ _ _ _ false G1.out).mono ?_); rintro e w' ⟨rfl, rfl⟩))
      go_ret
      exact ⟨ret_bool HV.out.symm, Below.refl _ _⟩

end Go.Proofs.Ytfbgldkdlmipoaa

/- Codes of roofs; places, courses, shifts: the program's and the reference's small functions. -/
namespace Go.Proofs.Ytfbgldkdlmipoaa
open Go.RowKit
set_option linter.unusedSimpArgs false
set_option linter.unusedVariables false

/-- The code of a roof and of what has to be so. -/
def codeOf (v g : Bool) : Int := if v = true then (if g = true then 0 else 2) else 1
theorem codeOf_cases (v g : Bool) : (v = false ∧ codeOf v g = 1) ∨ (v = true ∧ g = false ∧ codeOf v g = 2) ∨ (v = true ∧ g = true ∧ codeOf v g = 0) := by cases v <;> cases g <;> simp [codeOf]
theorem codeOf_012 (v g : Bool) : codeOf v g = 1 ∨ codeOf v g = 2 ∨ codeOf v g = 0 := by cases v <;> cases g <;> simp [codeOf]
theorem codeOf_zero {v g : Bool} (h : codeOf v g = 0) : v = true ∧ g = true := by cases v <;> cases g <;> simp [codeOf] at h <;> simp
theorem valid_head {r : Rf} (h : validB r = true) : 1 ≤ r.w ∧ r.w ≤ 8 ∧ 1 ≤ r.h ∧ r.h ≤ 8 ∧ r.s ≤ 1 := by
  simp only [validB, headOk, Bool.and_eq_true, inB_iff, decide_eq_true_eq] at h
  omega
theorem valid_tile {r : Rf} (h : validB r = true) {i k : Nat} (hi : i < 8) (hk : k < 8) : r.at i k ≤ 3 ∧ (r.at i k = 0 ∨ ((i : Int) < r.h ∧ (k : Int) < r.w)) := by
  have : tileOk r i k = true := by
    cases ht : tileOk r i k with
    | true => rfl
    | false => rw [validB_tile hi hk ht] at h; cases h
  simpa [tileOk] using this

set_option maxRecDepth 100000 in
theorem c_roofCode (r : Rf) (hr : r.Ok) (g : Bool) (w : World) : Calls Try.prog 81 #[.agg (rcells r), .bool g] w fun e w' => e = .returned (.int .i64 (codeOf (validB r) g)) ∧ Below w.heap.size w w' := by
  have key : ∀ v, validB r = v → Calls Try.prog 81 #[.agg (rcells r), .bool g] w fun e w' => e = .returned (.int .i64 (codeOf v g)) ∧ Below w.heap.size w w' := by
    intro v hv
    have HV := hid hv; clear hv
    cases v <;> cases g
    all_goals
      go_enter Try.func81, Try.ntmps81
      go_wp2_with (first
        | ((with_reducible refine gate (N := 6) rfl ?_); refine wp_roof 31 Try.underlying31 rfl Try.infoRoof rfl (.tmp 2) rfl w.heap.size rfl r hr (block_new1 w _ rfl) ?_)
        | (go_at_call 100; ((with_reducible refine (c_ValidRoof r hr _).mono ?_); rintro e w1 ⟨rfl, hb1⟩); rw [HV.out]))
      go_ret
      exact ⟨rfl, ((Below.refl _ w).alloc (Nat.le_refl _) _).trans (hb1.mono (by simp))⟩
  exact key _ rfl
theorem c_l01Told (r : Rf) (hr : r.Ok) (b : Nat) (g : Bool) (w : World) (hb : w.heap[b]? = some (.cells (rcells r) 31 (0,0))) : Calls Try.prog 79 #[.pointer (some ⟨b,0,none⟩), .bool g] w fun e w' => e = .returned (.int .i64 (codeOf (validB r) g)) ∧ Below w.heap.size w w' := by
  have HB := hid hb; clear hb
  have key : ∀ v, validB r = v → Calls Try.prog 79 #[.pointer (some ⟨b,0,none⟩), .bool g] w fun e w' => e = .returned (.int .i64 (codeOf v g)) ∧ Below w.heap.size w w' := by
    intro v hv
    have HV := hid hv; clear hv
    cases v <;> cases g
    all_goals
      go_enter Try.func79, Try.ntmps79
      go_wp2_with (go_at_call 99; ((with_reducible refine (c_l01Ok r hr b _ HB.out).mono ?_); rintro e w1 ⟨rfl, hb1⟩); rw [HV.out])
      go_ret
      exact ⟨rfl, hb1⟩
  exact key _ rfl
theorem c_isCourse (r : Rf) (hr : r.Ok) (n : Int) (w : World) (g : Bool) (hg : inB n 0 (r.h - 1) = g) : Calls Try.prog 87 #[.agg (rcells r), .int .i64 n] w fun e w' => e = .returned (.bool g) ∧ Below w.heap.size w w' := by
  have h7 := hr.h1; have h8 := hr.h2
  have HG := hid hg; clear hg
  go_enter Try.func87, Try.ntmps87
  go_wp2_with (go_at_call 51; ((with_reducible refine (c_within64 _ _ _ _ g HG.out).mono ?_); rintro e w1 ⟨rfl, rfl⟩))
  go_ret
  exact ⟨rfl, (Below.refl _ w).alloc (Nat.le_refl _) _⟩
theorem c_l01Course (r : Rf) (hr : r.Ok) (b : Nat) (n : Int) (w : World) (hb : w.heap[b]? = some (.cells (rcells r) 31 (0,0))) (g : Bool) (hg : inB n 0 (r.h - 1) = g) : Calls Try.prog 105 #[.pointer (some ⟨b,0,none⟩), .int .i64 n] w fun e w' => e = .returned (.bool g) ∧ w = w' := by
  have h7 := hr.h1; have h8 := hr.h2
  have c1 := cell_block hb (rc1 r)
  clear hb
  have HG := hid hg; clear hg
  go_enter Try.func105, Try.ntmps105
  go_wp2_with (go_at_call 54; ((with_reducible refine (c_l00In _ _ _ _ g HG.out).mono ?_); rintro e w1 ⟨rfl, rfl⟩))
  go_ret
  exact ⟨rfl, rfl⟩
/-- 1 for a course that is shifted, 0 otherwise. -/
def shiftOf (r : Rf) (n : Int) : Int := (n + r.s) % 2
theorem shiftOf_01 (r : Rf) (n : Int) : 0 ≤ shiftOf r n ∧ shiftOf r n ≤ 1 := by unfold shiftOf; omega
theorem c_shift (r : Rf) (hr : r.Ok) (n : Int) (hn : 0 ≤ n ∧ n ≤ 1000000) (w : World) : Calls Try.prog 103 #[.agg (rcells r), .int .i64 n] w fun e w' => e = .returned (.int .i64 (shiftOf r n)) ∧ Below w.heap.size w w' := by
  have h7 := hr.s1; have h8 := hr.s2
  obtain ⟨n1, n2⟩ := hn
  go_enter Try.func103, Try.ntmps103
  go_wp2_with fail
  go_ret
  exact ⟨rfl, (Below.refl _ w).alloc (Nat.le_refl _) _⟩
theorem c_l01By (r : Rf) (hr : r.Ok) (b : Nat) (n : Int) (hn : 0 ≤ n ∧ n ≤ 1000000) (w : World) (hb : w.heap[b]? = some (.cells (rcells r) 31 (0,0))) : Calls Try.prog 80 #[.pointer (some ⟨b,0,none⟩), .int .i64 n] w fun e w' => e = .returned (.int .i64 (shiftOf r n)) ∧ w = w' := by
  have h7 := hr.s1; have h8 := hr.s2
  have c1 := cell_block hb (rc2 r)
  clear hb
  obtain ⟨n1, n2⟩ := hn
  go_enter Try.func80, Try.ntmps80
  go_wp2_with fail
  go_ret
  exact ⟨rfl, rfl⟩
/-- Whether a roof has a place, in int8. -/
def hasB (r : Rf) (c t : Int) : Bool := inB c 0 (IntKind.i8.wrap (r.h - 1)) && inB t 0 (IntKind.i8.wrap (r.w - 1))
theorem hasB_valid {r : Rf} (h : validB r = true) (c t : Int) : hasB r c t = isPl r c t := by
  have := valid_head h
  have e1 : IntKind.i8.wrap (r.h - 1) = r.h - 1 := by simp [IntKind.wrap, IntKind.bits, IntKind.signed]; omega
  have e2 : IntKind.i8.wrap (r.w - 1) = r.w - 1 := by simp [IntKind.wrap, IntKind.bits, IntKind.signed]; omega
  unfold hasB isPl; rw [e1, e2]
theorem codeOf_has (r : Rf) (c t : Int) (g : Bool) : codeOf (validB r) (hasB r c t && g) = codeOf (validB r) (isPl r c t && g) := by
  cases hv : validB r with
  | false => rfl
  | true => rw [hasB_valid hv]
set_option maxRecDepth 100000 in
theorem c_has (r : Rf) (hr : r.Ok) (c t : Int) (hc : -128 ≤ c ∧ c ≤ 127) (ht : -128 ≤ t ∧ t ≤ 127) (w : World) : Calls Try.prog 59 #[.agg (rcells r), .agg #[.int .i8 c, .int .i8 t]] w fun e w' => e = .returned (.bool (hasB r c t)) ∧ Below w.heap.size w w' := by
  have key : ∀ h1 h2 g1 g2, IntKind.i8.wrap (r.h - 1) = h1 → IntKind.i8.wrap (r.w - 1) = h2 → inB c 0 h1 = g1 → inB t 0 h2 = g2 → Calls Try.prog 59 #[.agg (rcells r), .agg #[.int .i8 c, .int .i8 t]] w fun e w' => e = .returned (.bool (g1 && g2)) ∧ Below w.heap.size w w' := by
    intro h1 h2 g1 g2 e1 e2 hg1 hg2
    have G1 := hid hg1; clear hg1
    have G2 := hid hg2; clear hg2
    cases g1
    all_goals
      go_enter Try.func59, Try.ntmps59
      go_wp2_with (go_at_call 85; first | ((with_reducible refine (c_within8 _ _ _ _ _ G1.out).mono ?_); rintro e w1 ⟨rfl, rfl⟩) | ((with_reducible refine (c_within8 _ _ _ _ _ G2.out).mono ?_); rintro e w1 ⟨rfl, rfl⟩))
      go_ret
      exact ⟨by simp, ((Below.refl _ w).alloc (Nat.le_refl _) _).alloc (by simp) _⟩
  exact key _ _ _ _ rfl rfl rfl rfl
theorem c_roofCodeK (r : Rf) (hr : r.Ok) (g : Bool) (k : Int) (hk : codeOf (validB r) g = k) (w : World) : Calls Try.prog 81 #[.agg (rcells r), .bool g] w fun e w' => e = .returned (.int .i64 k) ∧ Below w.heap.size w w' := hk ▸ c_roofCode r hr g w
theorem c_l01ToldK (r : Rf) (hr : r.Ok) (b : Nat) (g : Bool) (k : Int) (hk : codeOf (validB r) g = k) (w : World) (hb : w.heap[b]? = some (.cells (rcells r) 31 (0,0))) : Calls Try.prog 79 #[.pointer (some ⟨b,0,none⟩), .bool g] w fun e w' => e = .returned (.int .i64 k) ∧ Below w.heap.size w w' := hk ▸ c_l01Told r hr b g w hb
theorem Calls.ext_hid {B : Nat} {W : World} (h : B ≤ W.heap.size) : Hid (B ≤ W.heap.size) := h
end Go.Proofs.Ytfbgldkdlmipoaa

/- The laws' conversions of roofs and places. -/
namespace Go.Proofs.Ytfbgldkdlmipoaa
open Go.RowKit
set_option linter.unusedVariables false
set_option linter.unusedSimpArgs false

/-- The first k elements of t, the rest zero. -/
def upd (t : List Int) (k : Nat) : List Int := t.take k ++ List.replicate (t.length - k) 0
theorem upd_all (t : List Int) : upd t t.length = t := by simp [upd]
theorem len_upd (t : List Int) (k : Nat) : (upd t k).length = t.length := by simp [upd]; omega
theorem upd_set (t : List Int) (k : Nat) (hk : k < t.length) : (tcells (upd t k)).setIfInBounds k (.int .u8 (t.getD k 0)) = tcells (upd t (k + 1)) := by
  apply Array.ext_getElem?
  intro j
  have hd : List.replicate (t.length - k) (0 : Int) = 0 :: List.replicate (t.length - (k + 1)) 0 := by
    have : t.length - k = (t.length - (k + 1)) + 1 := by omega
    rw [this]; rfl
  simp only [Array.getElem?_setIfInBounds, tcells, upd, List.getElem?_toArray, List.size_toArray, List.length_map, List.length_append, List.length_take, List.length_replicate, List.getElem?_map]
  by_cases hj : k = j
  · subst hj
    rw [if_pos rfl, if_pos (by omega), List.take_succ_eq_append_getElem hk, List.append_assoc, List.getElem?_append_right (by simp; omega)]
    have e : k - (List.take k t).length = 0 := by simp; omega
    rw [e]
    simp [List.getD, List.getElem?_eq_getElem hk]
  · rw [if_neg hj, List.take_succ_eq_append_getElem hk, List.append_assoc]
    by_cases hlt : j < k
    · rw [List.getElem?_append_left (by simp; omega), List.getElem?_append_left (by simp; omega)]
    · rw [List.getElem?_append_right (by simp; omega), List.getElem?_append_right (by simp; omega)]
      have e : (List.take k t).length = k := by simp; omega
      rw [e, hd]
      have e2 : j - k = (j - k - 1) + 1 := by omega
      rw [e2]
      simp

set_option maxRecDepth 100000 in
theorem c_toByteA8 (t : List Int) (ht : t.length = 8) (w : World) : Calls Try.prog 56 #[.agg (tcells t)] w fun e w' => e = .returned (.agg (tcells t)) ∧ Below w.heap.size w w' := by
  have hz : (#[Value.int .u8 0, .int .u8 0, .int .u8 0, .int .u8 0, .int .u8 0, .int .u8 0, .int .u8 0, .int .u8 0] : Array Value) = tcells (upd t 0) := by simp [upd, ht, tcells, List.replicate]
  have HZ := hid hz; clear hz
  go_enter Try.func56, Try.ntmps56
  go_wp2_with fail
  go_loopw [4] (fun i wr => ∃ k : Nat, k ≤ 8 ∧ i = .int .i64 k ∧ Below w.heap.size w wr ∧ wr.heap[w.heap.size]? = some (.cells (tcells t) 23 (0, 0)) ∧ wr.heap[w.heap.size + 1]? = some (.cells (tcells (upd t 0)) 23 (0, 0)) ∧
      wr.heap[w.heap.size + 1 + 1]? = some (.cells (tcells (upd t k)) 23 (0, 0))) (fun i _ => 8 - (intOf i).toNat)
  case atStart =>
    rw [HZ.out]
    exact ⟨0, by omega, rfl, (((Below.refl _ w).alloc (Nat.le_refl _) _).alloc (by simp) _).alloc (by simp; omega) _, block_alloc (block_alloc (block_new1 w _ rfl) _) _, block_alloc (block_new1 _ _ (by simp)) _, block_new1 _ _ (by simp)⟩
  case round =>
    obtain ⟨k, hk, rfl, hb, h0, h1, h2⟩ := hrel
    by_cases hlt : k < 8
    · obtain ⟨v, hv⟩ : ∃ v, v = t.getD k 0 := ⟨_, rfl⟩
      have hc0 := cell_block h0 (tc_at t k (by omega))
      rw [← hv] at hc0
      have hc2 := cell_block h2 (tc_at (upd t k) k (by rw [len_upd]; omega))
      have hf2 := frozen_of_row _ _ k _ _ h2
      have H0 := hid h0; clear h0
      have H1 := hid h1; clear h1
      have H2 := hid h2; clear h2
      have HV := hid hv; clear hv
      generalize (upd t k).getD k 0 = u at hc2
      go_wp2_with fail
      go_roundw
      case rel =>
        refine ⟨k + 1, by omega, by go_num, hb.setCell (by simp; omega) _, block_set_other H0.out _ (by simp; omega), block_set_other H1.out _ (by simp), ?_⟩
        rw [heap_setCell_same _ _ _ _ _ _ H2.out, HV.out, upd_set t k (by omega)]
      case measure => simp [intOf]; omega
    · obtain rfl : k = 8 := by omega
      have hu : upd t 8 = t := by rw [← ht]; exact upd_all t
      rw [hu] at h2
      have H0 := hid h0; clear h0
      have H1 := hid h1; clear h1
      have H2 := hid h2; clear h2
      clear hu
      go_wp2_with (first
        | ((with_reducible refine gate (N := 14) rfl ?_); refine wp_row rfl (.tmp 3) rfl (w.heap.size + 1 + 1) rfl t ht H2.out ?_)
        | ((with_reducible refine gateN rfl ?_); refine wpList_store_block rfl 23 (.tmp 2) (.tmp 14) rfl (w.heap.size + 1) 0 _ (tcells t) (tcells t) _ H1.out rfl rfl (by rw [size_tcells, size_tcells, len_upd]; omega) (by rw [Try.infoRow, size_tcells, ht]) (tcells_one t) (setAll_whole (by rw [size_tcells, size_tcells, len_upd])) ?_; intro w2 hw2 hg hsz; have HW := hid hw2; clear hw2))
      exact bodyPost_ret (results_cell_row rfl _ _ (w.heap.size + 1) _ _ _ _ rfl HW.out Try.underlying23 rfl (by rw [Try.infoRow, size_tcells, ht])) rfl ⟨rfl, hb.grown hg hb.size (fun k hk => by cases hk; omega)⟩
theorem tc_ext {cs : Array Value} {t : List Int} (hs : cs.size = t.length) (h : ∀ j, j < t.length → cs[j]? = some (.int .u8 (t.getD j 0))) : cs = tcells t := by
  apply Array.ext_getElem?
  intro j
  by_cases hj : j < t.length
  · rw [h j hj, tc_at t j hj]
  · rw [Array.getElem?_eq_none (by omega), Array.getElem?_eq_none (by rw [size_tcells]; omega)]
theorem upd_at (t : List Int) (k j : Nat) (hj : j < t.length) : (upd t k).getD j 0 = if j < k then t.getD j 0 else 0 := by
  unfold upd
  simp only [List.getD]
  by_cases h : j < k
  · rw [if_pos h, List.getElem?_append_left (by simp; omega), List.getElem?_take, if_pos h]
  · rw [if_neg h, List.getElem?_append_right (by simp; omega), List.getElem?_replicate]
    split <;> rfl
theorem upd_row (t : List Int) (ht : t.length = 64) (k : Nat) (hk : k < 8) : setAll (tcells (upd t (8 * k))) (k * 8) (tcells (trow t k)).toList = tcells (upd t (8 * (k + 1))) := by
  have hr := len_trow t ht k hk
  apply setAll_eq
  · simp [size_tcells, len_upd, ht, tcells, hr]; omega
  · simp [size_tcells, len_upd]
  · intro j hj
    rw [size_tcells, len_upd] at hj
    rw [tc_at _ j (by rw [len_upd]; exact hj), upd_at _ _ _ hj]
    by_cases h1 : k * 8 ≤ j ∧ j < k * 8 + (tcells (trow t k)).toList.length
    · rw [if_pos h1]
      have h2 : j < k * 8 + 8 := by simpa [tcells, hr] using h1.2
      have e : (tcells (trow t k)).toList[j - k * 8]? = some (.int .u8 ((trow t k).getD (j - k * 8) 0)) := by
        rw [Array.getElem?_toList, tc_at _ _ (by omega)]
      rw [e, trow_at t k _ (by omega), if_pos (by omega)]
      congr 3
      omega
    · rw [if_neg h1, tc_at _ j (by rw [len_upd]; exact hj), upd_at _ _ _ hj]
      have h3 : ¬ (k * 8 ≤ j ∧ j < k * 8 + 8) := by
        simpa [tcells, hr] using h1
      by_cases h4 : j < 8 * k
      · rw [if_pos (by omega), if_pos h4]
      · rw [if_neg (by omega), if_neg h4]

set_option maxRecDepth 100000 in
set_option maxHeartbeats 400000 in
theorem c_toByteA8A8 (t : List Int) (ht : t.length = 64) (w : World) : Calls Try.prog 26 #[.agg (tcells t)] w fun e w' => e = .returned (.agg (tcells t)) ∧ Below w.heap.size w w' := by
  go_enter Try.func26, Try.ntmps26
  go_wp2_with fail
  go_loopw [4] (fun i wr => ∃ k : Nat, k ≤ 8 ∧ i = .int .i64 k ∧ Below w.heap.size w wr ∧ wr.heap[w.heap.size]? = some (.cells (tcells t) 24 (0, 0)) ∧ wr.heap[w.heap.size + 1]? = some (.cells (tcells (upd t 0)) 24 (0, 0)) ∧
      wr.heap[w.heap.size + 1 + 1]? = some (.cells (tcells (upd t (8 * k))) 24 (0, 0))) (fun i _ => 8 - (intOf i).toNat)
  case atStart =>
    refine ⟨0, by omega, rfl, (((Below.refl _ w).alloc (Nat.le_refl _) _).alloc (by simp) _).alloc (by simp; omega) _, block_alloc (block_alloc (block_new1 w _ rfl) _) _, ?_, ?_⟩
    · rw [block_alloc (block_new1 _ _ (by simp)) _]; simp [upd, ht, tcells, List.replicate]
    · rw [block_new1 _ _ (by simp)]; simp [upd, ht, tcells, List.replicate]
  case round =>
    obtain ⟨k, hk, rfl, hb, h0, h1, h2⟩ := hrel
    by_cases hlt : k < 8
    · have H0 := hid h0; clear h0
      have H1 := hid h1; clear h1
      have H2 := hid h2; clear h2
      have hr0 := range_mid (o := 0) H0.out (fun j hj => by rw [Nat.zero_add]; exact tc_at t j hj) k ht hlt
      rw [Nat.zero_add] at hr0
      have HR := hid hr0; clear hr0
      go_wp2_with (first
        | ((with_reducible refine gate (N := 12) rfl ?_); refine wpList_load_mid rfl 23 (.tmp 11) rfl w.heap.size (k * 8) rfl ((trow t k).map (Value.int .u8)) _ HR.out Try.underlying23 rfl (by rw [Try.infoRow]; simp [len_trow t ht k hlt]) ?_)
        | (go_at_call 56; (refine (c_toByteA8 (trow t k) (len_trow t ht k hlt) _).mono ?_; rintro e w1 ⟨rfl, hb1⟩))
        | ((with_reducible refine gateN rfl ?_); refine wpList_store_block rfl 23 (.tmp 14) (.tmp 13) rfl (w.heap.size + 1 + 1) (k * 8) _ (tcells (trow t k)) _ _ (block_below hb1 H2.out (block_lt H2.out)) rfl rfl (by rw [size_tcells, size_tcells, len_upd, len_trow t ht k hlt]; omega) (by rw [Try.infoRow, size_tcells, len_trow t ht k hlt]) (tcells_one _) (upd_row t ht k hlt) ?_; intro w2 hw2 hg hsz; have HW := hid hw2; clear hw2))
      have hb2 : Below w.heap.size w w2 := (hb.trans (hb1.mono hb.size)).grown hg (by have := hb.size; have := hb1.size; omega) (fun k hk => by cases hk; omega)
      go_roundw
      case rel => exact ⟨k + 1, by omega, by go_num, hb2, block_grown hg (block_below hb1 H0.out (block_lt H0.out)) (by omega), block_grown hg (block_below hb1 H1.out (block_lt H1.out)) (by omega), HW.out⟩
      case measure => simp [intOf]; omega
    · obtain rfl : k = 8 := by omega
      have hu : upd t (8 * 8) = t := by rw [show 8 * 8 = t.length by omega]; exact upd_all t
      rw [hu] at h2
      have H0 := hid h0; clear h0
      have H1 := hid h1; clear h1
      have H2 := hid h2; clear h2
      clear hu
      have hr2 := range_mid (o := 0) H2.out (fun j hj => by rw [Nat.zero_add]; exact tc_at t j hj)
      have HR : Hid ((wr.rangeAt (w.heap.size + 1 + 1) 0 (t.map (Value.int .u8)))) := range_row H2.out
      clear hr2
      go_wp2_with (first
        | ((with_reducible refine gate (N := 15) rfl ?_); refine wpList_load_mid rfl 24 (.tmp 3) rfl (w.heap.size + 1 + 1) 0 rfl (t.map (Value.int .u8)) _ HR.out Try.underlying24 rfl (by rw [Try.infoTiles]; simp [ht]) ?_)
        | ((with_reducible refine gateN rfl ?_); refine wpList_store_block rfl 24 (.tmp 2) (.tmp 15) rfl (w.heap.size + 1) 0 _ (tcells t) (tcells t) _ H1.out rfl rfl (by rw [size_tcells, size_tcells, len_upd]; omega) (by rw [Try.infoTiles, size_tcells, ht]) (tcells_one t) (setAll_whole (by rw [size_tcells, size_tcells, len_upd])) ?_; intro w2 hw2 hg hsz; have HW := hid hw2; clear hw2))
      exact bodyPost_ret (results_cell_row rfl _ _ (w.heap.size + 1) _ _ _ _ rfl HW.out Try.underlying24 rfl (by rw [Try.infoTiles, size_tcells, ht])) rfl ⟨rfl, hb.grown hg hb.size (fun k hk => by cases hk; omega)⟩
set_option maxRecDepth 100000 in
set_option maxHeartbeats 800000 in
theorem c_toRoof (r : Rf) (hr : r.Ok) (w : World) : Calls Try.prog 10 #[.agg (rcells r)] w fun e w' => e = .returned (.agg (rcells r)) ∧ Below w.heap.size w w' := by
  go_enter Try.func10, Try.ntmps10
  go_wp2_with (first
    | ((with_reducible refine gate (N := 14) rfl ?_); refine wp_tiles rfl (.tmp 13) rfl w.heap.size rfl r hr (block_alloc (block_alloc (block_new1 w _ rfl) _) _) ?_)
    | (go_at_call 26; (refine (c_toByteA8A8 r.t hr.len _).mono ?_; rintro e w1 ⟨rfl, hb1⟩))
    | ((with_reducible refine gateN rfl ?_); refine wpList_store_block rfl 24 (.tmp 16) (.tmp 15) rfl (w.heap.size + 1 + 1) 3 _ (tcells r.t) (rcells r) _ (block_below hb1 (block_new1 _ _ (by simp)) (by simp)) rfl rfl (Nat.le_of_eq (by rw [size_tcells, hr.len]; rfl)) (by rw [Try.infoTiles, size_tcells, hr.len]) (tcells_one _) (setAll_roof hr rfl rfl rfl rfl) ?_; intro w2 hw2 hg hsz; have HW := hid hw2; clear hw2)
    | ((with_reducible refine gate (N := 17) rfl ?_); refine wp_roof 31 Try.underlying31 rfl Try.infoRoof rfl (.tmp 3) rfl (w.heap.size + 1 + 1) rfl r hr HW.out ?_)
    | ((with_reducible refine gateN rfl ?_); refine wpList_store_block rfl 31 (.tmp 2) (.tmp 17) rfl (w.heap.size + 1) 0 _ (rcells r) (rcells r) _ (block_grown hg (block_below hb1 (block_alloc (block_new1 _ _ (by simp)) _) (by simp)) (by omega)) rfl rfl (by first | (simp [size_rcells, hr.len, Rf.zero]; done) | (rw [size_rcells, hr.len]; exact Nat.le_refl _)) (by rw [Try.infoRoof, size_rcells, hr.len]) (rcells_one r) (setAll_whole (by first | (simp [size_rcells, hr.len, Rf.zero]; done) | (rw [size_rcells, hr.len]; rfl))) ?_; intro w3 hw3 hg3 hsz3; have HW3 := hid hw3; clear hw3))
  refine bodyPost_ret (results_cell_row rfl _ _ (w.heap.size + 1) _ _ _ _ rfl HW3.out Try.underlying31 rfl (by rw [Try.infoRoof, size_rcells, hr.len])) rfl ⟨rfl, ?_⟩
  have hb0 := (((Below.refl w.heap.size w).alloc (Nat.le_refl _) _).alloc (by simp) _).alloc (by simp; omega) _ |>.trans (hb1.mono (by simp; omega))
  have s1 := hb0.size
  exact (hb0.grown hg s1 (fun k hk => by cases hk; omega)).grown hg3 (by omega) (fun k hk => by cases hk; omega)
end Go.Proofs.Ytfbgldkdlmipoaa

/- The laws' own comparisons of roofs, at one roof and itself. -/
namespace Go.Proofs.Ytfbgldkdlmipoaa
open Go.RowKit
set_option linter.unusedSimpArgs false
set_option linter.unusedVariables false
end Go.Proofs.Ytfbgldkdlmipoaa

/- The kind of a tile: read and replaced. -/
namespace Go.Proofs.Ytfbgldkdlmipoaa
open Go.RowKit
set_option linter.unusedSimpArgs false
set_option linter.unusedVariables false

theorem roof_cell {W : World} {b : Nat} {r : Rf} (hr : r.Ok) {T : TypeId} {fr : Nat × Nat} (hb : W.heap[b]? = some (.cells (rcells r) T fr)) (i k : Nat) (hi : i < 8) (hk : k < 8) : W.cell? ⟨b, 3 + i * 8 + k, none⟩ = some (.int .u8 (r.at i k)) := by
  have := rct r hr (8 * i + k) (by omega)
  have e : 3 + i * 8 + k = 3 + (8 * i + k) := by omega
  rw [cell_of_row W b _ _ _ _ hb, e]; exact this
set_option maxRecDepth 100000 in
theorem c_kind (r : Rf) (hr : r.Ok) (c t : Int) (hc : 0 ≤ c ∧ c ≤ 7) (ht : 0 ≤ t ∧ t ≤ 7) (w : World) : Calls Try.prog 70 #[.agg (rcells r), .agg #[.int .i8 c, .int .i8 t]] w fun e w' => e = .returned (.int .u8 (r.at c.toNat t.toNat)) ∧ Below w.heap.size w w' := by
  obtain ⟨i, rfl⟩ := Int.eq_ofNat_of_zero_le hc.1
  obtain ⟨k, rfl⟩ := Int.eq_ofNat_of_zero_le ht.1
  rw [Int.toNat_natCast, Int.toNat_natCast]
  have i8 : i < 8 := by omega
  have k8 : k < 8 := by omega
  have i1 : (i : Int) < 8 := by omega
  have k1 : (k : Int) < 8 := by omega
  have i0 : (0 : Int) ≤ (i : Int) := by omega
  have k0 : (0 : Int) ≤ (k : Int) := by omega
  have hcell : ((w.alloc (.cells (rcells r) 31)).alloc (.cells #[.int .i8 (i : Int), .int .i8 (k : Int)] 50)).cell? ⟨w.heap.size, 3 + i * 8 + k, none⟩ = some (.int .u8 (r.at i k)) := roof_cell hr (block_alloc (block_new1 w _ rfl) _) i k i8 k8
  obtain ⟨v, hv⟩ : ∃ v, v = r.at i k := ⟨_, rfl⟩
  rw [← hv] at hcell ⊢
  clear hv hc ht
  have l0 : w.heap.size < w.heap.size + 1 + 1 := by omega
  have l1 : w.heap.size + 1 < w.heap.size + 1 + 1 := by omega
  go_enter Try.func70, Try.ntmps70
  go_wp2_with fail
  refine wp_region_ext (w.heap.size + 1 + 1) (by kernel_rfl) (by kernel_rfl) ?_
  repeat (go_big_quiet_step (fail))
  refine wpQuiet_nil ?_
  intro x
  go_wp2_with fail
  go_ret
  exact ⟨rfl, (((Below.refl _ w).alloc (Nat.le_refl _) _).alloc (by simp) _).trans (x.h.mono (by omega))⟩
set_option maxRecDepth 100000 in
theorem c_l01At (r : Rf) (hr : r.Ok) (b : Nat) (c t : Int) (hc : 0 ≤ c ∧ c ≤ 7) (ht : 0 ≤ t ∧ t ≤ 7) (w : World) (hb : w.heap[b]? = some (.cells (rcells r) 31 (0,0))) : Calls Try.prog 91 #[.pointer (some ⟨b,0,none⟩), .agg #[.int .i8 c, .int .i8 t]] w fun e w' => e = .returned (.int .i64 (r.at c.toNat t.toNat)) ∧ Below w.heap.size w w' := by
  obtain ⟨i, rfl⟩ := Int.eq_ofNat_of_zero_le hc.1
  obtain ⟨k, rfl⟩ := Int.eq_ofNat_of_zero_le ht.1
  rw [Int.toNat_natCast, Int.toNat_natCast]
  have i8 : i < 8 := by omega
  have k8 : k < 8 := by omega
  have i1 : (i : Int) < 8 := by omega
  have k1 : (k : Int) < 8 := by omega
  have i0 : (0 : Int) ≤ (i : Int) := by omega
  have k0 : (0 : Int) ≤ (k : Int) := by omega
  have hcell : w.cell? ⟨b, 3 + i * 8 + k, none⟩ = some (.int .u8 (r.at i k)) := roof_cell hr hb i k i8 k8
  have hat := hr.at i k
  have hlt := block_lt hb
  have hlt' : b < w.heap.size + 1 := by omega
  obtain ⟨v, hv⟩ : ∃ v, v = r.at i k := ⟨_, rfl⟩
  rw [← hv] at hcell hat ⊢
  clear hv hc ht hb
  have e1 : IntKind.i64.wrap v = v := IntWalk.i64_in _ (by omega)
  have l0 : w.heap.size < w.heap.size + 1 := by omega
  go_enter Try.func91, Try.ntmps91
  go_wp2_with fail
  refine wp_region_ext (w.heap.size + 1) (by kernel_rfl) (by kernel_rfl) ?_
  repeat (go_big_quiet_step (fail))
  refine wpQuiet_nil ?_
  intro x
  go_wp2_with fail
  go_ret
  exact ⟨rfl, ((Below.refl _ w).alloc (Nat.le_refl _) _).trans (x.h.mono (by omega))⟩
theorem c_toPlace (c t : Int) (w : World) : Calls Try.prog 27 #[.agg #[.int .i8 c, .int .i8 t]] w fun e w' => e = .returned (.agg #[.int .i8 c, .int .i8 t]) ∧ Below w.heap.size w w' := by
  go_enter Try.func27, Try.ntmps27
  go_wp2_with fail
  refine bodyPost_ret (v := .agg #[.int .i8 c, .int .i8 t]) (by simp [results, Try.results27, go_sem]) rfl ⟨rfl, ?_⟩
  exact (((Below.refl _ w).alloc (Nat.le_refl _) _).alloc (by simp) _).alloc (by simp; omega) _
end Go.Proofs.Ytfbgldkdlmipoaa

/- Lists of places in memory; the code of a roof and of places. -/
namespace Go.Proofs.Ytfbgldkdlmipoaa
open Go.RowKit
set_option linter.unusedSimpArgs false
set_option linter.unusedVariables false

/-- A slice's elements, places, lie at A. -/
def SlP (w : World) (A : Option Addr) (l : List (Int × Int)) : Prop := ∀ j p, l[j]? = some p → ∃ b off, A = some ⟨b, off, none⟩ ∧ b < w.heap.size ∧ w.cell? ⟨b, off + j * 2, none⟩ = some (.int .i8 p.1) ∧ w.cell? ⟨b, off + j * 2 + 1, none⟩ = some (.int .i8 p.2)
theorem SlP.nil (w : World) (A : Option Addr) : SlP w A [] := fun j p h => by simp at h
theorem SlP.below {B : Nat} {w w' : World} {A : Option Addr} {l : List (Int × Int)} (h : SlP w A l) (hb : Below B w w') (hB : w.heap.size ≤ B) : SlP w' A l := fun j p hj => by
  obtain ⟨b, off, e, h1, h2, h3⟩ := h j p hj
  exact ⟨b, off, e, Nat.lt_of_lt_of_le h1 hb.size, (hb.cell (p := ⟨b, _, none⟩) (by show b < B; omega)).trans h2, (hb.cell (p := ⟨b, _, none⟩) (by show b < B; omega)).trans h3⟩
/-- The numbers of places are of their kinds. -/
def PlB (l : List (Int × Int)) : Prop := ∀ p ∈ l, (-128 ≤ p.1 ∧ p.1 ≤ 127) ∧ (-128 ≤ p.2 ∧ p.2 ≤ 127)
/-- The code of a roof, of what has to be so, and of how many places there are. -/
def codeL (v g : Bool) (n : Nat) : Int := if codeOf v g = 0 ∧ 8 < n then 3 else codeOf v g
theorem codeL_cases (v g : Bool) (n : Nat) : (v = false ∧ codeL v g n = 1) ∨ (v = true ∧ g = false ∧ codeL v g n = 2) ∨ (v = true ∧ g = true ∧ 8 < n ∧ codeL v g n = 3) ∨ (v = true ∧ g = true ∧ n ≤ 8 ∧ codeL v g n = 0) := by
  cases v <;> cases g <;> by_cases h : 8 < n <;> simp [codeL, codeOf, h] <;> omega
def allPl (r : Rf) (l : List (Int × Int)) : Bool := l.all fun p => isPl r p.1 p.2
theorem allPl_snoc (r : Rf) (l : List (Int × Int)) (k : Nat) (p : Int × Int) (h : l[k]? = some p) : allPl r (l.take (k + 1)) = (allPl r (l.take k) && isPl r p.1 p.2) := by
  obtain ⟨hk, rfl⟩ := List.getElem?_eq_some_iff.1 h
  unfold allPl
  rw [List.take_succ_eq_append_getElem hk, List.all_append]
  simp

set_option maxRecDepth 100000 in
theorem c_l04Asked (r : Rf) (hr : r.Ok) (b : Nat) (Ac : Option Addr) (cc : Nat) (A : Option Addr) (c : Nat) (l : List (Int × Int)) (hB : PlB l) (hlen : l.length ≤ 70368744177664) (fine : Bool) (w : World) (hb : w.heap[b]? = some (.cells (rcells r) 31 (0,0))) (hA : SlP w A l) :
    Calls Try.prog 53 #[.pointer (some ⟨b,0,none⟩), .slice Ac 0 cc, .slice A l.length c, .bool fine] w fun e w' => e = .returned (.int .i64 (codeL (validB r) (fine && allPl r l) l.length)) ∧ Below w.heap.size w w' := by
  have hlt := block_lt hb
  have HR := hid hb; clear hb
  have HA := hid hA; clear hA
  have HP := hid hB; clear hB
  go_enter Try.func53, Try.ntmps53
  go_wp2_with fail
  go_loop [3, 9] (fun f i => f = .bool fine ∧ i = .int .i64 0) (fun _ _ => 0)
  case atStart => exact ⟨rfl, rfl⟩
  case round =>
    obtain ⟨rfl, rfl⟩ := hrel
    go_wp2_with fail
    go_loopw [3, 10] (fun f i wr => ∃ (k : Nat) (g : Bool), k ≤ l.length ∧ i = .int .i64 k ∧ f = .bool g ∧ Hid (g = (fine && allPl r (l.take k))) ∧ Below w.heap.size w wr) (fun _ i _ => l.length - (intOf i).toNat)
    case atStart => exact ⟨0, fine, by omega, rfl, rfl, by simp [Hid, allPl], Below.refl _ _⟩
    case round =>
      obtain ⟨k, g, hk, rfl, rfl, hg, hb⟩ := hrel
      by_cases hkl : k < l.length
      · have hk8 : decide ((k : Int) < (l.length : Int)) = true := decide_eq_true (by omega)
        have hp := List.getElem?_eq_getElem hkl
        obtain ⟨p, hpp⟩ : ∃ p, p = l[k] := ⟨_, rfl⟩
        rw [← hpp] at hp
        have hpb := HP.out p (hpp ▸ List.getElem_mem hkl)
        have hsn := hid (allPl_snoc r l k p hp)
        cases g
        · clear hp hpp hpb
          go_wp2_with fail
          go_roundw
          case rel => exact ⟨k + 1, false, by omega, by go_num, rfl, by show false = _; rw [hsn.out, ← Bool.and_assoc, ← hg.out]; rfl, hb⟩
          case measure => simp [intOf]; omega
        · obtain ⟨bb, off, rfl, q1, q2, q3⟩ := HA.out k p hp
          have c0 := (hb.cell (p := ⟨bb, _, none⟩) q1).trans q2
          have c1 := (hb.cell (p := ⟨bb, _, none⟩) q1).trans q3
          have HR2 := hid (block_below hb HR.out hlt)
          obtain ⟨p1, p2⟩ := p
          clear hp hpp q2 q3
          obtain ⟨b1, b2⟩ := hpb
          have B1 := hid b1; have B2 := hid b2; clear b1 b2
          dsimp only at c0 c1 hsn B1 B2
          cases hv : isPl r p1 p2
          all_goals
            have HV := hid hv
            clear hv
            go_wp2_with (go_at_call 78; ((with_reducible refine (c_l01Is p1 p2 B1.out B2.out r hr b _ HR2.out _ HV.out).mono ?_); rintro e w1 ⟨rfl, hb1⟩))
            go_roundw
            case rel => exact ⟨k + 1, _, by omega, by go_num, rfl, by show _ = _; rw [hsn.out, ← Bool.and_assoc, ← hg.out, HV.out]; rfl, hb.trans (hb1.mono hb.size)⟩
            case measure => simp [intOf]; omega
      · obtain rfl : k = l.length := by omega
        rw [List.take_length] at hg
        have HR2 := hid (block_below hb HR.out hlt)
        have hnd : decide ((l.length : Int) < (l.length : Int)) = false := decide_eq_false (by omega)
        have key : codeL (validB r) (fine && allPl r l) l.length = codeL (validB r) g l.length := by rw [hg.out]
        have KEY := hid key
        clear hk hkl key hg
        rcases codeL_cases (validB r) g l.length with ⟨hv, hc⟩ | ⟨hv, hg, hc⟩ | ⟨hv, hg, h8, hc⟩ | ⟨hv, hg, h8, hc⟩
        all_goals
          have HC := hid hc
          first
            | (have HK : Hid (codeOf (validB r) g = 1) := by simp [Hid, hv, codeOf])
            | (have HK : Hid (codeOf (validB r) g = 2) := by simp [Hid, hv, hg, codeOf])
            | (have HK : Hid (codeOf (validB r) g = 0) := by simp [Hid, hv, hg, codeOf])
          clear hc hv
          try clear hg
          go_wp2_with (go_at_call 79; ((with_reducible refine (c_l01ToldK r hr b g _ HK.out _ HR2.out).mono ?_); rintro e w1 ⟨rfl, hb1⟩))
          go_ret
          exact ⟨ret_int (KEY.out.trans HC.out).symm, hb.trans (hb1.mono hb.size)⟩
end Go.Proofs.Ytfbgldkdlmipoaa

/- Slices of places that a call has made: compared, marked, held against their marks. -/
namespace Go.Proofs.Ytfbgldkdlmipoaa
open Go.RowKit
set_option linter.unusedSimpArgs false
set_option linter.unusedVariables false

/-- The slice v holds the places l; its array, if l is not empty, lies in a block from lo on, below hi, that starts with them. -/
def OwP (lo hi : Nat) (w : World) (v : Value) (l : List (Int × Int)) : Prop :=
  ∃ A c, v = .slice A l.length c ∧ (l ≠ [] → ∃ b cs, A = some ⟨b, 0, none⟩ ∧ lo ≤ b ∧ b < hi ∧ w.heap[b]? = some (.cells cs 50 (0, 0)) ∧ l.length * 2 ≤ cs.size ∧
    ∀ j p, l[j]? = some p → cs[j * 2]? = some (.int .i8 p.1) ∧ cs[j * 2 + 1]? = some (.int .i8 p.2))
theorem OwP.below {lo hi B : Nat} {w w' : World} {v : Value} {l : List (Int × Int)} (h : OwP lo hi w v l) (hb : Below B w w') (hB : hi ≤ B) : OwP lo hi w' v l := by
  obtain ⟨A, c, rfl, h⟩ := h
  refine ⟨A, c, rfl, fun hl => ?_⟩
  obtain ⟨b, cs, h1, h2, h3, h4, h5⟩ := h hl
  exact ⟨b, cs, h1, h2, h3, block_below hb h4 (by omega), h5⟩
theorem OwP.cells {lo hi : Nat} {w : World} {v : Value} {l : List (Int × Int)} (h : OwP lo hi w v l) {j : Nat} {p : Int × Int} (hj : l[j]? = some p) :
    ∃ b c, v = .slice (some ⟨b, 0, none⟩) l.length c ∧ lo ≤ b ∧ b < hi ∧ b < w.heap.size ∧ w.cell? ⟨b, j * 2, none⟩ = some (.int .i8 p.1) ∧ w.cell? ⟨b, j * 2 + 1, none⟩ = some (.int .i8 p.2) := by
  obtain ⟨A, c, rfl, h⟩ := h
  obtain ⟨b, cs, rfl, h2, h3, h4, h5, h6⟩ := h (by rintro rfl; simp at hj)
  have := h6 j p hj
  exact ⟨b, c, rfl, h2, h3, block_lt h4, cell_block h4 this.1, cell_block h4 this.2⟩
set_option maxRecDepth 100000 in
theorem c_eqPlace (c t : Int) (w : World) : Calls Try.prog 32 #[.agg #[.int .i8 c, .int .i8 t], .agg #[.int .i8 c, .int .i8 t]] w fun e w' => e = .returned (.bool true) ∧ Below w.heap.size w w' := by
  go_enter Try.func32, Try.ntmps32
  go_wp2_with fail
  go_ret
  exact ⟨rfl, ((Below.refl _ w).alloc (Nat.le_refl _) _).alloc (by simp) _⟩
set_option maxRecDepth 100000 in
theorem c_eqPlaceS (lo hi lo' hi' : Nat) (v v' : Value) (l : List (Int × Int)) (hlen : l.length ≤ 70368744177664) (w : World) (h : OwP lo hi w v l) (h' : OwP lo' hi' w v' l) (hh : hi ≤ w.heap.size) (hh' : hi' ≤ w.heap.size) :
    Calls Try.prog 13 #[v, v'] w fun e w' => e = .returned (.bool true) ∧ Below w.heap.size w w' := by
  have HA := hid h
  have HA' := hid h'
  obtain ⟨A, c, rfl, h0⟩ := h
  obtain ⟨A', c', rfl, h0'⟩ := h'
  clear h0 h0'
  go_enter Try.func13, Try.ntmps13
  go_wp2_with fail
  go_loopw [5] (fun i wr => ∃ k : Nat, k ≤ l.length ∧ i = .int .i64 k ∧ Hid (Below w.heap.size w wr)) (fun i _ => l.length - (intOf i).toNat)
  case atStart => exact ⟨0, by omega, rfl, Below.refl _ _⟩
  case round =>
    obtain ⟨k, hk, rfl, hb⟩ := hrel
    by_cases hkl : k < l.length
    · have hd : decide ((k : Int) < (l.length : Int)) = true := decide_eq_true (by omega)
      have hp := List.getElem?_eq_getElem hkl
      obtain ⟨⟨p1, p2⟩, hpp⟩ : ∃ p, p = l[k] := ⟨_, rfl⟩
      rw [← hpp] at hp
      obtain ⟨b, c1, e1, _, _, q1, q2, q3⟩ := (HA.out.below hb.out hh).cells hp
      obtain ⟨b', c1', e1', _, _, q1', q2', q3'⟩ := (HA'.out.below hb.out hh').cells hp
      obtain ⟨rfl, rfl⟩ : A = some ⟨b, 0, none⟩ ∧ c = c1 := by simpa using e1
      obtain ⟨rfl, rfl⟩ : A' = some ⟨b', 0, none⟩ ∧ c' = c1' := by simpa using e1'
      have HW : Hid (Below wr.heap.size wr wr) := Below.refl _ _
      clear hp hpp e1 e1'
      go_wp2_with fail
      refine wp_region_ext wr.heap.size (by kernel_rfl) (by kernel_rfl) ?_
      repeat (go_big_quiet_step ((go_at_call 32; with_reducible exact Calls.ext (Nat.le_refl _) (c_eqPlace p1 p2 _))))
      refine wpQuiet_nil ?_
      intro x
      go_wp2_with fail
      exact ⟨⟨k + 1, by omega, by go_num, hb.out.trans (x.h.mono hb.out.size)⟩, by simp [intOf]; omega⟩
    · obtain rfl : k = l.length := by omega
      have hd : decide ((l.length : Int) < (l.length : Int)) = false := decide_eq_false (by omega)
      go_wp2_with fail
      go_ret
      exact ⟨rfl, hb.out⟩
/-- One place of such a slice, replaced. -/
theorem OwP.put {lo hi : Nat} {w : World} {b c : Nat} {l : List (Int × Int)} (h : OwP lo hi w (.slice (some ⟨b, 0, none⟩) l.length c) l) {k : Nat} (hk : k < l.length) (x y : Int) :
    OwP lo hi ((w.setCell ⟨b, k * 2, none⟩ (.int .i8 x)).setCell ⟨b, k * 2 + 1, none⟩ (.int .i8 y)) (.slice (some ⟨b, 0, none⟩) l.length c) (l.set k (x, y)) := by
  obtain ⟨A, c', e, h⟩ := h
  have hne : l ≠ [] := by rintro rfl; simp at hk
  obtain ⟨b', cs, rfl, h2, h3, h4, h5, h6⟩ := h hne
  have e1 := (Value.slice.inj e).1
  obtain rfl : b = b' := by simpa using e1
  have g1 := heap_setCell_same w b (k * 2) cs _ (.int .i8 x) h4
  have g2 := heap_setCell_same _ b (k * 2 + 1) _ _ (.int .i8 y) g1
  refine ⟨_, c, by simp, fun _ => ⟨b, _, rfl, h2, h3, g2, by simp; omega, fun j p hj => ?_⟩⟩
  rw [List.getElem?_set] at hj
  by_cases hjk : k = j
  · subst hjk
    rw [if_pos rfl, if_pos hk] at hj
    obtain rfl := Option.some.inj hj
    constructor
    · rw [Array.getElem?_setIfInBounds_ne (by omega), Array.getElem?_setIfInBounds, if_pos rfl, if_pos (by omega)]
    · rw [Array.getElem?_setIfInBounds, if_pos rfl, if_pos (by simp; omega)]
  · rw [if_neg hjk] at hj
    have := h6 j p hj
    rw [Array.getElem?_setIfInBounds_ne (by omega), Array.getElem?_setIfInBounds_ne (by omega), Array.getElem?_setIfInBounds_ne (by omega), Array.getElem?_setIfInBounds_ne (by omega)]
    exact this
/-- The places l, those below k marked from m on. -/
def mkL (l : List (Int × Int)) (m : Int) (k : Nat) : List (Int × Int) := (List.range l.length).map fun j => if j < k then (IntKind.i8.wrap (m + 2 * j), IntKind.i8.wrap (m + 2 * j + 1)) else l.getD j (0, 0)
theorem mkL_len (l : List (Int × Int)) (m : Int) (k : Nat) : (mkL l m k).length = l.length := by simp [mkL]
theorem mkL_get (l : List (Int × Int)) (m : Int) (k j : Nat) : (mkL l m k)[j]? = if j < l.length then some (if j < k then (IntKind.i8.wrap (m + 2 * j), IntKind.i8.wrap (m + 2 * j + 1)) else l.getD j (0, 0)) else none := by
  unfold mkL
  rw [List.getElem?_map]
  by_cases hj : j < l.length
  · rw [List.getElem?_range hj, if_pos hj]; rfl
  · rw [List.getElem?_eq_none (by simp; omega), if_neg hj]; rfl
theorem mkL_zero (l : List (Int × Int)) (m : Int) : mkL l m 0 = l := by
  apply List.ext_getElem?
  intro j
  rw [mkL_get]
  by_cases hj : j < l.length
  · rw [if_pos hj, if_neg (by omega), List.getD_eq_getElem?_getD, List.getElem?_eq_getElem hj]; rfl
  · rw [if_neg hj, List.getElem?_eq_none (by omega)]
theorem mkL_step (l : List (Int × Int)) (m : Int) (k : Nat) (hk : k < l.length) : (mkL l m k).set k (IntKind.i8.wrap (m + 2 * k), IntKind.i8.wrap (m + 2 * k + 1)) = mkL l m (k + 1) := by
  apply List.ext_getElem?
  intro j
  rw [List.getElem?_set, mkL_get, mkL_get, mkL_len]
  by_cases hj : j < l.length
  · rw [if_pos hj, if_pos hj]
    by_cases hjk : k = j
    · subst hjk; rw [if_pos rfl, if_pos hk, if_pos (by omega)]
    · rw [if_neg hjk]
      by_cases h2 : j < k
      · rw [if_pos h2, if_pos (by omega)]
      · rw [if_neg h2, if_neg (by omega)]
  · rw [if_neg hj, if_neg hj]
    by_cases hjk : k = j
    · omega
    · rw [if_neg hjk]
set_option maxRecDepth 100000 in
theorem c_markPlaceS (lo hi : Nat) (v : Value) (l : List (Int × Int)) (m : Int) (hm : 0 ≤ m ∧ m ≤ 1000000) (hlen : l.length ≤ 1000000) (w : World) (h : OwP lo hi w v l) (hh : hi ≤ w.heap.size) (hlo : lo ≤ w.heap.size) :
    Calls Try.prog 18 #[v, .int .i64 m] w fun e w' => e = .returned (.int .i64 (m + 2 * l.length)) ∧ Below lo w w' ∧ OwP lo hi w' v (mkL l m l.length) := by
  have h0 := h
  obtain ⟨A, c, rfl, _⟩ := h
  go_enter Try.func18, Try.ntmps18
  go_wp2_with fail
  go_loopw [1, 5] (fun q i wr => ∃ k : Nat, k ≤ l.length ∧ i = .int .i64 k ∧ q = .int .i64 (m + 2 * k) ∧ Hid (Below lo w wr) ∧ Hid (OwP lo hi wr (.slice A l.length c) (mkL l m k))) (fun _ i _ => l.length - (intOf i).toNat)
  case atStart => exact ⟨0, by omega, rfl, by simp, Below.refl _ _, by rw [mkL_zero]; exact h0⟩
  case round =>
    obtain ⟨k, hk, rfl, rfl, hb, hO⟩ := hrel
    by_cases hkl : k < l.length
    · have hd : decide ((k : Int) < (l.length : Int)) = true := decide_eq_true (by omega)
      have hkl' : k < (mkL l m k).length := by rw [mkL_len]; exact hkl
      have hp := List.getElem?_eq_getElem hkl'
      obtain ⟨⟨p1, p2⟩, hpp⟩ : ∃ p, p = (mkL l m k)[k] := ⟨_, rfl⟩
      rw [← hpp] at hp
      obtain ⟨b, c1, e1, r1, _, q1, q2, q3⟩ := hO.out.cells hp
      obtain ⟨rfl, _, rfl⟩ : A = some ⟨b, 0, none⟩ ∧ l.length = (mkL l m k).length ∧ c = c1 := by simpa using e1
      have HP : Hid (OwP lo hi ((wr.setCell ⟨b, k * 2, none⟩ (.int .i8 (IntKind.i8.wrap (m + 2 * k)))).setCell ⟨b, k * 2 + 1, none⟩ (.int .i8 (IntKind.i8.wrap (m + 2 * k + 1)))) (.slice (some ⟨b, 0, none⟩) l.length c) (mkL l m (k + 1))) := by
        have := hO.out
        rw [← mkL_len l m k] at this
        have := OwP.put this hkl' (IntKind.i8.wrap (m + 2 * k)) (IntKind.i8.wrap (m + 2 * k + 1))
        rw [mkL_step l m k hkl, mkL_len] at this
        exact this
      have f2 : wr.frozen? ⟨b, k * 2, none⟩ = false := by
        obtain ⟨A', c', e', h'⟩ := hO.out
        obtain ⟨b', cs, rfl, _, _, h4, _⟩ := h' (by intro e; rw [e] at hkl'; simp at hkl')
        obtain rfl : b = b' := by simpa using (Value.slice.inj e').1
        exact frozen_of_row _ _ _ _ _ h4
      have f3 : wr.frozen? ⟨b, k * 2 + 1, none⟩ = false := by
        obtain ⟨A', c', e', h'⟩ := hO.out
        obtain ⟨b', cs, rfl, _, _, h4, _⟩ := h' (by intro e; rw [e] at hkl'; simp at hkl')
        obtain rfl : b = b' := by simpa using (Value.slice.inj e').1
        exact frozen_of_row _ _ _ _ _ h4
      clear hp hpp e1 h0 hkl'
      go_wp2_with fail
      exact ⟨⟨k + 1, by omega, by go_num, congrArg (Value.int .i64) (by omega), Below.setCell (Below.setCell hb.out (p := ⟨b, k * 2, none⟩) r1 _) (p := ⟨b, k * 2 + 1, none⟩) r1 _, HP.out⟩, by simp [intOf]; omega⟩
    · obtain rfl : k = l.length := by omega
      have hd : decide ((l.length : Int) < (l.length : Int)) = false := decide_eq_false (by omega)
      go_wp2_with fail
      go_ret
      exact ⟨rfl, hb.out, hO.out⟩
set_option maxRecDepth 100000 in
theorem c_heldPlaceS (lo hi : Nat) (v : Value) (l : List (Int × Int)) (m : Int) (hm : 0 ≤ m ∧ m ≤ 1000000) (hlen : l.length ≤ 1000000) (w : World) (h : OwP lo hi w v (mkL l m l.length)) :
    Calls Try.prog 19 #[v, .int .i64 m] w fun e w' => e = .returned (.int .i64 (m + 2 * l.length)) ∧ Below w.heap.size w w' := by
  have h0 := hid h
  obtain ⟨A, c, rfl, _⟩ := h
  rw [mkL_len] at h0 ⊢
  go_enter Try.func19, Try.ntmps19
  go_wp2_with fail
  go_loop [1, 5] (fun q i => ∃ k : Nat, k ≤ l.length ∧ i = .int .i64 k ∧ q = .int .i64 (m + 2 * k)) (fun _ i => l.length - (intOf i).toNat)
  case atStart => exact ⟨0, by omega, rfl, by simp⟩
  case round =>
    obtain ⟨k, hk, rfl, rfl⟩ := hrel
    by_cases hkl : k < l.length
    · have hd : decide ((k : Int) < (l.length : Int)) = true := decide_eq_true (by omega)
      have hp : (mkL l m l.length)[k]? = some (IntKind.i8.wrap (m + 2 * k), IntKind.i8.wrap (m + 2 * k + 1)) := by rw [mkL_get, if_pos hkl, if_pos hkl]
      obtain ⟨b, c1, e1, r1, _, q1, q2, q3⟩ := h0.out.cells hp
      obtain ⟨rfl, _⟩ : A = some ⟨b, 0, none⟩ ∧ c = c1 := by simpa [mkL_len] using e1
      dsimp only at q2 q3
      clear hp e1
      go_wp2_with fail
      exact ⟨⟨k + 1, by omega, by go_num, congrArg (Value.int .i64) (by omega)⟩, by simp [intOf]; omega⟩
    · obtain rfl : k = l.length := by omega
      have hd : decide ((l.length : Int) < (l.length : Int)) = false := decide_eq_false (by omega)
      go_wp2_with fail
      go_ret
      exact ⟨rfl, Below.refl _ _⟩
/-- The cells of places. -/
def pcells (l : List (Int × Int)) : List Value := l.flatMap fun p => [.int .i8 p.1, .int .i8 p.2]
theorem pcells_len (l : List (Int × Int)) : (pcells l).length = l.length * 2 := by
  induction l with
  | nil => rfl
  | cons p l ih => simp only [pcells, List.flatMap_cons, List.length_append] at ih ⊢; rw [ih]; simp; omega
theorem pcells_get (l : List (Int × Int)) : ∀ j p, l[j]? = some p → (pcells l)[j * 2]? = some (.int .i8 p.1) ∧ (pcells l)[j * 2 + 1]? = some (.int .i8 p.2) := by
  induction l with
  | nil => intro j p h; simp at h
  | cons q l ih =>
    intro j p h
    cases j with
    | zero => simp at h; subst h; simp [pcells]
    | succ j =>
      have := ih j p (by simpa using h)
      have e1 : (j + 1) * 2 = j * 2 + 1 + 1 := by omega
      rw [e1]
      simpa [pcells] using this
theorem pcells_snoc (l : List (Int × Int)) (p : Int × Int) : pcells (l ++ [p]) = pcells l ++ [.int .i8 p.1, .int .i8 p.2] := by simp [pcells]
theorem OwP.of_owns {w : World} {base : Nat} {v : Value} {l : List (Int × Int)} (h : w.ownsRow base 50 2 v l.length (pcells l)) : OwP base w.heap.size w v l := by
  rcases h.2 with ⟨rfl, hn⟩ | ⟨g, cap, cur, rfl, hb, hg, hc, hm, hs, ht⟩
  · exact ⟨none, 0, by rw [hn], fun hl => absurd (List.eq_nil_of_length_eq_zero hn) hl⟩
  · refine ⟨_, cap, rfl, fun _ => ⟨g, cur, rfl, hb, block_lt hg, hg, by rw [hs]; omega, fun j p hj => ?_⟩⟩
    have hjl := (List.getElem?_eq_some_iff.1 hj).1
    have hp := pcells_get l j p hj
    rw [← ht, List.getElem?_take, List.getElem?_take, if_pos (by omega), if_pos (by omega)] at hp
    simpa using hp
end Go.Proofs.Ytfbgldkdlmipoaa

/- All places of a roof, ordered. -/
namespace Go.Proofs.Ytfbgldkdlmipoaa
open Go.RowKit
set_option linter.unusedSimpArgs false
set_option linter.unusedVariables false

/-- The places of the courses below i, and k of course i, in a roof W tiles wide. -/
def allUp (W i k : Nat) : List (Int × Int) := (List.range i).flatMap (fun (c : Nat) => (List.range W).map fun (t : Nat) => ((c : Int), (t : Int))) ++ (List.range k).map fun (t : Nat) => ((i : Int), (t : Int))
theorem allUp_step (W i k : Nat) : allUp W i k ++ [((i : Int), (k : Int))] = allUp W i (k + 1) := by
  simp [allUp, List.range_succ]
theorem allUp_row (W i : Nat) : allUp W i W = allUp W (i + 1) 0 := by
  simp [allUp, List.range_succ]
theorem allUp_len (W i k : Nat) : (allUp W i k).length = i * W + k := by
  simp only [allUp, List.length_append, List.length_map, List.length_range]
  congr 1
  induction i with
  | zero => simp
  | succ i ih => rw [List.range_succ, List.flatMap_append, List.length_append, ih]; simp; rw [Nat.succ_mul]
theorem cell_eq' {W : World} {b j : Nat} {cs : Array Value} {T : TypeId} {fr : Nat × Nat} {k : IntKind} {x y : Int} (h : W.heap[b]? = some (.cells cs T fr)) (hv : cs[j]? = some (.int k x)) (e : x = y) : W.cell? ⟨b, j, none⟩ = some (.int k y) := e ▸ cell_block h hv
theorem Try.infoPlace : (Try.prog.info? 50).map (fun i => (i.zero, i.size, i.bytes)) = some (some (.agg #[.int .i8 0, .int .i8 0]), 2, 2) := by kernel_rfl
theorem OwP.grown {lo hi : Nat} {w w' : World} {row : Option Nat} {v : Value} {l : List (Int × Int)} (h : OwP lo hi w v l) (hg : w.grownBy w' row) (hne : ∀ g, row = some g → g < lo ∨ hi ≤ g) : OwP lo hi w' v l := by
  obtain ⟨A, c, rfl, h⟩ := h
  refine ⟨A, c, rfl, fun hl => ?_⟩
  obtain ⟨b, cs, h1, h2, h3, h4, h5⟩ := h hl
  refine ⟨b, cs, h1, h2, h3, ?_, h5⟩
  rw [hg.block b (block_lt h4) (fun e => by have := hne b e.symm; omega)]
  exact h4
theorem owns_below {w w' : World} {base : Nat} {e : TypeId} {size : Nat} {v : Value} {n : Nat} {xs : List Value} (h : w.ownsRow base e size v n xs) (hb : Below w.heap.size w w') : w'.ownsRow base e size v n xs :=
  h.kept (row := none) ⟨hb.os, hb.tape, hb.output, hb.size, fun k hk _ => hb.block k hk⟩ (Classical.em _)
theorem allUp_mem {W H : Nat} {p : Int × Int} (h : p ∈ allUp W H 0) : (0 ≤ p.1 ∧ p.1 < H) ∧ (0 ≤ p.2 ∧ p.2 < W) := by
  simp only [allUp, List.range_zero, List.map_nil, List.append_nil, List.mem_flatMap, List.mem_map, List.mem_range] at h
  obtain ⟨c, hc, t, ht, rfl⟩ := h
  dsimp only; omega
/-- The places of all tiles of a kind. -/
def tilesL (r : Rf) (n : Int) (l : List (Int × Int)) : List (Int × Int) := l.filter fun p => decide (r.at p.1.toNat p.2.toNat = n)
theorem tilesL_yes {r : Rf} {n : Int} {l : List (Int × Int)} {j : Nat} {p : Int × Int} (hp : l[j]? = some p) (h : r.at p.1.toNat p.2.toNat = n) : tilesL r n (l.take (j + 1)) = tilesL r n (l.take j) ++ [p] := by
  obtain ⟨hj, rfl⟩ := List.getElem?_eq_some_iff.1 hp
  unfold tilesL
  rw [List.take_succ_eq_append_getElem hj, List.filter_append]
  congr 1
  simp [h]
theorem tilesL_no {r : Rf} {n : Int} {l : List (Int × Int)} {j : Nat} {p : Int × Int} (hp : l[j]? = some p) (h : ¬ r.at p.1.toNat p.2.toNat = n) : tilesL r n (l.take (j + 1)) = tilesL r n (l.take j) := by
  obtain ⟨hj, rfl⟩ := List.getElem?_eq_some_iff.1 hp
  unfold tilesL
  rw [List.take_succ_eq_append_getElem hj, List.filter_append]
  have e : List.filter (fun p : Int × Int => decide (r.at p.1.toNat p.2.toNat = n)) [l[j]] = [] := by simp [h]
  rw [e, List.append_nil]
end Go.Proofs.Ytfbgldkdlmipoaa

/- The places of a roof that are as told, by a function value. -/
namespace Go.Proofs.Ytfbgldkdlmipoaa
open Go.RowKit
set_option linter.unusedSimpArgs false
set_option linter.unusedVariables false

/-- The places that are as told. -/
def pickL (f : Int → Int → Bool) (l : List (Int × Int)) : List (Int × Int) := l.filter fun p => f p.1 p.2
theorem pickL_yes {f : Int → Int → Bool} {l : List (Int × Int)} {c t : Int} (h : f c t = true) : pickL f (l ++ [(c, t)]) = pickL f l ++ [(c, t)] := by simp [pickL, h]
theorem pickL_no {f : Int → Int → Bool} {l : List (Int × Int)} {c t : Int} (h : f c t = false) : pickL f (l ++ [(c, t)]) = pickL f l := by simp [pickL, h]
theorem pickL_len (f : Int → Int → Bool) (l : List (Int × Int)) : (pickL f l).length ≤ l.length := List.length_filter_le _ _
/-- A function value that tells of places, in all worlds above a world. -/
def Tells (g : Nat) (fst cap : Array Value) (f : Int → Int → Bool) (r : Rf) (w : World) : Prop :=
  ∀ (W : World) (c t : Int), 0 ≤ c ∧ c < r.h → 0 ≤ t ∧ t < r.w → Below w.heap.size w W → Calls Try.prog g (fst ++ #[.agg #[.int .i8 c, .int .i8 t]] ++ cap) W fun e w' => e = .returned (.bool (f c t)) ∧ Below W.heap.size W w'
end Go.Proofs.Ytfbgldkdlmipoaa

/- Words for the laws whose results are slices of places. -/
namespace Go.Proofs.Ytfbgldkdlmipoaa
open Go.RowKit
set_option linter.unusedSimpArgs false
set_option linter.unusedVariables false

theorem Try.infoLRoof : (Try.prog.info? 26).map (·.size) = some 67 := by kernel_rfl
/-- A result of two: a slice of places and a code. -/
def RetP (w : World) (l : List (Int × Int)) (k : Int) (e : Ending) (w' : World) : Prop := ∃ v, e = .returned (.tuple #[v, .int .i64 k]) ∧ Below w.heap.size w w' ∧ w'.ownsRow w.heap.size 50 2 v l.length (pcells l)
/-- A slice of places whose array lies in the blocks lo .. hi, all of them laid. -/
def OwQ (lo hi : Nat) (w : World) (v : Value) (l : List (Int × Int)) : Prop := OwP lo hi w v l ∧ lo ≤ hi ∧ hi ≤ w.heap.size
theorem OwQ.below {lo hi : Nat} {w w' : World} {v : Value} {l : List (Int × Int)} (h : OwQ lo hi w v l) (hb : Below w.heap.size w w') : OwQ lo hi w' v l := ⟨h.1.below hb h.2.2, h.2.1, Nat.le_trans h.2.2 hb.size⟩
theorem OwQ.below' {lo hi B : Nat} {w w' : World} {v : Value} {l : List (Int × Int)} (h : OwQ lo hi w v l) (hb : Below B w w') (hB : hi ≤ B) : OwQ lo hi w' v l := ⟨h.1.below hb hB, h.2.1, Nat.le_trans h.2.2 hb.size⟩
theorem OwQ.alloc {lo hi : Nat} {w : World} {v : Value} {l : List (Int × Int)} (h : OwQ lo hi w v l) (o : Obj) : OwQ lo hi (w.alloc o) v l := h.below ((Below.refl _ w).alloc (Nat.le_refl _) o)
theorem OwQ.of {w w' : World} {v : Value} {l : List (Int × Int)} (h : w'.ownsRow w.heap.size 50 2 v l.length (pcells l)) (hb : Below w.heap.size w w') : OwQ w.heap.size w'.heap.size w' v l := ⟨OwP.of_owns h, hb.size, Nat.le_refl _⟩
theorem owns_slice {w : World} {base : Nat} {T : TypeId} {s n : Nat} {v : Value} {xs : List Value} (h : w.ownsRow base T s v n xs) : ∃ A c, v = .slice A n c := by
  rcases h.2 with ⟨rfl, rfl⟩ | ⟨g, cap, cur, rfl, _⟩
  · exact ⟨none, 0, rfl⟩
  · exact ⟨_, _, rfl⟩
theorem slp_of {w : World} {base : Nat} {v : Value} {l : List (Int × Int)} (h : w.ownsRow base 50 2 v l.length (pcells l)) : ∃ A c, v = .slice A l.length c ∧ SlP w A l := by
  obtain ⟨A, c, rfl⟩ := owns_slice h
  refine ⟨A, c, rfl, fun j p hj => ?_⟩
  obtain ⟨b, c', e, _, _, h1, h2, h3⟩ := (OwP.of_owns h).cells hj
  obtain ⟨rfl, _⟩ : A = some ⟨b, 0, none⟩ ∧ c = c' := by simpa using e
  exact ⟨b, 0, rfl, h1, by rw [Nat.zero_add]; exact h2, by rw [Nat.zero_add]; exact h3⟩
theorem q_eqPlaceS {lo hi lo' hi' : Nat} {v v' : Value} {l : List (Int × Int)} (hlen : l.length ≤ 1000000) {w : World} (h : OwQ lo hi w v l) (h' : OwQ lo' hi' w v' l) :
    Calls Try.prog 13 #[v, v'] w fun e w' => e = .returned (.bool true) ∧ Below w.heap.size w w' :=
  c_eqPlaceS lo hi lo' hi' v v' l (Nat.le_trans hlen (by decide)) w h.1 h'.1 h.2.2 h'.2.2
theorem q_markPlaceS {lo hi : Nat} {v : Value} {l : List (Int × Int)} (hlen : l.length ≤ 1000000) {w : World} (h : OwQ lo hi w v l) :
    Calls Try.prog 18 #[v, .int .i64 1] w fun e w' => e = .returned (.int .i64 (1 + 2 * l.length)) ∧ Below lo w w' ∧ OwQ lo hi w' v (mkL l 1 l.length) :=
  (c_markPlaceS lo hi v l 1 (by decide) hlen w h.1 h.2.2 (Nat.le_trans h.2.1 h.2.2)).mono fun _ _ ⟨he, hb, ho⟩ => ⟨he, hb, ho, h.2.1, Nat.le_trans h.2.2 hb.size⟩
theorem q_heldPlaceS {lo hi : Nat} {v : Value} {l : List (Int × Int)} (hlen : l.length ≤ 1000000) {w : World} (h : OwQ lo hi w v (mkL l 1 l.length)) :
    Calls Try.prog 19 #[v, .int .i64 1] w fun e w' => e = .returned (.int .i64 (1 + 2 * l.length)) ∧ Below w.heap.size w w' :=
  c_heldPlaceS lo hi v l 1 (by decide) hlen w h.1
/-- One call more, above a world that stays; and where blocks from B' on alone were turned. -/
theorem hstepB {B B' : Nat} {W0 wr w1 : World} (h : Hid (Below B W0 wr)) (h1 : Below B' wr w1) (hB : B ≤ B') : Hid (Below B W0 w1) := h.out.trans (h1.mono hB)
end Go.Proofs.Ytfbgldkdlmipoaa

/- Cells of tiles, tiles of cells; a place looked for in a list. -/
namespace Go.Proofs.Ytfbgldkdlmipoaa
open Go.RowKit
set_option linter.unusedSimpArgs false
set_option linter.unusedVariables false

/-- The first cell of a tile. -/
def firstOf (r : Rf) (c t : Int) : Int := 2 * t + shiftOf r c
/-- The tile that covers a cell of a course, or -1. -/
def tileOf (r : Rf) (d n : Int) : Int := if 0 ≤ n - shiftOf r d ∧ n - shiftOf r d ≤ 2 * r.w - 1 then (n - shiftOf r d) / 2 else -1
set_option maxRecDepth 100000 in
theorem c_cellsOf (r : Rf) (hr : r.Ok) (c t : Int) (hc : 0 ≤ c ∧ c ≤ 7) (ht : 0 ≤ t ∧ t ≤ 7) (w : World) : Calls Try.prog 88 #[.agg (rcells r), .agg #[.int .i8 c, .int .i8 t]] w fun e w' =>
    ∃ g, e = .returned (.slice (some ⟨g, 0, none⟩) 2 2) ∧ Below w.heap.size w w' ∧ w.heap.size ≤ g ∧ w'.heap[g]? = some (.cells #[.int .i64 (firstOf r c t), .int .i64 (firstOf r c t + 1)] 3 (0,0)) := by
  have hs := shiftOf_01 r c
  have HC := hid (c_shift r hr c ⟨hc.1, by omega⟩)
  have e : firstOf r c t = 2 * t + shiftOf r c := rfl
  rw [e]
  obtain ⟨s, hse⟩ : ∃ s, s = shiftOf r c := ⟨_, rfl⟩
  rw [← hse] at hs HC ⊢
  clear hse e
  obtain ⟨c1, c2⟩ := hc
  obtain ⟨t1, t2⟩ := ht
  have HB : Hid (w.heap.size + 2 ≤ ((w.alloc (.cells (rcells r) 31)).alloc (.cells #[.int .i8 c, .int .i8 t] 50)).heap.size) := by simp [Hid]
  have HP := hid (block_alloc (block_new1 w (.cells (rcells r) 31) rfl) (.cells #[.int .i8 c, .int .i8 t] 50))
  have R0 : Hid (∀ x : Ext (w.heap.size + 2) ((w.alloc (.cells (rcells r) 31)).alloc (.cells #[.int .i8 c, .int .i8 t] 50)), (Instr.loadAt 31 (.pointer (some ⟨w.heap.size, 0, none⟩))).run Try.prog x.out = .ok (.agg (rcells r)) x.out) := fun x =>
    run_load_roof 31 Try.underlying31 rfl Try.infoRoof hr (block_below x.below HP.out (by omega))
  have HW : Hid (Below w.heap.size w ((w.alloc (.cells (rcells r) 31)).alloc (.cells #[.int .i8 c, .int .i8 t] 50))) := ((Below.refl _ w).alloc (Nat.le_refl _) _).alloc (by simp) _
  have l1 : w.heap.size + 1 < w.heap.size + 2 := by omega
  have e1 : IntKind.i64.wrap c = c := IntWalk.i64_in _ (by omega)
  have e2 : IntKind.i64.wrap t = t := IntWalk.i64_in _ (by omega)
  have e3 : IntKind.i64.wrap (2 * t) = 2 * t := IntWalk.i64_in _ (by omega)
  have e4 : IntKind.i64.wrap (2 * t + s) = 2 * t + s := IntWalk.i64_in _ (by omega)
  go_enter Try.func88, Try.ntmps88
  go_wp2_with fail
  refine wp_region_ext (w.heap.size + 2) (by kernel_rfl) (by kernel_rfl) ?_
  repeat (first
    | ((with_reducible refine wpQuiet_run (N := 10) rfl rfl (.agg (rcells r)) ?_ ?_); (rintro _ ⟨x, rfl⟩; exact execOp_load rfl rfl (R0.out x)); go_simp)
    | go_big_quiet_step ((go_at_call 103; with_reducible exact Calls.ext HB.out (HC.out _))))
  refine wpQuiet_nil ?_
  intro x
  have hb := HW.out.trans (x.below.mono (by omega))
  have HX := hid hb
  clear hb
  go_wp2_with fail
  go_ret
  exact ⟨x.out.heap.size, rfl, HX.out.alloc HX.out.size _, HX.out.size, block_new1 x.out _ rfl⟩
set_option maxRecDepth 100000 in
theorem c_tileAt (r : Rf) (hr : r.Ok) (hv : validB r = true) (d n : Int) (hd : 0 ≤ d ∧ d ≤ 7) (hn : 0 ≤ n ∧ n ≤ 100) (w : World) : Calls Try.prog 89 #[.agg (rcells r), .int .i64 d, .int .i64 n] w fun e w' => e = .returned (.int .i64 (tileOf r d n)) ∧ Below w.heap.size w w' := by
  have hs := shiftOf_01 r d
  have vh := valid_head hv
  have HC := hid (c_shift r hr d ⟨hd.1, by omega⟩)
  have HP := hid (block_new1 w (.cells (rcells r) 31) rfl)
  have e : tileOf r d n = if 0 ≤ n - shiftOf r d ∧ n - shiftOf r d ≤ 2 * r.w - 1 then (n - shiftOf r d) / 2 else -1 := rfl
  rw [e]
  obtain ⟨s, hse⟩ : ∃ s, s = shiftOf r d := ⟨_, rfl⟩
  obtain ⟨W, hW⟩ : ∃ W, W = r.w := ⟨_, rfl⟩
  rw [← hse] at hs HC ⊢
  rw [← hW] at vh ⊢
  have HWe := hid hW
  clear hse e hW
  have l0 : w.heap.size < (w.alloc (.cells (rcells r) 31)).heap.size := by simp
  have e1 : IntKind.i64.wrap W = W := IntWalk.i64_in _ (by omega)
  by_cases hin : 0 ≤ n - s ∧ n - s ≤ 2 * W - 1
  · rw [if_pos hin]
    have HI : Hid (inB (n - s) 0 (2 * W - 1) = true) := inB_true hin
    obtain ⟨h1, h2⟩ := hin
    go_enter Try.func89, Try.ntmps89
    go_wp2_with (first
      | ((with_reducible refine gate (N := 9) rfl ?_); refine wp_roof 31 Try.underlying31 rfl Try.infoRoof rfl (.tmp 3) rfl w.heap.size rfl r hr HP.out ?_)
      | (go_at_call 103; ((with_reducible refine (HC.out _).mono ?_); rintro e w1 ⟨rfl, hb1⟩); have c0 : w1.cell? ⟨w.heap.size, 0, none⟩ = some (.int .i8 W) := (cell_block (block_below hb1 HP.out l0) (rc0 r)).trans (by rw [HWe.out]))
      | (go_at_call 104; ((with_reducible refine (c_withinI _ _ _ _ _ HI.out).mono ?_); rintro e w2 ⟨rfl, rfl⟩)))
    go_ret
    exact ⟨rfl, ((Below.refl _ w).alloc (Nat.le_refl _) _).trans (hb1.mono (by simp))⟩
  · rw [if_neg hin]
    have HI : Hid (inB (n - s) 0 (2 * W - 1) = false) := inB_false hin
    clear hin
    go_enter Try.func89, Try.ntmps89
    go_wp2_with (first
      | ((with_reducible refine gate (N := 9) rfl ?_); refine wp_roof 31 Try.underlying31 rfl Try.infoRoof rfl (.tmp 3) rfl w.heap.size rfl r hr HP.out ?_)
      | (go_at_call 103; ((with_reducible refine (HC.out _).mono ?_); rintro e w1 ⟨rfl, hb1⟩); have c0 : w1.cell? ⟨w.heap.size, 0, none⟩ = some (.int .i8 W) := (cell_block (block_below hb1 HP.out l0) (rc0 r)).trans (by rw [HWe.out]))
      | (go_at_call 104; ((with_reducible refine (c_withinI _ _ _ _ _ HI.out).mono ?_); rintro e w2 ⟨rfl, rfl⟩)))
    go_ret
    exact ⟨rfl, ((Below.refl _ w).alloc (Nat.le_refl _) _).trans (hb1.mono (by simp))⟩
theorem run_eql_place (w : World) (a b c d : Int) : (binOp .eql 50 (.agg #[.int .i8 a, .int .i8 b]) (.agg #[.int .i8 c, .int .i8 d])).run Try.prog w = .ok (.bool (decide ((a, b) = (c, d)))) w := by
  have u3 := Try.underlying22
  have a3 : ∀ w, (isAgg 22).run Try.prog w = .ok false w := fun w => by kernel_rfl
  have hS : Try.prog.underlying 50 = some (.struct (Try.prog.fieldsOf 50)) := by kernel_rfl
  have hp : Try.prog.stoodInHeld 50 = false := by kernel_rfl
  rw [run_eql_struct, show (10000 : Nat) = 9999 + 1 from rfl, run_equalIn_struct w 9999 50 _ _ hS hp]
  simp only [Program.fieldsOf, Try.underlying50]
  go_simp
  by_cases h1 : a = c <;> by_cases h2 : b = d <;> simp [h1, h2]
/-- A place found in a list: its index. -/
theorem c_indexP (A : Option Addr) (cc : Nat) (l : List (Int × Int)) (hlen : l.length ≤ 1000000) (p1 p2 : Int) (w : World) (hA : SlP w A l) :
    Calls Try.prog 86 #[.slice A l.length cc, .agg #[.int .i8 p1, .int .i8 p2]] w fun e w' => ∃ n : Int, e = .returned (.int .i64 n) ∧ Below w.heap.size w w' ∧ (0 ≤ n ↔ (p1, p2) ∈ l) := by
  have HA := hid hA; clear hA
  have HP := hid (block_new1 w (.cells #[.int .i8 p1, .int .i8 p2] 50) rfl)
  have HB0 : Hid (Below (w.heap.size + 1) (w.alloc (.cells #[.int .i8 p1, .int .i8 p2] 50)) (w.alloc (.cells #[.int .i8 p1, .int .i8 p2] 50))) := Below.refl _ _
  go_enter Try.func86, Try.ntmps86
  go_wp2_with fail
  go_loopw [8] (fun i wr => ∃ k : Nat, k ≤ l.length ∧ i = .int .i64 k ∧ Hid (Below (w.heap.size + 1) (w.alloc (.cells #[.int .i8 p1, .int .i8 p2] 50)) wr) ∧ Hid (∀ j, j < k → l[j]? ≠ some (p1, p2))) (fun i _ => l.length - (intOf i).toNat)
  case atStart => exact ⟨0, by omega, rfl, HB0, fun j h => by omega⟩
  case round =>
    obtain ⟨k, hk, rfl, hb, hno⟩ := hrel
    by_cases hkl : k < l.length
    · have hd : decide ((k : Int) < (l.length : Int)) = true := decide_eq_true (by omega)
      have hkI : (k : Int) < (l.length : Int) := by omega
      have hk0 : (0 : Int) ≤ (k : Int) := by omega
      have hp := List.getElem?_eq_getElem hkl
      obtain ⟨⟨q1, q2⟩, hpp⟩ : ∃ q, q = l[k] := ⟨_, rfl⟩
      rw [← hpp] at hp
      obtain ⟨b, off, rfl, r1, r2, r3⟩ := HA.out k (q1, q2) hp
      have hb0 : Below w.heap.size w wr := ((Below.refl _ w).alloc (Nat.le_refl _) _).trans (hb.out.mono (by omega))
      have c0 := (hb0.cell (p := ⟨b, _, none⟩) r1).trans r2
      have c1 := (hb0.cell (p := ⟨b, _, none⟩) r1).trans r3
      have lb : b < wr.heap.size := Nat.lt_of_lt_of_le r1 hb0.size
      have HPw := hid (block_below hb.out HP.out (by omega))
      have k0 := cell_block HPw.out (j := 0) rfl
      have k1 := cell_block HPw.out (j := 1) rfl
      have lw := block_lt HPw.out
      have hs := hid (show w.heap.size + 1 ≤ wr.heap.size by have := hb.out.size; simpa using this)
      have HQ := hid hp
      clear hp hpp r2 r3 hb0
      dsimp only at c0 c1
      have run : ∀ (g : Bool), decide ((p1, p2) = (q1, q2)) = g → ∀ W : World, (binOp .eql 50 (.agg #[.int .i8 p1, .int .i8 p2]) (.agg #[.int .i8 q1, .int .i8 q2])).run Try.prog W = .ok (.bool g) W := fun g hg W => by rw [run_eql_place, hg]
      by_cases he : (p1, p2) = (q1, q2)
      · have R := hid (run true (decide_eq_true he))
        have HE := hid he
        clear run he
        go_wp2_with fail
        refine wp_region_ext wr.heap.size (by kernel_rfl) (by kernel_rfl) ?_
        repeat (first
          | ((with_reducible refine wpQuiet_run (N := 16) rfl rfl (.bool true) ?_ ?_); (rintro _ ⟨x, rfl⟩; exact execOp_eql rfl rfl rfl (by kernel_rfl) (R.out x.out)); go_simp)
          | go_big_quiet_step (fail))
        refine wpQuiet_nil ?_
        intro x
        go_wp2_with fail
        go_ret
        have b1 := hb.out.trans (x.below.mono hs.out)
        exact ⟨k, rfl, ((Below.refl _ w).alloc (Nat.le_refl _) _).trans (b1.mono (by omega)), ⟨fun _ => by rw [HE.out]; exact List.mem_of_getElem? HQ.out, fun _ => by omega⟩⟩
      · have R := hid (run false (decide_eq_false he))
        have HE := hid he
        clear run he
        go_wp2_with fail
        refine wp_region_ext wr.heap.size (by kernel_rfl) (by kernel_rfl) ?_
        repeat (first
          | ((with_reducible refine wpQuiet_run (N := 16) rfl rfl (.bool false) ?_ ?_); (rintro _ ⟨x, rfl⟩; exact execOp_eql rfl rfl rfl (by kernel_rfl) (R.out x.out)); go_simp)
          | go_big_quiet_step (fail))
        refine wpQuiet_nil ?_
        intro x
        go_wp2_with fail
        exact ⟨⟨k + 1, by omega, by go_num, hb.out.trans (x.below.mono hs.out), all_succ (p := fun j => l[j]? ≠ some (p1, p2)) hno.out (by rw [HQ.out]; intro h; exact HE.out (Option.some.inj h).symm)⟩, by simp [intOf]; omega⟩
    · obtain rfl : k = l.length := by omega
      have hd : decide ((l.length : Int) < (l.length : Int)) = false := decide_eq_false (by omega)
      go_wp2_with fail
      go_ret
      refine ⟨-1, rfl, ((Below.refl _ w).alloc (Nat.le_refl _) _).trans (hb.out.mono (by omega)), ⟨fun h => by omega, fun h => ?_⟩⟩
      obtain ⟨j, hj, e⟩ := List.getElem_of_mem h
      exact absurd (by rw [List.getElem?_eq_getElem hj, e]) (hno.out j hj)
theorem c_containsP (A : Option Addr) (cc : Nat) (l : List (Int × Int)) (hlen : l.length ≤ 1000000) (p1 p2 : Int) (w : World) (hA : SlP w A l) :
    Calls Try.prog 61 #[.slice A l.length cc, .agg #[.int .i8 p1, .int .i8 p2]] w fun e w' => e = .returned (.bool (decide ((p1, p2) ∈ l))) ∧ Below w.heap.size w w' := by
  have hA' : Hid (SlP (w.alloc (.cells #[.int .i8 p1, .int .i8 p2] 50)) A l) := hA.below ((Below.refl _ w).alloc (Nat.le_refl _) _) (Nat.le_refl _)
  go_enter Try.func61, Try.ntmps61
  go_wp2_with (go_at_call 86; ((with_reducible refine (c_indexP A cc l hlen p1 p2 _ hA'.out).mono ?_); rintro e w1 ⟨n, rfl, hb1, hn⟩); have HN := hid hn; clear hn)
  all_goals
    go_ret
    exact ⟨ret_bool (by rw [decide_eq_decide]; exact HN.out), ((Below.refl _ w).alloc (Nat.le_refl _) _).trans (hb1.mono (by simp))⟩
end Go.Proofs.Ytfbgldkdlmipoaa

/- The tiles of another course with a cell of a tile. -/
namespace Go.Proofs.Ytfbgldkdlmipoaa
open Go.RowKit
set_option linter.unusedSimpArgs false
set_option linter.unusedVariables false

/-- One tile more, if it is one, and new. -/
def lapStep (d k : Int) (l : List (Int × Int)) : List (Int × Int) := if k ≠ -1 ∧ (d, k) ∉ l then l ++ [(d, k)] else l
def lapK (r : Rf) (c t d : Int) : Nat → List (Int × Int)
  | 0 => []
  | n + 1 => lapStep d (tileOf r d (firstOf r c t + n)) (lapK r c t d n)
/-- The tiles of a course that have a cell of a tile. -/
def lapL (r : Rf) (c t d : Int) : List (Int × Int) := if inB d 0 (r.h - 1) = true then lapK r c t d 2 else []
theorem lapStep_len (d k : Int) (l : List (Int × Int)) : (lapStep d k l).length ≤ l.length + 1 := by unfold lapStep; split <;> simp
theorem lapK_len (r : Rf) (c t d : Int) : ∀ n, (lapK r c t d n).length ≤ n
  | 0 => by simp [lapK]
  | n + 1 => by have := lapStep_len d (tileOf r d (firstOf r c t + n)) (lapK r c t d n); have := lapK_len r c t d n; simp only [lapK]; omega
theorem lapL_len (r : Rf) (c t d : Int) : (lapL r c t d).length ≤ 2 := by unfold lapL; split; exact lapK_len r c t d 2; simp
theorem tileOf_le {r : Rf} (hv : validB r = true) (d n : Int) : -1 ≤ tileOf r d n ∧ tileOf r d n ≤ 7 ∧ tileOf r d n < r.w := by
  have := valid_head hv
  unfold tileOf
  split <;> omega
theorem lapK_mem {r : Rf} (hv : validB r = true) {c t d : Int} : ∀ n, ∀ p ∈ lapK r c t d n, p.1 = d ∧ 0 ≤ p.2 ∧ p.2 < r.w
  | 0 => fun p hp => by simp [lapK] at hp
  | n + 1 => fun p hp => by
    have hle := tileOf_le hv d (firstOf r c t + n)
    simp only [lapK, lapStep] at hp
    split at hp
    · rcases List.mem_append.1 hp with h1 | h1
      · exact lapK_mem hv n p h1
      · rw [List.mem_singleton] at h1; subst h1
        dsimp only
        exact ⟨rfl, by omega, by omega⟩
    · exact lapK_mem hv n p hp
theorem lapL_mem {r : Rf} (hv : validB r = true) {c t d : Int} : ∀ p ∈ lapL r c t d, p.1 = d ∧ (0 ≤ p.1 ∧ p.1 ≤ r.h - 1) ∧ 0 ≤ p.2 ∧ p.2 < r.w := fun p hp => by
  unfold lapL at hp
  split at hp
  · rename_i h
    have := lapK_mem hv 2 p hp
    rw [inB_iff] at h
    omega
  · simp at hp
/-- What a call that returns a slice of places has left. -/
def RetS (w : World) (l : List (Int × Int)) (e : Ending) (w' : World) : Prop := ∃ v, e = .returned v ∧ Below w.heap.size w w' ∧ w'.ownsRow w.heap.size 50 2 v l.length (pcells l)
set_option maxHeartbeats 1600000 in
set_option maxRecDepth 100000 in
theorem c_lapped (r : Rf) (hr : r.Ok) (hv : validB r = true) (c t d : Int) (hc : 0 ≤ c ∧ c ≤ 7) (ht : 0 ≤ t ∧ t ≤ 7) (hd : -1 ≤ d ∧ d ≤ 8) (w : World) :
    Calls Try.prog 62 #[.agg (rcells r), .agg #[.int .i8 c, .int .i8 t], .int .i64 d] w (RetS w (lapL r c t d)) := by
  obtain ⟨i0, hi, hz0, hz1, hz2⟩ := info_parts Try.infoPlace
  have vh := valid_head hv
  have HV := hid hv
  have HP := hid (block_alloc (block_new1 w (.cells (rcells r) 31) rfl) (.cells #[.int .i8 c, .int .i8 t] 50))
  have HQ := hid (block_new1 (w.alloc (.cells (rcells r) 31)) (.cells #[.int .i8 c, .int .i8 t] 50) (n := w.heap.size + 1) (by simp))
  have HW : Hid (Below w.heap.size w ((w.alloc (.cells (rcells r) 31)).alloc (.cells #[.int .i8 c, .int .i8 t] 50))) := ((Below.refl _ w).alloc (Nat.le_refl _) _).alloc (by simp) _
  have HS : Hid (w.heap.size + 2 ≤ ((w.alloc (.cells (rcells r) 31)).alloc (.cells #[.int .i8 c, .int .i8 t] 50)).heap.size) := by simp [Hid]
  have HH : Hid (r.h ≤ 8 ∧ r.w ≤ 8) := ⟨by omega, by omega⟩
  have HCc := hid hc
  have HTt := hid ht
  clear hv vh
  by_cases hin : inB d 0 (r.h - 1) = true
  · have HI := hid hin
    have hl : lapL r c t d = lapK r c t d 2 := by unfold lapL; rw [if_pos hin]
    rw [hl]
    have hd7 : 0 ≤ d ∧ d ≤ 7 := by have := HH.out; rw [inB_iff] at hin; omega
    have HD := hid hd7
    have hs0 := shiftOf_01 r c
    have hf : 0 ≤ firstOf r c t ∧ firstOf r c t ≤ 15 := by unfold firstOf; omega
    have HF := hid hf
    have ed : IntKind.i8.wrap d = d := IntWalk.i8_in _ (by omega)
    have ed6 : IntKind.i64.wrap d = d := IntWalk.i64_in _ (by omega)
    clear hin hl hs0 hf hc ht hd hd7
    go_enter Try.func62, Try.ntmps62
    go_wp2_with (first
      | ((with_reducible refine gate (N := 12) rfl ?_); refine wp_roof 31 Try.underlying31 rfl Try.infoRoof rfl (.tmp 3) rfl w.heap.size rfl r hr HP.out ?_)
      | ((with_reducible refine gate (N := 16) rfl ?_); refine wp_roof 31 Try.underlying31 rfl Try.infoRoof rfl (.tmp 3) rfl w.heap.size rfl r hr (block_below b1.out HP.out (by have := HS.out; omega)) ?_)
      | (go_at_call 87; ((with_reducible refine (c_isCourse r hr d _ _ HI.out).mono ?_); rintro e w1 ⟨rfl, hb1⟩); have b1 := hid hb1; have HQ1 := hid (block_below hb1 HQ.out (by have := HS.out; omega)); have q0 := cell_block HQ1.out (j := 0) rfl; have q1 := cell_block HQ1.out (j := 1) rfl; clear hb1)
      | (go_at_call 88; ((with_reducible refine (c_cellsOf r hr c t HCc.out HTt.out _).mono ?_); rintro e w2 ⟨g, rfl, hb2, hg, hG⟩); have b2 := hid hb2; have hgl := hid hg; have HG := hid hG; clear hb2 hg hG))
    have HP2 := hid (block_below b2.out (block_below b1.out HP.out (by have := HS.out; omega)) (by have := HS.out; have := b1.out.size; omega))
    have HW2 := hid ((HW.out.trans (b1.out.mono HW.out.size)).trans (b2.out.mono (Nat.le_trans HW.out.size b1.out.size)))
    have hg2 := block_lt HG.out
    have hp2 := block_lt HP2.out
    have HN0 : Hid (w2.ownsRow w2.heap.size 50 2 (.slice none 0 0) (lapK r c t d 0).length (pcells (lapK r c t d 0))) := World.ownsRow_nil _ _ _ _
    have HB0 : Hid (Below w2.heap.size w2 w2) := Below.refl _ _
    clear q0 q1
    go_loopw [7, 20] (fun v i wr => ∃ k : Nat, k ≤ 2 ∧ i = .int .i64 k ∧ Hid (Below w2.heap.size w2 wr) ∧ Hid (wr.ownsRow w2.heap.size 50 2 v (lapK r c t d k).length (pcells (lapK r c t d k)))) (fun _ i _ => 2 - (intOf i).toNat)
    case atStart => exact ⟨0, by omega, rfl, HB0, HN0⟩
    case round =>
      clear HN0 HB0
      obtain ⟨k, hk, rfl, hb, hO⟩ := hrel
      by_cases hk2 : k < 2
      · have hd : decide ((k : Int) < 2) = true := decide_eq_true (by omega)
        have hkI : (k : Int) < 2 := by omega
        have hk0 : (0 : Int) ≤ (k : Int) := by omega
        have HGw := hid (block_below hb.out HG.out hg2)
        have HPw := hid (block_below hb.out HP2.out hp2)
        obtain ⟨n, hn⟩ : ∃ n, n = firstOf r c t + k := ⟨_, rfl⟩
        have hcell : wr.cell? ⟨g, k, none⟩ = some (.int .i64 n) := by
          rw [hn]
          match k, hk2 with
          | 0, _ => have := cell_block HGw.out (j := 0) rfl; simpa using this
          | 1, _ => exact cell_block HGw.out (j := 1) rfl
        have HNn := hid hn
        have hn100 : Hid (0 ≤ n ∧ n ≤ 100) := by have := HF.out; exact ⟨by omega, by omega⟩
        have HT := hid (c_tileAt r hr HV.out d n HD.out hn100.out)
        have hu := tileOf_le HV.out d n
        obtain ⟨u, hue⟩ : ∃ u, u = tileOf r d n := ⟨_, rfl⟩
        rw [← hue] at hu HT
        have eu : IntKind.i8.wrap u = u := IntWalk.i8_in _ (by omega)
        have HY : Hid (lapK r c t d (k + 1) = lapStep d u (lapK r c t d k)) := by
          show lapStep d (tileOf r d (firstOf r c t + k)) _ = _
          rw [← hn, ← hue]
        have hlen : (lapK r c t d k).length ≤ 2 := Nat.le_trans (lapK_len r c t d k) (by omega)
        have h7 : u ≤ 7 := hu.2.1
        have h1 : -1 ≤ u := hu.1
        clear hn hue hu
        obtain ⟨A, cc, rfl, hsl⟩ := slp_of hO.out
        have HSl := hid hsl
        clear hsl
        by_cases hm1 : u = -1
        · have hne : (u != -1) = false := by simp [hm1]
          have HYY : Hid (lapK r c t d (k + 1) = lapK r c t d k) := by
            rw [Hid, HY.out]; unfold lapStep; rw [if_neg (fun h => h.1 hm1)]
          clear hm1
          go_wp2_with (first
            | ((with_reducible refine gate (N := 24) rfl ?_); refine wp_roof 31 Try.underlying31 rfl Try.infoRoof rfl (.tmp 3) rfl w.heap.size rfl r hr HPw.out ?_)
            | (go_at_call 89; ((with_reducible refine (HT.out _).mono ?_); rintro e w3 ⟨rfl, hb3⟩); have b3 := hid hb3; clear hb3))
          refine ⟨⟨k + 1, by omega, by go_num, (hb.out.trans (b3.out.mono hb.out.size)).alloc (Nat.le_trans hb.out.size b3.out.size) _, ?_⟩, by simp [intOf]; omega⟩
          show World.ownsRow _ _ _ _ _ _ _
          rw [HYY.out]; exact (owns_below hO.out b3.out).alloc _
        · have hne : (u != -1) = true := by simpa using hm1
          have HM1 := hid hm1
          clear hm1
          obtain ⟨w3d, hw3d⟩ : ∃ x : Bool, x = decide ((d, u) ∈ lapK r c t d k) := ⟨_, rfl⟩
          have HMem := hid hw3d
          cases w3d
          · have HYY : Hid (lapK r c t d (k + 1) = lapK r c t d k ++ [(d, u)]) := by
              rw [Hid, HY.out]; unfold lapStep; rw [if_pos ⟨HM1.out, by simpa using hw3d.symm⟩]
            clear hw3d
            go_wp2_with (first
              | ((with_reducible refine gate (N := 24) rfl ?_); refine wp_roof 31 Try.underlying31 rfl Try.infoRoof rfl (.tmp 3) rfl w.heap.size rfl r hr HPw.out ?_)
              | (go_at_call 89; ((with_reducible refine (HT.out _).mono ?_); rintro e w3 ⟨rfl, hb3⟩); have b3 := hid hb3; clear hb3)
              | (go_at_call 61; ((with_reducible refine (c_containsP A cc _ (Nat.le_trans hlen (by decide)) d u _ ((HSl.out.below b3.out (Nat.le_refl _)).below ((Below.refl _ w3).alloc (Nat.le_refl _) _) (Nat.le_refl _))).mono ?_); rintro e w4 ⟨rfl, hb4⟩); rw [← HMem.out]; have b4 := hid hb4; have HP4 := hid (block_below hb4 (block_new1 w3 (.cells #[.int .i8 d, .int .i8 u] 50) rfl) (by simp)); have z0 := cell_block HP4.out (j := 0) rfl; have z1 := cell_block HP4.out (j := 1) rfl; have HO4 := hid (owns_below ((owns_below hO.out b3.out).alloc _) hb4); have HB4 := hid (((hb.out.trans (b3.out.mono hb.out.size)).alloc (Nat.le_trans hb.out.size b3.out.size) (.cells #[.int .i8 d, .int .i8 u] 50)).trans (hb4.mono (Nat.le_trans hb.out.size (Nat.le_trans b3.out.size (by simp))))); clear hb4)
              | ((with_reducible refine gate (N := 44) rfl ?_); refine wpList_append_own _ rfl (.tmp 41) (.tmp 43) 33 rfl w2.heap.size 50 i0 (.agg #[.int .i8 0, .int .i8 0]) 2 2 Try.underlying33 hi hz0 hz1 hz2 rfl (by decide) _ _ _ rfl (HO4.out.alloc _) ⟨w4.heap.size, 0, none⟩ 1 1 [.int .i8 d, .int .i8 u] rfl rfl (cell_two_new w4 _ _ _) (by simp [Value.oneCell']) (Nat.le_trans (Nat.add_le_add_right hlen 1) (by decide)) (by omega) (Nat.le_trans HB4.out.size (by simp)) ?_; intro v' w5 hown5 hgrow _))
            refine ⟨⟨k + 1, by omega, by go_num, (HB4.out.alloc HB4.out.size _).grown hgrow (by have := HB4.out.size; simp; omega) (fun k hk => (HO4.out.lt k hk).1), ?_⟩, by simp [intOf]; omega⟩
            show World.ownsRow _ _ _ _ _ _ _
            rw [HYY.out, List.length_append, pcells_snoc]; exact hown5
          · have HYY : Hid (lapK r c t d (k + 1) = lapK r c t d k) := by
              rw [Hid, HY.out]; unfold lapStep; rw [if_neg (fun h => h.2 (by simpa using hw3d.symm))]
            clear hw3d
            go_wp2_with (first
              | ((with_reducible refine gate (N := 24) rfl ?_); refine wp_roof 31 Try.underlying31 rfl Try.infoRoof rfl (.tmp 3) rfl w.heap.size rfl r hr HPw.out ?_)
              | (go_at_call 89; ((with_reducible refine (HT.out _).mono ?_); rintro e w3 ⟨rfl, hb3⟩); have b3 := hid hb3; clear hb3)
              | (go_at_call 61; ((with_reducible refine (c_containsP A cc _ (Nat.le_trans hlen (by decide)) d u _ ((HSl.out.below b3.out (Nat.le_refl _)).below ((Below.refl _ w3).alloc (Nat.le_refl _) _) (Nat.le_refl _))).mono ?_); rintro e w4 ⟨rfl, hb4⟩); rw [← HMem.out]; have b4 := hid hb4; have HO4 := hid (owns_below ((owns_below hO.out b3.out).alloc _) hb4); have HB4 := hid (((hb.out.trans (b3.out.mono hb.out.size)).alloc (Nat.le_trans hb.out.size b3.out.size) (.cells #[.int .i8 d, .int .i8 u] 50)).trans (hb4.mono (Nat.le_trans hb.out.size (Nat.le_trans b3.out.size (by simp))))); clear hb4))
            refine ⟨⟨k + 1, by omega, by go_num, HB4.out, ?_⟩, by simp [intOf]; omega⟩
            show World.ownsRow _ _ _ _ _ _ _
            rw [HYY.out]; exact HO4.out
      · obtain rfl : k = 2 := by omega
        go_wp2_with fail
        go_ret
        exact ⟨_, rfl, HW2.out.trans (hb.out.mono HW2.out.size), hO.out.mono HW2.out.size⟩
  · have hin' : inB d 0 (r.h - 1) = false := by simpa using hin
    have HI := hid hin'
    have hl : lapL r c t d = [] := by unfold lapL; rw [if_neg hin]
    rw [hl]
    have ed6 : IntKind.i64.wrap d = d := IntWalk.i64_in _ (by omega)
    clear hin hin' hl hc ht hd
    go_enter Try.func62, Try.ntmps62
    go_wp2_with (first
      | ((with_reducible refine gate (N := 12) rfl ?_); refine wp_roof 31 Try.underlying31 rfl Try.infoRoof rfl (.tmp 3) rfl w.heap.size rfl r hr HP.out ?_)
      | (go_at_call 87; ((with_reducible refine (c_isCourse r hr d _ _ HI.out).mono ?_); rintro e w1 ⟨rfl, hb1⟩); have b1 := hid hb1; clear hb1))
    go_ret
    exact ⟨_, rfl, HW.out.trans (b1.out.mono HW.out.size), World.ownsRow_nil _ _ _ _⟩
end Go.Proofs.Ytfbgldkdlmipoaa

/- What is lifted: plain. -/
namespace Go.Proofs.Ytfbgldkdlmipoaa
set_option linter.unusedSimpArgs false
set_option linter.unusedVariables false

/-- What one tile above adds. -/
def oneLift (r : Rf) (bef : List (Int × Int)) (q : Int × Int) : Int := if q ∈ bef then 2 else if r.at q.1.toNat q.2.toNat = 3 then 0 else 1
theorem oneLift_b (r : Rf) (bef : List (Int × Int)) (q : Int × Int) : 0 ≤ oneLift r bef q ∧ oneLift r bef q ≤ 2 := by
  unfold oneLift; split
  · omega
  · split <;> omega
def liftS (r : Rf) (bef l : List (Int × Int)) : Int := l.foldl (fun s q => s + oneLift r bef q) 0
theorem liftS_snoc (r : Rf) (bef l : List (Int × Int)) (q : Int × Int) : liftS r bef (l ++ [q]) = liftS r bef l + oneLift r bef q := by simp [liftS, List.foldl_append]
theorem liftS_b' (r : Rf) (bef : List (Int × Int)) : ∀ (l : List (Int × Int)) (s : Int), s ≤ l.foldl (fun s q => s + oneLift r bef q) s ∧ l.foldl (fun s q => s + oneLift r bef q) s ≤ s + 2 * l.length
  | [], s => by simp
  | q :: l, s => by
    have h1 := oneLift_b r bef q
    have h2 := liftS_b' r bef l (s + oneLift r bef q)
    simp only [List.foldl_cons, List.length_cons]
    omega
theorem liftS_b (r : Rf) (bef l : List (Int × Int)) : 0 ≤ liftS r bef l ∧ liftS r bef l ≤ 2 * l.length := by
  have := liftS_b' r bef l 0
  unfold liftS; omega
theorem liftS_take (r : Rf) (bef l : List (Int × Int)) {k : Nat} {q : Int × Int} (h : l[k]? = some q) : liftS r bef (l.take (k + 1)) = liftS r bef (l.take k) + oneLift r bef q := by
  obtain ⟨hk, rfl⟩ := List.getElem?_eq_some_iff.1 h
  rw [List.take_succ_eq_append_getElem hk, liftS_snoc]
/-- What is lifted for a place, behind some. -/
def liftP (r : Rf) (p : Int × Int) (bef : List (Int × Int)) : Int := liftS r bef (lapL r p.1 p.2 (p.1 - 1))
theorem liftP_b (r : Rf) (p : Int × Int) (bef : List (Int × Int)) : 0 ≤ liftP r p bef ∧ liftP r p bef ≤ 4 := by
  have := liftS_b r bef (lapL r p.1 p.2 (p.1 - 1))
  have := lapL_len r p.1 p.2 (p.1 - 1)
  unfold liftP; omega
/-- What is lifted for the first k of a list. -/
def liftN (r : Rf) (l : List (Int × Int)) : Nat → Int
  | 0 => 0
  | k + 1 => liftN r l k + liftP r (l.getD k (0, 0)) (l.take k)
theorem liftN_b (r : Rf) (l : List (Int × Int)) : ∀ k : Nat, 0 ≤ liftN r l k ∧ liftN r l k ≤ 4 * k
  | 0 => by simp [liftN]
  | k + 1 => by have := liftN_b r l k; have := liftP_b r (l.getD k (0, 0)) (l.take k); simp only [liftN]; omega
theorem liftN_at (r : Rf) (l : List (Int × Int)) {k : Nat} {q : Int × Int} (h : l[k]? = some q) : liftN r l (k + 1) = liftN r l k + liftP r q (l.take k) := by
  simp only [liftN, List.getD, h, Option.getD_some]
end Go.Proofs.Ytfbgldkdlmipoaa

/- The least that is lifted: plain. The search that goes on with each place, and the table of all sets, find the same. -/
namespace Go.Proofs.Ytfbgldkdlmipoaa
set_option linter.unusedSimpArgs false
set_option linter.unusedVariables false

/-- What is lifted depends on which places lie ahead, not on their order. -/
theorem liftP_same (r : Rf) (p : Int × Int) {b b' : List (Int × Int)} (h : ∀ x, x ∈ b ↔ x ∈ b') : liftP r p b = liftP r p b' := by
  unfold liftP liftS
  congr 1
  funext s q
  unfold oneLift
  by_cases hq : q ∈ b
  · rw [if_pos hq, if_pos ((h q).1 hq)]
  · rw [if_neg hq, if_neg (fun h' => hq ((h q).2 h'))]
/-- One place more tried. -/
def tryG (r : Rf) (g : List (Int × Int) → Int × List (Int × Int)) (bef : List (Int × Int)) (a : Int × List (Int × Int)) (p : Int × Int) : Int × List (Int × Int) :=
  if p ∈ bef then a else if liftP r p bef + (g (bef ++ [p])).1 < a.1 then (liftP r p bef + (g (bef ++ [p])).1, p :: (g (bef ++ [p])).2) else a
/-- The least for all that are left, and the first order that has it. -/
def bestG (r : Rf) (S : List (Int × Int)) : Nat → List (Int × Int) → Int × List (Int × Int)
  | 0, _ => (0, [])
  | m + 1, bef => S.foldl (tryG r (bestG r S m) bef) (1000, [])
theorem tryG_same (r : Rf) (g : List (Int × Int) → Int × List (Int × Int)) {b b' : List (Int × Int)} (h : ∀ x, x ∈ b ↔ x ∈ b') (hg : ∀ p, g (b ++ [p]) = g (b' ++ [p])) : tryG r g b = tryG r g b' := by
  funext a p
  unfold tryG
  rw [hg p, liftP_same r p h]
  by_cases hp : p ∈ b
  · rw [if_pos hp, if_pos ((h p).1 hp)]
  · rw [if_neg hp, if_neg (fun h' => hp ((h p).2 h'))]
theorem bestG_same (r : Rf) (S : List (Int × Int)) : ∀ (m : Nat) {b b' : List (Int × Int)}, (∀ x, x ∈ b ↔ x ∈ b') → bestG r S m b = bestG r S m b'
  | 0, _, _, _ => rfl
  | m + 1, b, b', h => by
    unfold bestG
    rw [tryG_same r (bestG r S m) h (fun p => bestG_same r S m (fun x => by simp [h x]))]
theorem tryG_b (r : Rf) (g : List (Int × Int) → Int × List (Int × Int)) (B : Int) (bef : List (Int × Int)) (hg : ∀ b, 0 ≤ (g b).1) {a : Int × List (Int × Int)} (h : 0 ≤ a.1) (p : Int × Int) : 0 ≤ (tryG r g bef a p).1 := by
  unfold tryG
  have := liftP_b r p bef
  have := hg (bef ++ [p])
  split
  · exact h
  · split
    · show 0 ≤ liftP r p bef + _; omega
    · exact h
theorem bestG_nonneg (r : Rf) (S : List (Int × Int)) : ∀ (m : Nat) (bef : List (Int × Int)), 0 ≤ (bestG r S m bef).1
  | 0, _ => by simp [bestG]
  | m + 1, bef => by
    have key : ∀ (L : List (Int × Int)) (a : Int × List (Int × Int)), 0 ≤ a.1 → 0 ≤ (L.foldl (tryG r (bestG r S m) bef) a).1 := by
      intro L
      induction L with
      | nil => exact fun a h => h
      | cons p L ih => exact fun a h => ih _ (tryG_b r _ 0 bef (bestG_nonneg r S m) h p)
    exact key S (1000, []) (by decide)
theorem tryG_le (r : Rf) (g : List (Int × Int) → Int × List (Int × Int)) (bef : List (Int × Int)) (a : Int × List (Int × Int)) (p : Int × Int) : (tryG r g bef a p).1 ≤ a.1 := by
  unfold tryG
  split
  · exact Int.le_refl _
  · split
    · rename_i h; exact Int.le_of_lt h
    · exact Int.le_refl _
theorem foldG_le (r : Rf) (g : List (Int × Int) → Int × List (Int × Int)) (bef : List (Int × Int)) : ∀ (L : List (Int × Int)) (a : Int × List (Int × Int)), (L.foldl (tryG r g bef) a).1 ≤ a.1
  | [], a => Int.le_refl _
  | p :: L, a => Int.le_trans (foldG_le r g bef L _) (tryG_le r g bef a p)
theorem foldG_lt (r : Rf) (g : List (Int × Int) → Int × List (Int × Int)) (bef : List (Int × Int)) : ∀ (L : List (Int × Int)) (a : Int × List (Int × Int)) (p : Int × Int), p ∈ L → p ∉ bef → (L.foldl (tryG r g bef) a).1 ≤ liftP r p bef + (g (bef ++ [p])).1
  | q :: L, a, p, hp, hb => by
    rcases List.mem_cons.1 hp with rfl | hp
    · refine Int.le_trans (foldG_le r g bef L _) ?_
      unfold tryG
      rw [if_neg hb]
      split
      · exact Int.le_refl _
      · rename_i h; omega
    · exact foldG_lt r g bef L _ p hp hb
/-- While some are left, there is one: the least is small. -/
theorem bestG_small (r : Rf) {S : List (Int × Int)} (hS : S.Nodup) : ∀ (m : Nat) (bef : List (Int × Int)), bef.Nodup → (∀ x ∈ bef, x ∈ S) → bef.length + m = S.length → (bestG r S m bef).1 ≤ 4 * m
  | 0, _, _, _, _ => by simp [bestG]
  | m + 1, bef, hn, hs, hl => by
    obtain ⟨p, hp, hb⟩ : ∃ p, p ∈ S ∧ p ∉ bef := by
      apply Classical.byContradiction
      intro hno
      have hsub : S ⊆ bef := fun x hx => Classical.byContradiction fun h => hno ⟨x, hx, h⟩
      have := List.Nodup.length_le_of_subset hS hsub
      omega
    have h1 := foldG_lt r (bestG r S m) bef S (1000, []) p hp hb
    have h2 := bestG_small r hS m (bef ++ [p]) (by rw [List.nodup_append]; exact ⟨hn, by simp, fun a ha b hb' => by rw [List.mem_singleton] at hb'; subst hb'; rintro rfl; exact hb ha⟩) (fun x hx => by rcases List.mem_append.1 hx with h | h; exact hs x h; rw [List.mem_singleton] at h; subst h; exact hp) (by simp; omega)
    have h3 := liftP_b r p bef
    show (S.foldl (tryG r (bestG r S m) bef) (1000, [])).1 ≤ _
    omega
/-- The search's state. -/
def prunedL (st : Option (List (Int × Int) × Int)) (sum : Int) : Bool := match st with | none => false | some (_, c) => decide (sum ≥ c)
def fromL (r : Rf) (S : List (Int × Int)) : Nat → List (Int × Int) → Int → Option (List (Int × Int) × Int) → Option (List (Int × Int) × Int)
  | 0, order, sum, st => if prunedL st sum then st else some (order, sum)
  | m + 1, order, sum, st => if prunedL st sum then st else S.foldl (fun st p => if p ∈ order then st else fromL r S m (order ++ [p]) (sum + liftP r p order) st) st
def updL (st : Option (List (Int × Int) × Int)) (o : List (Int × Int)) (c : Int) : Option (List (Int × Int) × Int) := match st with | none => some (o, c) | some (o', c') => if c < c' then some (o, c) else some (o', c')
theorem updL_some (o' o : List (Int × Int)) (c' c : Int) : updL (some (o', c')) o c = if c < c' then some (o, c) else some (o', c') := rfl
theorem updL_upd (st : Option (List (Int × Int) × Int)) (o o2 : List (Int × Int)) (c c2 : Int) : updL (updL st o c) o2 c2 = if c2 < c then updL st o2 c2 else updL st o c := by
  rcases st with _ | ⟨o', c'⟩
  · unfold updL
    rfl
  · by_cases h1 : c < c' <;> by_cases h2 : c2 < c <;> by_cases h3 : c2 < c' <;> simp [updL, h1, h2, h3] <;> omega
theorem fromL_eq (r : Rf) {S : List (Int × Int)} (hS : S.Nodup) (h8 : S.length ≤ 100) : ∀ (m : Nat) (order : List (Int × Int)) (sum : Int) (st : Option (List (Int × Int) × Int)), order.Nodup → (∀ x ∈ order, x ∈ S) → order.length + m = S.length →
    fromL r S m order sum st = updL st (order ++ (bestG r S m order).2) (sum + (bestG r S m order).1)
  | 0, order, sum, st, _, _, _ => by
    rcases st with _ | ⟨o', c'⟩
    · simp [fromL, prunedL, updL, bestG]
    · have e : fromL r S 0 order sum (some (o', c')) = if decide (sum ≥ c') = true then some (o', c') else some (order, sum) := rfl
      have e2 : bestG r S 0 order = (0, []) := rfl
      rw [e, e2, updL_some]
      by_cases h : sum < c'
      · rw [if_neg (by simp; omega), if_pos (by simpa using h)]; simp
      · rw [if_pos (by simp; omega), if_neg (by simpa using h)]
  | m + 1, order, sum, st, hn, hs, hl => by
    have hsm := bestG_small r hS (m + 1) order hn hs hl
    unfold fromL
    cases hp : prunedL st sum with
    | true =>
      rcases st with _ | ⟨o', c'⟩
      · simp [prunedL] at hp
      · have h1 : c' ≤ sum := by simpa [prunedL] using hp
        have h2 := bestG_nonneg r S (m + 1) order
        rw [if_pos rfl]
        rw [updL_some, if_neg (by omega)]
    | false =>
      rw [if_neg (by simp)]
      have key : ∀ (L : List (Int × Int)), (∀ x ∈ L, x ∈ S) → ∀ (a : Int × List (Int × Int)), a.1 ≤ 1000 →
          L.foldl (fun st p => if p ∈ order then st else fromL r S m (order ++ [p]) (sum + liftP r p order) st) (if a.1 = 1000 then st else updL st (order ++ a.2) (sum + a.1)) =
          (let a' := L.foldl (tryG r (bestG r S m) order) a; if a'.1 = 1000 then st else updL st (order ++ a'.2) (sum + a'.1)) := by
        intro L
        induction L with
        | nil => intro _ a _; rfl
        | cons p L ih =>
          intro hL a ha
          rw [List.foldl_cons, List.foldl_cons, ← ih (fun x hx => hL x (by simp [hx])) _ (Int.le_trans (tryG_le r _ order a p) ha)]
          congr 1
          unfold tryG
          by_cases hpo : p ∈ order
          · rw [if_pos hpo, if_pos hpo]
          · rw [if_neg hpo, if_neg hpo]
            have hn2 : (order ++ [p]).Nodup := by rw [List.nodup_append]; exact ⟨hn, by simp, fun a ha b hb' => by rw [List.mem_singleton] at hb'; subst hb'; rintro rfl; exact hpo ha⟩
            have hs2 : ∀ x ∈ order ++ [p], x ∈ S := fun x hx => by rcases List.mem_append.1 hx with h | h; exact hs x h; rw [List.mem_singleton] at h; subst h; exact hL x (by simp)
            have hl2 : (order ++ [p]).length + m = S.length := by simp; omega
            rw [fromL_eq r hS h8 m (order ++ [p]) (sum + liftP r p order) _ hn2 hs2 hl2]
            have hg := bestG_small r hS m (order ++ [p]) hn2 hs2 hl2
            have hlf := liftP_b r p order
            obtain ⟨g, hgg⟩ : ∃ g, g = bestG r S m (order ++ [p]) := ⟨_, rfl⟩
            rw [← hgg] at hg ⊢
            have hm : m < 100 := by omega
            have e1 : order ++ [p] ++ g.2 = order ++ p :: g.2 := by simp
            have e2 : sum + liftP r p order + g.1 = sum + (liftP r p order + g.1) := by omega
            rw [e1, e2]
            by_cases h0 : a.1 = 1000
            · have hlt : liftP r p order + g.1 < a.1 := by omega
              rw [if_pos h0, if_pos hlt]
              have hne : ¬ (liftP r p order + g.1 = 1000) := by omega
              show _ = if liftP r p order + g.1 = 1000 then st else updL st (order ++ p :: g.2) (sum + (liftP r p order + g.1))
              rw [if_neg hne]
            · rw [if_neg h0, updL_upd]
              by_cases hlt : liftP r p order + g.1 < a.1
              · have hl3 : sum + (liftP r p order + g.1) < sum + a.1 := by omega
                have hne : ¬ (liftP r p order + g.1 = 1000) := by omega
                rw [if_pos hl3, if_pos hlt]
                show _ = if liftP r p order + g.1 = 1000 then st else updL st (order ++ p :: g.2) (sum + (liftP r p order + g.1))
                rw [if_neg hne]
              · have hl3 : ¬ (sum + (liftP r p order + g.1) < sum + a.1) := by omega
                rw [if_neg hl3, if_neg hlt, if_neg h0]
      have h := key S (fun x hx => hx) (1000, []) (Int.le_refl _)
      rw [if_pos rfl] at h
      rw [h]
      show (if (bestG r S (m + 1) order).1 = 1000 then st else updL st (order ++ (bestG r S (m + 1) order).2) (sum + (bestG r S (m + 1) order).1)) = _
      rw [if_neg (by omega)]
/-- The members of a set that is a number's bits. -/
def subS (S : List (Int × Int)) (s : Nat) : List (Int × Int) := ((List.range S.length).filter fun k => s.testBit k).map fun k => S.getD k (0, 0)
theorem getD_S {S : List (Int × Int)} {k : Nat} (h : k < S.length) : S.getD k (0, 0) = S[k] := by rw [List.getD_eq_getElem?_getD, List.getElem?_eq_getElem h]; rfl
theorem mem_subS {S : List (Int × Int)} {s : Nat} {x : Int × Int} : x ∈ subS S s ↔ ∃ k, ∃ h : k < S.length, s.testBit k = true ∧ S[k] = x := by
  unfold subS
  rw [List.mem_map]
  constructor
  · rintro ⟨k, hk, rfl⟩
    obtain ⟨h1, h2⟩ := List.mem_filter.1 hk
    have h1 := List.mem_range.1 h1
    exact ⟨k, h1, h2, (getD_S h1).symm⟩
  · rintro ⟨k, h, h1, rfl⟩
    exact ⟨k, List.mem_filter.2 ⟨List.mem_range.2 h, h1⟩, getD_S h⟩
theorem nodup_at {S : List (Int × Int)} (hS : S.Nodup) {i j : Nat} (hi : i < S.length) (hj : j < S.length) (h : S[i] = S[j]) : i = j := by
  have hp := List.nodup_iff_pairwise_ne.1 hS
  rcases Nat.lt_trichotomy i j with h1 | h1 | h1
  · exact absurd h (List.pairwise_iff_getElem.1 hp i j hi hj h1)
  · exact h1
  · exact absurd h.symm (List.pairwise_iff_getElem.1 hp j i hj hi h1)
theorem mem_subS_at {S : List (Int × Int)} (hS : S.Nodup) {s k : Nat} (h : k < S.length) : S[k] ∈ subS S s ↔ s.testBit k = true := by
  rw [mem_subS]
  constructor
  · rintro ⟨j, hj, h1, h2⟩
    have := nodup_at hS _ _ h2
    subst this
    exact h1
  · exact fun h1 => ⟨k, h, h1, rfl⟩
theorem nodup_subS {S : List (Int × Int)} (hS : S.Nodup) (s : Nat) : (subS S s).Nodup := by
  unfold subS
  rw [List.nodup_iff_pairwise_ne, List.pairwise_map]
  have h := (List.nodup_iff_pairwise_ne.1 (List.nodup_range (n := S.length))).filter (fun k => s.testBit k)
  refine h.imp_of_mem fun {a b} ha hb hne e => hne ?_
  have ha := List.mem_range.1 (List.mem_filter.1 ha).1
  have hb := List.mem_range.1 (List.mem_filter.1 hb).1
  rw [getD_S ha, getD_S hb] at e
  exact nodup_at hS _ _ e
theorem subS_len (S : List (Int × Int)) (s : Nat) : (subS S s).length ≤ S.length := by
  unfold subS
  rw [List.length_map]
  exact Nat.le_trans (List.length_filter_le _ _) (by simp)
theorem testBit_or2 (s k i : Nat) : (s ||| 2 ^ k).testBit i = (s.testBit i || decide (k = i)) := by rw [Nat.testBit_or, Nat.testBit_two_pow]
theorem mem_subS_or {S : List (Int × Int)} (s : Nat) {k : Nat} (h : k < S.length) (x : Int × Int) : x ∈ subS S (s ||| 2 ^ k) ↔ x ∈ subS S s ∨ x = S[k] := by
  rw [mem_subS, mem_subS]
  constructor
  · rintro ⟨j, hj, h1, h2⟩
    rw [testBit_or2, Bool.or_eq_true, decide_eq_true_eq] at h1
    rcases h1 with h1 | h1
    · exact .inl ⟨j, hj, h1, h2⟩
    · subst h1; exact .inr h2.symm
  · rintro (⟨j, hj, h1, h2⟩ | rfl)
    · exact ⟨j, hj, by rw [testBit_or2, h1]; rfl, h2⟩
    · exact ⟨k, h, by rw [testBit_or2]; simp, rfl⟩
theorem subS_or_len {S : List (Int × Int)} (hS : S.Nodup) {s k : Nat} (h : k < S.length) (hb : s.testBit k = false) : (subS S (s ||| 2 ^ k)).length = (subS S s).length + 1 := by
  have hp : (subS S (s ||| 2 ^ k)).Perm (S[k] :: subS S s) := by
    refine (List.perm_ext_iff_of_nodup (nodup_subS hS _) (List.nodup_cons.2 ⟨fun hm => ?_, nodup_subS hS _⟩)).2 fun x => ?_
    · rw [mem_subS_at hS h, hb] at hm; cases hm
    · rw [mem_subS_or s h, List.mem_cons]; exact Or.comm
  simpa using hp.length_eq
theorem or_le {n s k : Nat} (hs : s ≤ 2 ^ n - 1) (hk : k < n) : s ||| 2 ^ k ≤ 2 ^ n - 1 := by
  have h0 := Nat.two_pow_pos n
  have h1 : s < 2 ^ n := by omega
  have h2 : 2 ^ k < 2 ^ n := Nat.pow_lt_pow_right (by decide) hk
  have := Nat.or_lt_two_pow h1 h2
  omega
theorem or_gt {s k : Nat} (hb : s.testBit k = false) : s < s ||| 2 ^ k := by
  have h1 : s ≤ s ||| 2 ^ k := Nat.left_le_or
  have h2 : s ≠ s ||| 2 ^ k := fun e => by
    have h3 : (s ||| 2 ^ k).testBit k = true := by rw [testBit_or2]; simp
    rw [← e, hb] at h3
    cases h3
  omega
theorem some_free {n s : Nat} (hs : s < 2 ^ n - 1) : ∃ k, k < n ∧ s.testBit k = false := by
  apply Classical.byContradiction
  intro hno
  have : s = 2 ^ n - 1 := by
    apply Nat.eq_of_testBit_eq
    intro i
    rw [Nat.testBit_two_pow_sub_one]
    by_cases hi : i < n
    · rw [decide_eq_true hi]
      cases h : s.testBit i with
      | true => rfl
      | false => exact absurd ⟨i, hi, h⟩ hno
    · rw [decide_eq_false hi]
      apply Nat.testBit_lt_two_pow
      have h1 := Nat.two_pow_pos n
      have : 2 ^ n ≤ 2 ^ i := Nat.pow_le_pow_right (by decide) (by omega)
      omega
  omega
/-- One row of the table: the first k places tried. -/
def stepV (r : Rf) (S : List (Int × Int)) (T : Nat → Int × Nat) (s : Nat) : Nat → Int × Nat
  | 0 => (1000, (T s).2)
  | k + 1 => if s.testBit k = true then stepV r S T s k else if liftP r (S.getD k (0, 0)) (subS S s) + (T (s ||| 2 ^ k)).1 < (stepV r S T s k).1 then (liftP r (S.getD k (0, 0)) (subS S s) + (T (s ||| 2 ^ k)).1, k) else stepV r S T s k
/-- The table when the j last sets but the full one are done. -/
def tblV (r : Rf) (S : List (Int × Int)) : Nat → Nat → Int × Nat
  | 0 => fun _ => (0, 0)
  | j + 1 => fun s => if s = 2 ^ S.length - 1 - 1 - j then stepV r S (tblV r S j) s S.length else tblV r S j s
def okV (r : Rf) (S : List (Int × Int)) (s : Nat) (v : Int × Nat) : Prop := ∀ bef : List (Int × Int), (∀ x, x ∈ bef ↔ x ∈ subS S s) →
  v.1 = (bestG r S (S.length - (subS S s).length) bef).1 ∧ (s < 2 ^ S.length - 1 → ∃ h : v.2 < S.length, s.testBit v.2 = false ∧ (bestG r S (S.length - (subS S s).length) bef).2 = S[v.2] :: (bestG r S (S.length - (subS S s).length - 1) (bef ++ [S[v.2]])).2)
theorem stepV_ok (r : Rf) {S : List (Int × Int)} (hS : S.Nodup) (h8 : S.length ≤ 100) (T : Nat → Int × Nat) {s : Nat} (hs : s < 2 ^ S.length - 1) (hT : ∀ s', s < s' → s' ≤ 2 ^ S.length - 1 → okV r S s' (T s')) : okV r S s (stepV r S T s S.length) := by
  intro bef hbef
  obtain ⟨k0, hk0, hb0⟩ := some_free hs
  have hlen0 := subS_or_len hS hk0 hb0
  have hle0 := subS_len S (s ||| 2 ^ k0)
  obtain ⟨m, hm⟩ : ∃ m, S.length - (subS S s).length = m + 1 := ⟨S.length - (subS S s).length - 1, by omega⟩
  rw [hm]
  have hat : ∀ k, (h : k < S.length) → (S[k] ∈ bef ↔ s.testBit k = true) := fun k h => by rw [hbef, mem_subS_at hS h]
  have hval : ∀ k, (h : k < S.length) → s.testBit k = false → (T (s ||| 2 ^ k)).1 = (bestG r S m (bef ++ [S[k]])).1 := fun k h hb => by
    have h1 := (hT (s ||| 2 ^ k) (or_gt hb) (or_le (by omega) h) (bef ++ [S[k]]) (fun x => by rw [mem_subS_or s h, List.mem_append, List.mem_singleton, hbef])).1
    have h2 := subS_or_len hS h hb
    rw [h1, show S.length - (subS S (s ||| 2 ^ k)).length = m by omega]
  have key : ∀ k, k ≤ S.length → (stepV r S T s k).1 = ((S.take k).foldl (tryG r (bestG r S m) bef) (1000, [])).1 ∧ ((stepV r S T s k).1 < 1000 → ∃ q, S[(stepV r S T s k).2]? = some q ∧ s.testBit (stepV r S T s k).2 = false ∧ ((S.take k).foldl (tryG r (bestG r S m) bef) (1000, [])).2 = q :: (bestG r S m (bef ++ [q])).2) := by
    intro k
    induction k with
    | zero => intro _; exact ⟨rfl, fun h => absurd h (by simp [stepV])⟩
    | succ k ih =>
      intro hk
      have hk' : k < S.length := by omega
      obtain ⟨i1, i2⟩ := ih (by omega)
      rw [List.take_succ_eq_append_getElem hk', List.foldl_append, List.foldl_cons, List.foldl_nil]
      unfold stepV
      rw [getD_S hk']
      obtain ⟨a, ha⟩ : ∃ a, a = (S.take k).foldl (tryG r (bestG r S m) bef) (1000, []) := ⟨_, rfl⟩
      rw [← ha] at i1 i2 ⊢
      cases hb : s.testBit k with
      | true =>
        rw [if_pos rfl]
        have : tryG r (bestG r S m) bef a S[k] = a := by unfold tryG; rw [if_pos ((hat k hk').2 hb)]
        rw [this]
        exact ⟨i1, i2⟩
      | false =>
        rw [if_neg (by simp)]
        have hnb : ¬ S[k] ∈ bef := fun h => by rw [hat k hk', hb] at h; cases h
        rw [hval k hk' hb, liftP_same r S[k] (fun x => (hbef x).symm), i1]
        unfold tryG
        rw [if_neg hnb]
        by_cases hlt : liftP r S[k] bef + (bestG r S m (bef ++ [S[k]])).1 < a.1
        · rw [if_pos hlt, if_pos hlt]
          exact ⟨rfl, fun _ => ⟨S[k], List.getElem?_eq_getElem hk', hb, rfl⟩⟩
        · rw [if_neg hlt, if_neg hlt]
          exact ⟨i1, i2⟩
  obtain ⟨k1, k2⟩ := key S.length (Nat.le_refl _)
  rw [List.take_length] at k1 k2
  have hsm : (bestG r S (m + 1) (subS S s)).1 ≤ 4 * (m + 1 : Nat) := bestG_small r hS (m + 1) (subS S s) (nodup_subS hS s) (fun x hx => by obtain ⟨k, h, _, rfl⟩ := mem_subS.1 hx; exact List.getElem_mem h) (by omega)
  rw [← bestG_same r S (m + 1) hbef] at hsm
  refine ⟨k1, fun _ => ?_⟩
  have h4 : (stepV r S T s S.length).1 < 1000 := by
    rw [k1]
    show (bestG r S (m + 1) bef).1 < 1000
    omega
  obtain ⟨q, h5, h6, h7⟩ := k2 h4
  obtain ⟨h8', rfl⟩ := List.getElem?_eq_some_iff.1 h5
  exact ⟨h8', h6, h7⟩
theorem subS_full (S : List (Int × Int)) : subS S (2 ^ S.length - 1) = S := by
  unfold subS
  have h : (List.range S.length).filter (fun k => (2 ^ S.length - 1).testBit k) = List.range S.length := by
    rw [List.filter_eq_self]
    intro k hk
    rw [Nat.testBit_two_pow_sub_one, decide_eq_true_iff]
    exact List.mem_range.1 hk
  rw [h]
  apply List.ext_getElem?
  intro k
  rw [List.getElem?_map]
  by_cases hk : k < S.length
  · rw [List.getElem?_range hk, List.getElem?_eq_getElem hk]
    simp only [Option.map_some]
    rw [getD_S hk]
  · rw [List.getElem?_eq_none (by simp; omega), List.getElem?_eq_none (by omega)]; rfl
theorem tblV_ok (r : Rf) {S : List (Int × Int)} (hS : S.Nodup) (h8 : S.length ≤ 100) : ∀ (j : Nat), j ≤ 2 ^ S.length - 1 → ∀ s, 2 ^ S.length - 1 - j ≤ s → s ≤ 2 ^ S.length - 1 → okV r S s (tblV r S j s)
  | 0, _, s, h1, h2 => by
    obtain rfl : s = 2 ^ S.length - 1 := by omega
    intro bef hbef
    rw [subS_full, Nat.sub_self]
    exact ⟨rfl, fun h => absurd h (by omega)⟩
  | j + 1, hj, s, h1, h2 => by
    unfold tblV
    by_cases he : s = 2 ^ S.length - 1 - 1 - j
    · rw [if_pos he]
      exact stepV_ok r hS h8 _ (by omega) (fun s' h3 h4 => tblV_ok r hS h8 j (by omega) s' (by omega) h4)
    · rw [if_neg he]
      exact tblV_ok r hS h8 j (by omega) s (by omega) h2
/-- What LeastLifted finds. -/
def leastF (r : Rf) (S : List (Int × Int)) : List (Int × Int) := (bestG r S S.length []).2
def leastC (r : Rf) (S : List (Int × Int)) : Int := (bestG r S S.length []).1
theorem fromL_all (r : Rf) {S : List (Int × Int)} (hS : S.Nodup) (h8 : S.length ≤ 100) : fromL r S S.length [] 0 none = some (leastF r S, leastC r S) := by
  rw [fromL_eq r hS h8 S.length [] 0 none (by simp) (by simp) (by simp)]
  simp [updL, leastF, leastC]
theorem subS_zero (S : List (Int × Int)) : subS S 0 = [] := by simp [subS]
theorem table_least (r : Rf) {S : List (Int × Int)} (hS : S.Nodup) (h8 : S.length ≤ 100) : (tblV r S (2 ^ S.length - 1) 0).1 = leastC r S := by
  have := (tblV_ok r hS h8 (2 ^ S.length - 1) (Nat.le_refl _) 0 (by omega) (by omega) [] (fun x => by rw [subS_zero])).1
  rw [this, subS_zero]
  rfl
/-- One step of the way back. -/
theorem table_step (r : Rf) {S : List (Int × Int)} (hS : S.Nodup) (h8 : S.length ≤ 100) {s : Nat} (hs : s < 2 ^ S.length - 1) {out : List (Int × Int)} (ho : ∀ x, x ∈ out ↔ x ∈ subS S s) (hl : out.length = (subS S s).length)
    (hF : out ++ (bestG r S (S.length - out.length) out).2 = leastF r S) : ∃ h : (tblV r S (2 ^ S.length - 1) s).2 < S.length, s < s ||| 2 ^ (tblV r S (2 ^ S.length - 1) s).2 ∧ s ||| 2 ^ (tblV r S (2 ^ S.length - 1) s).2 ≤ 2 ^ S.length - 1 ∧
      (∀ x, x ∈ out ++ [S[(tblV r S (2 ^ S.length - 1) s).2]] ↔ x ∈ subS S (s ||| 2 ^ (tblV r S (2 ^ S.length - 1) s).2)) ∧ (out ++ [S[(tblV r S (2 ^ S.length - 1) s).2]]).length = (subS S (s ||| 2 ^ (tblV r S (2 ^ S.length - 1) s).2)).length ∧
      (out ++ [S[(tblV r S (2 ^ S.length - 1) s).2]]) ++ (bestG r S (S.length - (out ++ [S[(tblV r S (2 ^ S.length - 1) s).2]]).length) (out ++ [S[(tblV r S (2 ^ S.length - 1) s).2]])).2 = leastF r S := by
  obtain ⟨_, h2⟩ := tblV_ok r hS h8 (2 ^ S.length - 1) (Nat.le_refl _) s (by omega) (by omega) out ho
  obtain ⟨h3, h4, h5⟩ := h2 hs
  refine ⟨h3, or_gt h4, or_le (by omega) h3, fun x => by rw [mem_subS_or s h3, List.mem_append, List.mem_singleton, ho], by rw [subS_or_len hS h3 h4, List.length_append, hl]; rfl, ?_⟩
  rw [← hF, hl, h5, List.append_assoc, List.singleton_append, List.length_append, hl, List.length_singleton, Nat.sub_add_eq]
theorem table_end (r : Rf) {S : List (Int × Int)} {out : List (Int × Int)} (hl : out.length = (subS S (2 ^ S.length - 1)).length) (hF : out ++ (bestG r S (S.length - out.length) out).2 = leastF r S) : out = leastF r S := by
  rw [subS_full] at hl
  rw [← hF, hl, Nat.sub_self]
  simp [bestG]
theorem leastC_b (r : Rf) {S : List (Int × Int)} (hS : S.Nodup) : 0 ≤ leastC r S ∧ leastC r S ≤ 4 * S.length := ⟨bestG_nonneg r S _ _, bestG_small r hS S.length [] (by simp) (by simp) (by simp)⟩
end Go.Proofs.Ytfbgldkdlmipoaa

/- Slices that came in, opened: of pairs of numbers, of numbers. -/
namespace Go.Proofs.Ytfbgldkdlmipoaa
open Go.RowKit Go.ChangeShapes Go.WideShapes
set_option linter.unusedVariables false
set_option linter.unusedSimpArgs false

theorem addr_plain {w : World} {a : Addr} {v : Value} (h : w.cell? a = some v) : a = ⟨a.block, a.off, none⟩ := by
  unfold World.cell? at h
  split at h
  · obtain ⟨b, o, s⟩ := a
    cases s with
    | none => rfl
    | some s => simp at h
  · cases h
theorem add_plain (b o n : Nat) : (⟨b, o, none⟩ : Addr).add n = ⟨b, o + n, none⟩ := by
  unfold Addr.add
  split
  · subst ‹_›; rfl
  · rfl
theorem list_of {α : Type} [Inhabited α] {P : Nat → α → Prop} (n : Nat) (h : ∀ i, i < n → ∃ x, P i x) : ∃ l : List α, l.length = n ∧ ∀ i x, l[i]? = some x → P i x := by
  refine ⟨(List.range n).map fun i => if hi : i < n then Classical.choose (h i hi) else default, by simp, fun i x hx => ?_⟩
  rw [List.getElem?_map] at hx
  by_cases hi : i < n
  · rw [List.getElem?_range hi] at hx
    simp only [Option.map_some, hi, dif_pos, Option.some.injEq] at hx
    rw [← hx]; exact Classical.choose_spec (h i hi)
  · rw [List.getElem?_eq_none (by simp; omega)] at hx; cases hx
section
variable {H : Type} {enc : TypeId × Value → H} {P : Program} {w : World} {base : Nat} {spare : Nat → Bool} {held : Bool}
/-- Pairs of numbers in a slice that came in. -/
theorem open_pairs {t e : TypeId} {k1 k2 : IntKind} {R : Int × Int → Prop} (ht : P.underlying t = some (.slice e)) (hc : P.cellsOf e = 2)
    (hop : ∀ {fuel : Nat} {cs : List Value} {x : DataW H × List MemPlace}, DataW.trod enc P w base spare held fuel e cs = some x → cs.length = 2 → ∃ a b : Int, cs = [.int k1 a, .int k2 b] ∧ R (a, b))
    {fuel : Nat} {cs : List Value} {x : DataW H × List MemPlace} (h : DataW.trod enc P w base spare held fuel t cs = some x) :
    ∃ (A : Option Addr) (c : Nat) (l : List (Int × Int)), cs = [.slice A l.length c] ∧ l.length ≤ c ∧ c ≤ maxLen ∧ (∀ p ∈ l, R p) ∧
      ∀ j p, l[j]? = some p → ∃ b off, A = some ⟨b, off, none⟩ ∧ b < w.heap.size ∧ w.cell? ⟨b, off + j * 2, none⟩ = some (.int k1 p.1) ∧ w.cell? ⟨b, off + j * 2 + 1, none⟩ = some (.int k2 p.2) := by
  rcases DataW.trod_slice ht h with ⟨rfl, rfl⟩ | ⟨a, len, cap, elems, rest, n, _, rfl, rfl, hb, hl, hm, hlen, hel, _, _⟩
  · exact ⟨none, 0, [], rfl, by simp, by decide, fun p hp => by simp at hp, fun j p hj => by simp at hj⟩
  · have key : ∀ i, i < len → ∃ p : Int × Int, R p ∧ w.cell? (a.add (i * 2)) = some (.int k1 p.1) ∧ w.cell? ((a.add (i * 2)).add 1) = some (.int k2 p.2) := by
      intro i hi
      have h1 := hel i hi
      rw [hc, List.getElem?_eq_getElem (by omega : i < elems.length), Option.bind_eq_some_iff] at h1
      obtain ⟨cs', h2, h3⟩ := h1
      obtain ⟨_, hl2, hcl⟩ := World.cells?_some h2
      obtain ⟨p1, p2, rfl, hr⟩ := hop h3 hl2
      have c0 := hcl 0 (by omega)
      have c1 := hcl 1 (by omega)
      refine ⟨(p1, p2), hr, ?_, c1⟩
      have e : (a.add (i * 2)).add 0 = a.add (i * 2) := by simp [Addr.add]
      rw [e] at c0; exact c0
    obtain ⟨l, hll, hlp⟩ := list_of len key
    refine ⟨some a, cap, l, by rw [hll], by omega, hm, fun p hp => ?_, fun j p hj => ?_⟩
    · obtain ⟨i, hi, rfl⟩ := List.getElem_of_mem hp
      exact (hlp i _ (List.getElem?_eq_getElem hi)).1
    · obtain ⟨_, h1, h2⟩ := hlp j p hj
      have hj' := (List.getElem?_eq_some_iff.1 hj).1
      obtain ⟨p0, _, h3, _⟩ := key 0 (by omega)
      have e0 : a.add (0 * 2) = a := by simp [Addr.add]
      rw [e0] at h3
      have hp := addr_plain h3
      obtain ⟨ab, ao, asp⟩ := a
      dsimp only at hp
      obtain ⟨_, _, rfl⟩ : ab = ab ∧ ao = ao ∧ asp = none := by simpa using hp
      rw [add_plain] at h1
      rw [add_plain, add_plain] at h2
      exact ⟨ab, ao, rfl, World.block_lt_of_cell? w _ h1, h1, h2⟩
/-- Numbers in a slice that came in. -/
theorem open_nums {t e : TypeId} {k : IntKind} (ht : P.underlying t = some (.slice e)) (he : P.underlying e = some (.int k)) (hc : P.cellsOf e = 1)
    {fuel : Nat} {cs : List Value} {x : DataW H × List MemPlace} (h : DataW.trod enc P w base spare held fuel t cs = some x) :
    ∃ (A : Option Addr) (c : Nat) (l : List Int), cs = [.slice A l.length c] ∧ l.length ≤ c ∧ c ≤ maxLen ∧ (∀ n ∈ l, (Lit.int k n).wf = true) ∧
      ∀ j n, l[j]? = some n → ∃ b off, A = some ⟨b, off, none⟩ ∧ b < w.heap.size ∧ w.cell? ⟨b, off + j, none⟩ = some (.int k n) := by
  rcases DataW.trod_slice ht h with ⟨rfl, rfl⟩ | ⟨a, len, cap, elems, rest, n, _, rfl, rfl, hb, hl, hm, hlen, hel, _, _⟩
  · exact ⟨none, 0, [], rfl, by simp, by decide, fun p hp => by simp at hp, fun j p hj => by simp at hj⟩
  · have key : ∀ i, i < len → ∃ m : Int, (Lit.int k m).wf = true ∧ w.cell? (a.add i) = some (.int k m) := by
      intro i hi
      have h1 := hel i hi
      rw [hc, Nat.mul_one, List.getElem?_eq_getElem (by omega : i < elems.length), Option.bind_eq_some_iff] at h1
      obtain ⟨cs', h2, h3⟩ := h1
      obtain ⟨m, rfl, _, hw⟩ := DataW.trod_int he h3
      exact ⟨m, hw, cell_of_cells?_one h2⟩
    obtain ⟨l, hll, hlp⟩ := list_of len key
    refine ⟨some a, cap, l, by rw [hll], by omega, hm, fun p hp => ?_, fun j p hj => ?_⟩
    · obtain ⟨i, hi, rfl⟩ := List.getElem_of_mem hp
      exact (hlp i _ (List.getElem?_eq_getElem hi)).1
    · obtain ⟨_, h1⟩ := hlp j p hj
      have hj' := (List.getElem?_eq_some_iff.1 hj).1
      obtain ⟨p0, _, h3⟩ := key 0 (by omega)
      have e0 : a.add 0 = a := by simp [Addr.add]
      rw [e0] at h3
      have hp := addr_plain h3
      obtain ⟨ab, ao, asp⟩ := a
      dsimp only at hp
      obtain ⟨_, _, rfl⟩ : ab = ab ∧ ao = ao ∧ asp = none := by simpa using hp
      rw [add_plain] at h1
      exact ⟨ab, ao, rfl, World.block_lt_of_cell? w _ h1, h1⟩
theorem list2' (l : List Value) (hl : l.length = 2) : l = (l.drop 0).take 1 ++ (l.drop 1).take 1 := by
  match l, hl with
  | [a, b], _ => rfl
/-- A struct of two numbers. -/
theorem open_two {e : TypeId} {fs : Array Field} {t1 t2 : TypeId} {k1 k2 : IntKind} {i1 i2 : Field} (hu : P.underlying e = some (.struct fs)) (h0 : fs.toList = [i1, i2]) (ho1 : i1.offset = 0) (ho2 : i2.offset = 1) (ht1 : i1.type = t1) (ht2 : i2.type = t2)
    (hu1 : P.underlying t1 = some (.int k1)) (hu2 : P.underlying t2 = some (.int k2)) (hc1 : P.cellsOf t1 = 1) (hc2 : P.cellsOf t2 = 1)
    {fuel : Nat} {cs : List Value} {x : DataW H × List MemPlace} (hf : DataW.trod enc P w base spare held fuel e cs = some x) (hsz : cs.length = 2) :
    ∃ a b : Int, cs = [.int k1 a, .int k2 b] ∧ (Lit.int k1 a).wf = true ∧ (Lit.int k2 b).wf = true := by
  obtain ⟨xs, m, _, _, hl, hn, hel⟩ := DataW.trod_struct hu hf
  have hs : fs.size = 2 := by have := congrArg List.length h0; simpa using this
  have g0 : fs[0]? = some i1 := by rw [← Array.getElem?_toList, h0]; rfl
  have g1 : fs[1]? = some i2 := by rw [← Array.getElem?_toList, h0]; rfl
  have f0 := hel 0 _ g0
  have f1 := hel 1 _ g1
  rw [ho1, ht1, hc1, List.getElem?_eq_getElem (by omega : 0 < xs.length)] at f0
  rw [ho2, ht2, hc2, List.getElem?_eq_getElem (by omega : 1 < xs.length)] at f1
  obtain ⟨a, ea, _, wa⟩ := DataW.trod_int hu1 f0
  obtain ⟨b, eb, _, wb⟩ := DataW.trod_int hu2 f1
  refine ⟨a, b, ?_, wa, wb⟩
  rw [list2' cs hsz, ea, eb]; rfl
end
end Go.Proofs.Ytfbgldkdlmipoaa

/- Arguments of the laws that are roofs or places, opened; and what they leave behind. -/
namespace Go.Proofs.Ytfbgldkdlmipoaa
open Go.RowKit Go.ChangeShapes Go.WideShapes
set_option linter.unusedVariables false
set_option linter.unusedSimpArgs false

theorem and_mk {a b : Bool} (ha : a = true) (hb : b = true) : (a && b) = true := by rw [ha, hb]; rfl
theorem Try.laidOut : laidOutB Try.prog = true := by kernel_rfl
theorem Try.own : ownKnob Try.prog.godebug = none := by kernel_rfl
section
variable {H : Type} {enc : TypeId × Value → H} {w : World} {base : Nat} {spare : Nat → Bool} {held : Bool}
/-- Bytes out of an array of arrays of them. -/
theorem open_row {fuel : Nat} {cs : List Value} {x : DataW H × List MemPlace} (h : DataW.trod enc Try.prog w base spare held fuel 23 cs = some x) :
    ∃ t : List Int, cs = t.map (Value.int .u8) ∧ t.length = 8 ∧ ∀ n ∈ t, 0 ≤ n ∧ n ≤ 255 := by
  obtain ⟨xs, m, _, _, hl, hn, hel⟩ := DataW.trod_array Try.underlying23 h
  have hc8 : Try.prog.cellsOf 23 = 8 := by kernel_rfl
  have hc1 : Try.prog.cellsOf 5 = 1 := by kernel_rfl
  rw [hc8] at hl
  have key : ∀ j, j < 8 → ∃ n : Int, cs[j]? = some (.int .u8 n) ∧ 0 ≤ n ∧ n ≤ 255 := by
    intro j hj
    have h1 := hel j hj
    rw [hc1, List.getElem?_eq_getElem (by omega : j < xs.length)] at h1
    obtain ⟨n, h2, _, wf⟩ := DataW.trod_int Try.underlying5 h1
    have b := bounds_u8 wf
    refine ⟨n, ?_, b⟩
    have : ((cs.drop (j * 1)).take 1)[0]? = some (.int .u8 n) := by rw [h2]; rfl
    simpa [List.getElem?_take, List.getElem?_drop] using this
  refine ⟨cs.map (fun v => intOf v), ?_, by simpa using hl, ?_⟩
  · rw [List.map_map]
    apply List.ext_getElem?
    intro j
    by_cases hj : j < 8
    · obtain ⟨n, hn, _⟩ := key j hj
      rw [List.getElem?_map, hn]; rfl
    · rw [List.getElem?_eq_none (by omega), List.getElem?_eq_none (by simp; omega)]
  · intro n hn
    obtain ⟨v, hv, rfl⟩ := List.mem_map.1 hn
    obtain ⟨j, hj, rfl⟩ := List.getElem_of_mem hv
    obtain ⟨n, h1, h2⟩ := key j (by omega)
    rw [List.getElem?_eq_getElem hj] at h1
    simp only [Option.some.injEq] at h1
    rw [h1]; exact h2
theorem open_tiles {fuel : Nat} {cs : List Value} {x : DataW H × List MemPlace} (h : DataW.trod enc Try.prog w base spare held fuel 24 cs = some x) :
    ∃ t : List Int, cs = t.map (Value.int .u8) ∧ t.length = 64 ∧ ∀ n ∈ t, 0 ≤ n ∧ n ≤ 255 := by
  obtain ⟨xs, m, _, _, hl, hn, hel⟩ := DataW.trod_array Try.underlying24 h
  have hc8 : Try.prog.cellsOf 23 = 8 := by kernel_rfl
  have hc64 : Try.prog.cellsOf 24 = 64 := by kernel_rfl
  rw [hc64] at hl
  have key : ∀ j, j < 64 → ∃ n : Int, cs[j]? = some (.int .u8 n) ∧ 0 ≤ n ∧ n ≤ 255 := by
    intro j hj
    have h1 := hel (j / 8) (by omega)
    rw [hc8, List.getElem?_eq_getElem (by omega : j / 8 < xs.length)] at h1
    obtain ⟨t, h2, h3, h4⟩ := open_row h1
    have hj8 : j % 8 < t.length := by omega
    have h5 : ((cs.drop (j / 8 * 8)).take 8)[j % 8]? = some (.int .u8 t[j % 8]) := by rw [h2]; simp [hj8]
    rw [List.getElem?_take, if_pos (by omega), List.getElem?_drop] at h5
    have e : j / 8 * 8 + j % 8 = j := by omega
    rw [e] at h5
    exact ⟨_, h5, h4 _ (List.getElem_mem hj8)⟩
  refine ⟨cs.map (fun v => intOf v), ?_, by simpa using hl, ?_⟩
  · rw [List.map_map]
    apply List.ext_getElem?
    intro j
    by_cases hj : j < 64
    · obtain ⟨n, hn, _⟩ := key j hj
      rw [List.getElem?_map, hn]; rfl
    · rw [List.getElem?_eq_none (by omega), List.getElem?_eq_none (by simp; omega)]
  · intro n hn
    obtain ⟨v, hv, rfl⟩ := List.mem_map.1 hn
    obtain ⟨j, hj, rfl⟩ := List.getElem_of_mem hv
    obtain ⟨n, h1, h2⟩ := key j (by omega)
    rw [List.getElem?_eq_getElem hj] at h1
    simp only [Option.some.injEq] at h1
    rw [h1]; exact h2
theorem list67 (l : List Value) (hl : l.length = 67) : l = (l.drop 0).take 1 ++ ((l.drop 1).take 1 ++ ((l.drop 2).take 1 ++ (l.drop 3).take 64)) := by
  have h0 : l = l.take 1 ++ l.drop 1 := (List.take_append_drop 1 l).symm
  have h1 : l.drop 1 = (l.drop 1).take 1 ++ l.drop 2 := by
    have := (List.take_append_drop 1 (l.drop 1)).symm
    rwa [List.drop_drop] at this
  have h2 : l.drop 2 = (l.drop 2).take 1 ++ l.drop 3 := by
    have := (List.take_append_drop 1 (l.drop 2)).symm
    rwa [List.drop_drop] at this
  have h3 : (l.drop 3).take 64 = l.drop 3 := List.take_of_length_le (by rw [List.length_drop, hl]; exact Nat.le_refl _)
  rw [h3, ← h2, ← h1, List.drop_zero, ← h0]
set_option maxRecDepth 100000 in
theorem open_roof {r : Reach} {b0 : Nat} {v : Value} {d : DataW H} {p : List MemPlace} (hv : Value.okWide Try.prog w r b0 26 v) (h : DataW.Trod enc Try.prog w base spare held 26 v d p) :
    ∃ R : Rf, v = .agg (rcells R) ∧ R.Ok := by
  obtain ⟨cs, rfl, hsz⟩ := okWide_struct Try.underlying26 hv
  obtain ⟨fuel, hf⟩ := h
  obtain ⟨xs, m, _, _, hl, hn, hel⟩ := DataW.trod_struct Try.underlying26 hf
  have hc1 : Try.prog.cellsOf 22 = 1 := by kernel_rfl
  have hc2 : Try.prog.cellsOf 5 = 1 := by kernel_rfl
  have hc3 : Try.prog.cellsOf 24 = 64 := by kernel_rfl
  have hc4 : Try.prog.cellsOf 26 = 67 := by kernel_rfl
  simp only [Value.cells] at hl hel
  rw [hc4] at hl
  have hn4 : xs.length = 4 := hn
  have f0 : DataW.trod enc Try.prog w base spare held m 22 ((cs.toList.drop 0).take (Try.prog.cellsOf 22)) = xs[0]? := hel 0 _ rfl
  have f1 : DataW.trod enc Try.prog w base spare held m 22 ((cs.toList.drop 1).take (Try.prog.cellsOf 22)) = xs[1]? := hel 1 _ rfl
  have f2 : DataW.trod enc Try.prog w base spare held m 5 ((cs.toList.drop 2).take (Try.prog.cellsOf 5)) = xs[2]? := hel 2 _ rfl
  have f3 : DataW.trod enc Try.prog w base spare held m 24 ((cs.toList.drop 3).take (Try.prog.cellsOf 24)) = xs[3]? := hel 3 _ rfl
  rw [hc1, List.getElem?_eq_getElem (by omega : 0 < xs.length)] at f0
  rw [hc1, List.getElem?_eq_getElem (by omega : 1 < xs.length)] at f1
  rw [hc2, List.getElem?_eq_getElem (by omega : 2 < xs.length)] at f2
  rw [hc3, List.getElem?_eq_getElem (by omega : 3 < xs.length)] at f3
  obtain ⟨a, ea, _, wa⟩ := DataW.trod_int Try.underlying22 f0
  obtain ⟨b, eb, _, wb⟩ := DataW.trod_int Try.underlying22 f1
  obtain ⟨c, ec, _, wc⟩ := DataW.trod_int Try.underlying5 f2
  obtain ⟨t, et, lt, bt⟩ := open_tiles f3
  have ba := bounds_i8 wa
  have bb := bounds_i8 wb
  have bc := bounds_u8 wc
  refine ⟨⟨a, b, c, t⟩, ?_, ⟨ba.1, ba.2, bb.1, bb.2, bc.1, bc.2, lt, bt⟩⟩
  congr 1
  apply Array.toList_inj.1
  have e : cs.toList = (cs.toList.drop 0).take 1 ++ ((cs.toList.drop 1).take 1 ++ ((cs.toList.drop 2).take 1 ++ (cs.toList.drop 3).take 64)) := by
    exact list67 cs.toList hl
  rw [e, ea, eb, ec, et]
  simp [rcells]
theorem list2 (l : List Value) (hl : l.length = 2) : l = (l.drop 0).take 1 ++ (l.drop 1).take 1 := by
  match l, hl with
  | [a, b], _ => rfl
set_option maxRecDepth 10000 in
theorem open_place_cells {fuel : Nat} {cs : List Value} {x : DataW H × List MemPlace} (hf : DataW.trod enc Try.prog w base spare held fuel 53 cs = some x) (hsz : cs.length = 2) :
    ∃ a b : Int, cs = [.int .i8 a, .int .i8 b] ∧ (-128 ≤ a ∧ a ≤ 127) ∧ (-128 ≤ b ∧ b ≤ 127) := by
  obtain ⟨xs, m, _, _, hl, hn, hel⟩ := DataW.trod_struct Try.underlying53 hf
  have hc1 : Try.prog.cellsOf 22 = 1 := by kernel_rfl
  have hn2 : xs.length = 2 := hn
  have f0 : DataW.trod enc Try.prog w base spare held m 22 ((cs.drop 0).take (Try.prog.cellsOf 22)) = xs[0]? := hel 0 _ rfl
  have f1 : DataW.trod enc Try.prog w base spare held m 22 ((cs.drop 1).take (Try.prog.cellsOf 22)) = xs[1]? := hel 1 _ rfl
  rw [hc1, List.getElem?_eq_getElem (by omega : 0 < xs.length)] at f0
  rw [hc1, List.getElem?_eq_getElem (by omega : 1 < xs.length)] at f1
  obtain ⟨a, ea, _, wa⟩ := DataW.trod_int Try.underlying22 f0
  obtain ⟨b, eb, _, wb⟩ := DataW.trod_int Try.underlying22 f1
  refine ⟨a, b, ?_, bounds_i8 wa, bounds_i8 wb⟩
  rw [list2 cs hsz, ea, eb]; rfl
set_option maxRecDepth 100000 in
theorem open_place {r : Reach} {b0 : Nat} {v : Value} {d : DataW H} {p : List MemPlace} (hv : Value.okWide Try.prog w r b0 53 v) (h : DataW.Trod enc Try.prog w base spare held 53 v d p) :
    ∃ a b : Int, v = .agg #[.int .i8 a, .int .i8 b] ∧ (-128 ≤ a ∧ a ≤ 127) ∧ (-128 ≤ b ∧ b ≤ 127) := by
  obtain ⟨cs, rfl, hsz⟩ := okWide_struct Try.underlying53 hv
  obtain ⟨fuel, hf⟩ := h
  have hc : Try.prog.cellsOf 53 = 2 := by kernel_rfl
  have hl : cs.toList.length = 2 := by
    obtain ⟨xs, m, _, _, hl, _, _⟩ := DataW.trod_struct Try.underlying53 hf
    rw [hc] at hl; exact hl
  obtain ⟨a, b, e, ba, bb⟩ := open_place_cells hf hl
  refine ⟨a, b, ?_, ba, bb⟩
  congr 1
  apply Array.toList_inj.1
  exact e
end
end Go.Proofs.Ytfbgldkdlmipoaa

/- Arguments of the laws that hold slices, opened. -/
namespace Go.Proofs.Ytfbgldkdlmipoaa
open Go.RowKit Go.ChangeShapes Go.WideShapes
set_option linter.unusedVariables false
set_option linter.unusedSimpArgs false

theorem ok_i8 {n : Int} (h : (Lit.int .i8 n).wf = true) : -128 ≤ n ∧ n ≤ 127 := by simp [Lit.wf, IntKind.min, IntKind.max, IntKind.bits, IntKind.signed] at h; omega
theorem ok_i16 {n : Int} (h : (Lit.int .i16 n).wf = true) : -32768 ≤ n ∧ n ≤ 32767 := by simp [Lit.wf, IntKind.min, IntKind.max, IntKind.bits, IntKind.signed] at h; omega
theorem ok_u8 {n : Int} (h : (Lit.int .u8 n).wf = true) : 0 ≤ n ∧ n ≤ 255 := by simp [Lit.wf, IntKind.min, IntKind.max, IntKind.bits, IntKind.signed] at h; omega
theorem ok_i64 {n : Int} (h : (Lit.int .i64 n).wf = true) : -9223372036854775808 ≤ n ∧ n ≤ 9223372036854775807 := by simp [Lit.wf, IntKind.min, IntKind.max, IntKind.bits, IntKind.signed] at h; omega
/-- Pairs of numbers lie at A. -/
def PairsAt (k1 k2 : IntKind) (w : World) (A : Option Addr) (l : List (Int × Int)) : Prop := ∀ j p, l[j]? = some p → ∃ b off, A = some ⟨b, off, none⟩ ∧ b < w.heap.size ∧ w.cell? ⟨b, off + j * 2, none⟩ = some (.int k1 p.1) ∧ w.cell? ⟨b, off + j * 2 + 1, none⟩ = some (.int k2 p.2)
section
variable {H : Type} {enc : TypeId × Value → H} {w : World} {base : Nat} {spare : Nat → Bool} {held : Bool}
set_option maxRecDepth 100000 in
theorem open_placeC {fuel : Nat} {cs : List Value} {x : DataW H × List MemPlace} (hf : DataW.trod enc Try.prog w base spare held fuel 53 cs = some x) (hsz : cs.length = 2) :
    ∃ a b : Int, cs = [.int .i8 a, .int .i8 b] ∧ ((-128 ≤ a ∧ a ≤ 127) ∧ (-128 ≤ b ∧ b ≤ 127)) := by
  obtain ⟨a, b, e, wa, wb⟩ := open_two Try.underlying53 rfl rfl rfl rfl rfl Try.underlying22 Try.underlying22 (by kernel_rfl) (by kernel_rfl) hf hsz
  exact ⟨a, b, e, ok_i8 wa, ok_i8 wb⟩
set_option maxRecDepth 100000 in
theorem open_places {r : Reach} {b0 : Nat} {v : Value} {d : DataW H} {p : List MemPlace} (hv : Value.okWide Try.prog w r b0 27 v) (h : DataW.Trod enc Try.prog w base spare held 27 v d p) :
    ∃ (A : Option Addr) (c : Nat) (l : List (Int × Int)), v = .slice A l.length c ∧ l.length ≤ c ∧ c ≤ maxLen ∧ (∀ p ∈ l, (-128 ≤ p.1 ∧ p.1 ≤ 127) ∧ (-128 ≤ p.2 ∧ p.2 ≤ 127)) ∧ PairsAt .i8 .i8 w A l := by
  obtain ⟨a, len, cap, rfl⟩ := okWide_slice Try.underlying27 hv
  obtain ⟨fuel, hf⟩ := h
  have hcS : Try.prog.cellsOf 53 = 2 := by kernel_rfl
  obtain ⟨A, c, l, e1, g1, g2, g3, g4⟩ := open_pairs (k1 := .i8) (k2 := .i8) (R := fun p => (-128 ≤ p.1 ∧ p.1 ≤ 127) ∧ (-128 ≤ p.2 ∧ p.2 ≤ 127)) Try.underlying27 hcS (fun hf hsz => open_placeC hf hsz) hf
  refine ⟨A, c, l, ?_, g1, g2, g3, g4⟩
  simpa [Value.cells] using e1
set_option maxRecDepth 100000 in
theorem open_i64s {r : Reach} {b0 : Nat} {v : Value} {d : DataW H} {p : List MemPlace} (hv : Value.okWide Try.prog w r b0 73 v) (h : DataW.Trod enc Try.prog w base spare held 73 v d p) :
    ∃ (A : Option Addr) (c : Nat) (l : List Int), v = .slice A l.length c ∧ l.length ≤ c ∧ c ≤ maxLen ∧ (∀ n ∈ l, -9223372036854775808 ≤ n ∧ n ≤ 9223372036854775807) ∧
      ∀ j n, l[j]? = some n → ∃ b off, A = some ⟨b, off, none⟩ ∧ b < w.heap.size ∧ w.cell? ⟨b, off + j, none⟩ = some (.int .i64 n) := by
  obtain ⟨a, len, cap, rfl⟩ := okWide_slice Try.underlying73 hv
  obtain ⟨fuel, hf⟩ := h
  obtain ⟨A, c, l, e1, g1, g2, g3, g4⟩ := open_nums (k := .i64) Try.underlying73 Try.underlying2 (by kernel_rfl) hf
  refine ⟨A, c, l, ?_, g1, g2, fun n hn => ok_i64 (g3 n hn), g4⟩
  simpa [Value.cells] using e1
end
end Go.Proofs.Ytfbgldkdlmipoaa

/- Worlds in which nothing but some blocks was turned; pairs that lie in memory, later on. -/
namespace Go.Proofs.Ytfbgldkdlmipoaa
open Go.RowKit
set_option linter.unusedSimpArgs false
set_option linter.unusedVariables false

/-- Nothing but the blocks lo .. hi is turned. -/
structure OutS (lo hi : Nat) (w w' : World) : Prop where
  size : w.heap.size ≤ w'.heap.size
  block : ∀ b, b < w.heap.size → b < lo ∨ hi ≤ b → w'.heap[b]? = w.heap[b]?
theorem OutS.refl (lo hi : Nat) (w : World) : OutS lo hi w w := ⟨Nat.le_refl _, fun _ _ _ => rfl⟩
theorem OutS.trans {lo hi : Nat} {w w1 w2 : World} (h : OutS lo hi w w1) (h2 : OutS lo hi w1 w2) : OutS lo hi w w2 := ⟨Nat.le_trans h.size h2.size, fun b hb hr => (h2.block b (Nat.lt_of_lt_of_le hb h.size) hr).trans (h.block b hb hr)⟩
theorem OutS.setCell {lo hi : Nat} {w w1 : World} (h : OutS lo hi w w1) {a : Addr} (u : Value) (h1 : lo ≤ a.block) (h2 : a.block < hi) : OutS lo hi w (w1.setCell a u) :=
  ⟨by simpa using h.size, fun b hb hr => by
    rw [← h.block b hb hr]
    have hb1 := Nat.lt_of_lt_of_le hb h.size
    have h3 := block_set_other (Array.getElem?_eq_getElem hb1) (a := a) u (by omega)
    rw [h3, Array.getElem?_eq_getElem hb1]⟩
theorem OutS.alloc {lo hi : Nat} (w : World) (o : Obj) : OutS lo hi w (w.alloc o) := ⟨by simp, fun b hb _ => heap_alloc_old w o hb⟩
theorem OutS.keep {lo hi b : Nat} {w w' : World} {o : Obj} (h : OutS lo hi w w') (hb : w.heap[b]? = some o) (hr : b < lo ∨ hi ≤ b) : w'.heap[b]? = some o := (h.block b (block_lt hb) hr).trans hb
theorem PairsAt.below {k1 k2 : IntKind} {B : Nat} {w w' : World} {A : Option Addr} {l : List (Int × Int)} (h : PairsAt k1 k2 w A l) (hb : Below B w w') (hB : w.heap.size ≤ B) : PairsAt k1 k2 w' A l := fun j p hj => by
  obtain ⟨b, off, e, h1, h2, h3⟩ := h j p hj
  exact ⟨b, off, e, Nat.lt_of_lt_of_le h1 hb.size, (hb.cell (p := ⟨b, _, none⟩) (by show b < B; omega)).trans h2, (hb.cell (p := ⟨b, _, none⟩) (by show b < B; omega)).trans h3⟩
end Go.Proofs.Ytfbgldkdlmipoaa

/- Slices of numbers: copied out of the law's arguments, marked. -/
namespace Go.Proofs.Ytfbgldkdlmipoaa
open Go.RowKit
set_option linter.unusedSimpArgs false
set_option linter.unusedVariables false

theorem OwI.sli {lo hi : Nat} {w : World} {A : Option Addr} {n c : Nat} {l : List Int} (h : OwI lo hi w (.slice A n c) l) : SlI w A l := fun j p hj => by
  obtain ⟨b, c', e, _, _, h1, h2, _⟩ := h.cells hj
  obtain ⟨rfl, _, _⟩ : A = some ⟨b, 0, none⟩ ∧ n = l.length ∧ c = c' := by simpa using e
  exact ⟨b, 0, rfl, h1, by rw [Nat.zero_add]; exact h2⟩
theorem OwJ.sli {lo hi : Nat} {w : World} {A : Option Addr} {n c : Nat} {l : List Int} (h : OwJ lo hi w (.slice A n c) l) : SlI w A l := h.1.sli
theorem OwJ.alloc {lo hi : Nat} {w : World} {v : Value} {l : List Int} (h : OwJ lo hi w v l) (o : Obj) : OwJ lo hi (w.alloc o) v l := h.below ((Below.refl _ w).alloc (Nat.le_refl _) o)
theorem OwJ.lo {lo lo' hi : Nat} {w : World} {v : Value} {l : List Int} (h : OwJ lo hi w v l) (hl : lo' ≤ lo) : OwJ lo' hi w v l := by
  obtain ⟨⟨A, c, rfl, h⟩, h2, h3⟩ := h
  exact ⟨⟨A, c, rfl, fun hl => by obtain ⟨b, cs, h1, h2, h3, h4⟩ := h hl; exact ⟨b, cs, h1, by omega, by omega, h4⟩⟩, by omega, h3⟩
theorem OwJ.outS {lo hi lo' hi' : Nat} {w w' : World} {v : Value} {l : List Int} (h : OwJ lo hi w v l) (hO : OutS lo' hi' w w') (hd : hi ≤ lo' ∨ hi' ≤ lo) : OwJ lo hi w' v l := by
  obtain ⟨⟨A, c, rfl, h⟩, h2, h3⟩ := h
  refine ⟨⟨A, c, rfl, fun hl => ?_⟩, h2, Nat.le_trans h3 hO.size⟩
  obtain ⟨b, cs, r1, r2, r3, r4, r5⟩ := h hl
  exact ⟨b, cs, r1, r2, r3, hO.keep r4 (by omega), r5⟩
theorem OwI.hi {lo hi lo' hi' : Nat} {w : World} {v : Value} {l : List Int} (h : OwI lo hi w v l) (hl : lo' ≤ lo) (hh : hi ≤ hi') : OwI lo' hi' w v l := by
  obtain ⟨A, c, rfl, h⟩ := h
  exact ⟨A, c, rfl, fun hl => by obtain ⟨b, cs, h1, h2, h3, h4⟩ := h hl; exact ⟨b, cs, h1, by omega, by omega, h4⟩⟩
theorem SlI.belowB {B : Nat} {w w' : World} {A : Option Addr} {l : List Int} (h : SlI w A l) (hb : Below B w w') (hB : w.heap.size ≤ B) : SlI w' A l := h.below hb hB
end Go.Proofs.Ytfbgldkdlmipoaa
