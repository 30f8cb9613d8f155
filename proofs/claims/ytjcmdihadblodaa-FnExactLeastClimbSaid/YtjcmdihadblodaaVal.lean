/- Validity of roofs: the program's and the reference's. -/
import Derived.Test.YtjcmdihadblodaaRoof
import Derived.Test.YtjcmdihadblodaaNum
namespace Go.Proofs.Ytjcmdihadblodaa
open Go.RowKit
set_option linter.unusedVariables false
set_option linter.unusedSimpArgs false

/-- What a roof has to be at one place. -/
def tileOk (r : Rf) (i k : Nat) : Bool := decide (r.at i k ≤ 3) && (decide (r.at i k = 0) || (decide ((i : Int) < r.h) && decide ((k : Int) < r.w)))
def headOk (r : Rf) : Bool := inB r.w 1 8 && (inB r.h 1 8 && decide (r.s ≤ 1))
/-- Whether a roof is valid. -/
def validB (r : Rf) : Bool := headOk r && (List.range 8).all fun i => (List.range 8).all fun k => tileOk r i k
theorem validB_true {r : Rf} (h : headOk r = true) (ht : ∀ i k, i < 8 → k < 8 → tileOk r i k = true) : validB r = true := by
  simp [validB, h]; intro i hi k hk; exact ht i k hi hk
theorem validB_tile {r : Rf} {i k : Nat} (hi : i < 8) (hk : k < 8) (h : tileOk r i k = false) : validB r = false := by
  cases hv : validB r with
  | false => rfl
  | true => simp [validB] at hv; have := hv.2 i hi k hk; simp [h] at this
theorem validB_head {r : Rf} (h : headOk r = false) : validB r = false := by simp [validB, h]

theorem tileYes {r : Rf} {i k : Nat} (h : r.at i k ≤ 3 ∧ (r.at i k = 0 ∨ ((i : Int) < r.h ∧ (k : Int) < r.w))) : tileOk r i k = true := by simpa [tileOk] using h
theorem tileNo {r : Rf} {i k : Nat} (h : ¬ (r.at i k ≤ 3 ∧ (r.at i k = 0 ∨ ((i : Int) < r.h ∧ (k : Int) < r.w)))) : tileOk r i k = false := by
  cases ht : tileOk r i k with
  | false => rfl
  | true => exact absurd (by simpa [tileOk] using ht) h

set_option maxRecDepth 100000 in
set_option maxHeartbeats 800000 in
theorem c_ValidRoof (r : Rf) (hr : r.Ok) (w : World) : Calls Try.prog 88 #[.agg (rcells r)] w fun e w' => e = .returned (.bool (validB r)) ∧ Below w.heap.size w w' := by
  by_cases hd : headOk r = true
  · have hd' := hd
    simp only [headOk, Bool.and_eq_true, decide_eq_true_eq, inB_iff] at hd'
    obtain ⟨⟨a1, a2⟩, ⟨a3, a4⟩, a5⟩ := hd'
    have HR := hid (heap_alloc_new w (.cells (rcells r) 38))
    have e1 : IntKind.i64.wrap r.w = r.w := IntWalk.i64_in _ (by omega)
    have e2 : IntKind.i64.wrap r.h = r.h := IntWalk.i64_in _ (by omega)
    go_enter Try.func88, Try.ntmps88
    go_wp2_with (first | (go_at_call 75; refine (c_within8 _ _ _ _ true (inB_true ⟨by omega, by omega⟩)).mono ?_; rintro e w' ⟨rfl, rfl⟩) | ((with_reducible refine gate (N := 23) rfl ?_); refine wp_tiles rfl (.tmp 22) rfl w.heap.size rfl r hr HR.out ?_))
    go_loopw [24] (fun i wr => ∃ k : Nat, k ≤ 8 ∧ i = .int .i64 k ∧ Below w.heap.size w wr ∧ wr.heap[w.heap.size]? = some (.cells (rcells r) 38 (0, 0)) ∧ Hid (∀ i' k', i' < k → k' < 8 → tileOk r i' k' = true))
      (fun i _ => 8 - (intOf i).toNat)
    case atStart => exact ⟨0, by omega, rfl, (Below.refl _ w).alloc (Nat.le_refl _) _, HR.out, fun i' k' h => by omega⟩
    case round =>
      obtain ⟨k, hk, rfl, hb, hblk, hall⟩ := hrel
      have HB := hid hblk
      clear hblk
      by_cases hlt : k < 8
      · go_wp2_with (first | ((with_reducible refine gate (N := 27) rfl ?_); refine wpList_index rfl 31 (.tmp 23) (.tmp 24) rfl _ _ _ rfl rfl (run_tiles _ r.t .i64 k hlt) ?_) | ((with_reducible refine gateN rfl ?_); refine wp_store_row rfl (.tmp 4) (.tmp 27) rfl _ rfl (trow r.t k) (len_trow _ hr.len _ hlt) rfl rfl ?_) | ((with_reducible refine gate (N := 28) rfl ?_); refine wp_row rfl (.tmp 4) rfl wr.heap.size rfl (trow r.t k) (len_trow _ hr.len _ hlt) (heap_alloc_new _ _) ?_))
        go_loop [29] (fun j => ∃ q : Nat, q ≤ 8 ∧ j = .int .i64 q ∧ Hid (∀ k', k' < q → tileOk r k k' = true)) (fun j => 8 - (intOf j).toNat)
        case atStart => exact ⟨0, by omega, rfl, fun k' h => by omega⟩
        case round =>
          obtain ⟨q, hq, rfl, hrow⟩ := hrel
          by_cases hql : q < 8
          · have hat := hr.at k q
            have hv : (trow r.t k).getD q 0 = r.at k q := trow_at _ _ _ hql
            have hr1 := run_kind (wr.alloc (.cells (tcells (trow r.t k)) 30)) (trow r.t k) (len_trow _ hr.len _ hlt) .i64 q hql
            rw [hv] at hr1
            have HK := hid hr1
            have c0 : (wr.alloc (.cells (tcells (trow r.t k)) 30)).cell? ⟨w.heap.size, 0, none⟩ = some (.int .i8 r.w) := by
              rw [World.cell?_alloc_lt _ _ _ (Array.getElem?_eq_some_iff.1 HB.out).1, cell_of_row _ _ 0 _ _ _ HB.out]; exact rc0 r
            have c1 : (wr.alloc (.cells (tcells (trow r.t k)) 30)).cell? ⟨w.heap.size, 1, none⟩ = some (.int .i8 r.h) := by
              rw [World.cell?_alloc_lt _ _ _ (Array.getElem?_eq_some_iff.1 HB.out).1, cell_of_row _ _ 1 _ _ _ HB.out]; exact rc1 r
            clear hr1 hv
            obtain ⟨v, hvv⟩ : ∃ v, v = r.at k q := ⟨_, rfl⟩
            rw [← hvv] at HK hat
            have HV := hid hvv
            clear hvv
            go_wp2_with ((with_reducible refine gate (N := 32) rfl ?_); refine wpList_index rfl 30 (.tmp 28) (.tmp 29) rfl _ _ _ rfl rfl HK.out ?_)
            all_goals try simp only [bne_iff_ne, ne_eq, bne_eq_false_iff_eq] at *
            all_goals first
              | (go_ret; exact ⟨ret_bool (validB_tile hlt hql (tileNo (by rw [← HV.out]; omega))).symm, hb.alloc hb.size _⟩)
              | (go_round; (case rel => exact ⟨q + 1, by omega, by go_num, all_succ hrow.out (tileYes (by rw [← HV.out]; omega))⟩); (case measure => simp [intOf]; omega))
          · obtain rfl : q = 8 := by omega
            go_wp2
            go_roundw
            case rel => exact ⟨k + 1, by omega, by go_num, hb.alloc hb.size _, by rw [heap_alloc_old _ _ (Array.getElem?_eq_some_iff.1 HB.out).1]; exact HB.out, fun i' k' hi hk' => all_succ (p := fun i => ∀ k, k < 8 → tileOk r i k = true) (fun i hi k hk => hall.out i k hi hk) hrow.out i' hi k' hk'⟩
            case measure => simp [intOf]; omega
      · obtain rfl : k = 8 := by omega
        go_wp2
        go_ret
        exact ⟨ret_bool (validB_true hd (fun i k hi hk => hall.out i k hi hk)).symm, hb⟩
  · have hd' : headOk r = false := by simpa using hd
    have hv := validB_head hd'
    have HD := hid hd
    clear hd hd'
    have HV := hid hv
    clear hv
    by_cases a1 : 1 ≤ r.w ∧ r.w ≤ 8
    · have g1 := inB_true a1
      by_cases a2 : 1 ≤ r.h ∧ r.h ≤ 8
      · have g2 := inB_true a2
        have a3 : 1 < r.s := by
          have := HD.out
          simp [headOk, g1, g2] at this
          exact this
        clear a1 a2
        go_enter Try.func88, Try.ntmps88
        go_wp2_with (go_at_call 75; first | ((with_reducible refine (c_within8 _ _ _ _ true g1).mono ?_); rintro e w' ⟨rfl, rfl⟩) | ((with_reducible refine (c_within8 _ _ _ _ true g2).mono ?_); rintro e w' ⟨rfl, rfl⟩))
        go_ret
        exact ⟨ret_bool HV.out.symm, (Below.refl _ w).alloc (Nat.le_refl _) _⟩
      · have g2 := inB_false a2
        clear a1 a2
        go_enter Try.func88, Try.ntmps88
        go_wp2_with (go_at_call 75; first | ((with_reducible refine (c_within8 _ _ _ _ true g1).mono ?_); rintro e w' ⟨rfl, rfl⟩) | ((with_reducible refine (c_within8 _ _ _ _ false g2).mono ?_); rintro e w' ⟨rfl, rfl⟩))
        go_ret
        exact ⟨ret_bool HV.out.symm, (Below.refl _ w).alloc (Nat.le_refl _) _⟩
    · have g1 := inB_false a1
      clear a1
      go_enter Try.func88, Try.ntmps88
      go_wp2_with (go_at_call 75; ((with_reducible refine (c_within8 _ _ _ _ false g1).mono ?_); rintro e w' ⟨rfl, rfl⟩))
      go_ret
      exact ⟨ret_bool HV.out.symm, (Below.refl _ w).alloc (Nat.le_refl _) _⟩
/-- Whether there is a place. -/
def isPl (r : Rf) (c t : Int) : Bool := inB c 0 (r.h - 1) && inB t 0 (r.w - 1)

theorem isPl_true {r : Rf} {c t : Int} (h : 0 ≤ c ∧ c ≤ r.h - 1 ∧ 0 ≤ t ∧ t ≤ r.w - 1) : isPl r c t = true := by
  unfold isPl; rw [inB_true ⟨h.1, h.2.1⟩, inB_true ⟨h.2.2.1, h.2.2.2⟩]; rfl
theorem isPl_iff {r : Rf} {c t : Int} : isPl r c t = true ↔ 0 ≤ c ∧ c ≤ r.h - 1 ∧ 0 ≤ t ∧ t ≤ r.w - 1 := by
  unfold isPl; rw [Bool.and_eq_true, inB_iff, inB_iff]; omega
theorem isPl_false {r : Rf} {c t : Int} (h : ¬ (0 ≤ c ∧ c ≤ r.h - 1 ∧ 0 ≤ t ∧ t ≤ r.w - 1)) : isPl r c t = false := by
  cases hp : isPl r c t with
  | false => rfl
  | true => exact absurd (isPl_iff.1 hp) h

set_option maxRecDepth 100000 in
theorem c_l01Is (c t : Int) (hc : -128 ≤ c ∧ c ≤ 127) (ht : -128 ≤ t ∧ t ≤ 127) (r : Rf) (hr : r.Ok) (b : Nat) (w : World) (hb : w.heap[b]? = some (.cells (rcells r) 38 (0,0))) (v : Bool) (hv : isPl r c t = v) :
    Calls Try.prog 52 #[.pointer (some ⟨b,0,none⟩), .agg #[.int .i8 c, .int .i8 t]] w fun e w' => e = .returned (.bool v) ∧ Below w.heap.size w w' := by
  subst hv
  obtain ⟨h1, h2⟩ := hc
  obtain ⟨h3, h4⟩ := ht
  have h5 := hr.w1; have h6 := hr.w2; have h7 := hr.h1; have h8 := hr.h2
  have hlt : b < w.heap.size := (Array.getElem?_eq_some_iff.1 hb).1
  have hlt' : b < w.heap.size + 1 := by omega
  have c0 : w.cell? ⟨b, 0, none⟩ = some (.int .i8 r.w) := by rw [cell_of_row w b 0 _ _ _ hb]; exact rc0 r
  have c1 : w.cell? ⟨b, 1, none⟩ = some (.int .i8 r.h) := by rw [cell_of_row w b 1 _ _ _ hb]; exact rc1 r
  clear hb
  have e1 : IntKind.i64.wrap c = c := IntWalk.i64_in _ (by omega)
  have e2 : IntKind.i64.wrap t = t := IntWalk.i64_in _ (by omega)
  have e3 : IntKind.i64.wrap r.w = r.w := IntWalk.i64_in _ (by omega)
  have e4 : IntKind.i64.wrap r.h = r.h := IntWalk.i64_in _ (by omega)
  have e5 : IntKind.i64.wrap (r.w - 1) = r.w - 1 := IntWalk.i64_in _ (by omega)
  have e6 : IntKind.i64.wrap (r.h - 1) = r.h - 1 := IntWalk.i64_in _ (by omega)
  have key : ∀ g1 g2 : Bool, inB c 0 (r.h - 1) = g1 → inB t 0 (r.w - 1) = g2 → Calls Try.prog 52 #[.pointer (some ⟨b,0,none⟩), .agg #[.int .i8 c, .int .i8 t]] w fun e w' =>
      e = .returned (.bool (g1 && g2)) ∧ Below w.heap.size w w' := by
    intro g1 g2 hg1 hg2
    have G1 := hid hg1; clear hg1
    have G2 := hid hg2; clear hg2
    cases g1
    all_goals
      go_enter Try.func52, Try.ntmps52
      go_wp2_with fail
      refine wp_region_ext (w.heap.size + 1) (by kernel_rfl) (by kernel_rfl) ?_
      repeat (go_big_quiet_step ((go_at_call 43; first | with_reducible exact Calls.ext_same (c_l00In _ _ _ _ _ G1.out) | with_reducible exact Calls.ext_same (c_l00In _ _ _ _ _ G2.out))))
      refine wpQuiet_nil ?_
      intro x
      go_wp2
      go_ret
      exact ⟨by simp, ((Below.refl _ w).alloc (Nat.le_refl _) _).trans (x.h.mono (by omega))⟩
  exact key _ _ rfl rfl

set_option maxRecDepth 100000 in
set_option maxHeartbeats 800000 in
theorem c_l01Ok (r : Rf) (hr : r.Ok) (b : Nat) (w : World) (hb : w.heap[b]? = some (.cells (rcells r) 38 (0,0))) : Calls Try.prog 69 #[.pointer (some ⟨b,0,none⟩)] w fun e w' => e = .returned (.bool (validB r)) ∧ Below w.heap.size w w' := by
  have h5 := hr.w1; have h6 := hr.w2; have h7 := hr.h1; have h8 := hr.h2; have h9 := hr.s1
  have hlt : b < w.heap.size := (Array.getElem?_eq_some_iff.1 hb).1
  have c0 : w.cell? ⟨b, 0, none⟩ = some (.int .i8 r.w) := by rw [cell_of_row w b 0 _ _ _ hb]; exact rc0 r
  have c1 : w.cell? ⟨b, 1, none⟩ = some (.int .i8 r.h) := by rw [cell_of_row w b 1 _ _ _ hb]; exact rc1 r
  have c2 : w.cell? ⟨b, 2, none⟩ = some (.int .u8 r.s) := by rw [cell_of_row w b 2 _ _ _ hb]; exact rc2 r
  have ct : ∀ k q : Nat, k < 8 → q < 8 → w.cell? ⟨b, 3 + k * 8 + q, none⟩ = some (.int .u8 (r.at k q)) := fun k q hk hq => by
    have := rct r hr (8 * k + q) (by omega)
    have e : 3 + k * 8 + q = 3 + (8 * k + q) := by omega
    rw [cell_of_row w b _ _ _ _ hb, e]; exact this
  have HB := hid hb; clear hb
  have HT := hid ct; clear ct
  by_cases hd : headOk r = true
  · have hd' := hd
    simp only [headOk, Bool.and_eq_true, decide_eq_true_eq, inB_iff] at hd'
    obtain ⟨⟨a1, a2⟩, ⟨a3, a4⟩, a5⟩ := hd'
    have HD := hid hd; clear hd
    go_enter Try.func69, Try.ntmps69
    go_wp2_with (go_at_call 43; refine (c_l00In _ _ _ _ true (inB_true ⟨by omega, by omega⟩)).mono ?_; rintro e w' ⟨rfl, rfl⟩)
    go_loopw [3] (fun i wr => ∃ k : Nat, k ≤ 8 ∧ i = .int .i8 k ∧ Below w.heap.size w wr ∧ Hid (∀ i' k', i' < k → k' < 8 → tileOk r i' k' = true)) (fun i _ => 8 - (intOf i).toNat)
    case atStart => exact ⟨0, by omega, rfl, Below.refl _ _, fun i' k' h => by omega⟩
    case round =>
      obtain ⟨k, hk, rfl, hb, hall⟩ := hrel
      by_cases hkl : k < 8
      · have hk8 : decide ((k : Int) < 8) = true := decide_eq_true (by omega)
        go_wp2_with fail
        obtain ⟨wo, rfl⟩ : ∃ wo : World, wo = wr := ⟨_, rfl⟩
        go_loopw [4] (fun j wr => ∃ q : Nat, q ≤ 8 ∧ j = .int .i8 q ∧ Below w.heap.size w wr ∧ Hid (∀ k', k' < q → tileOk r k k' = true)) (fun j _ => 8 - (intOf j).toNat)
        case atStart => exact ⟨0, by omega, rfl, hb, fun k' h => by omega⟩
        case round =>
          clear hb
          obtain ⟨q, hq, rfl, hb, hrow⟩ := hrel
          by_cases hql : q < 8
          · have hat := hr.at k q
            have hc : wr.cell? ⟨b, 3 + k * 8 + q, none⟩ = some (.int .u8 (r.at k q)) := (hb.cell (p := ⟨b, _, none⟩) hlt).trans (HT.out k q hkl hql)
            have hblk : wr.heap[b]? = some (.cells (rcells r) 38 (0, 0)) := (hb.block b hlt).trans HB.out
            have HL := hid hblk; clear hblk
            obtain ⟨v, hvv⟩ : ∃ v, v = r.at k q := ⟨_, rfl⟩
            rw [← hvv] at hc hat
            have HV := hid hvv; clear hvv
            obtain ⟨v1, v2⟩ := hat
            by_cases g1 : v ≤ 3
            · have G1 : Hid (inB v 0 3 = true) := inB_true ⟨v1, g1⟩
              by_cases g2 : (k : Int) ≤ r.h - 1 ∧ (q : Int) ≤ r.w - 1
              · have G2 : Hid (isPl r k q = true) := isPl_true ⟨by omega, g2.1, by omega, g2.2⟩
                have H2 := hid g2; clear g2
                go_wp2_with (first | (go_at_call 87; (with_reducible refine (c_l01Kind _ _ _ G1.out).mono ?_); rintro e w' ⟨rfl, rfl⟩) | (go_at_call 52; ((refine (c_l01Is _ _ (by omega) (by omega) r hr b _ HL.out _ G2.out).mono ?_); rintro e w1 ⟨rfl, hb1⟩; have hb2 := hb.trans (hb1.mono hb.size); have hc1 := (hb1.cell (p := ⟨b, 3 + k * 8 + q, none⟩) (Nat.lt_of_lt_of_le hlt hb.size)).trans hc)))
                have h2 := H2.out
                (go_roundw; (case rel => exact ⟨q + 1, by omega, by go_num, hb2, all_succ hrow.out (tileYes (by rw [← HV.out]; omega))⟩); (case measure => simp [intOf]; omega))
              · have G2 : Hid (isPl r k q = false) := isPl_false (fun h => g2 ⟨h.2.1, h.2.2.2⟩)
                have H2 := hid g2; clear g2
                by_cases hz : v = 0
                · have HZ := hid hz
                  subst hz
                  go_wp2_with (first | (go_at_call 87; (with_reducible refine (c_l01Kind _ _ _ G1.out).mono ?_); rintro e w' ⟨rfl, rfl⟩) | (go_at_call 52; ((refine (c_l01Is _ _ (by omega) (by omega) r hr b _ HL.out _ G2.out).mono ?_); rintro e w1 ⟨rfl, hb1⟩; have hb2 := hb.trans (hb1.mono hb.size); have hc1 := (hb1.cell (p := ⟨b, 3 + k * 8 + q, none⟩) (Nat.lt_of_lt_of_le hlt hb.size)).trans hc)))
                  (go_roundw; (case rel => exact ⟨q + 1, by omega, by go_num, hb2, all_succ hrow.out (tileYes (by rw [← HV.out]; omega))⟩); (case measure => simp [intOf]; omega))
                · have hz' : (v != 0) = true := by simpa using hz
                  go_wp2_with (first | (go_at_call 87; (with_reducible refine (c_l01Kind _ _ _ G1.out).mono ?_); rintro e w' ⟨rfl, rfl⟩) | (go_at_call 52; ((refine (c_l01Is _ _ (by omega) (by omega) r hr b _ HL.out _ G2.out).mono ?_); rintro e w1 ⟨rfl, hb1⟩; have hb2 := hb.trans (hb1.mono hb.size); have hc1 := (hb1.cell (p := ⟨b, 3 + k * 8 + q, none⟩) (Nat.lt_of_lt_of_le hlt hb.size)).trans hc)))
                  have h2 := H2.out
                  (go_ret; exact ⟨ret_bool (validB_tile hkl hql (tileNo (by rw [← HV.out]; omega))).symm, hb2⟩)
            · have G1 : Hid (inB v 0 3 = false) := inB_false (fun h => g1 h.2)
              go_wp2_with (go_at_call 87; (with_reducible refine (c_l01Kind _ _ _ G1.out).mono ?_); rintro e w' ⟨rfl, rfl⟩)
              (go_ret; exact ⟨ret_bool (validB_tile hkl hql (tileNo (by rw [← HV.out]; omega))).symm, hb⟩)
          · obtain rfl : q = 8 := by omega
            go_wp2_with fail
            go_roundw
            case rel => exact ⟨k + 1, by omega, by go_num, hb, fun i' k' hi hk' => all_succ (p := fun i => ∀ k, k < 8 → tileOk r i k = true) (fun i hi k hk => hall.out i k hi hk) hrow.out i' hi k' hk'⟩
            case measure => simp [intOf]; omega
      · obtain rfl : k = 8 := by omega
        go_wp2_with fail
        go_ret
        exact ⟨ret_bool (validB_true HD.out (fun i k hi hk => hall.out i k hi hk)).symm, hb⟩
  · have hd' : headOk r = false := by simpa using hd
    have HV := hid (validB_head hd')
    clear hd
    have HD := hid hd'
    clear hd'
    by_cases a1 : 1 ≤ r.w ∧ r.w ≤ 8
    · have g1 := inB_true a1
      by_cases a2 : 1 ≤ r.h ∧ r.h ≤ 8
      · have g2 := inB_true a2
        have a3 : 1 < r.s := by
          have := HD.out
          simp [headOk, g1, g2] at this
          exact this
        have G1 := hid g1; clear g1
        have G2 := hid g2; clear g2
        clear a1 a2
        go_enter Try.func69, Try.ntmps69
        go_wp2_with (go_at_call 43; first | ((with_reducible refine (c_l00In _ _ _ _ true G1.out).mono ?_); rintro e w' ⟨rfl, rfl⟩) | ((with_reducible refine (c_l00In _ _ _ _ true G2.out).mono ?_); rintro e w' ⟨rfl, rfl⟩))
        go_ret
        exact ⟨ret_bool HV.out.symm, Below.refl _ _⟩
      · have G1 := hid g1; clear g1
        have G2 := hid (inB_false a2)
        clear a1 a2
        go_enter Try.func69, Try.ntmps69
        go_wp2_with (go_at_call 43; first | ((with_reducible refine (c_l00In _ _ _ _ true G1.out).mono ?_); rintro e w' ⟨rfl, rfl⟩) | ((with_reducible refine (c_l00In _ _ _ _ false G2.out).mono ?_); rintro e w' ⟨rfl, rfl⟩))
        go_ret
        exact ⟨ret_bool HV.out.symm, Below.refl _ _⟩
    · have G1 := hid (inB_false a1)
      clear a1
      go_enter Try.func69, Try.ntmps69
      go_wp2_with (go_at_call 43; ((with_reducible refine (c_l00In _ _ _ _ false G1.out).mono ?_); rintro e w' ⟨rfl, rfl⟩))
      go_ret
      exact ⟨ret_bool HV.out.symm, Below.refl _ _⟩

end Go.Proofs.Ytjcmdihadblodaa
