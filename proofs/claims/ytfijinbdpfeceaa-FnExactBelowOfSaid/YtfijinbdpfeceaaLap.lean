/- The tiles of another course with a cell of a tile. -/
import Derived.Test.YtfijinbdpfeceaaHas
namespace Go.Proofs.Ytfijinbdpfeceaa
open Go.RowKit
set_option linter.unusedSimpArgs false
set_option linter.unusedVariables false

/-- One tile more, if it is one, and new. -/
def lapStep (d k : Int) (l : List (Int × Int)) : List (Int × Int) := if k ≠ -1 ∧ (d, k) ∉ l then l ++ [(d, k)] else l
def lapK (r : Rf) (c t d : Int) : Nat → List (Int × Int)
  | 0 => []
  | n + 1 => lapStep d (tileOf r d (firstOf r c t + n)) (lapK r c t d n)
/-- The tiles of a course that have a cell of a tile. -/
def lapL (r : Rf) (c t d : Int) : List (Int × Int) := if inB d 0 (r.h - 1) = true then lapK r c t d 2 else []
theorem lapStep_len (d k : Int) (l : List (Int × Int)) : (lapStep d k l).length ≤ l.length + 1 := by unfold lapStep; split <;> simp
theorem lapK_len (r : Rf) (c t d : Int) : ∀ n, (lapK r c t d n).length ≤ n
  | 0 => by simp [lapK]
  | n + 1 => by have := lapStep_len d (tileOf r d (firstOf r c t + n)) (lapK r c t d n); have := lapK_len r c t d n; simp only [lapK]; omega
theorem lapL_len (r : Rf) (c t d : Int) : (lapL r c t d).length ≤ 2 := by unfold lapL; split; exact lapK_len r c t d 2; simp
theorem tileOf_le {r : Rf} (hv : validB r = true) (d n : Int) : -1 ≤ tileOf r d n ∧ tileOf r d n ≤ 7 ∧ tileOf r d n < r.w := by
  have := valid_head hv
  unfold tileOf
  split <;> omega
theorem lapK_mem {r : Rf} (hv : validB r = true) {c t d : Int} : ∀ n, ∀ p ∈ lapK r c t d n, p.1 = d ∧ 0 ≤ p.2 ∧ p.2 < r.w
  | 0 => fun p hp => by simp [lapK] at hp
  | n + 1 => fun p hp => by
    have hle := tileOf_le hv d (firstOf r c t + n)
    simp only [lapK, lapStep] at hp
    split at hp
    · rcases List.mem_append.1 hp with h1 | h1
      · exact lapK_mem hv n p h1
      · rw [List.mem_singleton] at h1; subst h1
        dsimp only
        exact ⟨rfl, by omega, by omega⟩
    · exact lapK_mem hv n p hp
theorem lapL_mem {r : Rf} (hv : validB r = true) {c t d : Int} : ∀ p ∈ lapL r c t d, p.1 = d ∧ (0 ≤ p.1 ∧ p.1 ≤ r.h - 1) ∧ 0 ≤ p.2 ∧ p.2 < r.w := fun p hp => by
  unfold lapL at hp
  split at hp
  · rename_i h
    have := lapK_mem hv 2 p hp
    rw [inB_iff] at h
    omega
  · simp at hp
/-- What a call that returns a slice of places has left. -/
def RetS (w : World) (l : List (Int × Int)) (e : Ending) (w' : World) : Prop := ∃ v, e = .returned v ∧ Below w.heap.size w w' ∧ w'.ownsRow w.heap.size 42 2 v l.length (pcells l)
set_option maxHeartbeats 1600000 in
set_option maxRecDepth 100000 in
theorem c_lapped (r : Rf) (hr : r.Ok) (hv : validB r = true) (c t d : Int) (hc : 0 ≤ c ∧ c ≤ 7) (ht : 0 ≤ t ∧ t ≤ 7) (hd : -1 ≤ d ∧ d ≤ 8) (w : World) :
    Calls Try.prog 48 #[.agg (rcells r), .agg #[.int .i8 c, .int .i8 t], .int .i64 d] w (RetS w (lapL r c t d)) := by
  obtain ⟨i0, hi, hz0, hz1, hz2⟩ := info_parts Try.infoPlace
  have vh := valid_head hv
  have HV := hid hv
  have HP := hid (block_alloc (block_new1 w (.cells (rcells r) 27) rfl) (.cells #[.int .i8 c, .int .i8 t] 42))
  have HQ := hid (block_new1 (w.alloc (.cells (rcells r) 27)) (.cells #[.int .i8 c, .int .i8 t] 42) (n := w.heap.size + 1) (by simp))
  have HW : Hid (Below w.heap.size w ((w.alloc (.cells (rcells r) 27)).alloc (.cells #[.int .i8 c, .int .i8 t] 42))) := ((Below.refl _ w).alloc (Nat.le_refl _) _).alloc (by simp) _
  have HS : Hid (w.heap.size + 2 ≤ ((w.alloc (.cells (rcells r) 27)).alloc (.cells #[.int .i8 c, .int .i8 t] 42)).heap.size) := by simp [Hid]
  have HH : Hid (r.h ≤ 8 ∧ r.w ≤ 8) := ⟨by omega, by omega⟩
  have HCc := hid hc
  have HTt := hid ht
  clear hv vh
  by_cases hin : inB d 0 (r.h - 1) = true
  · have HI := hid hin
    have hl : lapL r c t d = lapK r c t d 2 := by unfold lapL; rw [if_pos hin]
    rw [hl]
    have hd7 : 0 ≤ d ∧ d ≤ 7 := by have := HH.out; rw [inB_iff] at hin; omega
    have HD := hid hd7
    have hs0 := shiftOf_01 r c
    have hf : 0 ≤ firstOf r c t ∧ firstOf r c t ≤ 15 := by unfold firstOf; omega
    have HF := hid hf
    have ed : IntKind.i8.wrap d = d := IntWalk.i8_in _ (by omega)
    have ed6 : IntKind.i64.wrap d = d := IntWalk.i64_in _ (by omega)
    clear hin hl hs0 hf hc ht hd hd7
    go_enter Try.func48, Try.ntmps48
    go_wp2_with (first
      | ((with_reducible refine gate (N := 12) rfl ?_); refine wp_roof 27 Try.underlying27 rfl Try.infoRoof rfl (.tmp 3) rfl w.heap.size rfl r hr HP.out ?_)
      | ((with_reducible refine gate (N := 16) rfl ?_); refine wp_roof 27 Try.underlying27 rfl Try.infoRoof rfl (.tmp 3) rfl w.heap.size rfl r hr (block_below b1.out HP.out (by have := HS.out; omega)) ?_)
      | (go_at_call 66; ((with_reducible refine (c_isCourse r hr d _ _ HI.out).mono ?_); rintro e w1 ⟨rfl, hb1⟩); have b1 := hid hb1; have HQ1 := hid (block_below hb1 HQ.out (by have := HS.out; omega)); have q0 := cell_block HQ1.out (j := 0) rfl; have q1 := cell_block HQ1.out (j := 1) rfl; clear hb1)
      | (go_at_call 67; ((with_reducible refine (c_cellsOf r hr c t HCc.out HTt.out _).mono ?_); rintro e w2 ⟨g, rfl, hb2, hg, hG⟩); have b2 := hid hb2; have hgl := hid hg; have HG := hid hG; clear hb2 hg hG))
    have HP2 := hid (block_below b2.out (block_below b1.out HP.out (by have := HS.out; omega)) (by have := HS.out; have := b1.out.size; omega))
    have HW2 := hid ((HW.out.trans (b1.out.mono HW.out.size)).trans (b2.out.mono (Nat.le_trans HW.out.size b1.out.size)))
    have hg2 := block_lt HG.out
    have hp2 := block_lt HP2.out
    have HN0 : Hid (w2.ownsRow w2.heap.size 42 2 (.slice none 0 0) (lapK r c t d 0).length (pcells (lapK r c t d 0))) := World.ownsRow_nil _ _ _ _
    have HB0 : Hid (Below w2.heap.size w2 w2) := Below.refl _ _
    clear q0 q1
    go_loopw [7, 20] (fun v i wr => ∃ k : Nat, k ≤ 2 ∧ i = .int .i64 k ∧ Hid (Below w2.heap.size w2 wr) ∧ Hid (wr.ownsRow w2.heap.size 42 2 v (lapK r c t d k).length (pcells (lapK r c t d k)))) (fun _ i _ => 2 - (intOf i).toNat)
    case atStart => exact ⟨0, by omega, rfl, HB0, HN0⟩
    case round =>
      clear HN0 HB0
      obtain ⟨k, hk, rfl, hb, hO⟩ := hrel
      by_cases hk2 : k < 2
      · have hd : decide ((k : Int) < 2) = true := decide_eq_true (by omega)
        have hkI : (k : Int) < 2 := by omega
        have hk0 : (0 : Int) ≤ (k : Int) := by omega
        have HGw := hid (block_below hb.out HG.out hg2)
        have HPw := hid (block_below hb.out HP2.out hp2)
        obtain ⟨n, hn⟩ : ∃ n, n = firstOf r c t + k := ⟨_, rfl⟩
        have hcell : wr.cell? ⟨g, k, none⟩ = some (.int .i64 n) := by
          rw [hn]
          match k, hk2 with
          | 0, _ => have := cell_block HGw.out (j := 0) rfl; simpa using this
          | 1, _ => exact cell_block HGw.out (j := 1) rfl
        have HNn := hid hn
        have hn100 : Hid (0 ≤ n ∧ n ≤ 100) := by have := HF.out; exact ⟨by omega, by omega⟩
        have HT := hid (c_tileAt r hr HV.out d n HD.out hn100.out)
        have hu := tileOf_le HV.out d n
        obtain ⟨u, hue⟩ : ∃ u, u = tileOf r d n := ⟨_, rfl⟩
        rw [← hue] at hu HT
        have eu : IntKind.i8.wrap u = u := IntWalk.i8_in _ (by omega)
        have HY : Hid (lapK r c t d (k + 1) = lapStep d u (lapK r c t d k)) := by
          show lapStep d (tileOf r d (firstOf r c t + k)) _ = _
          rw [← hn, ← hue]
        have hlen : (lapK r c t d k).length ≤ 2 := Nat.le_trans (lapK_len r c t d k) (by omega)
        have h7 : u ≤ 7 := hu.2.1
        have h1 : -1 ≤ u := hu.1
        clear hn hue hu
        obtain ⟨A, cc, rfl, hsl⟩ := slp_of hO.out
        have HSl := hid hsl
        clear hsl
        by_cases hm1 : u = -1
        · have hne : (u != -1) = false := by simp [hm1]
          have HYY : Hid (lapK r c t d (k + 1) = lapK r c t d k) := by
            rw [Hid, HY.out]; unfold lapStep; rw [if_neg (fun h => h.1 hm1)]
          clear hm1
          go_wp2_with (first
            | ((with_reducible refine gate (N := 24) rfl ?_); refine wp_roof 27 Try.underlying27 rfl Try.infoRoof rfl (.tmp 3) rfl w.heap.size rfl r hr HPw.out ?_)
            | (go_at_call 68; ((with_reducible refine (HT.out _).mono ?_); rintro e w3 ⟨rfl, hb3⟩); have b3 := hid hb3; clear hb3))
          refine ⟨⟨k + 1, by omega, by go_num, (hb.out.trans (b3.out.mono hb.out.size)).alloc (Nat.le_trans hb.out.size b3.out.size) _, ?_⟩, by simp [intOf]; omega⟩
          show World.ownsRow _ _ _ _ _ _ _
          rw [HYY.out]; exact (owns_below hO.out b3.out).alloc _
        · have hne : (u != -1) = true := by simpa using hm1
          have HM1 := hid hm1
          clear hm1
          obtain ⟨w3d, hw3d⟩ : ∃ x : Bool, x = decide ((d, u) ∈ lapK r c t d k) := ⟨_, rfl⟩
          have HMem := hid hw3d
          cases w3d
          · have HYY : Hid (lapK r c t d (k + 1) = lapK r c t d k ++ [(d, u)]) := by
              rw [Hid, HY.out]; unfold lapStep; rw [if_pos ⟨HM1.out, by simpa using hw3d.symm⟩]
            clear hw3d
            go_wp2_with (first
              | ((with_reducible refine gate (N := 24) rfl ?_); refine wp_roof 27 Try.underlying27 rfl Try.infoRoof rfl (.tmp 3) rfl w.heap.size rfl r hr HPw.out ?_)
              | (go_at_call 68; ((with_reducible refine (HT.out _).mono ?_); rintro e w3 ⟨rfl, hb3⟩); have b3 := hid hb3; clear hb3)
              | (go_at_call 69; ((with_reducible refine (c_containsP A cc _ (Nat.le_trans hlen (by decide)) d u _ ((HSl.out.below b3.out (Nat.le_refl _)).below ((Below.refl _ w3).alloc (Nat.le_refl _) _) (Nat.le_refl _))).mono ?_); rintro e w4 ⟨rfl, hb4⟩); rw [← HMem.out]; have b4 := hid hb4; have HP4 := hid (block_below hb4 (block_new1 w3 (.cells #[.int .i8 d, .int .i8 u] 42) rfl) (by simp)); have z0 := cell_block HP4.out (j := 0) rfl; have z1 := cell_block HP4.out (j := 1) rfl; have HO4 := hid (owns_below ((owns_below hO.out b3.out).alloc _) hb4); have HB4 := hid (((hb.out.trans (b3.out.mono hb.out.size)).alloc (Nat.le_trans hb.out.size b3.out.size) (.cells #[.int .i8 d, .int .i8 u] 42)).trans (hb4.mono (Nat.le_trans hb.out.size (Nat.le_trans b3.out.size (by simp))))); clear hb4)
              | ((with_reducible refine gate (N := 44) rfl ?_); refine wpList_append_own _ rfl (.tmp 41) (.tmp 43) 33 rfl w2.heap.size 42 i0 (.agg #[.int .i8 0, .int .i8 0]) 2 2 Try.underlying33 hi hz0 hz1 hz2 rfl (by decide) _ _ _ rfl (HO4.out.alloc _) ⟨w4.heap.size, 0, none⟩ 1 1 [.int .i8 d, .int .i8 u] rfl rfl (cell_two_new w4 _ _ _) (by simp [Value.oneCell']) (Nat.le_trans (Nat.add_le_add_right hlen 1) (by decide)) (by omega) (Nat.le_trans HB4.out.size (by simp)) ?_; intro v' w5 hown5 hgrow _))
            refine ⟨⟨k + 1, by omega, by go_num, (HB4.out.alloc HB4.out.size _).grown hgrow (by have := HB4.out.size; simp; omega) (fun k hk => (HO4.out.lt k hk).1), ?_⟩, by simp [intOf]; omega⟩
            show World.ownsRow _ _ _ _ _ _ _
            rw [HYY.out, List.length_append, pcells_snoc]; exact hown5
          · have HYY : Hid (lapK r c t d (k + 1) = lapK r c t d k) := by
              rw [Hid, HY.out]; unfold lapStep; rw [if_neg (fun h => h.2 (by simpa using hw3d.symm))]
            clear hw3d
            go_wp2_with (first
              | ((with_reducible refine gate (N := 24) rfl ?_); refine wp_roof 27 Try.underlying27 rfl Try.infoRoof rfl (.tmp 3) rfl w.heap.size rfl r hr HPw.out ?_)
              | (go_at_call 68; ((with_reducible refine (HT.out _).mono ?_); rintro e w3 ⟨rfl, hb3⟩); have b3 := hid hb3; clear hb3)
              | (go_at_call 69; ((with_reducible refine (c_containsP A cc _ (Nat.le_trans hlen (by decide)) d u _ ((HSl.out.below b3.out (Nat.le_refl _)).below ((Below.refl _ w3).alloc (Nat.le_refl _) _) (Nat.le_refl _))).mono ?_); rintro e w4 ⟨rfl, hb4⟩); rw [← HMem.out]; have b4 := hid hb4; have HO4 := hid (owns_below ((owns_below hO.out b3.out).alloc _) hb4); have HB4 := hid (((hb.out.trans (b3.out.mono hb.out.size)).alloc (Nat.le_trans hb.out.size b3.out.size) (.cells #[.int .i8 d, .int .i8 u] 42)).trans (hb4.mono (Nat.le_trans hb.out.size (Nat.le_trans b3.out.size (by simp))))); clear hb4))
            refine ⟨⟨k + 1, by omega, by go_num, HB4.out, ?_⟩, by simp [intOf]; omega⟩
            show World.ownsRow _ _ _ _ _ _ _
            rw [HYY.out]; exact HO4.out
      · obtain rfl : k = 2 := by omega
        go_wp2_with fail
        go_ret
        exact ⟨_, rfl, HW2.out.trans (hb.out.mono HW2.out.size), hO.out.mono HW2.out.size⟩
  · have hin' : inB d 0 (r.h - 1) = false := by simpa using hin
    have HI := hid hin'
    have hl : lapL r c t d = [] := by unfold lapL; rw [if_neg hin]
    rw [hl]
    have ed6 : IntKind.i64.wrap d = d := IntWalk.i64_in _ (by omega)
    clear hin hin' hl hc ht hd
    go_enter Try.func48, Try.ntmps48
    go_wp2_with (first
      | ((with_reducible refine gate (N := 12) rfl ?_); refine wp_roof 27 Try.underlying27 rfl Try.infoRoof rfl (.tmp 3) rfl w.heap.size rfl r hr HP.out ?_)
      | (go_at_call 66; ((with_reducible refine (c_isCourse r hr d _ _ HI.out).mono ?_); rintro e w1 ⟨rfl, hb1⟩); have b1 := hid hb1; clear hb1))
    go_ret
    exact ⟨_, rfl, HW.out.trans (b1.out.mono HW.out.size), World.ownsRow_nil _ _ _ _⟩
end Go.Proofs.Ytfijinbdpfeceaa
