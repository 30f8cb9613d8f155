/- The pieces of a course: the program's and the reference's. -/
import Derived.Test.YtgbihaliiogboaaWhole
import Derived.Test.YtgbihaliiogboaaToC
import Derived.Test.YtgbihaliiogboaaNum
namespace Go.Proofs.Ytgbihaliiogboaa
open Go.RowKit
set_option linter.unusedSimpArgs false
set_option linter.unusedVariables false

/-- A result of two: a slice of pieces and a code. -/
def RetC (w : World) (l : List (Int × Int)) (k : Int) (e : Ending) (w' : World) : Prop := ∃ v, e = .returned (.tuple #[v, .int .i64 k]) ∧ Below w.heap.size w w' ∧ w'.ownsRow w.heap.size 64 2 v l.length (ccells l)
def pcInC (s : Int) (l : List (Int × Int)) (n : Int) : Int := if shOk s l = true then (if inB n 0 ((l.length : Int) - 1) = true then 0 else 2) else 1
def pcInL (s : Int) (l : List (Int × Int)) (n : Int) : List (Int × Int) := if pcInC s l n = 0 then courseP s l n.toNat else []
theorem pcInL_len (s : Int) (l : List (Int × Int)) (n : Int) : (pcInL s l n).length ≤ 1048576 := by
  unfold pcInL
  split
  · rename_i h
    unfold pcInC at h
    split at h
    · rename_i h1
      split at h
      · rename_i h2
        rw [inB_iff] at h2
        have hi : n.toNat < l.length := by omega
        have h3 := (shOk_all h1).1 _ (List.getElem_mem hi)
        unfold courseP
        have e : l.getD n.toNat (0, 0) = l[n.toNat] := getD_of (List.getElem?_eq_getElem hi)
        rw [e]
        have := laidP_len l[n.toNat].1 l[n.toNat].2 (beginB s n.toNat) (laidN l[n.toNat].2 (beginB s n.toNat))
        have := laidN_le h3.2.2 (beginB_04 s n.toNat).1
        omega
      · cases h
    · cases h
  · simp
theorem pcIn_no {s : Int} {l : List (Int × Int)} {n k : Int} (h : pcInC s l n = k) (hk : k ≠ 0) : pcInL s l n = [] := by unfold pcInL; rw [if_neg (by rw [h]; exact hk)]
set_option maxRecDepth 100000 in
theorem c_PiecesIn (s : Int) (A : Option Addr) (c : Nat) (l : List (Int × Int)) (bs0 : 0 ≤ s ∧ s ≤ 255) (hlen : l.length ≤ 1048576) (n : Int) (w : World) (hA : PairsAt .i16 .i16 w A l) :
    Calls Try.prog 11 #[.agg #[.int .u8 s, .slice A l.length c], .int .i64 n] w (RetC w (pcInL s l n) (pcInC s l n)) := by
  have B0 : Below w.heap.size w (w.alloc (.cells #[.int .u8 s, .slice A l.length c] 31)) := (Below.refl _ w).alloc (Nat.le_refl _) _
  have HX := hid (block_new1 w (.cells #[.int .u8 s, .slice A l.length c] 31) rfl)
  have HV := hid (c_ValidShape s A c l hlen _ (hA.below B0 (Nat.le_refl _)))
  have hlI : (l.length : Int) ≤ 1048576 := by omega
  cases hg : shOk s l with
  | false =>
    have hk : pcInC s l n = 1 := by unfold pcInC; rw [hg]; rfl
    rw [pcIn_no hk (by decide), hk]
    rw [hg] at HV
    have hA := hid hA
    clear hg hk
    go_enter Try.func11, Try.ntmps11
    go_wp2_with (go_at_call 35; ((with_reducible refine HV.out.mono ?_); rintro e w1 ⟨rfl, hb1⟩))
    go_ret2
    exact ⟨_, rfl, B0.trans (hb1.mono (by simp)), World.ownsRow_nil _ _ _ _⟩
  | true =>
    rw [hg] at HV
    have HA := hid (hA.below B0 (Nat.le_refl _))
    cases hi : inB n 0 ((l.length : Int) - 1) with
    | false =>
      have hk : pcInC s l n = 2 := by unfold pcInC; rw [if_pos hg, hi]; rfl
      rw [pcIn_no hk (by decide), hk]
      have HI := hid hi
      clear hg hk hA hi
      go_enter Try.func11, Try.ntmps11
      go_wp2_with (first
        | (go_at_call 35; ((with_reducible refine HV.out.mono ?_); rintro e w1 ⟨rfl, hb1⟩); have HX := hid (block_below hb1 HX.out (by simp)); have HB1 := hid hb1; have k0 := cell_block HX.out (j := 0) rfl; have k1 := cell_block HX.out (j := 1) rfl; clear hb1)
        | (go_at_call 36; (with_reducible refine (c_within64 _ _ _ _ _ HI.out).mono ?_); rintro e w9 ⟨rfl, rfl⟩))
      go_ret2
      exact ⟨_, rfl, B0.trans (HB1.out.mono (by simp)), World.ownsRow_nil _ _ _ _⟩
    | true =>
      have hk : pcInC s l n = 0 := by unfold pcInC; rw [if_pos hg, if_pos hi]
      have hL : pcInL s l n = courseP s l n.toNat := by unfold pcInL; rw [if_pos hk]
      rw [hL, hk]
      have hn := inB_iff.1 hi
      obtain ⟨m, rfl⟩ := Int.eq_ofNat_of_zero_le hn.1
      rw [Int.toNat_natCast]
      have HU := fun w' h => hid (c_laidC s ⟨bs0.1, (shOk_all hg).2.2.2⟩ A c l (shOk_all hg).1 m (by omega) hlen w' h)
      have HI := hid hi
      clear hg hk hA hi hn hL
      go_enter Try.func11, Try.ntmps11
      go_wp2_with (first
        | (go_at_call 35; ((with_reducible refine HV.out.mono ?_); rintro e w1 ⟨rfl, hb1⟩); have HX := hid (block_below hb1 HX.out (by simp)); have HA := hid (HA.out.below hb1 (Nat.le_refl _)); have HB1 := hid (B0.trans (hb1.mono (by simp))); have k0 := cell_block HX.out (j := 0) rfl; have k1 := cell_block HX.out (j := 1) rfl; clear hb1)
        | (go_at_call 36; (with_reducible refine (c_within64 _ _ _ _ _ HI.out).mono ?_); rintro e w9 ⟨rfl, rfl⟩)
        | (go_at_call 37; ((with_reducible refine (HU _ HA.out).out.mono ?_); rintro e w2 ⟨v, rfl, hb2, ho2⟩)))
      go_ret2
      exact ⟨_, rfl, HB1.out.trans (hb2.mono HB1.out.size), ho2.mono HB1.out.size⟩
set_option maxRecDepth 100000 in
theorem c_sPiecesIn (s : Int) (A : Option Addr) (c : Nat) (l : List (Int × Int)) (bs0 : 0 ≤ s ∧ s ≤ 255) (hlen : l.length ≤ 1048576) (n : Int) (w : World) (hA : PairsAt .i16 .i16 w A l) :
    Calls Try.prog 9 #[.agg #[.int .u8 s, .slice A l.length c], .int .i64 n] w (RetC w (pcInL s l n) (pcInC s l n)) := by
  have B0 : Below w.heap.size w (w.alloc (.cells #[.int .u8 s, .slice A l.length c] 31)) := (Below.refl _ w).alloc (Nat.le_refl _) _
  have HX := hid (block_new1 w (.cells #[.int .u8 s, .slice A l.length c] 31) rfl)
  have HV := hid (c_l05Ok s A c l hlen w.heap.size _ HX.out (hA.below B0 (Nat.le_refl _)))
  have hlI : (l.length : Int) ≤ 1048576 := by omega
  cases hg : shOk s l with
  | false =>
    have hk : pcInC s l n = 1 := by unfold pcInC; rw [hg]; rfl
    rw [pcIn_no hk (by decide), hk]
    rw [hg] at HV
    have hA := hid hA
    clear hg hk
    go_enter Try.func9, Try.ntmps9
    go_wp2_with (go_at_call 31; ((with_reducible refine HV.out.mono ?_); rintro e w1 ⟨rfl, hb1⟩))
    go_ret2
    have b1 := B0.trans (hb1.mono (by simp))
    exact ⟨_, rfl, b1.alloc b1.size _, World.ownsRow_made w1 #[] 0 b1.size (by decide) rfl⟩
  | true =>
    rw [hg] at HV
    have HA := hid (hA.below B0 (Nat.le_refl _))
    cases hi : inB n 0 ((l.length : Int) - 1) with
    | false =>
      have hk : pcInC s l n = 2 := by unfold pcInC; rw [if_pos hg, hi]; rfl
      rw [pcIn_no hk (by decide), hk]
      have HI := hid hi
      clear hg hk hA hi
      go_enter Try.func9, Try.ntmps9
      go_wp2_with (first
        | (go_at_call 31; ((with_reducible refine HV.out.mono ?_); rintro e w1 ⟨rfl, hb1⟩); have HX := hid (block_below hb1 HX.out (by simp)); have HB1 := hid (B0.trans (hb1.mono (by simp))); have k0 := cell_block HX.out (j := 0) rfl; have k1 := cell_block HX.out (j := 1) rfl; clear hb1)
        | (go_at_call 32; (with_reducible refine (c_l00In _ _ _ _ _ HI.out).mono ?_); rintro e w9 ⟨rfl, rfl⟩))
      go_ret2
      exact ⟨_, rfl, HB1.out.alloc HB1.out.size _, World.ownsRow_made w1 #[] 0 HB1.out.size (by decide) rfl⟩
    | true =>
      have hk : pcInC s l n = 0 := by unfold pcInC; rw [if_pos hg, if_pos hi]
      have hL : pcInL s l n = courseP s l n.toNat := by unfold pcInL; rw [if_pos hk]
      rw [hL, hk]
      have hn := inB_iff.1 hi
      obtain ⟨m, rfl⟩ := Int.eq_ofNat_of_zero_le hn.1
      rw [Int.toNat_natCast]
      have HU := fun w' h1 h2 => hid (c_l05CourseC s ⟨bs0.1, (shOk_all hg).2.2.2⟩ A c l (shOk_all hg).1 m (by omega) hlen w.heap.size w' h1 h2)
      have HI := hid hi
      clear hg hk hA hi hn hL
      go_enter Try.func9, Try.ntmps9
      go_wp2_with (first
        | (go_at_call 31; ((with_reducible refine HV.out.mono ?_); rintro e w1 ⟨rfl, hb1⟩); have HX := hid (block_below hb1 HX.out (by simp)); have HA := hid (HA.out.below hb1 (Nat.le_refl _)); have HB1 := hid (B0.trans (hb1.mono (by simp))); have k0 := cell_block HX.out (j := 0) rfl; have k1 := cell_block HX.out (j := 1) rfl; clear hb1)
        | (go_at_call 32; (with_reducible refine (c_l00In _ _ _ _ _ HI.out).mono ?_); rintro e w9 ⟨rfl, rfl⟩)
        | (go_at_call 33; ((with_reducible refine (HU _ HX.out HA.out).out.mono ?_); rintro e w2 ⟨v, rfl, hb2, ho2⟩)))
      go_ret2
      exact ⟨_, rfl, HB1.out.trans (hb2.mono HB1.out.size), ho2.mono HB1.out.size⟩
end Go.Proofs.Ytgbihaliiogboaa
