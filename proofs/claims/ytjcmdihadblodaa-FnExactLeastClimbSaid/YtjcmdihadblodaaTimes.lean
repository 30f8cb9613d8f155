/- The code of times and a shift: the program's and the reference's. -/
import Derived.Test.YtjcmdihadblodaaAllI
namespace Go.Proofs.Ytjcmdihadblodaa
open Go.RowKit
set_option linter.unusedSimpArgs false
set_option linter.unusedVariables false

def timesC (ts : List Int) (s : Int) : Int := if inB s 1 1000 && ts.all (fun t => inB t 0 1000) then (if 8 < ts.length then 3 else if ts.all (fun t => decide (t ≤ s)) then 0 else 6) else 2
set_option maxRecDepth 100000 in
theorem c_timesClo1 (t : Int) (w : World) : Calls Try.prog 48 #[.int .i64 t] w fun e w' => e = .returned (.bool (inB t 0 1000)) ∧ Below w.heap.size w w' := by
  go_enter Try.func48, Try.ntmps48
  go_wp2_with (go_at_call 46; (with_reducible refine (c_within64 _ _ _ _ _ rfl).mono ?_); rintro e w9 ⟨rfl, rfl⟩)
  go_ret
  exact ⟨rfl, Below.refl _ _⟩
set_option maxRecDepth 100000 in
theorem c_timesClo2 (t s : Int) (bx : Nat) (w : World) (hb : w.heap[bx]? = some (.cells #[.int .i64 s] 2 (0, 0))) : Calls Try.prog 49 #[.int .i64 t, .pointer (some ⟨bx, 0, none⟩)] w fun e w' => e = .returned (.bool (decide (t ≤ s))) ∧ Below w.heap.size w w' := by
  have k0 : w.cell? ⟨bx, 0, none⟩ = some (.int .i64 s) := cell_block hb rfl
  clear hb
  go_enter Try.func49, Try.ntmps49
  go_wp2_with fail
  go_ret
  exact ⟨rfl, Below.refl _ _⟩
set_option maxHeartbeats 1600000 in
set_option maxRecDepth 100000 in
theorem c_timesCode (A : Option Addr) (c : Nat) (ts : List Int) (hlen : ts.length ≤ 1048576) (s : Int) (w : World) (hA : SlI w A ts) :
    Calls Try.prog 24 #[.slice A ts.length c, .int .i64 s] w fun e w' => e = .returned (.int .i64 (timesC ts s)) ∧ Below w.heap.size w w' := by
  have B0 : Below w.heap.size w (w.alloc (.cells #[.int .i64 s] 2)) := (Below.refl _ w).alloc (Nat.le_refl _) _
  have HX := hid (block_new1 w (.cells #[.int .i64 s] 2) rfl)
  have HA := hid (hA.below B0 (Nat.le_refl _))
  have HE1 := fun w' h => hid (c_areAllI 48 #[] #[] (enters_of Try.func48 (by kernel_rfl) rfl) (fun t => inB t 0 1000) A c ts hlen w' h (fun W p _ _ => c_timesClo1 p W))
  have HE2 := fun w' h (hx : w'.heap[w.heap.size]? = some (.cells #[.int .i64 s] 2 (0, 0))) => hid (c_areAllI 49 #[] #[.pointer (some ⟨w.heap.size, 0, none⟩)] (enters_of Try.func49 (by kernel_rfl) rfl) (fun t => decide (t ≤ s)) A c ts hlen w' h (fun W p _ hb => c_timesClo2 p s _ W (block_below hb hx (block_lt hx))))
  have hlI : (ts.length : Int) ≤ 1048576 := by omega
  clear hA
  unfold timesC
  cases h1 : inB s 1 1000 with
  | false =>
    have H1 := hid h1; clear h1
    go_enter Try.func24, Try.ntmps24
    go_wp2_with (go_at_call 46; (with_reducible refine (c_within64 _ _ _ _ _ H1.out).mono ?_); rintro e w9 ⟨rfl, rfl⟩)
    go_ret
    exact ⟨rfl, B0⟩
  | true =>
    have H1 := hid h1; clear h1
    cases h2 : ts.all (fun t => inB t 0 1000) with
    | false =>
      rw [h2] at HE1; clear h2
      go_enter Try.func24, Try.ntmps24
      go_wp2_with (first
        | (go_at_call 46; (with_reducible refine (c_within64 _ _ _ _ _ H1.out).mono ?_); rintro e w9 ⟨rfl, rfl⟩)
        | (go_at_call 47; ((with_reducible refine (HE1 _ HA.out).out.mono ?_); rintro e w1 ⟨rfl, hb1⟩)))
      go_ret
      exact ⟨rfl, B0.trans (hb1.mono (by simp))⟩
    | true =>
      rw [h2] at HE1; clear h2
      by_cases h3 : 8 < ts.length
      · rw [if_pos (by rfl), if_pos h3]
        have d3 : decide ((ts.length : Int) > 8) = true := decide_eq_true (by omega)
        go_enter Try.func24, Try.ntmps24
        go_wp2_with (first
          | (go_at_call 46; (with_reducible refine (c_within64 _ _ _ _ _ H1.out).mono ?_); rintro e w9 ⟨rfl, rfl⟩)
          | (go_at_call 47; ((with_reducible refine (HE1 _ HA.out).out.mono ?_); rintro e w1 ⟨rfl, hb1⟩)))
        go_ret
        exact ⟨rfl, B0.trans (hb1.mono (by simp))⟩
      · rw [if_pos (by rfl), if_neg h3]
        have d3 : decide ((ts.length : Int) > 8) = false := decide_eq_false (by omega)
        cases h4 : ts.all (fun t => decide (t ≤ s)) with
        | false =>
          rw [h4] at HE2; clear h4
          have T0 : Hid True := trivial
          go_enter Try.func24, Try.ntmps24
          go_wp2_with (first
            | (go_at_call 46; (with_reducible refine (c_within64 _ _ _ _ _ H1.out).mono ?_); rintro e w9 ⟨rfl, rfl⟩)
            | (go_at_call 47; clear T0; ((with_reducible refine (HE1 _ HA.out).out.mono ?_); rintro e w1 ⟨rfl, hb1⟩); have HA := hid (HA.out.below hb1 (Nat.le_refl _)); have HX := hid (block_below hb1 HX.out (by simp)); have HB := hid (B0.trans (hb1.mono (by simp))))
            | (go_at_call 47; ((with_reducible refine (HE2 _ HA.out HX.out).out.mono ?_); rintro e w2 ⟨rfl, hb2⟩)))
          go_ret
          exact ⟨rfl, HB.out.trans (hb2.mono HB.out.size)⟩
        | true =>
          rw [h4] at HE2; clear h4
          have T0 : Hid True := trivial
          go_enter Try.func24, Try.ntmps24
          go_wp2_with (first
            | (go_at_call 46; (with_reducible refine (c_within64 _ _ _ _ _ H1.out).mono ?_); rintro e w9 ⟨rfl, rfl⟩)
            | (go_at_call 47; clear T0; ((with_reducible refine (HE1 _ HA.out).out.mono ?_); rintro e w1 ⟨rfl, hb1⟩); have HA := hid (HA.out.below hb1 (Nat.le_refl _)); have HX := hid (block_below hb1 HX.out (by simp)); have HB := hid (B0.trans (hb1.mono (by simp))))
            | (go_at_call 47; ((with_reducible refine (HE2 _ HA.out HX.out).out.mono ?_); rintro e w2 ⟨rfl, hb2⟩)))
          go_ret
          exact ⟨rfl, HB.out.trans (hb2.mono HB.out.size)⟩
/-- The greatest of 0 and some numbers. -/
def mostL (l : List Int) : Int := l.foldl (fun a t => if a > t then a else t) 0
theorem mostL_succ (l : List Int) (k : Nat) (hk : k < l.length) : mostL (l.take (k + 1)) = if mostL (l.take k) > l[k] then mostL (l.take k) else l[k] := by
  unfold mostL
  rw [List.take_succ_eq_append_getElem hk, List.foldl_append]; rfl
theorem most_le (l : List Int) (s : Int) : ∀ a : Int, decide (l.foldl (fun a t => if a > t then a else t) a ≤ s) = (decide (a ≤ s) && l.all fun t => decide (t ≤ s)) := by
  induction l with
  | nil => intro a; simp
  | cons t l ih =>
    intro a
    rw [List.foldl_cons, ih, List.all_cons]
    by_cases h : a > t
    · rw [if_pos h]
      by_cases h1 : a ≤ s
      · have h2 : t ≤ s := by omega
        simp [h1, h2]
      · simp [h1]
    · rw [if_neg h]
      by_cases h1 : t ≤ s
      · have h2 : a ≤ s := by omega
        simp [h1, h2]
      · simp [h1]
theorem mostL_le {l : List Int} {s : Int} (hs : 0 ≤ s) : decide (mostL l ≤ s) = l.all fun t => decide (t ≤ s) := by
  have := most_le l s 0
  unfold mostL
  rw [this, decide_eq_true hs, Bool.true_and]
set_option maxRecDepth 100000 in
theorem c_l04Each (t : Int) (w : World) : Calls Try.prog 44 #[.int .i64 t] w fun e w' => e = .returned (.bool (inB t 0 1000)) ∧ w = w' := by
  go_enter Try.func44, Try.ntmps44
  go_wp2_with (go_at_call 43; (with_reducible refine (c_l00In _ _ _ _ _ rfl).mono ?_); rintro e w9 ⟨rfl, rfl⟩)
  go_ret
  exact ⟨rfl, rfl⟩
theorem c_l00MaxT (a b : Int) (w : World) : Calls Try.prog 45 #[.int .i64 a, .int .i64 b] w fun e w' => e = .returned (.int .i64 (if a > b then a else b)) ∧ w = w' := by
  by_cases h : a > b
  · rw [if_pos h]
    go_enter Try.func45, Try.ntmps45
    go_wp2_with fail
    go_ret
    exact ⟨rfl, rfl⟩
  · rw [if_neg h]
    go_enter Try.func45, Try.ntmps45
    go_wp2_with fail
    go_ret
    exact ⟨rfl, rfl⟩
set_option maxHeartbeats 1600000 in
set_option maxRecDepth 100000 in
theorem c_l04Times (A : Option Addr) (c : Nat) (ts : List Int) (hlen : ts.length ≤ 1048576) (s : Int) (w : World) (hA : SlI w A ts) :
    Calls Try.prog 23 #[.slice A ts.length c, .int .i64 s] w fun e w' => e = .returned (.int .i64 (timesC ts s)) ∧ w = w' := by
  have HA := hid hA; clear hA
  have hlI : (ts.length : Int) ≤ 1048576 := by omega
  obtain ⟨g, hg⟩ : ∃ g, inB s 1 1000 = g := ⟨_, rfl⟩
  have HG := hid hg
  go_enter Try.func23, Try.ntmps23
  go_wp2_with (go_at_call 43; (with_reducible refine (c_l00In _ _ _ _ _ HG.out).mono ?_); rintro e w9 ⟨rfl, rfl⟩)
  go_loop [5, 6, 7] (fun f m i => ∃ k : Nat, k ≤ ts.length ∧ i = .int .i64 k ∧ f = .bool (g && (ts.take k).all (fun t => inB t 0 1000)) ∧ m = .int .i64 (mostL (ts.take k))) (fun _ _ i => ts.length - (intOf i).toNat)
  case atStart => exact ⟨0, by omega, rfl, by simp, rfl⟩
  case round =>
    obtain ⟨k, hk, rfl, rfl, rfl⟩ := hrel
    by_cases hkl : k < ts.length
    · have hd : decide ((k : Int) < (ts.length : Int)) = true := decide_eq_true (by omega)
      have hkI : (k : Int) < (ts.length : Int) := by omega
      have hk0 : (0 : Int) ≤ (k : Int) := by omega
      have hp := List.getElem?_eq_getElem hkl
      have hm := mostL_succ ts k hkl
      have hf : (ts.take (k + 1)).all (fun t => inB t 0 1000) = ((ts.take k).all (fun t => inB t 0 1000) && inB ts[k] 0 1000) := by
        rw [List.take_succ_eq_append_getElem hkl, List.all_append]; simp
      obtain ⟨t, ht⟩ : ∃ t, t = ts[k] := ⟨_, rfl⟩
      rw [← ht] at hp hm hf
      obtain ⟨b, off, rfl, r1, c0⟩ := HA.out k _ hp
      obtain ⟨f0, hf0⟩ : ∃ f, f = (g && (ts.take k).all (fun t => inB t 0 1000)) := ⟨_, rfl⟩
      obtain ⟨m0, hm0⟩ : ∃ m, m = mostL (ts.take k) := ⟨_, rfl⟩
      rw [← hm0] at hm ⊢
      have HF : Hid ((g && (ts.take (k + 1)).all (fun t => inB t 0 1000)) = (f0 && inB t 0 1000)) := by show _ = _; rw [hf, ← Bool.and_assoc, ← hf0]
      rw [← hf0]
      have HM := hid hm
      clear hp hm hf ht hf0 hm0
      cases f0 with
      | true =>
        go_wp2_with (first
          | (go_at_call 44; (with_reducible refine (c_l04Each _ _).mono ?_); rintro e w9 ⟨rfl, rfl⟩)
          | (go_at_call 45; (with_reducible refine (c_l00MaxT _ _ _).mono ?_); rintro e w8 ⟨rfl, rfl⟩))
        exact ⟨⟨k + 1, by omega, by go_num, congrArg Value.bool (by rw [HF.out, Bool.true_and]), congrArg (Value.int .i64) HM.out.symm⟩, by simp [intOf]; omega⟩
      | false =>
        go_wp2_with (first
          | (go_at_call 45; (with_reducible refine (c_l00MaxT _ _ _).mono ?_); rintro e w8 ⟨rfl, rfl⟩))
        exact ⟨⟨k + 1, by omega, by go_num, congrArg Value.bool (by rw [HF.out, Bool.false_and]), congrArg (Value.int .i64) HM.out.symm⟩, by simp [intOf]; omega⟩
    · obtain rfl : k = ts.length := by omega
      have hd : decide ((ts.length : Int) < (ts.length : Int)) = false := decide_eq_false (by omega)
      rw [List.take_length]
      have HZ : Hid (timesC ts s = if g && ts.all (fun t => inB t 0 1000) then (if 8 < ts.length then 3 else if ts.all (fun t => decide (t ≤ s)) then 0 else 6) else 2) := by show _ = _; unfold timesC; rw [HG.out]
      have HS : Hid (g = true → 0 ≤ s) := by intro h; have := inB_iff.1 (HG.out.trans h); omega
      cases hq : (g && ts.all (fun t => inB t 0 1000)) with
      | false =>
        rw [hq] at HZ
        clear hq
        go_wp2_with fail
        go_ret
        exact ⟨ret_int HZ.out.symm, rfl⟩
      | true =>
        rw [hq, if_pos rfl] at HZ
        have hs := HS.out (by simp at hq; exact hq.1)
        have hml := mostL_le (l := ts) hs
        clear hq
        by_cases h3 : 8 < ts.length
        · rw [if_pos h3] at HZ
          have d3 : decide ((ts.length : Int) > 8) = true := decide_eq_true (by omega)
          clear hml
          go_wp2_with fail
          go_ret
          exact ⟨ret_int HZ.out.symm, rfl⟩
        · rw [if_neg h3] at HZ
          have d3 : decide ((ts.length : Int) > 8) = false := decide_eq_false (by omega)
          rw [← hml] at HZ
          obtain ⟨m0, hm0⟩ : ∃ m, m = mostL ts := ⟨_, rfl⟩
          rw [← hm0] at HZ ⊢
          clear hml hm0
          by_cases h4 : m0 > s
          · have d4 : decide (m0 > s) = true := decide_eq_true h4
            rw [if_neg (by simp; omega)] at HZ
            go_wp2_with fail
            go_ret
            exact ⟨ret_int HZ.out.symm, rfl⟩
          · have d4 : decide (m0 > s) = false := decide_eq_false h4
            rw [if_pos (by simp; omega)] at HZ
            go_wp2_with fail
            go_ret
            exact ⟨ret_int HZ.out.symm, rfl⟩
end Go.Proofs.Ytjcmdihadblodaa
