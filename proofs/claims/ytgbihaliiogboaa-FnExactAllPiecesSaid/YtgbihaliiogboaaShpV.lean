/- Valid shapes: the program's and the reference's. -/
import Derived.Test.YtgbihaliiogboaaAllS
namespace Go.Proofs.Ytgbihaliiogboaa
open Go.RowKit
set_option linter.unusedSimpArgs false
set_option linter.unusedVariables false

def spOk (p : Int × Int) : Bool := decide (0 ≤ p.1) && (decide (p.1 < p.2) && decide (p.2 ≤ 200))
def shOk (s : Int) (l : List (Int × Int)) : Bool := decide (s ≤ 1) && (inB l.length 1 12 && l.all spOk)
/-- The numbers of spans are of their kinds. -/
def SpB (l : List (Int × Int)) : Prop := ∀ p ∈ l, (-32768 ≤ p.1 ∧ p.1 ≤ 32767) ∧ (-32768 ≤ p.2 ∧ p.2 ≤ 32767)
set_option maxRecDepth 100000 in
theorem c_ValidShapeClo (p : Int × Int) (w : World) : Calls Try.prog 60 #[.agg #[.int .i16 p.1, .int .i16 p.2]] w fun e w' => e = .returned (.bool (spOk p)) ∧ Below w.heap.size w w' := by
  obtain ⟨p1, p2⟩ := p
  have key : ∀ g : Bool, spOk (p1, p2) = g → Calls Try.prog 60 #[.agg #[.int .i16 p1, .int .i16 p2]] w fun e w' => e = .returned (.bool g) ∧ Below w.heap.size w w' := by
    intro g hg
    unfold spOk at hg
    dsimp only at hg
    by_cases h1 : 0 ≤ p1
    · have d1 : decide (0 ≤ p1) = true := decide_eq_true h1
      rw [d1, Bool.true_and] at hg
      by_cases h2 : p1 < p2
      · have d2 : decide (p1 < p2) = true := decide_eq_true h2
        rw [d2, Bool.true_and] at hg
        have HG := hid hg; clear hg
        go_enter Try.func60, Try.ntmps60
        go_wp2_with fail
        go_ret
        exact ⟨ret_bool HG.out, (Below.refl _ w).alloc (Nat.le_refl _) _⟩
      · have d2 : decide (p1 < p2) = false := decide_eq_false h2
        rw [d2, Bool.false_and] at hg
        subst hg
        go_enter Try.func60, Try.ntmps60
        go_wp2_with fail
        go_ret
        exact ⟨rfl, (Below.refl _ w).alloc (Nat.le_refl _) _⟩
    · have d1 : decide (0 ≤ p1) = false := decide_eq_false h1
      rw [d1, Bool.false_and] at hg
      subst hg
      go_enter Try.func60, Try.ntmps60
      go_wp2_with fail
      go_ret
      exact ⟨rfl, (Below.refl _ w).alloc (Nat.le_refl _) _⟩
  exact key _ rfl
set_option maxRecDepth 100000 in
theorem c_ValidShape (s : Int) (A : Option Addr) (c : Nat) (l : List (Int × Int)) (hlen : l.length ≤ 1048576) (w : World) (hA : PairsAt .i16 .i16 w A l) :
    Calls Try.prog 35 #[.agg #[.int .u8 s, .slice A l.length c]] w fun e w' => e = .returned (.bool (shOk s l)) ∧ Below w.heap.size w w' := by
  have B0 : Below w.heap.size w (w.alloc (.cells #[.int .u8 s, .slice A l.length c] 31)) := (Below.refl _ w).alloc (Nat.le_refl _) _
  have HC := hid (c_areAllS 60 #[] #[] (enters_of Try.func60 (by kernel_rfl) rfl) spOk A c l hlen _ (hA.below B0 (Nat.le_refl _)) (fun W p _ _ => c_ValidShapeClo p W))
  clear hA
  have key : ∀ g : Bool, shOk s l = g → Calls Try.prog 35 #[.agg #[.int .u8 s, .slice A l.length c]] w fun e w' => e = .returned (.bool g) ∧ Below w.heap.size w w' := by
    intro g hg
    unfold shOk at hg
    by_cases h1 : s ≤ 1
    · have d1 : decide (s ≤ 1) = true := decide_eq_true h1
      rw [d1, Bool.true_and] at hg
      cases h2 : inB l.length 1 12 with
      | true =>
        rw [h2, Bool.true_and] at hg
        have HG := hid hg; clear hg
        have H2 := hid h2; clear h2
        go_enter Try.func35, Try.ntmps35
        go_wp2_with (first
          | (go_at_call 58; (with_reducible refine (c_withinI _ _ _ _ _ H2.out).mono ?_); rintro e w1 ⟨rfl, rfl⟩)
          | (go_at_call 59; ((with_reducible refine HC.out.mono ?_); rintro e w1 ⟨rfl, hb1⟩)))
        go_ret
        exact ⟨ret_bool HG.out, B0.trans (hb1.mono (by simp))⟩
      | false =>
        rw [h2, Bool.false_and] at hg
        subst hg
        have H2 := hid h2; clear h2
        go_enter Try.func35, Try.ntmps35
        go_wp2_with (go_at_call 58; (with_reducible refine (c_withinI _ _ _ _ _ H2.out).mono ?_); rintro e w1 ⟨rfl, rfl⟩)
        go_ret
        exact ⟨rfl, B0⟩
    · have d1 : decide (s ≤ 1) = false := decide_eq_false h1
      rw [d1, Bool.false_and] at hg
      subst hg
      go_enter Try.func35, Try.ntmps35
      go_wp2_with fail
      go_ret
      exact ⟨rfl, B0⟩
  exact key _ rfl
set_option maxHeartbeats 800000 in
set_option maxRecDepth 100000 in
theorem c_l05Ok (s : Int) (A : Option Addr) (c : Nat) (l : List (Int × Int)) (hlen : l.length ≤ 1048576) (bs : Nat) (w : World) (hs : w.heap[bs]? = some (.cells #[.int .u8 s, .slice A l.length c] 31 (0, 0))) (hA : PairsAt .i16 .i16 w A l) :
    Calls Try.prog 31 #[.pointer (some ⟨bs, 0, none⟩)] w fun e w' => e = .returned (.bool (shOk s l)) ∧ Below w.heap.size w w' := by
  have HA := hid hA; clear hA
  have HS := hid hs; clear hs
  have LS := hid (block_lt HS.out)
  go_enter Try.func31, Try.ntmps31
  go_wp2_with fail
  go_loopw [3] (fun i wr => ∃ k : Nat, k ≤ l.length ∧ i = .int .i64 k ∧ Hid (Below w.heap.size w wr) ∧ Hid ((l.take k).all spOk = true)) (fun i _ => l.length - (intOf i).toNat)
  case atStart => exact ⟨0, by omega, rfl, Below.refl _ _, by simp [Hid]⟩
  case round =>
    obtain ⟨k, hk, rfl, hb, hno⟩ := hrel
    have HSw := hid (block_below hb.out HS.out LS.out)
    have m0 := cell_block HSw.out (j := 0) rfl
    have m1 := cell_block HSw.out (j := 1) rfl
    by_cases hkl : k < l.length
    · have hd : decide ((k : Int) < (l.length : Int)) = true := decide_eq_true (by omega)
      have hkI : (k : Int) < (l.length : Int) := by omega
      have hk0 : (0 : Int) ≤ (k : Int) := by omega
      have hp := List.getElem?_eq_getElem hkl
      obtain ⟨⟨p1, p2⟩, hpp⟩ : ∃ p, p = l[k] := ⟨_, rfl⟩
      rw [← hpp] at hp
      have HM : Hid ((p1, p2) ∈ l) := by rw [hpp]; exact List.getElem_mem hkl
      have HTk : Hid ((l.take (k + 1)).all spOk = spOk (p1, p2)) := by
        show _ = _
        rw [List.take_succ_eq_append_getElem hkl, List.all_append, hno.out, ← hpp]; simp
      obtain ⟨b, off, rfl, r1, r2, r3⟩ := HA.out k _ hp
      have c0 := (hb.out.cell (p := ⟨b, _, none⟩) r1).trans r2
      have c1 := (hb.out.cell (p := ⟨b, _, none⟩) r1).trans r3
      dsimp only at c0 c1
      have lb : b < wr.heap.size := Nat.lt_of_lt_of_le r1 hb.out.size
      clear hp hpp r2 r3
      have HX : Hid (spOk (p1, p2) = (decide (0 ≤ p1) && (decide (p1 < p2) && decide (p2 ≤ 200)))) := rfl
      by_cases h1 : 0 ≤ p1
      · have d1 : decide (p1 < 0) = false := decide_eq_false (by omega)
        by_cases h2 : p1 < p2
        · have d2 : decide (p1 ≥ p2) = false := decide_eq_false (by omega)
          by_cases h3 : p2 ≤ 200
          · have d3 : decide (p2 > 200) = false := decide_eq_false (by omega)
            go_wp2_with fail
            exact ⟨⟨k + 1, by omega, by go_num, hb.out.alloc hb.out.size _, HTk.out.trans (by rw [HX.out]; simp [h1, h2, h3])⟩, by simp [intOf]; omega⟩
          · have d3 : decide (p2 > 200) = true := decide_eq_true (by omega)
            go_wp2_with fail
            go_ret
            refine ⟨ret_bool ?_, hb.out.alloc hb.out.size _⟩
            have : l.all spOk = false := by
              rw [← Bool.not_eq_true, List.all_eq_true]; intro h
              have := h _ HM.out; rw [HX.out] at this; simp at this; omega
            simp [shOk, this]
        · have d2 : decide (p1 ≥ p2) = true := decide_eq_true (by omega)
          go_wp2_with fail
          go_ret
          refine ⟨ret_bool ?_, hb.out.alloc hb.out.size _⟩
          have : l.all spOk = false := by
            rw [← Bool.not_eq_true, List.all_eq_true]; intro h
            have := h _ HM.out; rw [HX.out] at this; simp at this; omega
          simp [shOk, this]
      · have d1 : decide (p1 < 0) = true := decide_eq_true (by omega)
        go_wp2_with fail
        go_ret
        refine ⟨ret_bool ?_, hb.out.alloc hb.out.size _⟩
        have : l.all spOk = false := by
          rw [← Bool.not_eq_true, List.all_eq_true]; intro h
          have := h _ HM.out; rw [HX.out] at this; simp at this; omega
        simp [shOk, this]
    · obtain rfl : k = l.length := by omega
      have hd : decide ((l.length : Int) < (l.length : Int)) = false := decide_eq_false (by omega)
      rw [List.take_length] at hno
      have HZ : Hid (shOk s l = (inB l.length 1 12 && decide (s ≤ 1))) := by show _ = _; unfold shOk; rw [hno.out, Bool.and_true, Bool.and_comm]
      cases h2 : inB l.length 1 12 with
      | true =>
        rw [h2, Bool.true_and] at HZ
        have H2 := hid h2; clear h2
        go_wp2_with (go_at_call 32; (with_reducible refine (c_l00In _ _ _ _ _ H2.out).mono ?_); rintro e w1 ⟨rfl, rfl⟩)
        go_ret
        exact ⟨ret_bool HZ.out.symm, hb.out⟩
      | false =>
        rw [h2, Bool.false_and] at HZ
        have H2 := hid h2; clear h2
        go_wp2_with (go_at_call 32; (with_reducible refine (c_l00In _ _ _ _ _ H2.out).mono ?_); rintro e w1 ⟨rfl, rfl⟩)
        go_ret
        exact ⟨ret_bool HZ.out.symm, hb.out⟩
end Go.Proofs.Ytgbihaliiogboaa
