/- Units of a shape: the program's and the reference's. -/
import Derived.Test.YtohdfnbjfhiacaaEachS
import Derived.Test.YtohdfnbjfhiacaaShpV
namespace Go.Proofs.Ytohdfnbjfhiacaa
open Go.RowKit
set_option linter.unusedSimpArgs false
set_option linter.unusedVariables false

theorem sli_own {w : World} {base : Nat} {v : Value} {l : List Int} (h : w.ownsRow base 2 1 v l.length (icells l)) : ∃ A c, v = .slice A l.length c ∧ SlI w A l := by
  obtain ⟨A, c, rfl⟩ := owns_slice' h
  refine ⟨A, c, rfl, fun j n hj => ?_⟩
  obtain ⟨b, c', e, _, _, h1, h2, _⟩ := (OwI.of_owns h).cells hj
  obtain ⟨rfl, _⟩ : A = some ⟨b, 0, none⟩ ∧ c = c' := by simpa using e
  exact ⟨b, 0, rfl, h1, by rw [Nat.zero_add]; exact h2⟩
theorem sum_le (l : List Int) (M : Int) (hM : 0 ≤ M) (h : ∀ n ∈ l, 0 ≤ n ∧ n ≤ M) : 0 ≤ l.sum ∧ l.sum ≤ M * l.length := by
  induction l with
  | nil => simp
  | cons a l ih =>
    have h1 := ih fun n hn => h n (List.mem_cons_of_mem _ hn)
    have h2 := h a List.mem_cons_self
    rw [List.sum_cons, List.length_cons, Int.natCast_succ, Int.mul_add, Int.mul_one]
    omega
theorem sum_take_succ (l : List Int) (k : Nat) (hk : k < l.length) : (l.take (k + 1)).sum = (l.take k).sum + l[k] := by
  rw [List.take_succ_eq_append_getElem hk, List.sum_append]; simp
set_option maxRecDepth 100000 in
theorem c_sumI (A : Option Addr) (c : Nat) (l : List Int) (hlen : l.length ≤ 1048576) (hB : ∀ n ∈ l, 0 ≤ n ∧ n ≤ 1000000) (w : World) (hA : SlI w A l) :
    Calls Try.prog 49 #[.slice A l.length c] w fun e w' => e = .returned (.int .i64 l.sum) ∧ w = w' := by
  have HA := hid hA; clear hA
  have HB := hid hB; clear hB
  go_enter Try.func49, Try.ntmps49
  go_wp2_with fail
  go_loop [3, 8] (fun q i => ∃ k : Nat, k ≤ l.length ∧ i = .int .i64 k ∧ q = .int .i64 (l.take k).sum) (fun _ i => l.length - (intOf i).toNat)
  case atStart => exact ⟨0, by omega, rfl, by simp⟩
  case round =>
    obtain ⟨k, hk, rfl, rfl⟩ := hrel
    by_cases hkl : k < l.length
    · have hd : decide ((k : Int) < (l.length : Int)) = true := decide_eq_true (by omega)
      have hkI : (k : Int) < (l.length : Int) := by omega
      have hk0 : (0 : Int) ≤ (k : Int) := by omega
      have hp := List.getElem?_eq_getElem hkl
      have h1 := sum_le (l.take k) 1000000 (by decide) fun n hn => HB.out n (List.mem_of_mem_take hn)
      have h2 := HB.out _ (List.getElem_mem hkl)
      have h3 := sum_take_succ l k hkl
      rw [List.length_take] at h1
      obtain ⟨n, hn⟩ : ∃ n, n = l[k] := ⟨_, rfl⟩
      obtain ⟨q, hq⟩ : ∃ q, q = (l.take k).sum := ⟨_, rfl⟩
      obtain ⟨q', hq'⟩ : ∃ q, q = (l.take (k + 1)).sum := ⟨_, rfl⟩
      rw [← hq, ← hn, ← hq'] at h3
      rw [← hn] at hp h2
      rw [← hq] at h1 ⊢
      have HQ := hid hq'
      obtain ⟨b, off, rfl, r1, c0⟩ := HA.out k _ hp
      have HS := hid h3
      have h4 : 0 ≤ q + n ∧ q + n ≤ 2000000000000 := by omega
      clear hp hn hq hq' h3 h1 h2
      go_wp2_with fail
      exact ⟨⟨k + 1, by omega, by go_num, congrArg (Value.int .i64) (by rw [← HQ.out, HS.out])⟩, by simp [intOf]; omega⟩
    · obtain rfl : k = l.length := by omega
      have hd : decide ((l.length : Int) < (l.length : Int)) = false := decide_eq_false (by omega)
      rw [List.take_length]
      go_wp2_with fail
      go_ret
      exact ⟨rfl, rfl⟩
def unitsL (l : List (Int × Int)) : Int := (l.map fun p => p.2 - p.1).sum
theorem spOk_iff (p : Int × Int) : spOk p = true ↔ 0 ≤ p.1 ∧ p.1 < p.2 ∧ p.2 ≤ 200 := by simp [spOk]
theorem shOk_all {s : Int} {l : List (Int × Int)} (h : shOk s l = true) : (∀ p ∈ l, 0 ≤ p.1 ∧ p.1 < p.2 ∧ p.2 ≤ 200) ∧ 1 ≤ l.length ∧ l.length ≤ 12 ∧ s ≤ 1 := by
  unfold shOk at h
  simp only [Bool.and_eq_true, decide_eq_true_eq] at h
  refine ⟨fun p hp => (spOk_iff p).1 (List.all_eq_true.1 h.2.2 p hp), ?_⟩
  have := inB_iff.1 h.2.1
  omega
set_option maxRecDepth 100000 in
theorem c_unitsClo (p : Int × Int) (hp : 0 ≤ p.1 ∧ p.1 < p.2 ∧ p.2 ≤ 200) (w : World) : Calls Try.prog 51 #[.agg #[.int .i16 p.1, .int .i16 p.2]] w fun e w' => e = .returned (.int .i64 (p.2 - p.1)) ∧ Below w.heap.size w w' := by
  obtain ⟨p1, p2⟩ := p
  dsimp only at hp ⊢
  have h1 : IntKind.i16.wrap (p2 - p1) = p2 - p1 := by simp [IntKind.wrap, IntKind.bits, IntKind.signed]; omega
  have h2 : IntKind.i64.wrap (p2 - p1) = p2 - p1 := by simp [IntKind.wrap, IntKind.bits, IntKind.signed]; omega
  go_enter Try.func51, Try.ntmps51
  go_wp2_with fail
  go_ret
  exact ⟨by simp [h1, h2], (Below.refl _ w).alloc (Nat.le_refl _) _⟩
set_option maxRecDepth 100000 in
theorem c_units (s : Int) (A : Option Addr) (c : Nat) (l : List (Int × Int)) (hB : ∀ p ∈ l, 0 ≤ p.1 ∧ p.1 < p.2 ∧ p.2 ≤ 200) (hlen : l.length ≤ 1048576) (w : World) (hA : PairsAt .i16 .i16 w A l) :
    Calls Try.prog 39 #[.agg #[.int .u8 s, .slice A l.length c]] w fun e w' => e = .returned (.int .i64 (unitsL l)) ∧ Below w.heap.size w w' := by
  have B0 : Below w.heap.size w (w.alloc (.cells #[.int .u8 s, .slice A l.length c] 29)) := (Below.refl _ w).alloc (Nat.le_refl _) _
  have HC := hid (c_eachSI 51 #[] #[] (enters_of Try.func51 (by kernel_rfl) rfl) (fun p => p.2 - p.1) A c l hlen _ (hA.below B0 (Nat.le_refl _)) (fun W p hp _ => c_unitsClo p (hB p hp) W))
  have HM : ∀ (A1 : Option Addr) (c1 : Nat) (w1 : World), SlI w1 A1 (l.map fun p => p.2 - p.1) → Hid (Calls Try.prog 49 #[.slice A1 l.length c1] w1 fun e w' => e = .returned (.int .i64 (unitsL l)) ∧ w1 = w') := fun A1 c1 w1 hs => by
    have h1 := c_sumI A1 c1 (l.map fun p => p.2 - p.1) (by rw [List.length_map]; exact hlen) (fun n hn => by obtain ⟨p, hp, rfl⟩ := List.mem_map.1 hn; have := hB p hp; omega) w1 hs
    rw [List.length_map] at h1
    exact h1
  clear hA hB
  go_enter Try.func39, Try.ntmps39
  go_wp2_with (first
    | (go_at_call 50; ((with_reducible refine HC.out.mono ?_); rintro e w1 ⟨v, rfl, hb1, ho1⟩); obtain ⟨A1, c1, rfl, hs1⟩ := sli_own ho1; have HS := hid hs1; have HB1 := hid hb1; clear ho1 hs1 hb1)
    | (go_at_call 49; ((with_reducible refine (HM _ _ _ HS.out).out.mono ?_); rintro e w2 ⟨rfl, rfl⟩)))
  go_ret
  exact ⟨rfl, B0.trans (HB1.out.mono (by simp))⟩
/-- A result of two numbers. -/
def Ret2 (w : World) (n k : Int) (e : Ending) (w' : World) : Prop := e = .returned (.tuple #[.int .i64 n, .int .i64 k]) ∧ Below w.heap.size w w'
def unitsN (s : Int) (l : List (Int × Int)) : Int := if shOk s l = true then unitsL l else 0
def unitsC (s : Int) (l : List (Int × Int)) : Int := if shOk s l = true then 0 else 1
set_option maxRecDepth 100000 in
theorem c_UnitsOf (s : Int) (A : Option Addr) (c : Nat) (l : List (Int × Int)) (hlen : l.length ≤ 1048576) (w : World) (hA : PairsAt .i16 .i16 w A l) :
    Calls Try.prog 20 #[.agg #[.int .u8 s, .slice A l.length c]] w (Ret2 w (unitsN s l) (unitsC s l)) := by
  have B0 : Below w.heap.size w (w.alloc (.cells #[.int .u8 s, .slice A l.length c] 29)) := (Below.refl _ w).alloc (Nat.le_refl _) _
  have HX := hid (block_new1 w (.cells #[.int .u8 s, .slice A l.length c] 29) rfl)
  have HV := hid (c_ValidShape s A c l hlen _ (hA.below B0 (Nat.le_refl _)))
  unfold unitsN unitsC
  cases hg : shOk s l with
  | false =>
    rw [hg] at HV
    have hA := hid hA
    clear hg
    go_enter Try.func20, Try.ntmps20
    go_wp2_with (go_at_call 12; ((with_reducible refine HV.out.mono ?_); rintro e w1 ⟨rfl, hb1⟩))
    go_ret2
    exact ⟨rfl, B0.trans (hb1.mono (by simp))⟩
  | true =>
    rw [hg] at HV
    have HU := fun w' h => hid (c_units s A c l (shOk_all hg).1 hlen w' h)
    have HA := hid (hA.below B0 (Nat.le_refl _))
    clear hg hA
    go_enter Try.func20, Try.ntmps20
    go_wp2_with (first
      | (go_at_call 12; ((with_reducible refine HV.out.mono ?_); rintro e w1 ⟨rfl, hb1⟩); have HX := hid (block_below hb1 HX.out (by simp)); have HA := hid (HA.out.below hb1 (Nat.le_refl _)); have HB1 := hid hb1; have k0 := cell_block HX.out (j := 0) rfl; have k1 := cell_block HX.out (j := 1) rfl; clear hb1)
      | (go_at_call 39; ((with_reducible refine (HU _ HA.out).out.mono ?_); rintro e w2 ⟨rfl, hb2⟩)))
    go_ret2
    have b1 := B0.trans (HB1.out.mono (by simp))
    exact ⟨rfl, b1.trans (hb2.mono b1.size)⟩
set_option maxHeartbeats 800000 in
set_option maxRecDepth 100000 in
theorem c_l05Units (s : Int) (A : Option Addr) (c : Nat) (l : List (Int × Int)) (hB : ∀ p ∈ l, 0 ≤ p.1 ∧ p.1 < p.2 ∧ p.2 ≤ 200) (hlen : l.length ≤ 1048576) (bs : Nat) (w : World) (hs : w.heap[bs]? = some (.cells #[.int .u8 s, .slice A l.length c] 29 (0, 0))) (hA : PairsAt .i16 .i16 w A l) :
    Calls Try.prog 38 #[.pointer (some ⟨bs, 0, none⟩)] w fun e w' => e = .returned (.int .i64 (unitsL l)) ∧ Below w.heap.size w w' := by
  have HA := hid hA; clear hA
  have HB := hid hB; clear hB
  have HS := hid hs; clear hs
  have LS := hid (block_lt HS.out)
  go_enter Try.func38, Try.ntmps38
  go_wp2_with fail
  go_loopw [3, 4] (fun q i wr => ∃ k : Nat, k ≤ l.length ∧ i = .int .i64 k ∧ q = .int .i64 (unitsL (l.take k)) ∧ Hid (Below w.heap.size w wr)) (fun _ i _ => l.length - (intOf i).toNat)
  case atStart => exact ⟨0, by omega, rfl, by simp [unitsL], Below.refl _ _⟩
  case round =>
    obtain ⟨k, hk, rfl, rfl, hb⟩ := hrel
    have HSw := hid (block_below hb.out HS.out LS.out)
    have m0 := cell_block HSw.out (j := 0) rfl
    have m1 := cell_block HSw.out (j := 1) rfl
    have lw := block_lt HSw.out
    by_cases hkl : k < l.length
    · have hd : decide ((k : Int) < (l.length : Int)) = true := decide_eq_true (by omega)
      have hkI : (k : Int) < (l.length : Int) := by omega
      have hk0 : (0 : Int) ≤ (k : Int) := by omega
      have hp := List.getElem?_eq_getElem hkl
      have h1 := sum_le ((l.take k).map fun p => p.2 - p.1) 1000000 (by decide) fun n hn => by
        obtain ⟨p, hp, rfl⟩ := List.mem_map.1 hn
        have := HB.out p (List.mem_of_mem_take hp)
        omega
      have h2 := HB.out _ (List.getElem_mem hkl)
      have h3 : unitsL (l.take (k + 1)) = unitsL (l.take k) + (l[k].2 - l[k].1) := by
        unfold unitsL
        rw [List.take_succ_eq_append_getElem hkl, List.map_append, List.sum_append]; simp
      rw [List.length_map, List.length_take] at h1
      obtain ⟨⟨p1, p2⟩, hn⟩ : ∃ n, n = l[k] := ⟨_, rfl⟩
      obtain ⟨q, hq⟩ : ∃ q, q = unitsL (l.take k) := ⟨_, rfl⟩
      obtain ⟨q', hq'⟩ : ∃ q, q = unitsL (l.take (k + 1)) := ⟨_, rfl⟩
      rw [← hq, ← hn, ← hq'] at h3
      rw [← hn] at hp h2
      have h1 : 0 ≤ q ∧ q ≤ 1000000 * ↑(min k l.length) := by rw [hq]; exact h1
      rw [← hq]
      dsimp only at h2 h3
      have HQ := hid hq'
      obtain ⟨b, off, rfl, r1, r2, r3⟩ := HA.out k _ hp
      have c0 := (hb.out.cell (p := ⟨b, _, none⟩) r1).trans r2
      have c1 := (hb.out.cell (p := ⟨b, _, none⟩) r1).trans r3
      dsimp only at c0 c1
      have lb : b < wr.heap.size := Nat.lt_of_lt_of_le r1 hb.out.size
      have HS3 := hid h3
      have h4 : 0 ≤ q + (p2 - p1) ∧ q + (p2 - p1) ≤ 2000000000000 := by omega
      have h5 : 0 ≤ p2 - p1 ∧ p2 - p1 ≤ 200 := by omega
      clear hp hn hq hq' h3 h1 r2 r3
      go_wp2_with fail
      refine wp_region_ext wr.heap.size (by kernel_rfl) (by kernel_rfl) ?_
      repeat (go_big_quiet_step (fail))
      refine wpQuiet_nil ?_
      intro x
      go_wp2_with fail
      exact ⟨⟨k + 1, by omega, by go_num, congrArg (Value.int .i64) (by rw [← HQ.out, HS3.out]), hb.out.trans (x.below.mono hb.out.size)⟩, by simp [intOf]; omega⟩
    · obtain rfl : k = l.length := by omega
      have hd : decide ((l.length : Int) < (l.length : Int)) = false := decide_eq_false (by omega)
      rw [List.take_length]
      go_wp2_with fail
      go_ret
      exact ⟨rfl, hb.out⟩
set_option maxRecDepth 100000 in
theorem c_sUnitsOf (s : Int) (A : Option Addr) (c : Nat) (l : List (Int × Int)) (hlen : l.length ≤ 1048576) (w : World) (hA : PairsAt .i16 .i16 w A l) :
    Calls Try.prog 19 #[.agg #[.int .u8 s, .slice A l.length c]] w (Ret2 w (unitsN s l) (unitsC s l)) := by
  have B0 : Below w.heap.size w (w.alloc (.cells #[.int .u8 s, .slice A l.length c] 29)) := (Below.refl _ w).alloc (Nat.le_refl _) _
  have HX := hid (block_new1 w (.cells #[.int .u8 s, .slice A l.length c] 29) rfl)
  have HV := hid (c_l05Ok s A c l hlen w.heap.size _ HX.out (hA.below B0 (Nat.le_refl _)))
  unfold unitsN unitsC
  cases hg : shOk s l with
  | false =>
    rw [hg] at HV
    have hA := hid hA
    clear hg
    go_enter Try.func19, Try.ntmps19
    go_wp2_with (go_at_call 28; ((with_reducible refine HV.out.mono ?_); rintro e w1 ⟨rfl, hb1⟩))
    go_ret2
    exact ⟨rfl, B0.trans (hb1.mono (by simp))⟩
  | true =>
    rw [hg] at HV
    have HU := fun w' h1 h2 => hid (c_l05Units s A c l (shOk_all hg).1 hlen w.heap.size w' h1 h2)
    have HA := hid (hA.below B0 (Nat.le_refl _))
    clear hg hA
    go_enter Try.func19, Try.ntmps19
    go_wp2_with (first
      | (go_at_call 28; ((with_reducible refine HV.out.mono ?_); rintro e w1 ⟨rfl, hb1⟩); have HX := hid (block_below hb1 HX.out (by simp)); have HA := hid (HA.out.below hb1 (Nat.le_refl _)); have HB1 := hid hb1; clear hb1)
      | (go_at_call 38; ((with_reducible refine (HU _ HX.out HA.out).out.mono ?_); rintro e w2 ⟨rfl, hb2⟩)))
    go_ret2
    have b1 := B0.trans (HB1.out.mono (by simp))
    exact ⟨rfl, b1.trans (hb2.mono b1.size)⟩
end Go.Proofs.Ytohdfnbjfhiacaa
