/- slices.Concat over pieces. -/
import Derived.Test.YtgbihaliiogboaaMany
import Derived.Test.YtgbihaliiogboaaToC
import Derived.Lib.AppendZeros
import Derived.Lib.Walk
namespace Go.Proofs.Ytgbihaliiogboaa
open Go.RowKit
set_option linter.unusedSimpArgs false
set_option linter.unusedVariables false

/-- Slices of pieces lie at A, one after another. -/
def RowsC (w : World) (A : Option Addr) (L : List (List (Int × Int))) : Prop := ∀ j l, L[j]? = some l → ∃ b off A' c', A = some ⟨b, off, none⟩ ∧ b < w.heap.size ∧ w.cell? ⟨b, off + j, none⟩ = some (.slice A' l.length c') ∧ PairsAt .i8 .i8 w A' l
theorem RowsC.below {B : Nat} {w w' : World} {A : Option Addr} {L : List (List (Int × Int))} (h : RowsC w A L) (hb : Below B w w') (hB : w.heap.size ≤ B) : RowsC w' A L := fun j l hj => by
  obtain ⟨b, off, A', c', e, h1, h2, h3⟩ := h j l hj
  exact ⟨b, off, A', c', e, Nat.lt_of_lt_of_le h1 hb.size, (hb.cell (p := ⟨b, _, none⟩) (by show b < B; omega)).trans h2, h3.below hb hB⟩
theorem flat_succ {α : Type} (L : List (List α)) (k : Nat) (hk : k < L.length) : (L.take (k + 1)).flatten = (L.take k).flatten ++ L[k] := by
  rw [List.take_succ_eq_append_getElem hk, List.flatten_append]; simp
theorem flat_le {α : Type} (L : List (List α)) (k : Nat) : (L.take k).flatten.length ≤ L.flatten.length := by
  conv => rhs; rw [← List.take_append_drop k L]
  rw [List.flatten_append, List.length_append]; omega
theorem ccells_app (l l' : List (Int × Int)) : ccells (l ++ l') = ccells l ++ ccells l' := by simp [ccells]
theorem ccells_one (l : List (Int × Int)) : ∀ u ∈ ccells l, u.oneCell' = true := by
  intro u hu
  obtain ⟨p, _, h⟩ := List.mem_flatMap.1 hu
  simp at h
  rcases h with rfl | rfl <;> rfl
theorem ccells_inv (l : List (Int × Int)) : ∀ (j : Nat) (u : Value), (ccells l)[j]? = some u → ∃ (i : Nat) (p : Int × Int), l[i]? = some p ∧ ((j = i * 2 ∧ u = .int .i8 p.1) ∨ (j = i * 2 + 1 ∧ u = .int .i8 p.2)) := by
  intro j u hj
  have hl := (List.getElem?_eq_some_iff.1 hj).1
  rw [ccells_len] at hl
  have hi : j / 2 < l.length := by omega
  have hg := ccells_get l (j / 2) _ (List.getElem?_eq_getElem hi)
  refine ⟨j / 2, l[j / 2], List.getElem?_eq_getElem hi, ?_⟩
  rcases Nat.mod_two_eq_zero_or_one j with h | h
  · left
    have e : j = j / 2 * 2 := by omega
    refine ⟨e, ?_⟩
    rw [e] at hj
    exact Option.some.inj (hj.symm.trans (by simpa using hg.1))
  · right
    have e : j = j / 2 * 2 + 1 := by omega
    refine ⟨e, ?_⟩
    have h2 := hg.2
    rw [← e] at h2
    exact Option.some.inj (hj.symm.trans h2)
theorem addr_add (b off j : Nat) : (⟨b, off, none⟩ : Addr).add j = ⟨b, off + j, none⟩ := by unfold Addr.add; split <;> simp_all
theorem src_of {w : World} {A : Option Addr} {l : List (Int × Int)} (h : PairsAt .i8 .i8 w A l) : ∀ j u, (ccells l)[j]? = some u → ∃ ad : Addr, A = some ad ∧ w.cell? (ad.add j) = some u := by
  intro j u hj
  obtain ⟨i, p, hp, h2⟩ := ccells_inv l j u hj
  obtain ⟨b, off, e, _, h3, h4⟩ := h i p hp
  refine ⟨_, e, ?_⟩
  rw [addr_add]
  rcases h2 with ⟨rfl, rfl⟩ | ⟨rfl, rfl⟩
  · exact h3
  · rw [← Nat.add_assoc]; exact h4
set_option maxHeartbeats 1600000 in
set_option maxRecDepth 100000 in
theorem c_growC (n : Nat) (hn : n ≤ 1000000) (w : World) :
    Calls Try.prog 80 #[.slice none 0 0, .int .i64 n] w fun e w' => ∃ v, e = .returned v ∧ Below w.heap.size w w' ∧ w'.ownsRow w.heap.size 64 2 v 0 [] := by
  by_cases h0 : n = 0
  · subst h0
    go_enter Try.func80, Try.ntmps80
    go_wp2_with fail
    go_ret
    exact ⟨_, rfl, Below.refl _ _, World.ownsRow_nil _ _ _ _⟩
  · obtain ⟨i0, hi, hz0, hz1, hz2⟩ := toPiece_parts
    have hrz : ∀ ty, (Builtin.append_ #[26, 3] ty #[.slice none 0 0, .int .i64 (n : Int)]).run Try.prog w =
        .ok (.slice (some ⟨w.heap.size, 0, none⟩) n (grownCap w n 0 64)) (w.drew.alloc (.cells (Builtin.zeroCells (Value.agg #[.int .i8 0, .int .i8 0]).cells n ++ Builtin.zeroCells (Value.agg #[.int .i8 0, .int .i8 0]).cells (grownCap w n 0 64 - n)) 64)) := fun ty =>
      Lib.run_append_nil_zeros w 26 3 ty 64 i0 _ .i64 .i64 Try.underlying26 Try.underlying3 hi hz0 n (by omega) (by rw [hz1]; decide) (by omega) (by rw [hz2]; omega)
    have h1 : ¬ ((n : Int) < 0) := by omega
    have h4 : (n : Int) > 0 := by omega
    go_enter Try.func80, Try.ntmps80
    go_wp2_with (at_builtin; refine Lib.wpList_append_run _ rfl _ _ _ _ rfl _ _ rfl rfl _ _ (hrz _) ?_)
    have hG : n ≤ grownCap w n 0 64 := grownCap_ge w _ _ _
    have hM : grownCap w n 0 64 ≤ maxLen := grownCap_le_maxLen w n 0 64 (by unfold maxLen; omega)
    go_ret
    refine ⟨_, rfl, ((Below.refl _ w).alloc (Nat.le_refl _) _).drew, by simp, .inr ⟨w.heap.size, _, _, rfl, Nat.le_refl _, block_new1 w _ rfl, Nat.zero_le _, hM, ?_, by simp⟩⟩
    rw [Array.size_append, size_zeroCells, size_zeroCells]
    simp only [List.size_toArray, List.length_cons, List.length_nil]
    omega
set_option maxHeartbeats 1600000 in
set_option maxRecDepth 100000 in
theorem c_concatC (A : Option Addr) (c : Nat) (L : List (List (Int × Int))) (hL : L.length ≤ 1000000) (hF : L.flatten.length ≤ 1000000) (w : World) (hA : RowsC w A L) :
    Calls Try.prog 62 #[.slice A L.length c] w fun e w' => ∃ v, e = .returned v ∧ Below w.heap.size w w' ∧ w'.ownsRow w.heap.size 64 2 v L.flatten.length (ccells L.flatten) := by
  obtain ⟨i0, hi, hz0, hz1, hz2⟩ := toPiece_parts
  have HA := hid hA
  have HF := hid hF
  clear hA hF
  go_enter Try.func62, Try.ntmps62
  go_wp2_with fail
  go_loop [3, 11] (fun s i => ∃ k : Nat, k ≤ L.length ∧ i = .int .i64 k ∧ s = .int .i64 ((L.take k).flatten.length : Int)) (fun _ i => L.length - (intOf i).toNat)
  case atStart => exact ⟨0, by omega, rfl, by simp⟩
  case round =>
    obtain ⟨k, hk, rfl, rfl⟩ := hrel
    have hle := flat_le L k
    have hf := HF.out
    by_cases hkl : k < L.length
    · have hd : decide ((k : Int) < (L.length : Int)) = true := decide_eq_true (by omega)
      have hkI : (k : Int) < (L.length : Int) := by omega
      have hk0 : (0 : Int) ≤ (k : Int) := by omega
      have hle2 := flat_le L (k + 1)
      have hfs : ((L.take (k + 1)).flatten.length : Int) = ((L.take k).flatten.length : Int) + (L[k].length : Int) := by rw [flat_succ L k hkl, List.length_append]; simp
      obtain ⟨b, off, A', c', rfl, r1, r2, _⟩ := HA.out k _ (List.getElem?_eq_getElem hkl)
      obtain ⟨q, hq⟩ : ∃ q, q = (L.take k).flatten.length := ⟨_, rfl⟩
      obtain ⟨m, hm⟩ : ∃ m, m = L[k].length := ⟨_, rfl⟩
      rw [← hm] at r2 hfs
      rw [← hq] at hle hfs ⊢
      have HFS := hid hfs
      have hqm : q + m ≤ 1000000 := by omega
      have hneg : ¬ ((q : Int) + (m : Int) < 0) := by omega
      clear hfs hq hm hle2 hle hf
      go_wp2_with fail
      exact ⟨⟨k + 1, by omega, by go_num, congrArg (Value.int .i64) (by rw [HFS.out])⟩, by simp [intOf]; omega⟩
    · obtain rfl : k = L.length := by omega
      have hd : decide ((L.length : Int) < (L.length : Int)) = false := decide_eq_false (by omega)
      rw [List.take_length]
      obtain ⟨N, hN⟩ : ∃ N, N = L.flatten.length := ⟨_, rfl⟩
      rw [← hN]
      have HN := hid hN
      have HG := hid (c_growC N (by omega) w)
      clear hN hle hf
      go_wp2_with (go_at_call 80; ((with_reducible refine HG.out.mono ?_); rintro e w1 ⟨v, rfl, hb1, ho1⟩))
      have HB1 := hid hb1
      have HO1 := hid ho1
      clear hb1 ho1
      go_loopw [6, 27] (fun v i wr => ∃ k : Nat, k ≤ L.length ∧ i = .int .i64 k ∧ Hid (Below w.heap.size w wr) ∧ Hid (wr.ownsRow w.heap.size 64 2 v (L.take k).flatten.length (ccells (L.take k).flatten))) (fun _ i _ => L.length - (intOf i).toNat)
      case atStart => exact ⟨0, by omega, rfl, HB1, HO1⟩
      case round =>
        obtain ⟨k, hk, rfl, hb, hO⟩ := hrel
        by_cases hkl : k < L.length
        · have hd : decide ((k : Int) < (L.length : Int)) = true := decide_eq_true (by omega)
          have hkI : (k : Int) < (L.length : Int) := by omega
          have hk0 : (0 : Int) ≤ (k : Int) := by omega
          have hle := flat_le L (k + 1)
          have hfs := flat_succ L k hkl
          have hfl : (L.take k).flatten.length + L[k].length ≤ 1000000 := by rw [hfs, List.length_append] at hle; have := HF.out; omega
          obtain ⟨b, off, A', c', e0, r1, r2, hPA⟩ := HA.out.below hb.out (Nat.le_refl _) k _ (List.getElem?_eq_getElem hkl)
          subst e0
          obtain ⟨x, hx⟩ : ∃ x, x = L[k] := ⟨_, rfl⟩
          rw [← hx] at r2 hfs hfl hPA
          have HFS := hid hfs
          have HFL : Hid ((L.take k).flatten.length + x.length ≤ 1000000) := hfl
          have HPA := hid hPA
          have HS2 := hid hb.out.size
          clear hfs hx hle hfl hPA
          go_wp2_with ((with_reducible refine gate (N := 33) rfl ?_); go_loud (refine wpList_append_many rfl (.tmp 31) (.tmp 32) 26 rfl w.heap.size 64 i0 (.agg #[.int .i8 0, .int .i8 0]) 2 2 Try.underlying26 hi hz0 hz1 hz2 rfl (by decide) (by decide) _ _ _ hO.out rfl A' x.length c' (ccells x) (ccells_len x) (fun j u hu => src_of HPA.out j u hu) (ccells_one x) rfl (Nat.le_trans HFL.out (by decide)) HS2.out ?_; intro v' w3 hown hg))
          refine ⟨⟨k + 1, by omega, by go_num, hb.out.trans (hg.below w.heap.size (fun g hg' => (hO.out.lt g hg').1) HS2.out), ?_⟩, by simp [intOf]; omega⟩
          show World.ownsRow _ _ _ _ _ _ _
          rw [HFS.out, List.length_append, ccells_app]
          exact hown
        · obtain rfl : k = L.length := by omega
          have hd : decide ((L.length : Int) < (L.length : Int)) = false := decide_eq_false (by omega)
          rw [List.take_length] at hO
          go_wp2_with fail
          go_ret
          exact ⟨_, rfl, hb.out, by rw [HN.out]; exact hO.out⟩
end Go.Proofs.Ytgbihaliiogboaa
