/- toInt64S makes slices that are full. -/
import Derived.Test.YtjcmdihadblodaaToI
namespace Go.Proofs.Ytjcmdihadblodaa
open Go.RowKit
set_option linter.unusedSimpArgs false
set_option linter.unusedVariables false
set_option maxHeartbeats 800000 in
set_option maxRecDepth 100000 in
theorem c_toInt64SF (A : Option Addr) (c : Nat) (l : List Int) (hlen : l.length ≤ 1048576) (w : World) (hA : SlI w A l) :
    Calls Try.prog 8 #[.slice A l.length c] w fun e w' => ∃ (A' : Option Addr), e = .returned (.slice A' l.length l.length) ∧ Below w.heap.size w w' ∧ OwJ w.heap.size w'.heap.size w' (.slice A' l.length l.length) l := by
  obtain ⟨i0, hi, hz0, hz1, hz2⟩ := info_parts Try.infoI64
  have HA := hid hA; clear hA
  go_enter Try.func8, Try.ntmps8
  go_wp2_with ((with_reducible refine gate (N := 7) rfl ?_); refine wpList_make_full _ rfl (.tmp 6) (.tmp 6) 22 rfl w.heap.size 2 i0 (.int .i64 0) 1 Try.underlying22 hi hz0 hz1 .i64 .i64 (l.length : Int) (l.length : Int) l.length rfl rfl rfl rfl (by rw [hz2]; omega) (Nat.le_trans hlen (by decide)) (Nat.le_refl _) ?_; intro w1 hown hgrow)
  have HB1 : Hid (Below w.heap.size w w1) := (Below.refl _ w).grown hgrow (Nat.le_refl _) (fun k hk => by cases hk)
  have HO1 : Hid (OwI w.heap.size w1.heap.size w1 (.slice (some ⟨w.heap.size, 0, none⟩) l.length l.length) (padJ l 0)) := by
    rw [padJ_zero]
    have := made_ints l.length hown
    simpa [Hid] using this
  have hS1 : Hid (w.heap.size ≤ w1.heap.size) := HB1.out.size
  clear hown hgrow
  go_loopw [4] (fun i wr => ∃ k : Nat, k ≤ l.length ∧ i = .int .i64 k ∧ Hid (Below w.heap.size w wr) ∧ Hid (w1.heap.size ≤ wr.heap.size) ∧ Hid (OwI w.heap.size w1.heap.size wr (.slice (some ⟨w.heap.size, 0, none⟩) l.length l.length) (padJ l k))) (fun i _ => l.length - (intOf i).toNat)
  case atStart => exact ⟨0, by omega, rfl, HB1, Nat.le_refl _, HO1⟩
  case round =>
    obtain ⟨k, hk, rfl, hb, hS, hO⟩ := hrel
    by_cases hkl : k < l.length
    · have hd : decide ((k : Int) < (l.length : Int)) = true := decide_eq_true (by omega)
      have hkI : (k : Int) < (l.length : Int) := by omega
      have hk0 : (0 : Int) ≤ (k : Int) := by omega
      have hp := List.getElem?_eq_getElem hkl
      obtain ⟨p, hpp⟩ : ∃ p, p = l[k] := ⟨_, rfl⟩
      rw [← hpp] at hp
      have HST : Hid ((padJ l k).set k p = padJ l (k + 1)) := padJ_step l k hkl _ hpp
      have HL := hid (padJ_len l k hk)
      obtain ⟨b, off, rfl, r1, r2⟩ := HA.out k _ hp
      have c0 := (hb.out.cell (p := ⟨b, _, none⟩) r1).trans r2
      obtain ⟨⟨v0, m0⟩, m2, m4⟩ := owJ_free hO.out (k := k) (by rw [HL.out]; exact hkl)
      clear hp hpp r2
      go_wp2_with fail
      refine ⟨⟨k + 1, by omega, by go_num, Below.setCell hb.out (p := ⟨w.heap.size, k, none⟩) (Nat.le_refl _) _, ?_, ?_⟩, by simp [intOf]; omega⟩
      · have := hS.out; simpa [Hid] using this
      · have h1 := hO.out
        rw [← HL.out] at h1
        have h2 := OwI.put h1 (by rw [HL.out]; exact hkl) p
        rw [HST.out, HL.out] at h2
        exact h2
    · obtain rfl : k = l.length := by omega
      have hd : decide ((l.length : Int) < (l.length : Int)) = false := decide_eq_false (by omega)
      rw [padJ_all] at hO
      go_wp2_with fail
      go_ret
      exact ⟨_, rfl, hb.out, ⟨hO.out.hi (Nat.le_refl _) hS.out, hb.out.size, Nat.le_refl _⟩⟩
end Go.Proofs.Ytjcmdihadblodaa
