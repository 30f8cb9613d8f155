/- areAll and IndexFunc over numbers, at a function value. -/
import Derived.Test.YtjcmdihadblodaaSli
import Derived.Shelf.Abstract
namespace Go.Proofs.Ytjcmdihadblodaa
open Go.RowKit
set_option linter.unusedSimpArgs false
set_option linter.unusedVariables false

/-- A function value that tells of the numbers of a list, in all worlds above a world. -/
def TellsI (g : Nat) (fst cap : Array Value) (f : Int → Bool) (l : List Int) (w : World) : Prop :=
  ∀ (W : World) (p : Int), p ∈ l → Below w.heap.size w W → Calls Try.prog g (fst ++ #[.int .i64 p] ++ cap) W fun e w' => e = .returned (.bool (f p)) ∧ Below W.heap.size W w'
/-- The first number's index of which f says yes, or -1. -/
def idxI (f : Int → Bool) (l : List Int) : Int := if l.any f = true then (l.findIdx f : Int) else -1
theorem idxI_at {f : Int → Bool} {l : List Int} {k : Nat} (hk : k < l.length) (h : (l.take k).any f = false) (hf : f l[k] = true) : (k : Int) = idxI f l := by
  have h1 : l.any f = true := List.any_eq_true.2 ⟨_, List.getElem_mem hk, hf⟩
  unfold idxI
  rw [if_pos h1]
  have e : l = l.take k ++ l.drop k := (List.take_append_drop k l).symm
  have h2 : (l.take k).findIdx f = k := by
    have h3 : (l.take k).findIdx f = (l.take k).length := List.findIdx_eq_length.2 fun x hx => by
      have := List.any_eq_false.1 h x hx
      simpa using this
    rw [h3, List.length_take]; omega
  have h4 : (l.drop k).findIdx f = 0 := by
    rw [List.drop_eq_getElem_cons hk, List.findIdx_cons, hf]; rfl
  rw [e, List.findIdx_append, h2, h4, List.length_take, if_neg (by omega)]
  omega
set_option maxRecDepth 100000 in
theorem c_indexFI (g : Nat) (fst cap : Array Value) (eg : ∀ args w, (callFunc g args).run Try.prog w = .ok (.enter g args) w) (f : Int → Bool) (A : Option Addr) (cc : Nat) (l : List Int) (hlen : l.length ≤ 1048576) (w : World) (hA : SlI w A l) (hf : TellsI g fst cap f l w) :
    Calls Try.prog 25 #[.slice A l.length cc, .func (.func g) fst cap] w fun e w' => ∃ n : Int, e = .returned (.int .i64 n) ∧ Below w.heap.size w w' ∧ decide (n ≥ 0) = l.any f ∧ n = idxI f l := by
  have HA := hid hA; clear hA
  have HF := hid hf; clear hf
  go_enter Try.func25, Try.ntmps25
  go_wp2_with fail
  go_loopw [8] (fun i wr => ∃ k : Nat, k ≤ l.length ∧ i = .int .i64 k ∧ Hid (Below w.heap.size w wr) ∧ Hid ((l.take k).any f = false)) (fun i _ => l.length - (intOf i).toNat)
  case atStart => exact ⟨0, by omega, rfl, Below.refl _ _, by simp [Hid]⟩
  case round =>
    obtain ⟨k, hk, rfl, hb, hno⟩ := hrel
    by_cases hkl : k < l.length
    · have hd : decide ((k : Int) < (l.length : Int)) = true := decide_eq_true (by omega)
      have hkI : (k : Int) < (l.length : Int) := by omega
      have hk0 : (0 : Int) ≤ (k : Int) := by omega
      have hp := List.getElem?_eq_getElem hkl
      obtain ⟨p1, hpp⟩ : ∃ p, p = l[k] := ⟨_, rfl⟩
      rw [← hpp] at hp
      have HM : Hid (p1 ∈ l) := by rw [hpp]; exact List.getElem_mem hkl
      have HIX : Hid (f p1 = true → (k : Int) = idxI f l) := fun h => by rw [hpp] at h; exact idxI_at hkl hno.out h
      have HTk : Hid ((l.take (k + 1)).any f = f p1) := by
        show _ = _
        rw [List.take_succ_eq_append_getElem hkl, List.any_append, hno.out, ← hpp]; simp
      obtain ⟨b, off, rfl, r1, r2⟩ := HA.out k _ hp
      have c0 := (hb.out.cell (p := ⟨b, _, none⟩) r1).trans r2
      have HC := hid (HF.out wr p1 HM.out hb.out)
      clear hp hpp r2
      cases hq : f p1 with
      | true =>
        have HQ := hid hq; clear hq
        have hcall := HC.out
        rw [HQ.out] at hcall
        have HC' := hid hcall
        clear hcall HC
        go_wp2_with (go_at_fn g; refine HC'.out.mono ?_; rintro e w2 ⟨rfl, hb2⟩)
        go_ret
        refine ⟨_, rfl, hb.out.trans (hb2.mono hb.out.size), ?_, HIX.out HQ.out⟩
        have h1 : l.any f = true := List.any_eq_true.2 ⟨_, HM.out, HQ.out⟩
        rw [h1]; exact decide_eq_true (by omega)
      | false =>
        have HQ := hid hq; clear hq
        have hcall := HC.out
        rw [HQ.out] at hcall
        have HC' := hid hcall
        clear hcall HC
        go_wp2_with (go_at_fn g; refine HC'.out.mono ?_; rintro e w2 ⟨rfl, hb2⟩)
        exact ⟨⟨k + 1, by omega, by go_num, hb.out.trans (hb2.mono hb.out.size), HTk.out.trans HQ.out⟩, by simp [intOf]; omega⟩
    · obtain rfl : k = l.length := by omega
      have hd : decide ((l.length : Int) < (l.length : Int)) = false := decide_eq_false (by omega)
      rw [List.take_length] at hno
      go_wp2_with fail
      go_ret
      exact ⟨_, rfl, hb.out, by rw [hno.out]; rfl, by unfold idxI; rw [hno.out]; rfl⟩
set_option maxRecDepth 100000 in
theorem c_containsFI (g : Nat) (fst cap : Array Value) (eg : ∀ args w, (callFunc g args).run Try.prog w = .ok (.enter g args) w) (f : Int → Bool) (A : Option Addr) (cc : Nat) (l : List Int) (hlen : l.length ≤ 1048576) (w : World) (hA : SlI w A l) (hf : TellsI g fst cap f l w) :
    Calls Try.prog 66 #[.slice A l.length cc, .func (.func g) fst cap] w fun e w' => e = .returned (.bool (l.any f)) ∧ Below w.heap.size w w' := by
  have HC := hid (c_indexFI g fst cap eg f A cc l hlen w hA hf); clear hA hf
  go_enter Try.func66, Try.ntmps66
  go_wp2_with (go_at_call 25; refine HC.out.mono ?_; rintro e w1 ⟨n, rfl, hb1, hn, he⟩; have HN := hid hn; clear hn he)
  all_goals
    go_ret
    exact ⟨ret_bool HN.out, hb1⟩
set_option maxRecDepth 100000 in
theorem c_areAllCloI (g : Nat) (fst cap : Array Value) (eg : ∀ args w, (callFunc g args).run Try.prog w = .ok (.enter g args) w) (f : Int → Bool) (l : List Int) (p : Int) (hp : p ∈ l) (bx : Nat) (w : World) (hb : w.heap[bx]? = some (.cells #[.func (.func g) fst cap] 46 (0, 0))) (hf : TellsI g fst cap f l w) :
    Calls Try.prog 67 #[.int .i64 p, .pointer (some ⟨bx, 0, none⟩)] w fun e w' => e = .returned (.bool (!f p)) ∧ Below w.heap.size w w' := by
  have k0 : w.cell? ⟨bx, 0, none⟩ = some (.func (.func g) fst cap) := cell_block hb rfl
  have HC := hid (hf w p hp (Below.refl _ w))
  clear hb hf hp
  go_enter Try.func67, Try.ntmps67
  go_wp2_with (go_at_fn g; refine HC.out.mono ?_; rintro e w2 ⟨rfl, hb2⟩)
  go_ret
  exact ⟨rfl, hb2⟩
set_option maxRecDepth 100000 in
theorem c_areAllI (g : Nat) (fst cap : Array Value) (eg : ∀ args w, (callFunc g args).run Try.prog w = .ok (.enter g args) w) (f : Int → Bool) (A : Option Addr) (cc : Nat) (l : List Int) (hlen : l.length ≤ 1048576) (w : World) (hA : SlI w A l) (hf : TellsI g fst cap f l w) :
    Calls Try.prog 47 #[.slice A l.length cc, .func (.func g) fst cap] w fun e w' => e = .returned (.bool (l.all f)) ∧ Below w.heap.size w w' := by
  have B0 : Below w.heap.size w (w.alloc (.cells #[.func (.func g) fst cap] 46)) := (Below.refl _ w).alloc (Nat.le_refl _) _
  have HX := hid (block_new1 w (.cells #[.func (.func g) fst cap] 46) rfl)
  have HT : Hid (TellsI 67 #[] #[.pointer (some ⟨w.heap.size, 0, none⟩)] (fun p => !f p) l (w.alloc (.cells #[.func (.func g) fst cap] 46))) := by
    intro W p hp hb
    refine c_areAllCloI g fst cap eg f l p hp _ W (block_below hb HX.out (by simp)) ?_
    intro W2 q hq hb2
    exact hf W2 q hq (B0.trans (hb.trans (hb2.mono hb.size) |>.mono (by simp)))
  have HC := hid (c_containsFI 67 #[] _ (enters_of Try.func67 (by kernel_rfl) rfl) _ A cc l hlen _ (hA.below B0 (Nat.le_refl _)) HT.out)
  clear hA hf HT
  go_enter Try.func47, Try.ntmps47
  go_wp2_with (go_at_call 66; ((with_reducible refine HC.out.mono ?_); rintro e w1 ⟨rfl, hb1⟩))
  go_ret
  refine ⟨ret_bool ?_, B0.trans (hb1.mono (by simp))⟩
  rw [List.all_eq_not_any_not]
end Go.Proofs.Ytjcmdihadblodaa
