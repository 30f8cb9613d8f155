/- Texts of the claim FnExactOffcutsOf, part 2 of 5. -/
import Derived.Test.YtgbihaliiogboaaGExactOffcutsOf1
import Derived.Shelf.Abstract
import Derived.Laws.AppendOwn
import Derived.WalkSmall
import Derived.Maps.OwnOps
import Derived.Maps.Views
import Derived.Deep.AppendLies
import Derived.Deep.Onto
import Derived.Laws.OwnMore
/- areAll over pieces, at a function value. -/
namespace Go.Proofs.Ytgbihaliiogboaa
open Go.RowKit
set_option linter.unusedSimpArgs false
set_option linter.unusedVariables false

/-- A function value that tells of the pieces of a list, in all worlds above a world. -/
def TellsC (g : Nat) (fst cap : Array Value) (f : Int × Int → Bool) (l : List (Int × Int)) (w : World) : Prop :=
  ∀ (W : World) (p : Int × Int), p ∈ l → Below w.heap.size w W → Calls Try.prog g (fst ++ #[.agg #[.int .i8 p.1, .int .i8 p.2]] ++ cap) W fun e w' => e = .returned (.bool (f p)) ∧ Below W.heap.size W w'
/-- The first one's index of which f says yes, or -1. -/
def idxC (f : Int × Int → Bool) (l : List (Int × Int)) : Int := if l.any f = true then (l.findIdx f : Int) else -1
theorem idxC_at {f : Int × Int → Bool} {l : List (Int × Int)} {k : Nat} (hk : k < l.length) (h : (l.take k).any f = false) (hf : f l[k] = true) : (k : Int) = idxC f l := by
  have h1 : l.any f = true := List.any_eq_true.2 ⟨_, List.getElem_mem hk, hf⟩
  unfold idxC
  rw [if_pos h1]
  have e : l = l.take k ++ l.drop k := (List.take_append_drop k l).symm
  have h2 : (l.take k).findIdx f = k := by
    have h3 : (l.take k).findIdx f = (l.take k).length := List.findIdx_eq_length.2 fun x hx => by
      have := List.any_eq_false.1 h x hx
      simpa using this
    rw [h3, List.length_take]; omega
  have h4 : (l.drop k).findIdx f = 0 := by
    rw [List.drop_eq_getElem_cons hk, List.findIdx_cons, hf]; rfl
  rw [e, List.findIdx_append, h2, h4, List.length_take, if_neg (by omega)]
  omega
set_option maxRecDepth 100000 in
theorem c_indexFC (g : Nat) (fst cap : Array Value) (eg : ∀ args w, (callFunc g args).run Try.prog w = .ok (.enter g args) w) (f : Int × Int → Bool) (A : Option Addr) (cc : Nat) (l : List (Int × Int)) (hlen : l.length ≤ 1048576) (w : World) (hA : PairsAt .i8 .i8 w A l) (hf : TellsC g fst cap f l w) :
    Calls Try.prog 91 #[.slice A l.length cc, .func (.func g) fst cap] w fun e w' => ∃ n : Int, e = .returned (.int .i64 n) ∧ Below w.heap.size w w' ∧ decide (n ≥ 0) = l.any f ∧ n = idxC f l := by
  have HA := hid hA; clear hA
  have HF := hid hf; clear hf
  go_enter Try.func91, Try.ntmps91
  go_wp2_with fail
  go_loopw [8] (fun i wr => ∃ k : Nat, k ≤ l.length ∧ i = .int .i64 k ∧ Hid (Below w.heap.size w wr) ∧ Hid ((l.take k).any f = false)) (fun i _ => l.length - (intOf i).toNat)
  case atStart => exact ⟨0, by omega, rfl, Below.refl _ _, by simp [Hid]⟩
  case round =>
    obtain ⟨k, hk, rfl, hb, hno⟩ := hrel
    by_cases hkl : k < l.length
    · have hd : decide ((k : Int) < (l.length : Int)) = true := decide_eq_true (by omega)
      have hkI : (k : Int) < (l.length : Int) := by omega
      have hk0 : (0 : Int) ≤ (k : Int) := by omega
      have hp := List.getElem?_eq_getElem hkl
      obtain ⟨⟨p1, p2⟩, hpp⟩ : ∃ p, p = l[k] := ⟨_, rfl⟩
      rw [← hpp] at hp
      have HM : Hid ((p1, p2) ∈ l) := by rw [hpp]; exact List.getElem_mem hkl
      have HIX : Hid (f (p1, p2) = true → (k : Int) = idxC f l) := fun h => by rw [hpp] at h; exact idxC_at hkl hno.out h
      have HTk : Hid ((l.take (k + 1)).any f = f (p1, p2)) := by
        show _ = _
        rw [List.take_succ_eq_append_getElem hkl, List.any_append, hno.out, ← hpp]; simp
      obtain ⟨b, off, rfl, r1, r2, r3⟩ := HA.out k _ hp
      have c0 := (hb.out.cell (p := ⟨b, _, none⟩) r1).trans r2
      have c1 := (hb.out.cell (p := ⟨b, _, none⟩) r1).trans r3
      dsimp only at c0 c1
      have HC := hid (HF.out wr (p1, p2) HM.out hb.out)
      clear hp hpp r2 r3
      cases hq : f (p1, p2) with
      | true =>
        have HQ := hid hq; clear hq
        have hcall := HC.out
        rw [HQ.out] at hcall
        have HC' := hid hcall
        clear hcall HC
        go_wp2_with (go_at_fn g; refine HC'.out.mono ?_; rintro e w2 ⟨rfl, hb2⟩)
        go_ret
        refine ⟨_, rfl, hb.out.trans (hb2.mono hb.out.size), ?_, HIX.out HQ.out⟩
        have h1 : l.any f = true := List.any_eq_true.2 ⟨_, HM.out, HQ.out⟩
        rw [h1]; exact decide_eq_true (by omega)
      | false =>
        have HQ := hid hq; clear hq
        have hcall := HC.out
        rw [HQ.out] at hcall
        have HC' := hid hcall
        clear hcall HC
        go_wp2_with (go_at_fn g; refine HC'.out.mono ?_; rintro e w2 ⟨rfl, hb2⟩)
        exact ⟨⟨k + 1, by omega, by go_num, hb.out.trans (hb2.mono hb.out.size), HTk.out.trans HQ.out⟩, by simp [intOf]; omega⟩
    · obtain rfl : k = l.length := by omega
      have hd : decide ((l.length : Int) < (l.length : Int)) = false := decide_eq_false (by omega)
      rw [List.take_length] at hno
      go_wp2_with fail
      go_ret
      exact ⟨_, rfl, hb.out, by rw [hno.out]; rfl, by unfold idxC; rw [hno.out]; rfl⟩
set_option maxRecDepth 100000 in
theorem c_containsFC (g : Nat) (fst cap : Array Value) (eg : ∀ args w, (callFunc g args).run Try.prog w = .ok (.enter g args) w) (f : Int × Int → Bool) (A : Option Addr) (cc : Nat) (l : List (Int × Int)) (hlen : l.length ≤ 1048576) (w : World) (hA : PairsAt .i8 .i8 w A l) (hf : TellsC g fst cap f l w) :
    Calls Try.prog 83 #[.slice A l.length cc, .func (.func g) fst cap] w fun e w' => e = .returned (.bool (l.any f)) ∧ Below w.heap.size w w' := by
  have HC := hid (c_indexFC g fst cap eg f A cc l hlen w hA hf); clear hA hf
  go_enter Try.func83, Try.ntmps83
  go_wp2_with (go_at_call 91; refine HC.out.mono ?_; rintro e w1 ⟨n, rfl, hb1, hn, he⟩; have HN := hid hn; clear hn he)
  all_goals
    go_ret
    exact ⟨ret_bool HN.out, hb1⟩
set_option maxRecDepth 100000 in
theorem c_areAllCloC (g : Nat) (fst cap : Array Value) (eg : ∀ args w, (callFunc g args).run Try.prog w = .ok (.enter g args) w) (f : Int × Int → Bool) (l : List (Int × Int)) (p : Int × Int) (hp : p ∈ l) (bx : Nat) (w : World) (hb : w.heap[bx]? = some (.cells #[.func (.func g) fst cap] 99 (0, 0))) (hf : TellsC g fst cap f l w) :
    Calls Try.prog 84 #[.agg #[.int .i8 p.1, .int .i8 p.2], .pointer (some ⟨bx, 0, none⟩)] w fun e w' => e = .returned (.bool (!f p)) ∧ Below w.heap.size w w' := by
  obtain ⟨p1, p2⟩ := p
  have k0 : (w.alloc (.cells #[.int .i8 p1, .int .i8 p2] 64)).cell? ⟨bx, 0, none⟩ = some (.func (.func g) fst cap) := cell_block (block_alloc hb _) rfl
  have HC := hid (hf (w.alloc (.cells #[.int .i8 p1, .int .i8 p2] 64)) (p1, p2) hp ((Below.refl _ w).alloc (Nat.le_refl _) _))
  clear hb hf hp
  go_enter Try.func84, Try.ntmps84
  go_wp2_with (go_at_fn g; refine HC.out.mono ?_; rintro e w2 ⟨rfl, hb2⟩)
  go_ret
  exact ⟨rfl, ((Below.refl _ w).alloc (Nat.le_refl _) _).trans (hb2.mono (by simp))⟩
set_option maxRecDepth 100000 in
theorem c_areAllC (g : Nat) (fst cap : Array Value) (eg : ∀ args w, (callFunc g args).run Try.prog w = .ok (.enter g args) w) (f : Int × Int → Bool) (A : Option Addr) (cc : Nat) (l : List (Int × Int)) (hlen : l.length ≤ 1048576) (w : World) (hA : PairsAt .i8 .i8 w A l) (hf : TellsC g fst cap f l w) :
    Calls Try.prog 69 #[.slice A l.length cc, .func (.func g) fst cap] w fun e w' => e = .returned (.bool (l.all f)) ∧ Below w.heap.size w w' := by
  have B0 : Below w.heap.size w (w.alloc (.cells #[.func (.func g) fst cap] 99)) := (Below.refl _ w).alloc (Nat.le_refl _) _
  have HX := hid (block_new1 w (.cells #[.func (.func g) fst cap] 99) rfl)
  have HT : Hid (TellsC 84 #[] #[.pointer (some ⟨w.heap.size, 0, none⟩)] (fun p => !f p) l (w.alloc (.cells #[.func (.func g) fst cap] 99))) := by
    intro W p hp hb
    refine c_areAllCloC g fst cap eg f l p hp _ W (block_below hb HX.out (by simp)) ?_
    intro W2 q hq hb2
    exact hf W2 q hq (B0.trans (hb.trans (hb2.mono hb.size) |>.mono (by simp)))
  have HC := hid (c_containsFC 84 #[] _ (enters_of Try.func84 (by kernel_rfl) rfl) _ A cc l hlen _ (hA.below B0 (Nat.le_refl _)) HT.out)
  clear hA hf HT
  go_enter Try.func69, Try.ntmps69
  go_wp2_with (go_at_call 83; ((with_reducible refine HC.out.mono ?_); rintro e w1 ⟨rfl, hb1⟩))
  go_ret
  refine ⟨ret_bool ?_, B0.trans (hb1.mono (by simp))⟩
  rw [List.all_eq_not_any_not]
end Go.Proofs.Ytgbihaliiogboaa

/- The code of lists of pieces: the program's and the reference's. -/
namespace Go.Proofs.Ytgbihaliiogboaa
open Go.RowKit
set_option linter.unusedSimpArgs false
set_option linter.unusedVariables false
def isPc (p : Int × Int) : Bool := inB p.1 0 2 && inB p.2 1 7
set_option maxRecDepth 100000 in
theorem c_isPiece (p1 p2 : Int) (w : World) : Calls Try.prog 70 #[.agg #[.int .i8 p1, .int .i8 p2]] w fun e w' => e = .returned (.bool (isPc (p1, p2))) ∧ Below w.heap.size w w' := by
  have HF : Hid (isPc (p1, p2) = (inB p1 0 2 && inB p2 1 7)) := rfl
  obtain ⟨g1, hg1⟩ : ∃ g, inB p1 0 2 = g := ⟨_, rfl⟩
  obtain ⟨g2, hg2⟩ : ∃ g, inB p2 1 7 = g := ⟨_, rfl⟩
  have H1 := hid hg1
  have H2 := hid hg2
  rw [hg1, hg2] at HF
  clear hg1 hg2
  cases g1 <;> cases g2 <;>
  · go_enter Try.func70, Try.ntmps70
    have t1 : True := trivial
    go_wp2_with (first
      | (go_at_call 85; ((with_reducible refine (c_within8 p1 0 2 _ _ H1.out).mono ?_); rintro e1 w1 ⟨rfl, rfl⟩))
      | (go_at_call 85; ((with_reducible refine (c_within8 p2 1 7 _ _ H2.out).mono ?_); rintro e1 w1 ⟨rfl, rfl⟩)))
    go_ret
    exact ⟨ret_bool HF.out.symm, (Below.refl _ w).alloc (Nat.le_refl _) _⟩
set_option maxRecDepth 100000 in
theorem c_piecesC1 (A : Option Addr) (c : Nat) (l : List (Int × Int)) (hlen : l.length ≤ 1048576) (w : World) (hA : PairsAt .i8 .i8 w A l) :
    Calls Try.prog 68 #[.slice A l.length c] w fun e w' => e = .returned (.bool (l.all isPc)) ∧ Below w.heap.size w w' := by
  have HC := hid (c_areAllC 70 #[] #[] (enters_of Try.func70 (by kernel_rfl) rfl) isPc A c l hlen w hA (fun W p hp _ => c_isPiece p.1 p.2 W))
  clear hA
  go_enter Try.func68, Try.ntmps68
  go_wp2_with (go_at_call 69; ((with_reducible refine HC.out.mono ?_); rintro e1 w1 ⟨rfl, hb1⟩))
  go_ret
  exact ⟨rfl, hb1⟩
set_option maxRecDepth 100000 in
theorem c_piecesC2 (A : Option Addr) (c n : Nat) (hlen : n ≤ 1048576) (w : World) :
    Calls Try.prog 71 #[.slice A n c] w fun e w' => e = .returned (.bool (decide (n ≤ 30))) ∧ Below w.heap.size w w' := by
  by_cases h : n ≤ 30
  · have d1 : decide ((n : Int) ≤ 30) = true := decide_eq_true (by omega)
    have HD : Hid (decide (n ≤ 30) = true) := decide_eq_true h
    clear h
    go_enter Try.func71, Try.ntmps71
    go_wp2_with fail
    go_ret
    exact ⟨ret_bool HD.out.symm, Below.refl _ _⟩
  · have d1 : decide ((n : Int) ≤ 30) = false := decide_eq_false (by omega)
    have HD : Hid (decide (n ≤ 30) = false) := decide_eq_false h
    clear h
    go_enter Try.func71, Try.ntmps71
    go_wp2_with fail
    go_ret
    exact ⟨ret_bool HD.out.symm, Below.refl _ _⟩
/-- The code of lists. -/
def pcK (ls : List (List (Int × Int))) : Int := if (ls.all fun l => l.all isPc) = true then (if (ls.all fun l => decide (l.length ≤ 30)) = true then 0 else 3) else 1
/-- Slices that hold the lists. -/
def HoldsC (w : World) (vs : List Value) (ls : List (List (Int × Int))) : Prop := vs.length = ls.length ∧ ∀ (j : Nat) (v : Value) (l : List (Int × Int)), vs[j]? = some v → ls[j]? = some l → ∃ (A : Option Addr) (c : Nat), v = .slice A l.length c ∧ PairsAt .i8 .i8 w A l ∧ l.length ≤ 1048576
theorem holdsC_zip {w : World} {vs : List Value} {ls : List (List (Int × Int))} (h : HoldsC w vs ls) (g : List (Int × Int) → Bool) : ∀ p ∈ (vs.zip (ls.map g)), ∃ (l : List (Int × Int)) (A : Option Addr) (c : Nat), p = (Value.slice A l.length c, g l) ∧ PairsAt .i8 .i8 w A l ∧ l.length ≤ 1048576 := by
  intro p hp
  obtain ⟨j, hj, rfl⟩ := List.mem_iff_getElem.1 hp
  rw [List.length_zip, List.length_map] at hj
  have h1 : j < vs.length := by omega
  have h2 : j < ls.length := by omega
  obtain ⟨A, c, e, h3, h4⟩ := h.2 j _ _ (List.getElem?_eq_getElem h1) (List.getElem?_eq_getElem h2)
  exact ⟨ls[j], A, c, by rw [List.getElem_zip, List.getElem_map, e], h3, h4⟩
theorem all_zip (vs : List Value) (ls : List (List (Int × Int))) (hl : vs.length = ls.length) (g : List (Int × Int) → Bool) : (vs.zip (ls.map g)).all (·.2) = ls.all g := by
  induction vs generalizing ls with
  | nil => cases ls with
    | nil => rfl
    | cons a ls => simp at hl
  | cons v vs ih => cases ls with
    | nil => simp at hl
    | cons a ls => simp only [List.map_cons, List.zip_cons_cons, List.all_cons, ih ls (by simpa using hl)]
set_option maxRecDepth 100000 in
theorem c_piecesCode (A : Option Addr) (c : Nat) (vs : List Value) (ls : List (List (Int × Int))) (hl : vs.length ≤ 10) (w : World) (hA : ∀ j v, vs[j]? = some v → ∃ b off, A = some ⟨b, off, none⟩ ∧ b < w.heap.size ∧ w.cell? ⟨b, off + j, none⟩ = some v) (hv : HoldsC w vs ls) :
    Calls Try.prog 46 #[.slice A vs.length c] w fun e w' => e = .returned (.int .i64 (pcK ls)) ∧ Below w.heap.size w w' := by
  have key : ∀ (g : List (Int × Int) → Bool) (fn : Nat) (eg : ∀ args w, (callFunc fn args).run Try.prog w = .ok (.enter fn args) w) (hg : ∀ (W : World) A c (l : List (Int × Int)), l.length ≤ 1048576 → PairsAt .i8 .i8 W A l → Calls Try.prog fn #[.slice A l.length c] W fun e w' => e = .returned (.bool (g l)) ∧ Below W.heap.size W w') (W : World), Below w.heap.size w W →
      Calls Try.prog 67 #[.slice A vs.length c, .func (.func fn) #[] #[]] W fun e w' => e = .returned (.bool (ls.all g)) ∧ Below W.heap.size W w' := by
    intro g fn eg hg W hW
    have hz : (vs.zip (ls.map g)).length = vs.length := by rw [List.length_zip, List.length_map, hv.1, Nat.min_self]
    have := c_areAllV fn #[] #[] eg (·.2) A c (vs.zip (ls.map g)) (by omega) W (fun j p hj => by
      have hj1 : vs[j]? = some p.1 := by
        obtain ⟨h1, h2⟩ := List.getElem?_eq_some_iff.1 hj
        rw [hz] at h1
        rw [List.getElem?_eq_getElem h1]
        rw [List.getElem_zip] at h2
        rw [← h2]
      obtain ⟨b, off, e, h1, h2⟩ := hA j _ hj1
      exact ⟨b, off, e, Nat.lt_of_lt_of_le h1 hW.size, (hW.cell (p := ⟨b, _, none⟩) h1).trans h2⟩) (fun W2 p hp hb => by
      obtain ⟨l, A', c', rfl, h1, h2⟩ := holdsC_zip hv g p hp
      exact hg W2 A' c' l h2 ((h1.below hW (Nat.le_refl _)).below hb (Nat.le_refl _)))
    rw [hz, all_zip vs ls hv.1 g] at this
    exact this
  have H1 := fun W h => hid (key (fun l => l.all isPc) 68 (enters_of Try.func68 (by kernel_rfl) rfl) (fun W A c l h1 h2 => c_piecesC1 A c l h1 W h2) W h)
  have H2 := fun W h => hid (key (fun l => decide (l.length ≤ 30)) 71 (enters_of Try.func71 (by kernel_rfl) rfl) (fun W A c l h1 h2 => c_piecesC2 A c l.length h1 W) W h)
  have HK : Hid (pcK ls = if (ls.all fun l => l.all isPc) = true then (if (ls.all fun l => decide (l.length ≤ 30)) = true then 0 else 3) else 1) := rfl
  obtain ⟨g1, hg1⟩ : ∃ g, g = (ls.all fun l => l.all isPc) := ⟨_, rfl⟩
  obtain ⟨g2, hg2⟩ : ∃ g, g = (ls.all fun l => decide (l.length ≤ 30)) := ⟨_, rfl⟩
  rw [← hg1] at H1 HK
  rw [← hg2] at H2 HK
  obtain ⟨n, hn⟩ : ∃ n, n = vs.length := ⟨_, rfl⟩
  rw [← hn] at H1 H2 ⊢
  have HB0 := hid (Below.refl w.heap.size w)
  clear hg1 hg2 key hv hA hn hl
  cases g1 <;> cases g2 <;>
  · go_enter Try.func46, Try.ntmps46
    go_wp2_with (first
      | (go_at_call 67; ((with_reducible refine (H1 _ HB0.out).out.mono ?_); rintro e1 w1 ⟨rfl, hb1⟩); have HB1 := hid hb1; clear hb1)
      | (go_at_call 67; ((with_reducible refine (H2 _ HB1.out).out.mono ?_); rintro e2 w2 ⟨rfl, hb2⟩); have HB2 := hid (HB1.out.trans (hb2.mono HB1.out.size)); clear hb2))
    go_ret
    first | exact ⟨by rw [HK.out]; rfl, HB2.out⟩ | exact ⟨by rw [HK.out]; rfl, HB1.out⟩
end Go.Proofs.Ytgbihaliiogboaa

/- A stable sort by insertion and merging in place, plain: rows of numbers as functions. -/
namespace Go.Proofs.Ytgbihaliiogboaa
set_option linter.unusedSimpArgs false
set_option linter.unusedVariables false

/-- Two exchanged. -/
def sw2 (i j : Nat) (f : Nat → Int) : Nat → Int := fun y => if y = j then f i else if y = i then f j else f y
/-- n from a on exchanged with n from b on. -/
def swpF (a b n : Nat) (f : Nat → Int) : Nat → Int := fun k => if a ≤ k ∧ k < a + n then f (k - a + b) else if b ≤ k ∧ k < b + n then f (k - b + a) else f k
/-- What lies from m on, up to b, set ahead of what lies from a on. -/
def rotF (a m b : Nat) (f : Nat → Int) : Nat → Int := fun k => if a ≤ k ∧ k < a + (b - m) then f (k - a + m) else if a + (b - m) ≤ k ∧ k < b then f (k - (b - m)) else f k
theorem swpF_zero (a b : Nat) (f : Nat → Int) : swpF a b 0 f = f := by
  funext k
  unfold swpF
  rw [if_neg (by omega), if_neg (by omega)]
theorem swpF_succ {a b i : Nat} (h : a + i < b) (f : Nat → Int) : sw2 (a + i) (b + i) (swpF a b i f) = swpF a b (i + 1) f := by
  funext k
  unfold sw2 swpF
  by_cases h1 : k = b + i
  · rw [if_pos h1, if_neg (by omega), if_neg (by omega), if_neg (by omega), if_pos (by omega)]; congr 1; omega
  · rw [if_neg h1]
    by_cases h2 : k = a + i
    · rw [if_pos h2, if_neg (by omega), if_neg (by omega), if_pos (by omega)]; congr 1; omega
    · rw [if_neg h2]
      by_cases h3 : a ≤ k ∧ k < a + i
      · rw [if_pos h3, if_pos (by omega)]
      · rw [if_neg h3, if_neg (show ¬ (a ≤ k ∧ k < a + (i + 1)) by omega)]
        by_cases h4 : b ≤ k ∧ k < b + i
        · rw [if_pos h4, if_pos (by omega)]
        · rw [if_neg h4, if_neg (by omega)]
theorem rotF_self (a b : Nat) (f : Nat → Int) (h : a ≤ b) : rotF a b b f = f := by
  funext k
  unfold rotF
  rw [if_neg (by omega)]
  by_cases h1 : a + (b - b) ≤ k ∧ k < b
  · rw [if_pos h1]; congr 1; omega
  · rw [if_neg h1]
/-- The first ones are exchanged with all of the second part. -/
theorem rot_gt {m i j : Nat} (hij : j < i) (him : i ≤ m) (f : Nat → Int) : rotF (m - (i - j)) m (m + j) (swpF (m - i) m j f) = rotF (m - i) m (m + j) f := by
  funext k
  unfold rotF swpF
  by_cases h1 : m - i ≤ k ∧ k < m - i + j
  · rw [if_neg (by omega), if_neg (by omega), if_pos h1, if_pos (by omega)]
  · by_cases h2 : m - (i - j) ≤ k ∧ k < m - (i - j) + (m + j - m)
    · rw [if_pos h2, if_neg (by omega)]
      rw [if_pos (by omega)]
      rw [if_neg (by omega), if_pos (by omega)]
      congr 1; omega
    · rw [if_neg h2]
      by_cases h3 : m - (i - j) + (m + j - m) ≤ k ∧ k < m + j
      · rw [if_pos h3, if_neg (by omega), if_neg (by omega), if_neg (by omega), if_pos (by omega)]
      · rw [if_neg h3, if_neg h1, if_neg (by omega), if_neg (by omega), if_neg (by omega)]
/-- The first part is exchanged with the last ones of the second. -/
theorem rot_lt {m i j : Nat} (hij : i < j) (him : i ≤ m) (f : Nat → Int) : rotF (m - i) m (m + (j - i)) (swpF (m - i) (m + j - i) i f) = rotF (m - i) m (m + j) f := by
  funext k
  unfold rotF swpF
  by_cases h1 : m + j - i ≤ k ∧ k < m + j
  · rw [if_neg (by omega), if_neg (by omega), if_neg (by omega), if_pos (by omega), if_neg (by omega), if_pos (by omega)]
    congr 1; omega
  · by_cases h2 : m - i ≤ k ∧ k < m - i + (m + (j - i) - m)
    · rw [if_pos h2, if_neg (by omega), if_neg (by omega), if_pos (by omega)]
    · rw [if_neg h2]
      by_cases h3 : m - i + (m + (j - i) - m) ≤ k ∧ k < m + (j - i)
      · rw [if_pos h3, if_pos (by omega)]
        rw [if_pos (by omega)]
        congr 1; omega
      · rw [if_neg h3, if_neg (by omega), if_neg (by omega), if_neg (by omega), if_neg (by omega)]
theorem rot_eq {m i : Nat} (him : i ≤ m) (f : Nat → Int) : swpF (m - i) m i f = rotF (m - i) m (m + i) f := by
  funext k
  unfold rotF swpF
  by_cases h1 : m - i ≤ k ∧ k < m - i + i
  · rw [if_pos h1, if_pos (by omega)]
  · by_cases h2 : m ≤ k ∧ k < m + i
    · rw [if_neg h1, if_pos h2, if_neg (by omega), if_pos (by omega)]; congr 1; omega
    · rw [if_neg h1, if_neg h2, if_neg (by omega), if_neg (by omega)]
/-- One goes up by one. -/
theorem rot_up {a k : Nat} (h : a ≤ k) (f : Nat → Int) : sw2 k (k + 1) (rotF a (a + 1) (k + 1) f) = rotF a (a + 1) (k + 2) f := by
  funext y
  unfold sw2 rotF
  by_cases h1 : y = k + 1
  · rw [if_pos h1, if_neg (by omega), if_pos (by omega), if_neg (by omega), if_pos (by omega)]; congr 1; omega
  · rw [if_neg h1]
    by_cases h2 : y = k
    · rw [if_pos h2, if_neg (by omega), if_neg (by omega), if_pos (by omega)]; congr 1; omega
    · rw [if_neg h2]
      by_cases h3 : a ≤ y ∧ y < a + (k + 1 - (a + 1))
      · rw [if_pos h3, if_pos (by omega)]
      · rw [if_neg h3, if_neg (by omega), if_neg (show ¬ (a ≤ y ∧ y < a + (k + 2 - (a + 1))) by omega), if_neg (by omega)]
/-- One goes down by one. -/
theorem rot_down {m k : Nat} (h0 : 0 < k) (h : k ≤ m) (f : Nat → Int) : sw2 k (k - 1) (rotF k m (m + 1) f) = rotF (k - 1) m (m + 1) f := by
  funext y
  unfold sw2 rotF
  by_cases h1 : y = k - 1
  · rw [if_pos h1, if_pos (by omega), if_pos (by omega)]; congr 1; omega
  · rw [if_neg h1]
    by_cases h2 : y = k
    · rw [if_pos h2, if_neg (by omega), if_neg (by omega), if_neg (by omega), if_pos (by omega)]; congr 1; omega
    · rw [if_neg h2]
      by_cases h3 : k + (m + 1 - m) ≤ y ∧ y < m + 1
      · rw [if_neg (by omega), if_pos h3, if_neg (by omega), if_pos (by omega)]
      · rw [if_neg (by omega), if_neg h3, if_neg (by omega), if_neg (by omega)]
/-- From a to b the same ones stand, in whatever order; elsewhere nothing is turned. -/
structure Same (a b : Nat) (f f' : Nat → Int) : Prop where
  out : ∀ k, ¬ (a ≤ k ∧ k < b) → f' k = f k
  to : ∀ k, a ≤ k → k < b → ∃ j, a ≤ j ∧ j < b ∧ f' k = f j
  of : ∀ k, a ≤ k → k < b → ∃ j, a ≤ j ∧ j < b ∧ f k = f' j
theorem Same.refl (a b : Nat) (f : Nat → Int) : Same a b f f := ⟨fun _ _ => rfl, fun k h1 h2 => ⟨k, h1, h2, rfl⟩, fun k h1 h2 => ⟨k, h1, h2, rfl⟩⟩
theorem Same.trans {a b : Nat} {f f1 f2 : Nat → Int} (h : Same a b f f1) (h' : Same a b f1 f2) : Same a b f f2 :=
  ⟨fun k hk => (h'.out k hk).trans (h.out k hk), fun k h1 h2 => by
    obtain ⟨j, j1, j2, e⟩ := h'.to k h1 h2
    obtain ⟨i, i1, i2, e'⟩ := h.to j j1 j2
    exact ⟨i, i1, i2, e.trans e'⟩, fun k h1 h2 => by
    obtain ⟨j, j1, j2, e⟩ := h.of k h1 h2
    obtain ⟨i, i1, i2, e'⟩ := h'.of j j1 j2
    exact ⟨i, i1, i2, e.trans e'⟩⟩
theorem Same.mono {a b a' b' : Nat} {f f' : Nat → Int} (h : Same a b f f') (ha : a' ≤ a) (hb : b ≤ b') : Same a' b' f f' :=
  ⟨fun k hk => h.out k (by omega), fun k h1 h2 => by
    by_cases hk : a ≤ k ∧ k < b
    · obtain ⟨j, j1, j2, e⟩ := h.to k hk.1 hk.2
      exact ⟨j, by omega, by omega, e⟩
    · exact ⟨k, h1, h2, h.out k hk⟩, fun k h1 h2 => by
    by_cases hk : a ≤ k ∧ k < b
    · obtain ⟨j, j1, j2, e⟩ := h.of k hk.1 hk.2
      exact ⟨j, by omega, by omega, e⟩
    · exact ⟨k, h1, h2, (h.out k hk).symm⟩⟩
theorem Same.sw2 {a b i j : Nat} (h1 : a ≤ i) (h2 : i < b) (h3 : a ≤ j) (h4 : j < b) (f : Nat → Int) : Same a b f (sw2 i j f) :=
  ⟨fun k hk => by unfold Go.Proofs.Ytgbihaliiogboaa.sw2; rw [if_neg (by omega), if_neg (by omega)], fun k k1 k2 => by
    unfold Go.Proofs.Ytgbihaliiogboaa.sw2
    by_cases e1 : k = j
    · rw [if_pos e1]; exact ⟨i, h1, h2, rfl⟩
    · rw [if_neg e1]
      by_cases e2 : k = i
      · rw [if_pos e2]; exact ⟨j, h3, h4, rfl⟩
      · rw [if_neg e2]; exact ⟨k, k1, k2, rfl⟩, fun k k1 k2 => by
    unfold Go.Proofs.Ytgbihaliiogboaa.sw2
    by_cases e1 : k = j
    · refine ⟨i, h1, h2, ?_⟩
      by_cases e3 : i = j
      · rw [if_pos e3, e1, e3]
      · rw [if_neg e3, if_pos rfl, e1]
    · by_cases e2 : k = i
      · refine ⟨j, h3, h4, ?_⟩
        rw [if_pos rfl, e2]
      · refine ⟨k, k1, k2, ?_⟩
        rw [if_neg e1, if_neg e2]⟩
theorem Same.rot {a m b : Nat} (h1 : a ≤ m) (h2 : m ≤ b) (f : Nat → Int) : Same a b f (rotF a m b f) :=
  ⟨fun k hk => by unfold rotF; rw [if_neg (by omega), if_neg (by omega)], fun k k1 k2 => by
    unfold rotF
    by_cases e1 : a ≤ k ∧ k < a + (b - m)
    · rw [if_pos e1]; exact ⟨_, by omega, by omega, rfl⟩
    · rw [if_neg e1, if_pos (by omega)]; exact ⟨_, by omega, by omega, rfl⟩, fun k k1 k2 => by
    by_cases e1 : k < m
    · refine ⟨k + (b - m), by omega, by omega, ?_⟩
      unfold rotF
      rw [if_neg (by omega), if_pos (by omega)]; congr 1; omega
    · refine ⟨k - m + a, by omega, by omega, ?_⟩
      unfold rotF
      rw [if_pos (by omega)]; congr 1; omega⟩
/-- Strictly ascending by rank, from a to b. -/
def Asc (ρ : Int → Int) (a b : Nat) (f : Nat → Int) : Prop := ∀ i j, a ≤ i → i < j → j < b → ρ (f i) < ρ (f j)
/-- All from a to b are below all from c to d. -/
def Beneath (ρ : Int → Int) (f : Nat → Int) (a b c d : Nat) : Prop := ∀ i j, a ≤ i → i < b → c ≤ j → j < d → ρ (f i) < ρ (f j)
/-- All from a to b are as told. -/
def AllF (p : Int → Prop) (a b : Nat) (f : Nat → Int) : Prop := ∀ i, a ≤ i → i < b → p (f i)
theorem Asc.join {ρ : Int → Int} {a c b : Nat} {f : Nat → Int} (h1 : Asc ρ a c f) (h2 : Asc ρ c b f) (h3 : Beneath ρ f a c c b) : Asc ρ a b f := by
  intro i j hi hij hj
  by_cases e1 : j < c
  · exact h1 i j hi hij e1
  · by_cases e2 : i < c
    · exact h3 i j hi e2 (by omega) hj
    · exact h2 i j (by omega) hij hj
theorem Asc.sub {ρ : Int → Int} {a b a' b' : Nat} {f : Nat → Int} (h : Asc ρ a b f) (ha : a ≤ a') (hb : b' ≤ b) : Asc ρ a' b' f := fun i j h1 h2 h3 => h i j (by omega) h2 (by omega)
theorem Asc.congr {ρ : Int → Int} {a b : Nat} {f f' : Nat → Int} (h : Asc ρ a b f) (he : ∀ k, a ≤ k → k < b → f' k = f k) : Asc ρ a b f' := fun i j h1 h2 h3 => by
  rw [he i h1 (by omega), he j (by omega) h3]; exact h i j h1 h2 h3
theorem Asc.one (ρ : Int → Int) (a b : Nat) (f : Nat → Int) (h : b ≤ a + 1) : Asc ρ a b f := fun i j h1 h2 h3 => by omega
theorem AllF.same {p : Int → Prop} {a b : Nat} {f f' : Nat → Int} (h : AllF p a b f) (hs : Same a b f f') : AllF p a b f' := fun i h1 h2 => by
  obtain ⟨j, j1, j2, e⟩ := hs.to i h1 h2
  rw [e]; exact h j j1 j2
theorem AllF.sub {p : Int → Prop} {a b a' b' : Nat} {f : Nat → Int} (h : AllF p a b f) (ha : a ≤ a') (hb : b' ≤ b) : AllF p a' b' f := fun i h1 h2 => h i (by omega) (by omega)
theorem AllF.congr {p : Int → Prop} {a b : Nat} {f f' : Nat → Int} (h : AllF p a b f) (he : ∀ k, a ≤ k → k < b → f' k = f k) : AllF p a b f' := fun i h1 h2 => by rw [he i h1 h2]; exact h i h1 h2
theorem Beneath.same {ρ : Int → Int} {a c b : Nat} {f f1 f2 : Nat → Int} (h : Beneath ρ f a c c b) (h1 : Same a c f f1) (h2 : Same c b f1 f2) : Beneath ρ f2 a c c b := by
  intro i j i1 i2 j1 j2
  rw [h2.out i (by omega)]
  obtain ⟨i', a1, a2, e1⟩ := h1.to i i1 i2
  obtain ⟨j', b1, b2, e2⟩ := h2.to j j1 j2
  rw [e1, e2, h1.out j' (by omega)]
  exact h i' j' a1 a2 b1 b2
/-- The parts of a row in which s .. m and m .. e have changed places. -/
theorem rot_a {a s m e : Nat} (f : Nat → Int) {k : Nat} (h : k < s) : rotF s m e f k = f k := by unfold rotF; rw [if_neg (by omega), if_neg (by omega)]
theorem rot_b {s m e : Nat} (f : Nat → Int) {k : Nat} (h1 : s ≤ k) (h2 : k < s + (e - m)) : rotF s m e f k = f (k - s + m) := by unfold rotF; rw [if_pos ⟨h1, h2⟩]
theorem rot_c {s m e : Nat} (f : Nat → Int) {k : Nat} (h1 : s + (e - m) ≤ k) (h2 : k < e) : rotF s m e f k = f (k - (e - m)) := by unfold rotF; rw [if_neg (by omega), if_pos ⟨h1, h2⟩]
theorem rot_d {s m e : Nat} (f : Nat → Int) {k : Nat} (hs : s ≤ m) (he : m ≤ e) (h : e ≤ k) : rotF s m e f k = f k := by unfold rotF; rw [if_neg (by omega), if_neg (by omega)]
/-- What the rotation leaves. -/
theorem rot_parts {ρ : Int → Int} {a s m e b : Nat} {f : Nat → Int} (h1 : a ≤ s) (h2 : s ≤ m) (h3 : m ≤ e) (h4 : e ≤ b) (s1 : Asc ρ a m f) (s2 : Asc ρ m b f) :
    Asc ρ a s (rotF s m e f) ∧ Asc ρ s (s + (e - m)) (rotF s m e f) ∧ Asc ρ (s + (e - m)) e (rotF s m e f) ∧ Asc ρ e b (rotF s m e f) := by
  refine ⟨fun i j i1 i2 i3 => ?_, fun i j i1 i2 i3 => ?_, fun i j i1 i2 i3 => ?_, fun i j i1 i2 i3 => ?_⟩
  · rw [rot_a (a := a) f (by omega), rot_a (a := a) f (by omega)]; exact s1 i j (by omega) i2 (by omega)
  · rw [rot_b f i1 (by omega), rot_b f (by omega) i3]; exact s2 _ _ (by omega) (by omega) (by omega)
  · rw [rot_c f i1 (by omega), rot_c f (by omega) i3]; exact s1 _ _ (by omega) (by omega) (by omega)
  · rw [rot_d f h2 h3 i1, rot_d f h2 h3 (by omega)]; exact s2 _ _ (by omega) (by omega) (by omega)
theorem rot_all {lo hi : Int → Prop} {a s m e b : Nat} {f : Nat → Int} (h1 : a ≤ s) (h2 : s ≤ m) (h3 : m ≤ e) (h4 : e ≤ b) (s1 : AllF lo a m f) (s2 : AllF hi m b f) :
    AllF lo a s (rotF s m e f) ∧ AllF hi s (s + (e - m)) (rotF s m e f) ∧ AllF lo (s + (e - m)) e (rotF s m e f) ∧ AllF hi e b (rotF s m e f) := by
  refine ⟨fun i i1 i2 => ?_, fun i i1 i2 => ?_, fun i i1 i2 => ?_, fun i i1 i2 => ?_⟩
  · rw [rot_a (a := a) f (by omega)]; exact s1 i (by omega) (by omega)
  · rw [rot_b f i1 (by omega)]; exact s2 _ (by omega) (by omega)
  · rw [rot_c f i1 (by omega)]; exact s1 _ (by omega) (by omega)
  · rw [rot_d f h2 h3 i1]; exact s2 _ (by omega) (by omega)
theorem rot_beneath {ρ : Int → Int} {a s m e b : Nat} {f : Nat → Int} (h1 : a ≤ s) (h2 : s ≤ m) (h3 : m ≤ e) (h4 : e ≤ b) (s1 : Asc ρ a m f) (s2 : Asc ρ m b f) (p1 : Beneath ρ f a s e b) (p2 : Beneath ρ f m e s m) :
    Beneath ρ (rotF s m e f) a (s + (e - m)) (s + (e - m)) b := by
  intro i j i1 i2 j1 j2
  have hi : (rotF s m e f i = f i ∧ i < s) ∨ (rotF s m e f i = f (i - s + m) ∧ s ≤ i) := by
    by_cases h : i < s
    · exact .inl ⟨rot_a (a := a) f h, h⟩
    · exact .inr ⟨rot_b f (by omega) i2, by omega⟩
  have hj : (rotF s m e f j = f j ∧ e ≤ j) ∨ (rotF s m e f j = f (j - (e - m)) ∧ j < e) := by
    by_cases h : e ≤ j
    · exact .inl ⟨rot_d f h2 h3 h, h⟩
    · exact .inr ⟨rot_c f j1 (by omega), by omega⟩
  rcases hi with ⟨ei, hi⟩ | ⟨ei, hi⟩ <;> rcases hj with ⟨ej, hj⟩ | ⟨ej, hj⟩ <;> rw [ei, ej]
  · exact p1 i j i1 hi hj j2
  · exact s1 i _ i1 (by omega) (by omega)
  · exact s2 _ j (by omega) (by omega) j2
  · exact p2 _ _ (by omega) (by omega) (by omega) (by omega)
/-- One number set among others that are sorted. -/
theorem one_first {ρ : Int → Int} {a b i : Nat} {f : Nat → Int} (h1 : a + 1 ≤ i) (h2 : i ≤ b) (s2 : Asc ρ (a + 1) b f) (l1 : ∀ k, a + 1 ≤ k → k < i → ρ (f k) < ρ (f a)) (l2 : ∀ k, i ≤ k → k < b → ρ (f a) < ρ (f k)) : Asc ρ a b (rotF a (a + 1) i f) := by
  have s1 : Asc ρ a (a + 1) f := Asc.one _ _ _ _ (Nat.le_refl _)
  obtain ⟨q1, q2, q3, q4⟩ := rot_parts (ρ := ρ) (Nat.le_refl a) (Nat.le_succ a) h1 h2 s1 s2
  have hb := rot_beneath (ρ := ρ) (Nat.le_refl a) (Nat.le_succ a) h1 h2 s1 s2 (fun i j i1 i2 => by omega) (fun j i j1 j2 i1 i2 => by
    obtain rfl : i = a := by omega
    exact l1 j j1 j2)
  refine q2.join ?_ hb
  refine q3.join q4 fun x y x1 x2 y1 y2 => ?_
  rw [rot_c f x1 x2, rot_d f (Nat.le_succ a) h1 y1, show x - (i - (a + 1)) = a by omega]
  exact l2 y y1 y2
theorem one_last {ρ : Int → Int} {a m i : Nat} {f : Nat → Int} (h1 : a ≤ i) (h2 : i ≤ m) (s1 : Asc ρ a m f) (l1 : ∀ k, a ≤ k → k < i → ρ (f k) < ρ (f m)) (l2 : ∀ k, i ≤ k → k < m → ρ (f m) < ρ (f k)) : Asc ρ a (m + 1) (rotF i m (m + 1) f) := by
  have s2 : Asc ρ m (m + 1) f := Asc.one _ _ _ _ (Nat.le_refl _)
  obtain ⟨q1, q2, q3, q4⟩ := rot_parts (ρ := ρ) h1 h2 (Nat.le_succ m) (Nat.le_refl _) s1 s2
  have hb := rot_beneath (ρ := ρ) h1 h2 (Nat.le_succ m) (Nat.le_refl _) s1 s2 (fun i j i1 i2 i3 i4 => by omega) (fun j i' j1 j2 i1 i2 => by
    obtain rfl : j = m := by omega
    exact l2 i' i1 i2)
  refine (q1.join q2 fun x y x1 x2 y1 y2 => ?_).join q3 hb
  rw [rot_a (a := a) f x2, rot_b f y1 y2, show y - i + m = m by omega]
  exact l1 x x1 x2
/-- Where the search for the place to part at ends. -/
theorem part_ok {ρ : Int → Int} {a m b mid s0 r0 s : Nat} {f : Nat → Int} (s1 : Asc ρ a m f) (s2 : Asc ρ m b f) (hmid : mid = (a + b) / 2) (ham : a < m) (hmb : m < b)
    (h0 : (mid < m ∧ s0 = mid + m - b ∧ r0 = mid) ∨ (m ≤ mid ∧ s0 = a ∧ r0 = m)) (hs : s0 ≤ s) (hr : s ≤ r0)
    (l1 : ∀ c, s0 ≤ c → c < s → ρ (f c) < ρ (f (mid + m - 1 - c))) (l2 : ∀ c, s ≤ c → c < r0 → ρ (f (mid + m - 1 - c)) < ρ (f c)) :
    a ≤ s ∧ s ≤ m ∧ m ≤ mid + m - s ∧ mid + m - s ≤ b ∧ s + (mid + m - s - m) = mid ∧ Beneath ρ f a s (mid + m - s) b ∧ Beneath ρ f m (mid + m - s) s m := by
  have k1 : a ≤ s ∧ s ≤ m ∧ m ≤ mid + m - s ∧ mid + m - s ≤ b ∧ s + (mid + m - s - m) = mid := by omega
  refine ⟨k1.1, k1.2.1, k1.2.2.1, k1.2.2.2.1, k1.2.2.2.2, fun i j i1 i2 j1 j2 => ?_, fun j i j1 j2 i1 i2 => ?_⟩
  · -- the first ones below the last ones
    have hlt : s0 < s := by omega
    have h := l1 (s - 1) (by omega) (by omega)
    have e1 : ρ (f i) ≤ ρ (f (s - 1)) := by
      by_cases e : i = s - 1
      · rw [e]; exact Int.le_refl _
      · exact Int.le_of_lt (s1 i (s - 1) i1 (by omega) (by omega))
    have e2 : ρ (f (mid + m - 1 - (s - 1))) ≤ ρ (f j) := by
      by_cases e : mid + m - 1 - (s - 1) = j
      · rw [e]; exact Int.le_refl _
      · exact Int.le_of_lt (s2 _ j (by omega) (by omega) j2)
    omega
  · have hlt : s < r0 := by omega
    have h := l2 s (Nat.le_refl _) hlt
    have e1 : ρ (f j) ≤ ρ (f (mid + m - 1 - s)) := by
      by_cases e : j = mid + m - 1 - s
      · rw [e]; exact Int.le_refl _
      · exact Int.le_of_lt (s2 j _ j1 (by omega) (by omega))
    have e2 : ρ (f s) ≤ ρ (f i) := by
      by_cases e : s = i
      · rw [e]; exact Int.le_refl _
      · exact Int.le_of_lt (s1 s i (by omega) (by omega) i2)
    omega
end Go.Proofs.Ytgbihaliiogboaa

/- Slices of spans that a call has made: compared, marked, held against their marks. -/
namespace Go.Proofs.Ytgbihaliiogboaa
open Go.RowKit
set_option linter.unusedSimpArgs false
set_option linter.unusedVariables false

/-- The slice v holds the spans l; its array, if l is not empty, lies in a block from lo on, below hi, that starts with them. -/
def OwS (lo hi : Nat) (w : World) (v : Value) (l : List (Int × Int)) : Prop :=
  ∃ A c, v = .slice A l.length c ∧ (l ≠ [] → ∃ b cs, A = some ⟨b, 0, none⟩ ∧ lo ≤ b ∧ b < hi ∧ w.heap[b]? = some (.cells cs 82 (0, 0)) ∧ l.length * 2 ≤ cs.size ∧
    ∀ j p, l[j]? = some p → cs[j * 2]? = some (.int .i16 p.1) ∧ cs[j * 2 + 1]? = some (.int .i16 p.2))
theorem OwS.below {lo hi B : Nat} {w w' : World} {v : Value} {l : List (Int × Int)} (h : OwS lo hi w v l) (hb : Below B w w') (hB : hi ≤ B) : OwS lo hi w' v l := by
  obtain ⟨A, c, rfl, h⟩ := h
  refine ⟨A, c, rfl, fun hl => ?_⟩
  obtain ⟨b, cs, h1, h2, h3, h4, h5⟩ := h hl
  exact ⟨b, cs, h1, h2, h3, block_below hb h4 (by omega), h5⟩
theorem OwS.cells {lo hi : Nat} {w : World} {v : Value} {l : List (Int × Int)} (h : OwS lo hi w v l) {j : Nat} {p : Int × Int} (hj : l[j]? = some p) :
    ∃ b c, v = .slice (some ⟨b, 0, none⟩) l.length c ∧ lo ≤ b ∧ b < hi ∧ b < w.heap.size ∧ w.cell? ⟨b, j * 2, none⟩ = some (.int .i16 p.1) ∧ w.cell? ⟨b, j * 2 + 1, none⟩ = some (.int .i16 p.2) := by
  obtain ⟨A, c, rfl, h⟩ := h
  obtain ⟨b, cs, rfl, h2, h3, h4, h5, h6⟩ := h (by rintro rfl; simp at hj)
  have := h6 j p hj
  exact ⟨b, c, rfl, h2, h3, block_lt h4, cell_block h4 this.1, cell_block h4 this.2⟩
set_option maxRecDepth 100000 in
theorem c_eqSpan (c t : Int) (w : World) : Calls Try.prog 61 #[.agg #[.int .i16 c, .int .i16 t], .agg #[.int .i16 c, .int .i16 t]] w fun e w' => e = .returned (.bool true) ∧ Below w.heap.size w w' := by
  go_enter Try.func61, Try.ntmps61
  go_wp2_with fail
  go_ret
  exact ⟨rfl, ((Below.refl _ w).alloc (Nat.le_refl _) _).alloc (by simp) _⟩
set_option maxRecDepth 100000 in
theorem c_eqSpanS (lo hi lo' hi' : Nat) (v v' : Value) (l : List (Int × Int)) (hlen : l.length ≤ 70368744177664) (w : World) (h : OwS lo hi w v l) (h' : OwS lo' hi' w v' l) (hh : hi ≤ w.heap.size) (hh' : hi' ≤ w.heap.size) :
    Calls Try.prog 39 #[v, v'] w fun e w' => e = .returned (.bool true) ∧ Below w.heap.size w w' := by
  have HA := hid h
  have HA' := hid h'
  obtain ⟨A, c, rfl, h0⟩ := h
  obtain ⟨A', c', rfl, h0'⟩ := h'
  clear h0 h0'
  go_enter Try.func39, Try.ntmps39
  go_wp2_with fail
  go_loopw [5] (fun i wr => ∃ k : Nat, k ≤ l.length ∧ i = .int .i64 k ∧ Hid (Below w.heap.size w wr)) (fun i _ => l.length - (intOf i).toNat)
  case atStart => exact ⟨0, by omega, rfl, Below.refl _ _⟩
  case round =>
    obtain ⟨k, hk, rfl, hb⟩ := hrel
    by_cases hkl : k < l.length
    · have hd : decide ((k : Int) < (l.length : Int)) = true := decide_eq_true (by omega)
      have hp := List.getElem?_eq_getElem hkl
      obtain ⟨⟨p1, p2⟩, hpp⟩ : ∃ p, p = l[k] := ⟨_, rfl⟩
      rw [← hpp] at hp
      obtain ⟨b, c1, e1, _, _, q1, q2, q3⟩ := (HA.out.below hb.out hh).cells hp
      obtain ⟨b', c1', e1', _, _, q1', q2', q3'⟩ := (HA'.out.below hb.out hh').cells hp
      obtain ⟨rfl, rfl⟩ : A = some ⟨b, 0, none⟩ ∧ c = c1 := by simpa using e1
      obtain ⟨rfl, rfl⟩ : A' = some ⟨b', 0, none⟩ ∧ c' = c1' := by simpa using e1'
      have HW : Hid (Below wr.heap.size wr wr) := Below.refl _ _
      clear hp hpp e1 e1'
      go_wp2_with fail
      refine wp_region_ext wr.heap.size (by kernel_rfl) (by kernel_rfl) ?_
      repeat (go_big_quiet_step ((go_at_call 61; with_reducible exact Calls.ext (Nat.le_refl _) (c_eqSpan p1 p2 _))))
      refine wpQuiet_nil ?_
      intro x
      go_wp2_with fail
      exact ⟨⟨k + 1, by omega, by go_num, hb.out.trans (x.h.mono hb.out.size)⟩, by simp [intOf]; omega⟩
    · obtain rfl : k = l.length := by omega
      have hd : decide ((l.length : Int) < (l.length : Int)) = false := decide_eq_false (by omega)
      go_wp2_with fail
      go_ret
      exact ⟨rfl, hb.out⟩
/-- One place of such a slice, replaced. -/
theorem OwS.put {lo hi : Nat} {w : World} {b c : Nat} {l : List (Int × Int)} (h : OwS lo hi w (.slice (some ⟨b, 0, none⟩) l.length c) l) {k : Nat} (hk : k < l.length) (x y : Int) :
    OwS lo hi ((w.setCell ⟨b, k * 2, none⟩ (.int .i16 x)).setCell ⟨b, k * 2 + 1, none⟩ (.int .i16 y)) (.slice (some ⟨b, 0, none⟩) l.length c) (l.set k (x, y)) := by
  obtain ⟨A, c', e, h⟩ := h
  have hne : l ≠ [] := by rintro rfl; simp at hk
  obtain ⟨b', cs, rfl, h2, h3, h4, h5, h6⟩ := h hne
  have e1 := (Value.slice.inj e).1
  obtain rfl : b = b' := by simpa using e1
  have g1 := heap_setCell_same w b (k * 2) cs _ (.int .i16 x) h4
  have g2 := heap_setCell_same _ b (k * 2 + 1) _ _ (.int .i16 y) g1
  refine ⟨_, c, by simp, fun _ => ⟨b, _, rfl, h2, h3, g2, by simp; omega, fun j p hj => ?_⟩⟩
  rw [List.getElem?_set] at hj
  by_cases hjk : k = j
  · subst hjk
    rw [if_pos rfl, if_pos hk] at hj
    obtain rfl := Option.some.inj hj
    constructor
    · rw [Array.getElem?_setIfInBounds_ne (by omega), Array.getElem?_setIfInBounds, if_pos rfl, if_pos (by omega)]
    · rw [Array.getElem?_setIfInBounds, if_pos rfl, if_pos (by simp; omega)]
  · rw [if_neg hjk] at hj
    have := h6 j p hj
    rw [Array.getElem?_setIfInBounds_ne (by omega), Array.getElem?_setIfInBounds_ne (by omega), Array.getElem?_setIfInBounds_ne (by omega), Array.getElem?_setIfInBounds_ne (by omega)]
    exact this
/-- The spans l, those below k marked from m on. -/
def mkS (l : List (Int × Int)) (m : Int) (k : Nat) : List (Int × Int) := (List.range l.length).map fun j => if j < k then (IntKind.i16.wrap (m + 2 * j), IntKind.i16.wrap (m + 2 * j + 1)) else l.getD j (0, 0)
theorem mkS_len (l : List (Int × Int)) (m : Int) (k : Nat) : (mkS l m k).length = l.length := by simp [mkS]
theorem mkS_get (l : List (Int × Int)) (m : Int) (k j : Nat) : (mkS l m k)[j]? = if j < l.length then some (if j < k then (IntKind.i16.wrap (m + 2 * j), IntKind.i16.wrap (m + 2 * j + 1)) else l.getD j (0, 0)) else none := by
  unfold mkS
  rw [List.getElem?_map]
  by_cases hj : j < l.length
  · rw [List.getElem?_range hj, if_pos hj]; rfl
  · rw [List.getElem?_eq_none (by simp; omega), if_neg hj]; rfl
theorem mkS_zero (l : List (Int × Int)) (m : Int) : mkS l m 0 = l := by
  apply List.ext_getElem?
  intro j
  rw [mkS_get]
  by_cases hj : j < l.length
  · rw [if_pos hj, if_neg (by omega), List.getD_eq_getElem?_getD, List.getElem?_eq_getElem hj]; rfl
  · rw [if_neg hj, List.getElem?_eq_none (by omega)]
theorem mkS_step (l : List (Int × Int)) (m : Int) (k : Nat) (hk : k < l.length) : (mkS l m k).set k (IntKind.i16.wrap (m + 2 * k), IntKind.i16.wrap (m + 2 * k + 1)) = mkS l m (k + 1) := by
  apply List.ext_getElem?
  intro j
  rw [List.getElem?_set, mkS_get, mkS_get, mkS_len]
  by_cases hj : j < l.length
  · rw [if_pos hj, if_pos hj]
    by_cases hjk : k = j
    · subst hjk; rw [if_pos rfl, if_pos hk, if_pos (by omega)]
    · rw [if_neg hjk]
      by_cases h2 : j < k
      · rw [if_pos h2, if_pos (by omega)]
      · rw [if_neg h2, if_neg (by omega)]
  · rw [if_neg hj, if_neg hj]
    by_cases hjk : k = j
    · omega
    · rw [if_neg hjk]
set_option maxRecDepth 100000 in
theorem c_markSpanS (lo hi : Nat) (v : Value) (l : List (Int × Int)) (m : Int) (hm : 0 ≤ m ∧ m ≤ 1000000) (hlen : l.length ≤ 1048576) (w : World) (h : OwS lo hi w v l) (hh : hi ≤ w.heap.size) (hlo : lo ≤ w.heap.size) :
    Calls Try.prog 40 #[v, .int .i64 m] w fun e w' => e = .returned (.int .i64 (m + 2 * l.length)) ∧ Below lo w w' ∧ OutS lo hi w w' ∧ OwS lo hi w' v (mkS l m l.length) := by
  have h0 := h
  obtain ⟨A, c, rfl, _⟩ := h
  go_enter Try.func40, Try.ntmps40
  go_wp2_with fail
  go_loopw [1, 5] (fun q i wr => ∃ k : Nat, k ≤ l.length ∧ i = .int .i64 k ∧ q = .int .i64 (m + 2 * k) ∧ Hid (Below lo w wr) ∧ Hid (OutS lo hi w wr) ∧ Hid (OwS lo hi wr (.slice A l.length c) (mkS l m k))) (fun _ i _ => l.length - (intOf i).toNat)
  case atStart => exact ⟨0, by omega, rfl, by simp, Below.refl _ _, OutS.refl _ _ _, by rw [mkS_zero]; exact h0⟩
  case round =>
    obtain ⟨k, hk, rfl, rfl, hb, hOut, hO⟩ := hrel
    by_cases hkl : k < l.length
    · have hd : decide ((k : Int) < (l.length : Int)) = true := decide_eq_true (by omega)
      have hkl' : k < (mkS l m k).length := by rw [mkS_len]; exact hkl
      have hp := List.getElem?_eq_getElem hkl'
      obtain ⟨⟨p1, p2⟩, hpp⟩ : ∃ p, p = (mkS l m k)[k] := ⟨_, rfl⟩
      rw [← hpp] at hp
      obtain ⟨b, c1, e1, r1, r9, q1, q2, q3⟩ := hO.out.cells hp
      obtain ⟨rfl, _, rfl⟩ : A = some ⟨b, 0, none⟩ ∧ l.length = (mkS l m k).length ∧ c = c1 := by simpa using e1
      have HP : Hid (OwS lo hi ((wr.setCell ⟨b, k * 2, none⟩ (.int .i16 (IntKind.i16.wrap (m + 2 * k)))).setCell ⟨b, k * 2 + 1, none⟩ (.int .i16 (IntKind.i16.wrap (m + 2 * k + 1)))) (.slice (some ⟨b, 0, none⟩) l.length c) (mkS l m (k + 1))) := by
        have := hO.out
        rw [← mkS_len l m k] at this
        have := OwS.put this hkl' (IntKind.i16.wrap (m + 2 * k)) (IntKind.i16.wrap (m + 2 * k + 1))
        rw [mkS_step l m k hkl, mkS_len] at this
        exact this
      have f2 : wr.frozen? ⟨b, k * 2, none⟩ = false := by
        obtain ⟨A', c', e', h'⟩ := hO.out
        obtain ⟨b', cs, rfl, _, _, h4, _⟩ := h' (by intro e; rw [e] at hkl'; simp at hkl')
        obtain rfl : b = b' := by simpa using (Value.slice.inj e').1
        exact frozen_of_row _ _ _ _ _ h4
      have f3 : wr.frozen? ⟨b, k * 2 + 1, none⟩ = false := by
        obtain ⟨A', c', e', h'⟩ := hO.out
        obtain ⟨b', cs, rfl, _, _, h4, _⟩ := h' (by intro e; rw [e] at hkl'; simp at hkl')
        obtain rfl : b = b' := by simpa using (Value.slice.inj e').1
        exact frozen_of_row _ _ _ _ _ h4
      clear hp hpp e1 h0 hkl'
      go_wp2_with fail
      exact ⟨⟨k + 1, by omega, by go_num, congrArg (Value.int .i64) (by omega), Below.setCell (Below.setCell hb.out (p := ⟨b, k * 2, none⟩) r1 _) (p := ⟨b, k * 2 + 1, none⟩) r1 _, OutS.setCell (OutS.setCell hOut.out (a := ⟨b, k * 2, none⟩) _ r1 r9) (a := ⟨b, k * 2 + 1, none⟩) _ r1 r9, HP.out⟩, by simp [intOf]; omega⟩
    · obtain rfl : k = l.length := by omega
      have hd : decide ((l.length : Int) < (l.length : Int)) = false := decide_eq_false (by omega)
      go_wp2_with fail
      go_ret
      exact ⟨rfl, hb.out, hOut.out, hO.out⟩
/-- The cells of spans. -/
def scells (l : List (Int × Int)) : List Value := l.flatMap fun p => [.int .i16 p.1, .int .i16 p.2]
theorem scells_len (l : List (Int × Int)) : (scells l).length = l.length * 2 := by
  induction l with
  | nil => rfl
  | cons p l ih => simp only [scells, List.flatMap_cons, List.length_append] at ih ⊢; rw [ih]; simp; omega
theorem scells_get (l : List (Int × Int)) : ∀ j p, l[j]? = some p → (scells l)[j * 2]? = some (.int .i16 p.1) ∧ (scells l)[j * 2 + 1]? = some (.int .i16 p.2) := by
  induction l with
  | nil => intro j p h; simp at h
  | cons q l ih =>
    intro j p h
    cases j with
    | zero => simp at h; subst h; simp [scells]
    | succ j =>
      have := ih j p (by simpa using h)
      have e1 : (j + 1) * 2 = j * 2 + 1 + 1 := by omega
      rw [e1]
      simpa [scells] using this
theorem scells_snoc (l : List (Int × Int)) (p : Int × Int) : scells (l ++ [p]) = scells l ++ [.int .i16 p.1, .int .i16 p.2] := by simp [scells]
theorem OwS.of_owns {w : World} {base : Nat} {v : Value} {l : List (Int × Int)} (h : w.ownsRow base 82 2 v l.length (scells l)) : OwS base w.heap.size w v l := by
  rcases h.2 with ⟨rfl, hn⟩ | ⟨g, cap, cur, rfl, hb, hg, hc, hm, hs, ht⟩
  · exact ⟨none, 0, by rw [hn], fun hl => absurd (List.eq_nil_of_length_eq_zero hn) hl⟩
  · refine ⟨_, cap, rfl, fun _ => ⟨g, cur, rfl, hb, block_lt hg, hg, by rw [hs]; omega, fun j p hj => ?_⟩⟩
    have hjl := (List.getElem?_eq_some_iff.1 hj).1
    have hp := scells_get l j p hj
    rw [← ht, List.getElem?_take, List.getElem?_take, if_pos (by omega), if_pos (by omega)] at hp
    simpa using hp
end Go.Proofs.Ytgbihaliiogboaa

/- Shapes: turned into the program's type, compared, marked, held. -/
namespace Go.Proofs.Ytgbihaliiogboaa
open Go.RowKit
set_option linter.unusedSimpArgs false
set_option linter.unusedVariables false

theorem OwS.pairs {lo hi : Nat} {w : World} {A : Option Addr} {n c : Nat} {l : List (Int × Int)} (h : OwS lo hi w (.slice A n c) l) : PairsAt .i16 .i16 w A l := fun j p hj => by
  obtain ⟨b, c', e, _, _, h1, h2, h3⟩ := h.cells hj
  obtain ⟨rfl, _, _⟩ : A = some ⟨b, 0, none⟩ ∧ n = l.length ∧ c = c' := by simpa using e
  exact ⟨b, 0, rfl, h1, by rw [Nat.zero_add]; exact h2, by rw [Nat.zero_add]; exact h3⟩
/-- A slice of spans whose array lies in the blocks lo .. hi, all of them laid. -/
def OwT (lo hi : Nat) (w : World) (v : Value) (l : List (Int × Int)) : Prop := OwS lo hi w v l ∧ lo ≤ hi ∧ hi ≤ w.heap.size
theorem OwT.below {lo hi : Nat} {w w' : World} {v : Value} {l : List (Int × Int)} (h : OwT lo hi w v l) (hb : Below w.heap.size w w') : OwT lo hi w' v l := ⟨h.1.below hb h.2.2, h.2.1, Nat.le_trans h.2.2 hb.size⟩
theorem OwT.below' {lo hi B : Nat} {w w' : World} {v : Value} {l : List (Int × Int)} (h : OwT lo hi w v l) (hb : Below B w w') (hB : hi ≤ B) : OwT lo hi w' v l := ⟨h.1.below hb hB, h.2.1, Nat.le_trans h.2.2 hb.size⟩
theorem OwT.alloc {lo hi : Nat} {w : World} {v : Value} {l : List (Int × Int)} (h : OwT lo hi w v l) (o : Obj) : OwT lo hi (w.alloc o) v l := h.below ((Below.refl _ w).alloc (Nat.le_refl _) o)
theorem OwT.of {w w' : World} {v : Value} {l : List (Int × Int)} (h : w'.ownsRow w.heap.size 82 2 v l.length (scells l)) (hb : Below w.heap.size w w') : OwT w.heap.size w'.heap.size w' v l := ⟨OwS.of_owns h, hb.size, Nat.le_refl _⟩
theorem OwT.pairs {lo hi : Nat} {w : World} {A : Option Addr} {n c : Nat} {l : List (Int × Int)} (h : OwT lo hi w (.slice A n c) l) : PairsAt .i16 .i16 w A l := h.1.pairs
theorem OwT.outS {lo hi lo' hi' : Nat} {w w' : World} {v : Value} {l : List (Int × Int)} (h : OwT lo hi w v l) (hO : OutS lo' hi' w w') (hd : hi ≤ lo' ∨ hi' ≤ lo) : OwT lo hi w' v l := by
  obtain ⟨⟨A, c, rfl, h⟩, h2, h3⟩ := h
  refine ⟨⟨A, c, rfl, fun hl => ?_⟩, h2, Nat.le_trans h3 hO.size⟩
  obtain ⟨b, cs, r1, r2, r3, r4, r5⟩ := h hl
  exact ⟨b, cs, r1, r2, r3, hO.keep r4 (by omega), r5⟩
set_option maxRecDepth 100000 in
theorem c_toSpan (c t : Int) (w : World) : Calls Try.prog 57 #[.agg #[.int .i16 c, .int .i16 t]] w fun e w' => e = .returned (.agg #[.int .i16 c, .int .i16 t]) ∧ Below w.heap.size w w' := by
  go_enter Try.func57, Try.ntmps57
  go_wp2_with fail
  refine bodyPost_ret (v := .agg #[.int .i16 c, .int .i16 t]) (by simp [results, Try.results57, go_sem]) rfl ⟨rfl, ?_⟩
  exact (((Below.refl _ w).alloc (Nat.le_refl _) _).alloc (by simp) _).alloc (by simp; omega) _
/-- The first k pairs of a list, zeros behind. -/
def padL (l : List (Int × Int)) (k : Nat) : List (Int × Int) := l.take k ++ List.replicate (l.length - k) (0, 0)
theorem padL_len (l : List (Int × Int)) (k : Nat) (hk : k ≤ l.length) : (padL l k).length = l.length := by simp [padL]; omega
theorem padL_zero (l : List (Int × Int)) : padL l 0 = List.replicate l.length (0, 0) := by simp [padL]
theorem padL_all (l : List (Int × Int)) : padL l l.length = l := by simp [padL]
theorem padL_step (l : List (Int × Int)) (k : Nat) (hk : k < l.length) (p : Int × Int) (hp : p = l[k]) : (padL l k).set k (p.1, p.2) = padL l (k + 1) := by
  apply List.ext_getElem?
  intro j
  unfold padL
  have e : l.length - k = (l.length - (k + 1)) + 1 := by omega
  have h1 : (l.take k).length = k := by simp; omega
  have h2 : (l.take k ++ List.replicate (l.length - k) ((0, 0) : Int × Int)).set k (p.1, p.2) = l.take k ++ (List.replicate (l.length - k) ((0, 0) : Int × Int)).set 0 (p.1, p.2) := by
    rw [List.set_append_right _ _ (by omega)]; rw [h1, Nat.sub_self]
  rw [h2, e, List.replicate_succ, List.set_cons_zero, List.take_succ_eq_append_getElem hk, List.append_assoc, ← hp]
  rfl
theorem OwS.hi {lo hi lo' hi' : Nat} {w : World} {v : Value} {l : List (Int × Int)} (h : OwS lo hi w v l) (hl : lo' ≤ lo) (hh : hi ≤ hi') : OwS lo' hi' w v l := by
  obtain ⟨A, c, rfl, h⟩ := h
  exact ⟨A, c, rfl, fun hl => by obtain ⟨b, cs, h1, h2, h3, h4⟩ := h hl; exact ⟨b, cs, h1, by omega, by omega, h4⟩⟩
theorem ows_free {lo hi : Nat} {w : World} {b n c : Nat} {l : List (Int × Int)} (h : OwS lo hi w (.slice (some ⟨b, 0, none⟩) n c) l) {k : Nat} (hk : k < l.length) :
    (∃ v, w.cell? ⟨b, k * 2, none⟩ = some v) ∧ (∃ v, w.cell? ⟨b, k * 2 + 1, none⟩ = some v) ∧ w.frozen? ⟨b, k * 2, none⟩ = false ∧ w.frozen? ⟨b, k * 2 + 1, none⟩ = false ∧ lo ≤ b := by
  have hne : l ≠ [] := by rintro rfl; simp at hk
  obtain ⟨b', c', e, h1, h2, h3, h4, h5⟩ := h.cells (List.getElem?_eq_getElem hk)
  obtain ⟨A, c2, e2, h⟩ := h
  obtain ⟨b2, cs, rfl, q2, q3, q4, _⟩ := h hne
  obtain ⟨rfl, _⟩ : b = b' ∧ n = l.length ∧ c = c' := by simpa using e
  obtain ⟨rfl, _⟩ : b = b2 ∧ n = l.length ∧ c = c2 := by simpa using e2
  exact ⟨⟨_, h4⟩, ⟨_, h5⟩, frozen_of_row _ _ _ _ _ q4, frozen_of_row _ _ _ _ _ q4, q2⟩
theorem made_two (x : Value) (m : Nat) : (madeCells #[x, x] m).toList = List.replicate m x := by
  apply List.ext_getElem
  · simp [madeCells]
  · intro j h1 h2
    have h3 : j % 2 = 0 ∨ j % 2 = 1 := by omega
    rcases h3 with h3 | h3 <;> simp [madeCells, h3]
theorem scells_rep (n : Nat) : scells (List.replicate n (0, 0)) = List.replicate (n * 2) (.int .i16 0) := by
  induction n with
  | zero => rfl
  | succ n ih =>
    rw [List.replicate_succ', scells_snoc, ih, show (n + 1) * 2 = n * 2 + 1 + 1 by omega, List.replicate_succ', List.replicate_succ', List.append_assoc]
    rfl
theorem made_spans (n : Nat) {w : World} {base cap : Nat} {A : Option Addr} (h : w.ownsRow base 82 2 (.slice A n cap) n (madeCells (Value.agg #[.int .i16 0, .int .i16 0]).cells (n * 2)).toList) : OwS base w.heap.size w (.slice A n cap) (List.replicate n (0, 0)) := by
  have e : (madeCells (Value.agg #[.int .i16 0, .int .i16 0]).cells (n * 2)).toList = scells (List.replicate n (0, 0)) := by
    rw [scells_rep]
    exact made_two (.int .i16 0) (n * 2)
  rw [e] at h
  have h2 : w.ownsRow base 82 2 (.slice A n cap) (List.replicate n ((0, 0) : Int × Int)).length (scells (List.replicate n (0, 0))) := by rw [List.length_replicate]; exact h
  exact OwS.of_owns h2
theorem Try.infoSpan : (Try.prog.info? 82).map (fun i => (i.zero, i.size, i.bytes)) = some (some (.agg #[.int .i16 0, .int .i16 0]), 2, 4) := by kernel_rfl
theorem span_parts : ∃ i, Try.prog.info? 82 = some i ∧ i.zero = some (.agg #[.int .i16 0, .int .i16 0]) ∧ i.size = 2 ∧ i.bytes = 4 := by
  have h := Try.infoSpan
  cases hi : Try.prog.info? 82 with
  | none => rw [hi] at h; cases h
  | some i => rw [hi] at h; simp at h; exact ⟨i, rfl, h.1, h.2.1, h.2.2⟩
set_option maxHeartbeats 800000 in
set_option maxRecDepth 100000 in
theorem c_toSpanS (A : Option Addr) (c : Nat) (l : List (Int × Int)) (hlen : l.length ≤ 1048576) (w : World) (hA : PairsAt .i16 .i16 w A l) :
    Calls Try.prog 34 #[.slice A l.length c] w fun e w' => ∃ (A' : Option Addr) (c' : Nat), e = .returned (.slice A' l.length c') ∧ Below w.heap.size w w' ∧ OwT w.heap.size w'.heap.size w' (.slice A' l.length c') l := by
  obtain ⟨i0, hi, hz0, hz1, hz2⟩ := span_parts
  have HA := hid hA; clear hA
  go_enter Try.func34, Try.ntmps34
  go_wp2_with ((with_reducible refine gate (N := 7) rfl ?_); refine wpList_make_full _ rfl (.tmp 6) (.tmp 6) 29 rfl w.heap.size 82 i0 (.agg #[.int .i16 0, .int .i16 0]) 2 Try.underlying29 hi hz0 hz1 .i64 .i64 (l.length : Int) (l.length : Int) l.length rfl rfl rfl rfl (by rw [hz2]; omega) (Nat.le_trans hlen (by decide)) (Nat.le_refl _) ?_; intro w1 hown hgrow)
  have HB1 : Hid (Below w.heap.size w w1) := (Below.refl _ w).grown hgrow (Nat.le_refl _) (fun k hk => by cases hk)
  have HO1 : Hid (OwS w.heap.size w1.heap.size w1 (.slice (some ⟨w.heap.size, 0, none⟩) l.length l.length) (padL l 0)) := by
    rw [padL_zero]
    have := made_spans l.length hown
    simpa [Hid] using this
  have hS1 : Hid (w.heap.size ≤ w1.heap.size) := HB1.out.size
  clear hown hgrow
  go_loopw [4] (fun i wr => ∃ k : Nat, k ≤ l.length ∧ i = .int .i64 k ∧ Hid (Below w.heap.size w wr) ∧ Hid (w1.heap.size ≤ wr.heap.size) ∧ Hid (OwS w.heap.size w1.heap.size wr (.slice (some ⟨w.heap.size, 0, none⟩) l.length l.length) (padL l k))) (fun i _ => l.length - (intOf i).toNat)
  case atStart => exact ⟨0, by omega, rfl, HB1, Nat.le_refl _, HO1⟩
  case round =>
    obtain ⟨k, hk, rfl, hb, hS, hO⟩ := hrel
    by_cases hkl : k < l.length
    · have hd : decide ((k : Int) < (l.length : Int)) = true := decide_eq_true (by omega)
      have hkI : (k : Int) < (l.length : Int) := by omega
      have hk0 : (0 : Int) ≤ (k : Int) := by omega
      have hp := List.getElem?_eq_getElem hkl
      obtain ⟨⟨p1, p2⟩, hpp⟩ : ∃ p, p = l[k] := ⟨_, rfl⟩
      rw [← hpp] at hp
      have HST : Hid ((padL l k).set k (p1, p2) = padL l (k + 1)) := padL_step l k hkl _ hpp
      have HL := hid (padL_len l k hk)
      obtain ⟨b, off, rfl, r1, r2, r3⟩ := HA.out k _ hp
      dsimp only at r2 r3
      have c0 := (hb.out.cell (p := ⟨b, _, none⟩) r1).trans r2
      have c1 := (hb.out.cell (p := ⟨b, _, none⟩) r1).trans r3
      clear hp hpp r2 r3
      go_wp2_with (go_at_call 57; refine (c_toSpan p1 p2 _).mono ?_; rintro e w2 ⟨rfl, hb2⟩; have O2 := hid (hO.out.below hb2 hS.out); have hb := hid (hb.out.trans (hb2.mono hb.out.size)); have hS := hid (Nat.le_trans hS.out hb2.size); clear hb2; obtain ⟨⟨v0, m0⟩, ⟨v1, m1⟩, m2, m3, m4⟩ := ows_free O2.out (k := k) (by rw [HL.out]; exact hkl))
      refine ⟨⟨k + 1, by omega, by go_num, Below.setCell (Below.setCell hb.out (p := ⟨w.heap.size, k * 2, none⟩) (Nat.le_refl _) _) (p := ⟨w.heap.size, k * 2 + 1, none⟩) (Nat.le_refl _) _, ?_, ?_⟩, by simp [intOf]; omega⟩
      · have := hS.out; simpa [Hid] using this
      · have h1 := O2.out
        rw [← HL.out] at h1
        have h2 := OwS.put h1 (by rw [HL.out]; exact hkl) p1 p2
        rw [HST.out, HL.out] at h2
        exact h2
    · obtain rfl : k = l.length := by omega
      have hd : decide ((l.length : Int) < (l.length : Int)) = false := decide_eq_false (by omega)
      rw [padL_all] at hO
      go_wp2_with fail
      go_ret
      exact ⟨_, _, rfl, hb.out, ⟨hO.out.hi (Nat.le_refl _) hS.out, hb.out.size, Nat.le_refl _⟩⟩
/-- A shape's cells. -/
def shV (s : Int) (A : Option Addr) (n c : Nat) : Array Value := #[.int .u8 s, .slice A n c]
theorem OwT.set {lo hi : Nat} {w : World} {v : Value} {l : List (Int × Int)} (h : OwT lo hi w v l) {a : Addr} (u : Value) (ha : a.block < lo) : OwT lo hi (w.setCell a u) v l := by
  obtain ⟨⟨A, c, rfl, h⟩, h2, h3⟩ := h
  refine ⟨⟨A, c, rfl, fun hl => ?_⟩, h2, by simpa using h3⟩
  obtain ⟨b, cs, r1, r2, r3, r4, r5⟩ := h hl
  exact ⟨b, cs, r1, r2, r3, block_set_other r4 u (by omega), r5⟩
set_option maxHeartbeats 800000 in
set_option maxRecDepth 100000 in
theorem c_toShape (s : Int) (A : Option Addr) (c : Nat) (l : List (Int × Int)) (hlen : l.length ≤ 1048576) (w : World) (hA : PairsAt .i16 .i16 w A l) :
    Calls Try.prog 10 #[.agg #[.int .u8 s, .slice A l.length c]] w fun e w' => ∃ (A' : Option Addr) (c' : Nat), e = .returned (.agg #[.int .u8 s, .slice A' l.length c']) ∧ Below w.heap.size w w' ∧ OwT w.heap.size w'.heap.size w' (.slice A' l.length c') l := by
  have HA := hid hA; clear hA
  go_enter Try.func10, Try.ntmps10
  obtain ⟨w0, hw0⟩ : ∃ w0, w0 = ((w.alloc (.cells #[.int .u8 s, .slice A l.length c] 24)).alloc (.cells #[.int .u8 0, .slice none 0 0] 31)).alloc (.cells #[.int .u8 s, .slice none 0 0] 31) := ⟨_, rfl⟩
  have B0 : Hid (Below w.heap.size w w0) := by rw [hw0]; exact (((Below.refl _ w).alloc (Nat.le_refl _) _).alloc (by simp) _).alloc (by simp; omega) _
  have k1 : w0.heap[w.heap.size + 1]? = some (.cells #[.int .u8 0, .slice none 0 0] 31 (0, 0)) := by rw [hw0]; exact block_alloc (block_new1 _ _ (by simp)) _
  have k2 : w0.heap[w.heap.size + 1 + 1]? = some (.cells #[.int .u8 s, .slice none 0 0] 31 (0, 0)) := by rw [hw0]; exact block_new1 _ _ (by simp)
  have HA0 := hid (HA.out.below B0.out (Nat.le_refl _))
  have K1 := hid k1; have K2 := hid k2; clear k1 k2
  go_wp2_with ((try rw [← hw0]); go_at_call 34; refine (c_toSpanS A c l hlen _ HA0.out).mono ?_; rintro e w2 ⟨A', c', rfl, hb2, ho2⟩; have k1 := hid (block_below hb2 K1.out (block_lt K1.out)); have k2 := hid (block_below hb2 K2.out (block_lt K2.out)); have q0 := cell_block k2.out (j := 0) rfl; have q1 := cell_block k2.out (j := 1) rfl; have q2 := frozen_of_row _ _ 0 _ _ k2.out; have q3 := frozen_of_row _ _ 1 _ _ k2.out; have q4 := cell_block k1.out (j := 0) rfl; have q5 := cell_block k1.out (j := 1) rfl; have q6 := frozen_of_row _ _ 0 _ _ k1.out; have q7 := frozen_of_row _ _ 1 _ _ k1.out)
  have S0 : w.heap.size + 1 + 1 < w0.heap.size := block_lt K2.out
  clear hw0 K1 K2 k1 k2
  have E : ((((w2.setCell ⟨w.heap.size + 1 + 1, 1, none⟩ (.slice A' l.length c')).setCell ⟨w.heap.size + 1, 0, none⟩ (.int .u8 s)).setCell ⟨w.heap.size + 1, 1, none⟩ (.slice A' l.length c'))).heap.size = w2.heap.size := by simp
  refine bodyPost_ret (v := .agg #[.int .u8 s, .slice A' l.length c']) (by simp [results, Try.results10, go_sem, q4, q5]) rfl ⟨A', c', rfl, ?_, ?_⟩
  · exact Below.setCell (Below.setCell (Below.setCell (B0.out.trans (hb2.mono B0.out.size)) (p := ⟨w.heap.size + 1 + 1, 1, none⟩) (show w.heap.size ≤ w.heap.size + 1 + 1 by omega) _) (p := ⟨w.heap.size + 1, 0, none⟩) (Nat.le_succ _) _) (p := ⟨w.heap.size + 1, 1, none⟩) (Nat.le_succ _) _
  · have h1 := ((ho2.set (a := ⟨w.heap.size + 1 + 1, 1, none⟩) (.slice A' l.length c') S0).set (a := ⟨w.heap.size + 1, 0, none⟩) (.int .u8 s) (show w.heap.size + 1 < w0.heap.size by omega)).set (a := ⟨w.heap.size + 1, 1, none⟩) (.slice A' l.length c') (show w.heap.size + 1 < w0.heap.size by omega)
    have := B0.out.size
    have := hb2.size
    exact ⟨h1.1.hi (by omega) (by rw [E]; exact Nat.le_refl _), by rw [E]; omega, Nat.le_refl _⟩
set_option maxRecDepth 100000 in
theorem c_szSpanS (A : Option Addr) (c : Nat) (n : Nat) (hn : n ≤ 9223372036854775807) (w : World) :
    Calls Try.prog 30 #[.slice A n c, .int .i64 1048576] w fun e w' => e = .returned (.int .i64 (if n ≤ 1048576 then (1048576 - n : Int) else -1)) ∧ Below w.heap.size w w' := by
  by_cases h : n ≤ 1048576
  · have h1 : ¬ ((1048576 : Int) - n < 0) := by omega
    have hd : decide ((1048576 : Int) - n < 0) = false := decide_eq_false h1
    rw [if_pos h]
    go_enter Try.func30, Try.ntmps30
    go_wp2_with fail
    go_ret
    exact ⟨rfl, Below.refl _ _⟩
  · have h1 : ((1048576 : Int) - n < 0) := by omega
    have hd : decide ((1048576 : Int) - n < 0) = true := decide_eq_true h1
    rw [if_neg h]
    go_enter Try.func30, Try.ntmps30
    go_wp2_with fail
    go_ret
    exact ⟨rfl, Below.refl _ _⟩
set_option maxRecDepth 100000 in
theorem c_szShape (s : Int) (A : Option Addr) (c : Nat) (n : Nat) (hn : n ≤ 9223372036854775807) (w : World) :
    Calls Try.prog 8 #[.agg #[.int .u8 s, .slice A n c], .int .i64 1048576] w fun e w' => e = .returned (.int .i64 (if n ≤ 1048576 then (1048576 - n : Int) else -1)) ∧ Below w.heap.size w w' := by
  obtain ⟨r, hr⟩ : ∃ r : Int, r = if n ≤ 1048576 then (1048576 - n : Int) else -1 := ⟨_, rfl⟩
  have HC := hid (c_szSpanS A c n hn)
  rw [← hr] at HC ⊢
  have hc : (r < 0 ∧ r = -1) ∨ (¬ r < 0) := by
    by_cases h : n ≤ 1048576
    · rw [if_pos h] at hr; omega
    · rw [if_neg h] at hr; omega
  clear hr
  rcases hc with ⟨h1, rfl⟩ | h1
  · go_enter Try.func8, Try.ntmps8
    go_wp2_with (go_at_call 30; refine (HC.out _).mono ?_; rintro e w2 ⟨rfl, hb2⟩)
    go_ret
    exact ⟨rfl, ((Below.refl _ w).alloc (Nat.le_refl _) _).trans (hb2.mono (by simp))⟩
  · have hd : decide (r < 0) = false := decide_eq_false h1
    go_enter Try.func8, Try.ntmps8
    go_wp2_with (go_at_call 30; refine (HC.out _).mono ?_; rintro e w2 ⟨rfl, hb2⟩)
    go_ret
    exact ⟨rfl, ((Below.refl _ w).alloc (Nat.le_refl _) _).trans (hb2.mono (by simp))⟩
set_option maxRecDepth 100000 in
theorem c_eqShape (lo hi lo' hi' : Nat) (s : Int) (A A' : Option Addr) (c c' : Nat) (l : List (Int × Int)) (hlen : l.length ≤ 70368744177664) (w : World) (h : OwT lo hi w (.slice A l.length c) l) (h' : OwT lo' hi' w (.slice A' l.length c') l) :
    Calls Try.prog 13 #[.agg #[.int .u8 s, .slice A l.length c], .agg #[.int .u8 s, .slice A' l.length c']] w fun e w' => e = .returned (.bool true) ∧ Below w.heap.size w w' := by
  have H := hid h; have H' := hid h'; clear h h'
  have hne : (s != s) = false := by simp
  go_enter Try.func13, Try.ntmps13
  go_wp2_with (go_at_call 39; refine (c_eqSpanS lo hi lo' hi' _ _ l hlen _ ((H.out.alloc _).alloc _).1 ((H'.out.alloc _).alloc _).1 ((H.out.alloc _).alloc _).2.2 ((H'.out.alloc _).alloc _).2.2).mono ?_; rintro e w2 ⟨rfl, hb2⟩)
  go_ret
  exact ⟨rfl, (((Below.refl _ w).alloc (Nat.le_refl _) _).alloc (by simp) _).trans (hb2.mono (by simp; omega))⟩
set_option maxRecDepth 100000 in
theorem c_markShape (lo hi : Nat) (s : Int) (A : Option Addr) (c : Nat) (l : List (Int × Int)) (hlen : l.length ≤ 1048576) (w : World) (h : OwT lo hi w (.slice A l.length c) l) :
    Calls Try.prog 14 #[.agg #[.int .u8 s, .slice A l.length c], .int .i64 1] w fun e w' => e = .returned (.int .i64 (1 + 2 * l.length)) ∧ Below lo w w' ∧ OutS lo hi w w' ∧ OwT lo hi w' (.slice A l.length c) (mkS l 1 l.length) := by
  have H := hid h; clear h
  go_enter Try.func14, Try.ntmps14
  go_wp2_with (go_at_call 40; go_loud (refine (c_markSpanS lo hi _ l 1 (by decide) hlen _ (H.out.alloc _).1 (H.out.alloc _).2.2 (Nat.le_trans H.out.2.1 (H.out.alloc _).2.2)).mono ?_; rintro e w2 ⟨rfl, hb2, hq2, ho2⟩))
  go_ret
  have h0 := H.out.2
  exact ⟨rfl, ((Below.refl _ w).alloc (by omega) _).trans hb2, (OutS.alloc w _).trans hq2, ho2, h0.1, by have := hb2.size; simp at this; omega⟩
end Go.Proofs.Ytgbihaliiogboaa

/- each over numbers: the program's, at a function value. -/
namespace Go.Proofs.Ytgbihaliiogboaa
open Go.RowKit
set_option linter.unusedSimpArgs false
set_option linter.unusedVariables false

theorem owns_below' {w w' : World} {base : Nat} {e : TypeId} {size : Nat} {v : Value} {n : Nat} {xs : List Value} (h : w.ownsRow base e size v n xs) (hb : Below w.heap.size w w') : w'.ownsRow base e size v n xs :=
  h.kept (row := none) ⟨hb.os, hb.tape, hb.output, hb.size, fun k hk _ => hb.block k hk⟩ (Classical.em _)
theorem cell_one_new' (W : World) (v : Value) (T : TypeId) : ∀ j u, [v][j]? = some u → (W.alloc (.cells #[v] T)).cell? ((⟨W.heap.size, 0, none⟩ : Addr).add j) = some u := fun j u hj => by
  match j, hj with
  | 0, hj =>
    obtain rfl : v = u := by simpa using hj
    have : (⟨W.heap.size, 0, none⟩ : Addr).add 0 = ⟨W.heap.size, 0, none⟩ := by simp [Addr.add]
    rw [this]; exact cell_block (block_new1 W _ rfl) rfl
/-- A function value that turns numbers into numbers, in all worlds above a world. -/
def TurnsI (g : Nat) (fst cap : Array Value) (f : Int → Int) (l : List Int) (w : World) : Prop :=
  ∀ (W : World) (n : Int), n ∈ l → Below w.heap.size w W → Calls Try.prog g (fst ++ #[.int .i64 n] ++ cap) W fun e w' => e = .returned (.int .i64 (f n)) ∧ Below W.heap.size W w'
end Go.Proofs.Ytgbihaliiogboaa

/- each over spans: the program's, at a function value. -/
namespace Go.Proofs.Ytgbihaliiogboaa
open Go.RowKit
set_option linter.unusedSimpArgs false
set_option linter.unusedVariables false

theorem cell_two_new' (W : World) (a b : Value) (T : TypeId) : ∀ j u, [a, b][j]? = some u → (W.alloc (.cells #[a, b] T)).cell? ((⟨W.heap.size, 0, none⟩ : Addr).add j) = some u := fun j u hj => by
  match j, hj with
  | 0, hj =>
    obtain rfl : a = u := by simpa using hj
    have : (⟨W.heap.size, 0, none⟩ : Addr).add 0 = ⟨W.heap.size, 0, none⟩ := by simp [Addr.add]
    rw [this]; exact cell_block (block_new1 W _ rfl) rfl
  | 1, hj =>
    obtain rfl : b = u := by simpa using hj
    have : (⟨W.heap.size, 0, none⟩ : Addr).add 1 = ⟨W.heap.size, 1, none⟩ := by simp [Addr.add]
    rw [this]; exact cell_block (block_new1 W _ rfl) rfl
/-- A function value that turns the spans of a list, in all worlds above a world. -/
def TurnsSI (g : Nat) (fst cap : Array Value) (f : Int × Int → Int) (l : List (Int × Int)) (w : World) : Prop :=
  ∀ (W : World) (p : Int × Int), p ∈ l → Below w.heap.size w W → Calls Try.prog g (fst ++ #[.agg #[.int .i16 p.1, .int .i16 p.2]] ++ cap) W fun e w' => e = .returned (.int .i64 (f p)) ∧ Below W.heap.size W w'
/-- A function value that turns the spans of a list, in all worlds above a world. -/
def TurnsSS (g : Nat) (fst cap : Array Value) (f : Int × Int → Int × Int) (l : List (Int × Int)) (w : World) : Prop :=
  ∀ (W : World) (p : Int × Int), p ∈ l → Below w.heap.size w W → Calls Try.prog g (fst ++ #[.agg #[.int .i16 p.1, .int .i16 p.2]] ++ cap) W fun e w' => e = .returned (.agg #[.int .i16 (f p).1, .int .i16 (f p).2]) ∧ Below W.heap.size W w'
end Go.Proofs.Ytgbihaliiogboaa

/- areAll over spans, at a function value. -/
namespace Go.Proofs.Ytgbihaliiogboaa
open Go.RowKit
set_option linter.unusedSimpArgs false
set_option linter.unusedVariables false

/-- A function value that tells of the spans of a list, in all worlds above a world. -/
def TellsS (g : Nat) (fst cap : Array Value) (f : Int × Int → Bool) (l : List (Int × Int)) (w : World) : Prop :=
  ∀ (W : World) (p : Int × Int), p ∈ l → Below w.heap.size w W → Calls Try.prog g (fst ++ #[.agg #[.int .i16 p.1, .int .i16 p.2]] ++ cap) W fun e w' => e = .returned (.bool (f p)) ∧ Below W.heap.size W w'
set_option maxRecDepth 100000 in
theorem c_indexFS (g : Nat) (fst cap : Array Value) (eg : ∀ args w, (callFunc g args).run Try.prog w = .ok (.enter g args) w) (f : Int × Int → Bool) (A : Option Addr) (cc : Nat) (l : List (Int × Int)) (hlen : l.length ≤ 1048576) (w : World) (hA : PairsAt .i16 .i16 w A l) (hf : TellsS g fst cap f l w) :
    Calls Try.prog 89 #[.slice A l.length cc, .func (.func g) fst cap] w fun e w' => ∃ n : Int, e = .returned (.int .i64 n) ∧ Below w.heap.size w w' ∧ decide (n ≥ 0) = l.any f := by
  have HA := hid hA; clear hA
  have HF := hid hf; clear hf
  go_enter Try.func89, Try.ntmps89
  go_wp2_with fail
  go_loopw [8] (fun i wr => ∃ k : Nat, k ≤ l.length ∧ i = .int .i64 k ∧ Hid (Below w.heap.size w wr) ∧ Hid ((l.take k).any f = false)) (fun i _ => l.length - (intOf i).toNat)
  case atStart => exact ⟨0, by omega, rfl, Below.refl _ _, by simp [Hid]⟩
  case round =>
    obtain ⟨k, hk, rfl, hb, hno⟩ := hrel
    by_cases hkl : k < l.length
    · have hd : decide ((k : Int) < (l.length : Int)) = true := decide_eq_true (by omega)
      have hkI : (k : Int) < (l.length : Int) := by omega
      have hk0 : (0 : Int) ≤ (k : Int) := by omega
      have hp := List.getElem?_eq_getElem hkl
      obtain ⟨⟨p1, p2⟩, hpp⟩ : ∃ p, p = l[k] := ⟨_, rfl⟩
      rw [← hpp] at hp
      have HM : Hid ((p1, p2) ∈ l) := by rw [hpp]; exact List.getElem_mem hkl
      have HTk : Hid ((l.take (k + 1)).any f = f (p1, p2)) := by
        show _ = _
        rw [List.take_succ_eq_append_getElem hkl, List.any_append, hno.out, ← hpp]; simp
      obtain ⟨b, off, rfl, r1, r2, r3⟩ := HA.out k _ hp
      have c0 := (hb.out.cell (p := ⟨b, _, none⟩) r1).trans r2
      have c1 := (hb.out.cell (p := ⟨b, _, none⟩) r1).trans r3
      dsimp only at c0 c1
      have HC := hid (HF.out wr (p1, p2) HM.out hb.out)
      clear hp hpp r2 r3
      cases hq : f (p1, p2) with
      | true =>
        have HQ := hid hq; clear hq
        have hcall := HC.out
        rw [HQ.out] at hcall
        have HC' := hid hcall
        clear hcall HC
        go_wp2_with (go_at_fn g; refine HC'.out.mono ?_; rintro e w2 ⟨rfl, hb2⟩)
        go_ret
        refine ⟨_, rfl, hb.out.trans (hb2.mono hb.out.size), ?_⟩
        have h1 : l.any f = true := List.any_eq_true.2 ⟨_, HM.out, HQ.out⟩
        rw [h1]; exact decide_eq_true (by omega)
      | false =>
        have HQ := hid hq; clear hq
        have hcall := HC.out
        rw [HQ.out] at hcall
        have HC' := hid hcall
        clear hcall HC
        go_wp2_with (go_at_fn g; refine HC'.out.mono ?_; rintro e w2 ⟨rfl, hb2⟩)
        exact ⟨⟨k + 1, by omega, by go_num, hb.out.trans (hb2.mono hb.out.size), HTk.out.trans HQ.out⟩, by simp [intOf]; omega⟩
    · obtain rfl : k = l.length := by omega
      have hd : decide ((l.length : Int) < (l.length : Int)) = false := decide_eq_false (by omega)
      rw [List.take_length] at hno
      go_wp2_with fail
      go_ret
      exact ⟨_, rfl, hb.out, by rw [hno.out]; rfl⟩
set_option maxRecDepth 100000 in
theorem c_containsFS (g : Nat) (fst cap : Array Value) (eg : ∀ args w, (callFunc g args).run Try.prog w = .ok (.enter g args) w) (f : Int × Int → Bool) (A : Option Addr) (cc : Nat) (l : List (Int × Int)) (hlen : l.length ≤ 1048576) (w : World) (hA : PairsAt .i16 .i16 w A l) (hf : TellsS g fst cap f l w) :
    Calls Try.prog 78 #[.slice A l.length cc, .func (.func g) fst cap] w fun e w' => e = .returned (.bool (l.any f)) ∧ Below w.heap.size w w' := by
  have HC := hid (c_indexFS g fst cap eg f A cc l hlen w hA hf); clear hA hf
  go_enter Try.func78, Try.ntmps78
  go_wp2_with (go_at_call 89; refine HC.out.mono ?_; rintro e w1 ⟨n, rfl, hb1, hn⟩; have HN := hid hn; clear hn)
  all_goals
    go_ret
    exact ⟨ret_bool HN.out, hb1⟩
set_option maxRecDepth 100000 in
theorem c_areAllClo (g : Nat) (fst cap : Array Value) (eg : ∀ args w, (callFunc g args).run Try.prog w = .ok (.enter g args) w) (f : Int × Int → Bool) (l : List (Int × Int)) (p : Int × Int) (hp : p ∈ l) (bx : Nat) (w : World) (hb : w.heap[bx]? = some (.cells #[.func (.func g) fst cap] 88 (0, 0))) (hf : TellsS g fst cap f l w) :
    Calls Try.prog 79 #[.agg #[.int .i16 p.1, .int .i16 p.2], .pointer (some ⟨bx, 0, none⟩)] w fun e w' => e = .returned (.bool (!f p)) ∧ Below w.heap.size w w' := by
  obtain ⟨p1, p2⟩ := p
  have k0 : (w.alloc (.cells #[.int .i16 p1, .int .i16 p2] 82)).cell? ⟨bx, 0, none⟩ = some (.func (.func g) fst cap) := cell_block (block_alloc hb _) rfl
  have HC := hid (hf (w.alloc (.cells #[.int .i16 p1, .int .i16 p2] 82)) (p1, p2) hp ((Below.refl _ w).alloc (Nat.le_refl _) _))
  clear hb hf hp
  go_enter Try.func79, Try.ntmps79
  go_wp2_with (go_at_fn g; refine HC.out.mono ?_; rintro e w2 ⟨rfl, hb2⟩)
  go_ret
  exact ⟨rfl, ((Below.refl _ w).alloc (Nat.le_refl _) _).trans (hb2.mono (by simp))⟩
set_option maxRecDepth 100000 in
theorem c_areAllS (g : Nat) (fst cap : Array Value) (eg : ∀ args w, (callFunc g args).run Try.prog w = .ok (.enter g args) w) (f : Int × Int → Bool) (A : Option Addr) (cc : Nat) (l : List (Int × Int)) (hlen : l.length ≤ 1048576) (w : World) (hA : PairsAt .i16 .i16 w A l) (hf : TellsS g fst cap f l w) :
    Calls Try.prog 59 #[.slice A l.length cc, .func (.func g) fst cap] w fun e w' => e = .returned (.bool (l.all f)) ∧ Below w.heap.size w w' := by
  have B0 : Below w.heap.size w (w.alloc (.cells #[.func (.func g) fst cap] 88)) := (Below.refl _ w).alloc (Nat.le_refl _) _
  have HX := hid (block_new1 w (.cells #[.func (.func g) fst cap] 88) rfl)
  have HT : Hid (TellsS 79 #[] #[.pointer (some ⟨w.heap.size, 0, none⟩)] (fun p => !f p) l (w.alloc (.cells #[.func (.func g) fst cap] 88))) := by
    intro W p hp hb
    refine c_areAllClo g fst cap eg f l p hp _ W (block_below hb HX.out (by simp)) ?_
    intro W2 q hq hb2
    exact hf W2 q hq (B0.trans (hb.trans (hb2.mono hb.size) |>.mono (by simp)))
  have HC := hid (c_containsFS 79 #[] _ (enters_of Try.func79 (by kernel_rfl) rfl) _ A cc l hlen _ (hA.below B0 (Nat.le_refl _)) HT.out)
  clear hA hf HT
  go_enter Try.func59, Try.ntmps59
  go_wp2_with (go_at_call 78; ((with_reducible refine HC.out.mono ?_); rintro e w1 ⟨rfl, hb1⟩))
  go_ret
  refine ⟨ret_bool ?_, B0.trans (hb1.mono (by simp))⟩
  rw [List.all_eq_not_any_not]
end Go.Proofs.Ytgbihaliiogboaa

/- Valid shapes: the program's and the reference's. -/
namespace Go.Proofs.Ytgbihaliiogboaa
open Go.RowKit
set_option linter.unusedSimpArgs false
set_option linter.unusedVariables false

def spOk (p : Int × Int) : Bool := decide (0 ≤ p.1) && (decide (p.1 < p.2) && decide (p.2 ≤ 200))
def shOk (s : Int) (l : List (Int × Int)) : Bool := decide (s ≤ 1) && (inB l.length 1 12 && l.all spOk)
/-- The numbers of spans are of their kinds. -/
def SpB (l : List (Int × Int)) : Prop := ∀ p ∈ l, (-32768 ≤ p.1 ∧ p.1 ≤ 32767) ∧ (-32768 ≤ p.2 ∧ p.2 ≤ 32767)
set_option maxRecDepth 100000 in
theorem c_ValidShapeClo (p : Int × Int) (w : World) : Calls Try.prog 60 #[.agg #[.int .i16 p.1, .int .i16 p.2]] w fun e w' => e = .returned (.bool (spOk p)) ∧ Below w.heap.size w w' := by
  obtain ⟨p1, p2⟩ := p
  have key : ∀ g : Bool, spOk (p1, p2) = g → Calls Try.prog 60 #[.agg #[.int .i16 p1, .int .i16 p2]] w fun e w' => e = .returned (.bool g) ∧ Below w.heap.size w w' := by
    intro g hg
    unfold spOk at hg
    dsimp only at hg
    by_cases h1 : 0 ≤ p1
    · have d1 : decide (0 ≤ p1) = true := decide_eq_true h1
      rw [d1, Bool.true_and] at hg
      by_cases h2 : p1 < p2
      · have d2 : decide (p1 < p2) = true := decide_eq_true h2
        rw [d2, Bool.true_and] at hg
        have HG := hid hg; clear hg
        go_enter Try.func60, Try.ntmps60
        go_wp2_with fail
        go_ret
        exact ⟨ret_bool HG.out, (Below.refl _ w).alloc (Nat.le_refl _) _⟩
      · have d2 : decide (p1 < p2) = false := decide_eq_false h2
        rw [d2, Bool.false_and] at hg
        subst hg
        go_enter Try.func60, Try.ntmps60
        go_wp2_with fail
        go_ret
        exact ⟨rfl, (Below.refl _ w).alloc (Nat.le_refl _) _⟩
    · have d1 : decide (0 ≤ p1) = false := decide_eq_false h1
      rw [d1, Bool.false_and] at hg
      subst hg
      go_enter Try.func60, Try.ntmps60
      go_wp2_with fail
      go_ret
      exact ⟨rfl, (Below.refl _ w).alloc (Nat.le_refl _) _⟩
  exact key _ rfl
set_option maxRecDepth 100000 in
theorem c_ValidShape (s : Int) (A : Option Addr) (c : Nat) (l : List (Int × Int)) (hlen : l.length ≤ 1048576) (w : World) (hA : PairsAt .i16 .i16 w A l) :
    Calls Try.prog 35 #[.agg #[.int .u8 s, .slice A l.length c]] w fun e w' => e = .returned (.bool (shOk s l)) ∧ Below w.heap.size w w' := by
  have B0 : Below w.heap.size w (w.alloc (.cells #[.int .u8 s, .slice A l.length c] 31)) := (Below.refl _ w).alloc (Nat.le_refl _) _
  have HC := hid (c_areAllS 60 #[] #[] (enters_of Try.func60 (by kernel_rfl) rfl) spOk A c l hlen _ (hA.below B0 (Nat.le_refl _)) (fun W p _ _ => c_ValidShapeClo p W))
  clear hA
  have key : ∀ g : Bool, shOk s l = g → Calls Try.prog 35 #[.agg #[.int .u8 s, .slice A l.length c]] w fun e w' => e = .returned (.bool g) ∧ Below w.heap.size w w' := by
    intro g hg
    unfold shOk at hg
    by_cases h1 : s ≤ 1
    · have d1 : decide (s ≤ 1) = true := decide_eq_true h1
      rw [d1, Bool.true_and] at hg
      cases h2 : inB l.length 1 12 with
      | true =>
        rw [h2, Bool.true_and] at hg
        have HG := hid hg; clear hg
        have H2 := hid h2; clear h2
        go_enter Try.func35, Try.ntmps35
        go_wp2_with (first
          | (go_at_call 58; (with_reducible refine (c_withinI _ _ _ _ _ H2.out).mono ?_); rintro e w1 ⟨rfl, rfl⟩)
          | (go_at_call 59; ((with_reducible refine HC.out.mono ?_); rintro e w1 ⟨rfl, hb1⟩)))
        go_ret
        exact ⟨ret_bool HG.out, B0.trans (hb1.mono (by simp))⟩
      | false =>
        rw [h2, Bool.false_and] at hg
        subst hg
        have H2 := hid h2; clear h2
        go_enter Try.func35, Try.ntmps35
        go_wp2_with (go_at_call 58; (with_reducible refine (c_withinI _ _ _ _ _ H2.out).mono ?_); rintro e w1 ⟨rfl, rfl⟩)
        go_ret
        exact ⟨rfl, B0⟩
    · have d1 : decide (s ≤ 1) = false := decide_eq_false h1
      rw [d1, Bool.false_and] at hg
      subst hg
      go_enter Try.func35, Try.ntmps35
      go_wp2_with fail
      go_ret
      exact ⟨rfl, B0⟩
  exact key _ rfl
set_option maxHeartbeats 800000 in
set_option maxRecDepth 100000 in
theorem c_l05Ok (s : Int) (A : Option Addr) (c : Nat) (l : List (Int × Int)) (hlen : l.length ≤ 1048576) (bs : Nat) (w : World) (hs : w.heap[bs]? = some (.cells #[.int .u8 s, .slice A l.length c] 31 (0, 0))) (hA : PairsAt .i16 .i16 w A l) :
    Calls Try.prog 31 #[.pointer (some ⟨bs, 0, none⟩)] w fun e w' => e = .returned (.bool (shOk s l)) ∧ Below w.heap.size w w' := by
  have HA := hid hA; clear hA
  have HS := hid hs; clear hs
  have LS := hid (block_lt HS.out)
  go_enter Try.func31, Try.ntmps31
  go_wp2_with fail
  go_loopw [3] (fun i wr => ∃ k : Nat, k ≤ l.length ∧ i = .int .i64 k ∧ Hid (Below w.heap.size w wr) ∧ Hid ((l.take k).all spOk = true)) (fun i _ => l.length - (intOf i).toNat)
  case atStart => exact ⟨0, by omega, rfl, Below.refl _ _, by simp [Hid]⟩
  case round =>
    obtain ⟨k, hk, rfl, hb, hno⟩ := hrel
    have HSw := hid (block_below hb.out HS.out LS.out)
    have m0 := cell_block HSw.out (j := 0) rfl
    have m1 := cell_block HSw.out (j := 1) rfl
    by_cases hkl : k < l.length
    · have hd : decide ((k : Int) < (l.length : Int)) = true := decide_eq_true (by omega)
      have hkI : (k : Int) < (l.length : Int) := by omega
      have hk0 : (0 : Int) ≤ (k : Int) := by omega
      have hp := List.getElem?_eq_getElem hkl
      obtain ⟨⟨p1, p2⟩, hpp⟩ : ∃ p, p = l[k] := ⟨_, rfl⟩
      rw [← hpp] at hp
      have HM : Hid ((p1, p2) ∈ l) := by rw [hpp]; exact List.getElem_mem hkl
      have HTk : Hid ((l.take (k + 1)).all spOk = spOk (p1, p2)) := by
        show _ = _
        rw [List.take_succ_eq_append_getElem hkl, List.all_append, hno.out, ← hpp]; simp
      obtain ⟨b, off, rfl, r1, r2, r3⟩ := HA.out k _ hp
      have c0 := (hb.out.cell (p := ⟨b, _, none⟩) r1).trans r2
      have c1 := (hb.out.cell (p := ⟨b, _, none⟩) r1).trans r3
      dsimp only at c0 c1
      have lb : b < wr.heap.size := Nat.lt_of_lt_of_le r1 hb.out.size
      clear hp hpp r2 r3
      have HX : Hid (spOk (p1, p2) = (decide (0 ≤ p1) && (decide (p1 < p2) && decide (p2 ≤ 200)))) := rfl
      by_cases h1 : 0 ≤ p1
      · have d1 : decide (p1 < 0) = false := decide_eq_false (by omega)
        by_cases h2 : p1 < p2
        · have d2 : decide (p1 ≥ p2) = false := decide_eq_false (by omega)
          by_cases h3 : p2 ≤ 200
          · have d3 : decide (p2 > 200) = false := decide_eq_false (by omega)
            go_wp2_with fail
            exact ⟨⟨k + 1, by omega, by go_num, hb.out.alloc hb.out.size _, HTk.out.trans (by rw [HX.out]; simp [h1, h2, h3])⟩, by simp [intOf]; omega⟩
          · have d3 : decide (p2 > 200) = true := decide_eq_true (by omega)
            go_wp2_with fail
            go_ret
            refine ⟨ret_bool ?_, hb.out.alloc hb.out.size _⟩
            have : l.all spOk = false := by
              rw [← Bool.not_eq_true, List.all_eq_true]; intro h
              have := h _ HM.out; rw [HX.out] at this; simp at this; omega
            simp [shOk, this]
        · have d2 : decide (p1 ≥ p2) = true := decide_eq_true (by omega)
          go_wp2_with fail
          go_ret
          refine ⟨ret_bool ?_, hb.out.alloc hb.out.size _⟩
          have : l.all spOk = false := by
            rw [← Bool.not_eq_true, List.all_eq_true]; intro h
            have := h _ HM.out; rw [HX.out] at this; simp at this; omega
          simp [shOk, this]
      · have d1 : decide (p1 < 0) = true := decide_eq_true (by omega)
        go_wp2_with fail
        go_ret
        refine ⟨ret_bool ?_, hb.out.alloc hb.out.size _⟩
        have : l.all spOk = false := by
          rw [← Bool.not_eq_true, List.all_eq_true]; intro h
          have := h _ HM.out; rw [HX.out] at this; simp at this; omega
        simp [shOk, this]
    · obtain rfl : k = l.length := by omega
      have hd : decide ((l.length : Int) < (l.length : Int)) = false := decide_eq_false (by omega)
      rw [List.take_length] at hno
      have HZ : Hid (shOk s l = (inB l.length 1 12 && decide (s ≤ 1))) := by show _ = _; unfold shOk; rw [hno.out, Bool.and_true, Bool.and_comm]
      cases h2 : inB l.length 1 12 with
      | true =>
        rw [h2, Bool.true_and] at HZ
        have H2 := hid h2; clear h2
        go_wp2_with (go_at_call 32; (with_reducible refine (c_l00In _ _ _ _ _ H2.out).mono ?_); rintro e w1 ⟨rfl, rfl⟩)
        go_ret
        exact ⟨ret_bool HZ.out.symm, hb.out⟩
      | false =>
        rw [h2, Bool.false_and] at HZ
        have H2 := hid h2; clear h2
        go_wp2_with (go_at_call 32; (with_reducible refine (c_l00In _ _ _ _ _ H2.out).mono ?_); rintro e w1 ⟨rfl, rfl⟩)
        go_ret
        exact ⟨ret_bool HZ.out.symm, hb.out⟩
end Go.Proofs.Ytgbihaliiogboaa

/- Units of a shape: the program's and the reference's. -/
namespace Go.Proofs.Ytgbihaliiogboaa
open Go.RowKit
set_option linter.unusedSimpArgs false
set_option linter.unusedVariables false

theorem sli_own {w : World} {base : Nat} {v : Value} {l : List Int} (h : w.ownsRow base 2 1 v l.length (icells l)) : ∃ A c, v = .slice A l.length c ∧ SlI w A l := by
  obtain ⟨A, c, rfl⟩ := owns_slice' h
  refine ⟨A, c, rfl, fun j n hj => ?_⟩
  obtain ⟨b, c', e, _, _, h1, h2, _⟩ := (OwI.of_owns h).cells hj
  obtain ⟨rfl, _⟩ : A = some ⟨b, 0, none⟩ ∧ c = c' := by simpa using e
  exact ⟨b, 0, rfl, h1, by rw [Nat.zero_add]; exact h2⟩
theorem sum_le (l : List Int) (M : Int) (hM : 0 ≤ M) (h : ∀ n ∈ l, 0 ≤ n ∧ n ≤ M) : 0 ≤ l.sum ∧ l.sum ≤ M * l.length := by
  induction l with
  | nil => simp
  | cons a l ih =>
    have h1 := ih fun n hn => h n (List.mem_cons_of_mem _ hn)
    have h2 := h a List.mem_cons_self
    rw [List.sum_cons, List.length_cons, Int.natCast_succ, Int.mul_add, Int.mul_one]
    omega
theorem sum_take_succ (l : List Int) (k : Nat) (hk : k < l.length) : (l.take (k + 1)).sum = (l.take k).sum + l[k] := by
  rw [List.take_succ_eq_append_getElem hk, List.sum_append]; simp
def unitsL (l : List (Int × Int)) : Int := (l.map fun p => p.2 - p.1).sum
theorem spOk_iff (p : Int × Int) : spOk p = true ↔ 0 ≤ p.1 ∧ p.1 < p.2 ∧ p.2 ≤ 200 := by simp [spOk]
theorem shOk_all {s : Int} {l : List (Int × Int)} (h : shOk s l = true) : (∀ p ∈ l, 0 ≤ p.1 ∧ p.1 < p.2 ∧ p.2 ≤ 200) ∧ 1 ≤ l.length ∧ l.length ≤ 12 ∧ s ≤ 1 := by
  unfold shOk at h
  simp only [Bool.and_eq_true, decide_eq_true_eq] at h
  refine ⟨fun p hp => (spOk_iff p).1 (List.all_eq_true.1 h.2.2 p hp), ?_⟩
  have := inB_iff.1 h.2.1
  omega
/-- A result of two numbers. -/
def Ret2 (w : World) (n k : Int) (e : Ending) (w' : World) : Prop := e = .returned (.tuple #[.int .i64 n, .int .i64 k]) ∧ Below w.heap.size w w'
def unitsN (s : Int) (l : List (Int × Int)) : Int := if shOk s l = true then unitsL l else 0
def unitsC (s : Int) (l : List (Int × Int)) : Int := if shOk s l = true then 0 else 1
end Go.Proofs.Ytgbihaliiogboaa

/- The pieces of a course and how many tiles are laid whole: the program's and the reference's. -/
namespace Go.Proofs.Ytgbihaliiogboaa
open Go.RowKit
set_option linter.unusedSimpArgs false
set_option linter.unusedVariables false

/-- The piece that a tile from b on is cut to, if it is cut. -/
def pieceAt (L R b : Int) : Option (Int × Int) := if b + 8 ≤ L then none else if L ≤ b ∧ b + 8 ≤ R then none else if b < L ∧ ¬ b + 8 ≤ R then some (2, R - L) else if b < L then some (1, b + 8 - L) else some (0, R - b)
def wholeAt (L R b : Int) : Bool := decide (L ≤ b ∧ b + 8 ≤ R)
theorem pieceAt_none {L R b : Int} (h1 : b + 8 ≤ L) : pieceAt L R b = none := by unfold pieceAt; rw [if_pos h1]
theorem pieceAt_whole {L R b : Int} (h2 : L ≤ b) (h3 : b + 8 ≤ R) : pieceAt L R b = none := by unfold pieceAt; rw [if_neg (by omega), if_pos ⟨h2, h3⟩]
theorem pieceAt_left {L R b : Int} (h1 : ¬ b + 8 ≤ L) (h2 : L ≤ b) (h3 : ¬ b + 8 ≤ R) : pieceAt L R b = some (0, R - b) := by unfold pieceAt; rw [if_neg h1, if_neg (by omega), if_neg (by omega), if_neg (by omega)]
theorem pieceAt_mid {L R b : Int} (h1 : ¬ b + 8 ≤ L) (h2 : ¬ L ≤ b) (h3 : ¬ b + 8 ≤ R) : pieceAt L R b = some (2, R - L) := by unfold pieceAt; rw [if_neg h1, if_neg (by omega), if_pos ⟨by omega, h3⟩]
theorem pieceAt_right {L R b : Int} (h1 : ¬ b + 8 ≤ L) (h2 : ¬ L ≤ b) (h3 : b + 8 ≤ R) : pieceAt L R b = some (1, b + 8 - L) := by unfold pieceAt; rw [if_neg h1, if_neg (by omega), if_neg (by omega), if_pos (by omega)]
theorem wholeAt_no1 {L R b : Int} (h : b + 8 ≤ L) : wholeAt L R b = false := decide_eq_false (by omega)
theorem wholeAt_no2 {L R b : Int} (h : ¬ L ≤ b) : wholeAt L R b = false := decide_eq_false (by omega)
theorem wholeAt_no3 {L R b : Int} (h : ¬ b + 8 ≤ R) : wholeAt L R b = false := decide_eq_false (by omega)
theorem wholeAt_yes {L R b : Int} (h2 : L ≤ b) (h3 : b + 8 ≤ R) : wholeAt L R b = true := decide_eq_true ⟨h2, h3⟩
/-- The pieces of the first k tiles, and how many of these are whole; the first one begins at B - 8. -/
def laidP (L R B : Int) (k : Nat) : List (Int × Int) := (List.range k).filterMap fun i : Nat => pieceAt L R (B - 8 + 8 * (i : Int))
def laidW (L R B : Int) (k : Nat) : Int := (((List.range k).filter fun i : Nat => wholeAt L R (B - 8 + 8 * (i : Int))).length : Int)
/-- How many tiles there are. -/
def laidN (R B : Int) : Nat := ((R - B + 15) / 8).toNat
theorem laidN_lt {R B : Int} (hB : 0 ≤ B ∧ B ≤ 4) (hR : 0 < R) (k : Nat) : k < laidN R B ↔ B - 8 + 8 * (k : Int) < R := by unfold laidN; omega
theorem laidP_none (L R B : Int) (k : Nat) (h : pieceAt L R (B - 8 + 8 * (k : Int)) = none) : laidP L R B (k + 1) = laidP L R B k := by
  unfold laidP; rw [List.range_succ, List.filterMap_append]; simp [h]
theorem laidP_some (L R B : Int) (k : Nat) (p : Int × Int) (h : pieceAt L R (B - 8 + 8 * (k : Int)) = some p) : laidP L R B (k + 1) = laidP L R B k ++ [p] := by
  unfold laidP; rw [List.range_succ, List.filterMap_append]; simp [h]
theorem laidW_no (L R B : Int) (k : Nat) (h : wholeAt L R (B - 8 + 8 * (k : Int)) = false) : laidW L R B (k + 1) = laidW L R B k := by
  unfold laidW; rw [List.range_succ, List.filter_append]; simp [h]
theorem laidW_yes (L R B : Int) (k : Nat) (h : wholeAt L R (B - 8 + 8 * (k : Int)) = true) : laidW L R B (k + 1) = laidW L R B k + 1 := by
  unfold laidW; rw [List.range_succ, List.filter_append]; simp [h]
theorem laidP_len (L R B : Int) (k : Nat) : (laidP L R B k).length ≤ k := by
  unfold laidP; exact Nat.le_trans (List.length_filterMap_le _ _) (by simp)
theorem laidW_le (L R B : Int) (k : Nat) : 0 ≤ laidW L R B k ∧ laidW L R B k ≤ k := by
  unfold laidW
  have := List.length_filter_le (fun i : Nat => wholeAt L R (B - 8 + 8 * (i : Int))) (List.range k)
  rw [List.length_range] at this
  omega
theorem Try.infoPiece : (Try.prog.info? 64).map (fun i => (i.zero, i.size, i.bytes)) = some (some (.agg #[.int .i8 0, .int .i8 0]), 2, 2) := by kernel_rfl
/-- Where the first tile of a course begins, and 8 more. -/
def beginB (s course : Int) : Int := (course + s) % 2 * 4
theorem beginB_04 (s course : Int) : 0 ≤ beginB s course ∧ beginB s course ≤ 4 := by unfold beginB; omega
set_option maxHeartbeats 3200000 in
set_option maxRecDepth 100000 in
theorem c_laid (s : Int) (hs : 0 ≤ s ∧ s ≤ 1) (A : Option Addr) (c : Nat) (l : List (Int × Int)) (course : Nat) (L R : Int) (hc : l[course]? = some (L, R)) (hLR : 0 ≤ L ∧ L < R ∧ R ≤ 200) (hlen : l.length ≤ 1048576) (w : World) (hA : PairsAt .i16 .i16 w A l) :
    Calls Try.prog 37 #[.agg #[.int .u8 s, .slice A l.length c], .int .i64 course] w fun e w' => ∃ v, e = .returned (.tuple #[.int .i64 (laidW L R (beginB s course) (laidN R (beginB s course))), v]) ∧ Below w.heap.size w w' ∧ w'.ownsRow w.heap.size 64 2 v (laidP L R (beginB s course) (laidN R (beginB s course))).length (ccells (laidP L R (beginB s course) (laidN R (beginB s course)))) := by
  obtain ⟨i0, hi, hz0, hz1, hz2⟩ := info_parts Try.infoPiece
  have hcl := (List.getElem?_eq_some_iff.1 hc).1
  obtain ⟨ba, off, rfl, r1, r2, r3⟩ := hA course _ hc
  dsimp only at r2 r3
  obtain ⟨B, hB⟩ : ∃ B, B = beginB s course := ⟨_, rfl⟩
  have hB4 : 0 ≤ B ∧ B ≤ 4 := by rw [hB]; exact beginB_04 _ _
  rw [← hB]
  have hBe : (((course : Int) + s) % 2) * 4 = B := by rw [hB]; rfl
  obtain ⟨N, hN⟩ : ∃ N, N = laidN R B := ⟨_, rfl⟩
  have HNlt : Hid (∀ k : Nat, k < N ↔ B - 8 + 8 * (k : Int) < R) := by intro k; rw [hN]; exact laidN_lt hB4 (by omega) k
  have HM : Hid ((N : Int) ≤ 30) := by have : N = laidN R B := hN; unfold laidN at this; show (N : Int) ≤ 30; omega
  have B0 : Below w.heap.size w (w.alloc (.cells #[.int .u8 s, .slice (some ⟨ba, off, none⟩) l.length c] 31)) := (Below.refl _ w).alloc (Nat.le_refl _) _
  have k2 := (B0.cell (p := ⟨ba, _, none⟩) r1).trans r2
  have k3 := (B0.cell (p := ⟨ba, _, none⟩) r1).trans r3
  have hcI : (course : Int) < (l.length : Int) := by omega
  have hc0 : (0 : Int) ≤ (course : Int) := by omega
  have hs8 : 0 ≤ (course : Int) + s ∧ (course : Int) + s ≤ 2000000 := by omega
  have HW0 : Hid (Below w.heap.size w ((w.alloc (.cells #[.int .u8 s, .slice (some ⟨ba, off, none⟩) l.length c] 31)).alloc (.cells #[.int .i16 L, .int .i16 R] 82))) := B0.alloc (by simp) _
  have HC0 := hid (block_new1 (w.alloc (.cells #[.int .u8 s, .slice (some ⟨ba, off, none⟩) l.length c] 31)) (.cells #[.int .i16 L, .int .i16 R] 82) (n := w.heap.size + 1) (by simp))
  rw [← hN]
  clear hN hB hA hc r2 r3
  go_enter Try.func37, Try.ntmps37
  go_wp2_with fail
  clear k2 k3
  obtain ⟨W1, hW1⟩ : ∃ W1, W1 = (w.alloc (.cells #[.int .u8 s, .slice (some ⟨ba, off, none⟩) l.length c] 31)).alloc (.cells #[.int .i16 L, .int .i16 R] 82) := ⟨_, rfl⟩
  rw [← hW1] at HW0 HC0 ⊢
  clear hW1
  have HC1 := hid (block_lt HC0.out)
  trace_state
  go_loopw [8, 9, 10] (fun q v i wr => ∃ k : Nat, k ≤ N ∧ q = .int .i64 (laidW L R B k) ∧ i = .int .i16 (B - 8 + 8 * (k : Int)) ∧ Hid (Below W1.heap.size W1 wr) ∧ Hid (wr.ownsRow W1.heap.size 64 2 v (laidP L R B k).length (ccells (laidP L R B k)))) (fun _ _ i _ => (R + 8 - intOf i).toNat)
  case atStart => exact ⟨0, by omega, by simp [laidW], by simp, Below.refl _ _, World.ownsRow_nil _ _ _ _⟩
  case round =>
    obtain ⟨k, hk, rfl, rfl, hb, hO⟩ := hrel
    have HCw := hid (block_below hb.out HC0.out HC1.out)
    have c0 := cell_block HCw.out (j := 0) rfl
    have c1 := cell_block HCw.out (j := 1) rfl
    have hM := HM.out
    obtain ⟨b, hbk⟩ : ∃ b : Int, b = B - 8 + 8 * (k : Int) := ⟨_, rfl⟩
    rw [← hbk]
    have HBk := hid hbk
    have hwl := laidW_le L R B k
    obtain ⟨q, hq⟩ : ∃ q, q = laidW L R B k := ⟨_, rfl⟩
    have HWq := hid hq
    rw [← hq] at hwl ⊢
    have hbb : -8 ≤ b ∧ b ≤ 240 := by omega
    by_cases hkN : k < N
    · have hbR : b < R := by rw [hbk]; exact (HNlt.out k).1 hkN
      have HLE : Hid ((laidP L R B k).length ≤ 1000) := Nat.le_trans (laidP_len L R B k) (by omega)
      have HBS := hid hb.out.size
      clear hq
      by_cases h1 : b + 8 ≤ L
      · have HPn := hid (laidP_none L R B k (by rw [← hbk]; exact pieceAt_none h1)); have HWn := hid (laidW_no L R B k (by rw [← hbk]; exact wholeAt_no1 h1))
        have d1 : decide (b + 8 ≤ L) = true := decide_eq_true h1
        clear hbk
        go_wp2_with fail
        exact ⟨⟨k + 1, by omega, congrArg (Value.int .i64) (by rw [HWn.out, HWq.out]), congrArg (Value.int .i16) (by rw [HBk.out]; omega), hb, by show World.ownsRow _ _ _ _ _ _ _; rw [HPn.out]; exact hO.out⟩, by have := HM.out; have := HBk.out; simp [intOf]; omega⟩
      · by_cases h2 : L ≤ b
        · by_cases h3 : b + 8 ≤ R
          · have HPn := hid (laidP_none L R B k (by rw [← hbk]; exact pieceAt_whole h2 h3)); have HWn := hid (laidW_yes L R B k (by rw [← hbk]; exact wholeAt_yes h2 h3))
            have d1 : decide (b + 8 ≤ L) = false := decide_eq_false h1; have d2 : decide (b ≥ L) = true := decide_eq_true h2; have d3 : decide (b + 8 ≤ R) = true := decide_eq_true h3
            clear hbk
            go_wp2_with fail
            exact ⟨⟨k + 1, by omega, congrArg (Value.int .i64) (by rw [HWn.out, HWq.out]), congrArg (Value.int .i16) (by rw [HBk.out]; omega), hb, by show World.ownsRow _ _ _ _ _ _ _; rw [HPn.out]; exact hO.out⟩, by have := HM.out; have := HBk.out; simp [intOf]; omega⟩
          · have HPn := hid (laidP_some L R B k (0, R - b) (by rw [← hbk]; exact pieceAt_left h1 h2 h3)); have HWn := hid (laidW_no L R B k (by rw [← hbk]; exact wholeAt_no3 h3))
            have d1 : decide (b + 8 ≤ L) = false := decide_eq_false h1; have d2 : decide (b ≥ L) = true := decide_eq_true h2; have d3 : decide (b + 8 ≤ R) = false := decide_eq_false h3; have d4 : decide (b < L) = false := decide_eq_false (by omega)
            clear hbk
            go_wp2_with (((with_reducible refine gate (N := 43) rfl ?_); (refine wpList_append_own _ rfl (.tmp 35) (.tmp 42) 26 rfl W1.heap.size 64 i0 (.agg #[.int .i8 0, .int .i8 0]) 2 2 Try.underlying26 hi hz0 hz1 hz2 rfl (by decide) _ _ _ rfl (hO.out.alloc _) ⟨wr.heap.size, 0, none⟩ 1 1 [.int .i8 (0), .int .i8 (R - b)] rfl rfl (cell_two_new wr _ _ _) (by simp [Value.oneCell']) (Nat.le_trans (Nat.add_le_add_right HLE.out 1) (by decide)) (by have := HLE.out; omega) (Nat.le_trans HBS.out (by simp)) ?_; intro v' w3 hown3 hgrow _)))
            refine ⟨⟨k + 1, by omega, congrArg (Value.int .i64) (by rw [HWn.out, HWq.out]), congrArg (Value.int .i16) (by rw [HBk.out]; omega), (hb.out.alloc HBS.out _).grown hgrow (by have := HBS.out; simp; omega) (fun k hk => (hO.out.lt k hk).1), ?_⟩, by have := HM.out; have := HBk.out; simp [intOf]; omega⟩
            show World.ownsRow _ _ _ _ _ _ _
            rw [HPn.out, List.length_append, ccells_snoc]; exact hown3
        · by_cases h3 : b + 8 ≤ R
          · have HPn := hid (laidP_some L R B k (1, b + 8 - L) (by rw [← hbk]; exact pieceAt_right h1 h2 h3)); have HWn := hid (laidW_no L R B k (by rw [← hbk]; exact wholeAt_no2 h2))
            have d1 : decide (b + 8 ≤ L) = false := decide_eq_false h1; have d2 : decide (b ≥ L) = false := decide_eq_false h2; have d3 : decide (b + 8 > R) = false := decide_eq_false (by omega); have d4 : decide (b < L) = true := decide_eq_true (by omega)
            clear hbk
            go_wp2_with (((with_reducible refine gate (N := 96) rfl ?_); (refine wpList_append_own _ rfl (.tmp 88) (.tmp 95) 26 rfl W1.heap.size 64 i0 (.agg #[.int .i8 0, .int .i8 0]) 2 2 Try.underlying26 hi hz0 hz1 hz2 rfl (by decide) _ _ _ rfl (hO.out.alloc _) ⟨wr.heap.size, 0, none⟩ 1 1 [.int .i8 (1), .int .i8 (b + 8 - L)] rfl rfl (cell_two_new wr _ _ _) (by simp [Value.oneCell']) (Nat.le_trans (Nat.add_le_add_right HLE.out 1) (by decide)) (by have := HLE.out; omega) (Nat.le_trans HBS.out (by simp)) ?_; intro v' w3 hown3 hgrow _)))
            refine ⟨⟨k + 1, by omega, congrArg (Value.int .i64) (by rw [HWn.out, HWq.out]), congrArg (Value.int .i16) (by rw [HBk.out]; omega), (hb.out.alloc HBS.out _).grown hgrow (by have := HBS.out; simp; omega) (fun k hk => (hO.out.lt k hk).1), ?_⟩, by have := HM.out; have := HBk.out; simp [intOf]; omega⟩
            show World.ownsRow _ _ _ _ _ _ _
            rw [HPn.out, List.length_append, ccells_snoc]; exact hown3
          · have HPn := hid (laidP_some L R B k (2, R - L) (by rw [← hbk]; exact pieceAt_mid h1 h2 h3)); have HWn := hid (laidW_no L R B k (by rw [← hbk]; exact wholeAt_no3 h3))
            have d1 : decide (b + 8 ≤ L) = false := decide_eq_false h1; have d2 : decide (b ≥ L) = false := decide_eq_false h2; have d3 : decide (b + 8 > R) = true := decide_eq_true (by omega); have d4 : decide (b < L) = true := decide_eq_true (by omega)
            clear hbk
            go_wp2_with (((with_reducible refine gate (N := 82) rfl ?_); (refine wpList_append_own _ rfl (.tmp 73) (.tmp 81) 26 rfl W1.heap.size 64 i0 (.agg #[.int .i8 0, .int .i8 0]) 2 2 Try.underlying26 hi hz0 hz1 hz2 rfl (by decide) _ _ _ rfl (hO.out.alloc _) ⟨wr.heap.size, 0, none⟩ 1 1 [.int .i8 (2), .int .i8 (R - L)] rfl rfl (cell_two_new wr _ _ _) (by simp [Value.oneCell']) (Nat.le_trans (Nat.add_le_add_right HLE.out 1) (by decide)) (by have := HLE.out; omega) (Nat.le_trans HBS.out (by simp)) ?_; intro v' w3 hown3 hgrow _)))
            refine ⟨⟨k + 1, by omega, congrArg (Value.int .i64) (by rw [HWn.out, HWq.out]), congrArg (Value.int .i16) (by rw [HBk.out]; omega), (hb.out.alloc HBS.out _).grown hgrow (by have := HBS.out; simp; omega) (fun k hk => (hO.out.lt k hk).1), ?_⟩, by have := HM.out; have := HBk.out; simp [intOf]; omega⟩
            show World.ownsRow _ _ _ _ _ _ _
            rw [HPn.out, List.length_append, ccells_snoc]; exact hown3
    · have hbR : ¬ b < R := by rw [hbk]; exact fun h => hkN ((HNlt.out k).2 h)
      obtain rfl : k = N := by omega
      clear hbk hq
      go_wp2_with fail
      go_ret2
      have hq' := HWq.out
      subst hq'
      exact ⟨_, rfl, HW0.out.trans (hb.out.mono HW0.out.size), hO.out.mono HW0.out.size⟩
theorem c_l00Max (a b : Int) (w : World) : Calls Try.prog 55 #[.int .i64 a, .int .i64 b] w fun e w' => e = .returned (.int .i64 (if a > b then a else b)) ∧ w = w' := by
  by_cases h : a > b
  · rw [if_pos h]
    go_enter Try.func55, Try.ntmps55
    go_wp2_with fail
    go_ret
    exact ⟨rfl, rfl⟩
  · rw [if_neg h]
    go_enter Try.func55, Try.ntmps55
    go_wp2_with fail
    go_ret
    exact ⟨rfl, rfl⟩
theorem c_l00Min (a b : Int) (w : World) : Calls Try.prog 56 #[.int .i64 a, .int .i64 b] w fun e w' => e = .returned (.int .i64 (if a < b then a else b)) ∧ w = w' := by
  by_cases h : a < b
  · rw [if_pos h]
    go_enter Try.func56, Try.ntmps56
    go_wp2_with fail
    go_ret
    exact ⟨rfl, rfl⟩
  · rw [if_neg h]
    go_enter Try.func56, Try.ntmps56
    go_wp2_with fail
    go_ret
    exact ⟨rfl, rfl⟩
set_option maxHeartbeats 3200000 in
set_option maxRecDepth 100000 in
theorem c_l05Course (s : Int) (hs : 0 ≤ s ∧ s ≤ 1) (A : Option Addr) (c : Nat) (l : List (Int × Int)) (course : Nat) (L R : Int) (hc : l[course]? = some (L, R)) (hLR : 0 ≤ L ∧ L < R ∧ R ≤ 200) (hlen : l.length ≤ 1048576) (bs : Nat) (w : World) (hx : w.heap[bs]? = some (.cells #[.int .u8 s, .slice A l.length c] 31 (0, 0))) (hA : PairsAt .i16 .i16 w A l) :
    Calls Try.prog 33 #[.pointer (some ⟨bs, 0, none⟩), .int .i64 course] w fun e w' => ∃ v, e = .returned (.tuple #[.int .i64 (laidW L R (beginB s course) (laidN R (beginB s course))), v]) ∧ Below w.heap.size w w' ∧ w'.ownsRow w.heap.size 64 2 v (laidP L R (beginB s course) (laidN R (beginB s course))).length (ccells (laidP L R (beginB s course) (laidN R (beginB s course)))) := by
  obtain ⟨i0, hi, hz0, hz1, hz2⟩ := info_parts Try.infoPiece
  have hcl := (List.getElem?_eq_some_iff.1 hc).1
  obtain ⟨ba, off, rfl, r1, k2, k3⟩ := hA course _ hc
  dsimp only at k2 k3
  obtain ⟨B, hB⟩ : ∃ B, B = beginB s course := ⟨_, rfl⟩
  have hB4 : 0 ≤ B ∧ B ≤ 4 := by rw [hB]; exact beginB_04 _ _
  rw [← hB]
  have hBe : 4 * (((course : Int) + s) % 2) = B := by rw [hB]; unfold beginB; omega
  obtain ⟨N, hN⟩ : ∃ N, N = laidN R B := ⟨_, rfl⟩
  have HNlt : Hid (∀ k : Nat, k < N ↔ B - 8 + 8 * (k : Int) < R) := by intro k; rw [hN]; exact laidN_lt hB4 (by omega) k
  have HM : Hid ((N : Int) ≤ 30) := by have : N = laidN R B := hN; unfold laidN at this; show (N : Int) ≤ 30; omega
  have HX := hid hx
  have k0 := cell_block HX.out (j := 0) rfl
  have k1 := cell_block HX.out (j := 1) rfl
  have hcI : (course : Int) < (l.length : Int) := by omega
  have hc0 : (0 : Int) ≤ (course : Int) := by omega
  have hs8 : 0 ≤ (course : Int) + s ∧ (course : Int) + s ≤ 2000000 := by omega
  rw [← hN]
  clear hN hB hA hc hx
  go_enter Try.func33, Try.ntmps33
  go_wp2_with fail
  clear k0 k1 k2 k3 HX
  go_loopw [9, 10, 11] (fun q v i wr => ∃ k : Nat, k ≤ N ∧ q = .int .i64 (laidW L R B k) ∧ i = .int .i64 (B - 8 + 8 * (k : Int)) ∧ Hid (Below w.heap.size w wr) ∧ Hid (wr.ownsRow w.heap.size 64 2 v (laidP L R B k).length (ccells (laidP L R B k)))) (fun _ _ i _ => (R + 8 - intOf i).toNat)
  case atStart => exact ⟨0, by omega, by simp [laidW], by simp; try omega, (Below.refl _ w).alloc (Nat.le_refl _) _, World.ownsRow_made w #[] 0 (Nat.le_refl _) (by decide) rfl⟩
  case round =>
    obtain ⟨k, hk, rfl, rfl, hb, hO⟩ := hrel
    have hM := HM.out
    obtain ⟨b, hbk⟩ : ∃ b : Int, b = B - 8 + 8 * (k : Int) := ⟨_, rfl⟩
    rw [← hbk]
    have HBk := hid hbk
    have hwl := laidW_le L R B k
    obtain ⟨q, hq⟩ : ∃ q, q = laidW L R B k := ⟨_, rfl⟩
    have HWq := hid hq
    rw [← hq] at hwl ⊢
    have hbb : -8 ≤ b ∧ b ≤ 240 := by omega
    by_cases hkN : k < N
    · have hbR : b < R := by rw [hbk]; exact (HNlt.out k).1 hkN
      have HLE : Hid ((laidP L R B k).length ≤ 1000) := Nat.le_trans (laidP_len L R B k) (by omega)
      have HBS := hid hb.out.size
      clear hq
      by_cases h1 : b + 8 ≤ L
      · have HPn := hid (laidP_none L R B k (by rw [← hbk]; exact pieceAt_none h1)); have HWn := hid (laidW_no L R B k (by rw [← hbk]; exact wholeAt_no1 h1))
        have eM : (if b > L then b else L) = L := if_neg (by omega); have eN : (if b + 8 < R then b + 8 else R) = b + 8 := if_pos (by omega); have HX1 : Hid (Calls Try.prog 55 #[.int .i64 b, .int .i64 L] wr fun e w' => e = .returned (.int .i64 L) ∧ wr = w') := (by have h := c_l00Max b L wr; rw [eM] at h; exact h); have HX2 : Hid (Calls Try.prog 56 #[.int .i64 (b + 8), .int .i64 R] wr fun e w' => e = .returned (.int .i64 (b + 8)) ∧ wr = w') := (by have h := c_l00Min (b + 8) R wr; rw [eN] at h; exact h); clear eM eN
        clear hbk
        go_wp2_with (first
          | (go_at_call 55; ((with_reducible refine HX1.out.mono ?_); rintro e w8 ⟨rfl, rfl⟩))
          | (go_at_call 56; ((with_reducible refine HX2.out.mono ?_); rintro e w8 ⟨rfl, rfl⟩)))
        exact ⟨⟨k + 1, by omega, congrArg (Value.int .i64) (by rw [HWn.out, HWq.out]), congrArg (Value.int .i64) (by rw [HBk.out]; omega), hb, by show World.ownsRow _ _ _ _ _ _ _; rw [HPn.out]; exact hO.out⟩, by have := HM.out; have := HBk.out; simp [intOf]; omega⟩
      · by_cases h2 : L ≤ b
        · by_cases h3 : b + 8 ≤ R
          · have HPn := hid (laidP_none L R B k (by rw [← hbk]; exact pieceAt_whole h2 h3)); have HWn := hid (laidW_yes L R B k (by rw [← hbk]; exact wholeAt_yes h2 h3))
            have eM : (if b > L then b else L) = b := (by split <;> omega); have eN : (if b + 8 < R then b + 8 else R) = b + 8 := (by split <;> omega); have HX1 : Hid (Calls Try.prog 55 #[.int .i64 b, .int .i64 L] wr fun e w' => e = .returned (.int .i64 b) ∧ wr = w') := (by have h := c_l00Max b L wr; rw [eM] at h; exact h); have HX2 : Hid (Calls Try.prog 56 #[.int .i64 (b + 8), .int .i64 R] wr fun e w' => e = .returned (.int .i64 (b + 8)) ∧ wr = w') := (by have h := c_l00Min (b + 8) R wr; rw [eN] at h; exact h); clear eM eN
            clear hbk
            go_wp2_with (first
              | (go_at_call 55; ((with_reducible refine HX1.out.mono ?_); rintro e w8 ⟨rfl, rfl⟩))
              | (go_at_call 56; ((with_reducible refine HX2.out.mono ?_); rintro e w8 ⟨rfl, rfl⟩)))
            exact ⟨⟨k + 1, by omega, congrArg (Value.int .i64) (by rw [HWn.out, HWq.out]), congrArg (Value.int .i64) (by rw [HBk.out]; omega), hb, by show World.ownsRow _ _ _ _ _ _ _; rw [HPn.out]; exact hO.out⟩, by have := HM.out; have := HBk.out; simp [intOf]; omega⟩
          · have HPn := hid (laidP_some L R B k (0, R - b) (by rw [← hbk]; exact pieceAt_left h1 h2 h3)); have HWn := hid (laidW_no L R B k (by rw [← hbk]; exact wholeAt_no3 h3))
            have eM : (if b > L then b else L) = b := (by split <;> omega); have eN : (if b + 8 < R then b + 8 else R) = R := if_neg (by omega); have HX1 : Hid (Calls Try.prog 55 #[.int .i64 b, .int .i64 L] wr fun e w' => e = .returned (.int .i64 b) ∧ wr = w') := (by have h := c_l00Max b L wr; rw [eM] at h; exact h); have HX2 : Hid (Calls Try.prog 56 #[.int .i64 (b + 8), .int .i64 R] wr fun e w' => e = .returned (.int .i64 R) ∧ wr = w') := (by have h := c_l00Min (b + 8) R wr; rw [eN] at h; exact h); clear eM eN
            clear hbk
            go_wp2_with (first
              | (((with_reducible refine gate (N := 65) rfl ?_); (refine wpList_append_own _ rfl (.tmp 58) (.tmp 64) 26 rfl w.heap.size 64 i0 (.agg #[.int .i8 0, .int .i8 0]) 2 2 Try.underlying26 hi hz0 hz1 hz2 rfl (by decide) _ _ _ rfl (hO.out.alloc _) ⟨wr.heap.size, 0, none⟩ 1 1 [.int .i8 (0), .int .i8 (R - b)] rfl rfl (cell_two_new wr _ _ _) (by simp [Value.oneCell']) (Nat.le_trans (Nat.add_le_add_right HLE.out 1) (by decide)) (by have := HLE.out; omega) (Nat.le_trans HBS.out (by simp)) ?_; intro v' w3 hown3 hgrow _)))
              | (go_at_call 55; ((with_reducible refine HX1.out.mono ?_); rintro e w8 ⟨rfl, rfl⟩))
              | (go_at_call 56; ((with_reducible refine HX2.out.mono ?_); rintro e w8 ⟨rfl, rfl⟩)))
            refine ⟨⟨k + 1, by omega, congrArg (Value.int .i64) (by rw [HWn.out, HWq.out]), congrArg (Value.int .i64) (by rw [HBk.out]; omega), (hb.out.alloc HBS.out _).grown hgrow (by have := HBS.out; simp; omega) (fun k hk => (hO.out.lt k hk).1), ?_⟩, by have := HM.out; have := HBk.out; simp [intOf]; omega⟩
            show World.ownsRow _ _ _ _ _ _ _
            rw [HPn.out, List.length_append, ccells_snoc]; exact hown3
        · by_cases h3 : b + 8 ≤ R
          · have HPn := hid (laidP_some L R B k (1, b + 8 - L) (by rw [← hbk]; exact pieceAt_right h1 h2 h3)); have HWn := hid (laidW_no L R B k (by rw [← hbk]; exact wholeAt_no2 h2))
            have eM : (if b > L then b else L) = L := if_neg (by omega); have eN : (if b + 8 < R then b + 8 else R) = b + 8 := (by split <;> omega); have HX1 : Hid (Calls Try.prog 55 #[.int .i64 b, .int .i64 L] wr fun e w' => e = .returned (.int .i64 L) ∧ wr = w') := (by have h := c_l00Max b L wr; rw [eM] at h; exact h); have HX2 : Hid (Calls Try.prog 56 #[.int .i64 (b + 8), .int .i64 R] wr fun e w' => e = .returned (.int .i64 (b + 8)) ∧ wr = w') := (by have h := c_l00Min (b + 8) R wr; rw [eN] at h; exact h); clear eM eN
            clear hbk
            go_wp2_with (first
              | (((with_reducible refine gate (N := 109) rfl ?_); (refine wpList_append_own _ rfl (.tmp 102) (.tmp 108) 26 rfl w.heap.size 64 i0 (.agg #[.int .i8 0, .int .i8 0]) 2 2 Try.underlying26 hi hz0 hz1 hz2 rfl (by decide) _ _ _ rfl (hO.out.alloc _) ⟨wr.heap.size, 0, none⟩ 1 1 [.int .i8 (1), .int .i8 (b + 8 - L)] rfl rfl (cell_two_new wr _ _ _) (by simp [Value.oneCell']) (Nat.le_trans (Nat.add_le_add_right HLE.out 1) (by decide)) (by have := HLE.out; omega) (Nat.le_trans HBS.out (by simp)) ?_; intro v' w3 hown3 hgrow _)))
              | (go_at_call 55; ((with_reducible refine HX1.out.mono ?_); rintro e w8 ⟨rfl, rfl⟩))
              | (go_at_call 56; ((with_reducible refine HX2.out.mono ?_); rintro e w8 ⟨rfl, rfl⟩)))
            refine ⟨⟨k + 1, by omega, congrArg (Value.int .i64) (by rw [HWn.out, HWq.out]), congrArg (Value.int .i64) (by rw [HBk.out]; omega), (hb.out.alloc HBS.out _).grown hgrow (by have := HBS.out; simp; omega) (fun k hk => (hO.out.lt k hk).1), ?_⟩, by have := HM.out; have := HBk.out; simp [intOf]; omega⟩
            show World.ownsRow _ _ _ _ _ _ _
            rw [HPn.out, List.length_append, ccells_snoc]; exact hown3
          · have HPn := hid (laidP_some L R B k (2, R - L) (by rw [← hbk]; exact pieceAt_mid h1 h2 h3)); have HWn := hid (laidW_no L R B k (by rw [← hbk]; exact wholeAt_no3 h3))
            have eM : (if b > L then b else L) = L := if_neg (by omega); have eN : (if b + 8 < R then b + 8 else R) = R := if_neg (by omega); have HX1 : Hid (Calls Try.prog 55 #[.int .i64 b, .int .i64 L] wr fun e w' => e = .returned (.int .i64 L) ∧ wr = w') := (by have h := c_l00Max b L wr; rw [eM] at h; exact h); have HX2 : Hid (Calls Try.prog 56 #[.int .i64 (b + 8), .int .i64 R] wr fun e w' => e = .returned (.int .i64 R) ∧ wr = w') := (by have h := c_l00Min (b + 8) R wr; rw [eN] at h; exact h); clear eM eN
            clear hbk
            go_wp2_with (first
              | (((with_reducible refine gate (N := 97) rfl ?_); (refine wpList_append_own _ rfl (.tmp 90) (.tmp 96) 26 rfl w.heap.size 64 i0 (.agg #[.int .i8 0, .int .i8 0]) 2 2 Try.underlying26 hi hz0 hz1 hz2 rfl (by decide) _ _ _ rfl (hO.out.alloc _) ⟨wr.heap.size, 0, none⟩ 1 1 [.int .i8 (2), .int .i8 (R - L)] rfl rfl (cell_two_new wr _ _ _) (by simp [Value.oneCell']) (Nat.le_trans (Nat.add_le_add_right HLE.out 1) (by decide)) (by have := HLE.out; omega) (Nat.le_trans HBS.out (by simp)) ?_; intro v' w3 hown3 hgrow _)))
              | (go_at_call 55; ((with_reducible refine HX1.out.mono ?_); rintro e w8 ⟨rfl, rfl⟩))
              | (go_at_call 56; ((with_reducible refine HX2.out.mono ?_); rintro e w8 ⟨rfl, rfl⟩)))
            refine ⟨⟨k + 1, by omega, congrArg (Value.int .i64) (by rw [HWn.out, HWq.out]), congrArg (Value.int .i64) (by rw [HBk.out]; omega), (hb.out.alloc HBS.out _).grown hgrow (by have := HBS.out; simp; omega) (fun k hk => (hO.out.lt k hk).1), ?_⟩, by have := HM.out; have := HBk.out; simp [intOf]; omega⟩
            show World.ownsRow _ _ _ _ _ _ _
            rw [HPn.out, List.length_append, ccells_snoc]; exact hown3
    · have hbR : ¬ b < R := by rw [hbk]; exact fun h => hkN ((HNlt.out k).2 h)
      obtain rfl : k = N := by omega
      clear hbk hq
      go_wp2_with fail
      go_ret2
      have hq' := HWq.out
      subst hq'
      exact ⟨_, rfl, hb.out, hO.out⟩
end Go.Proofs.Ytgbihaliiogboaa

/- How many tiles of a shape are laid whole: the program's and the reference's. -/
namespace Go.Proofs.Ytgbihaliiogboaa
open Go.RowKit
set_option linter.unusedSimpArgs false
set_option linter.unusedVariables false

theorem Try.infoInt : (Try.prog.info? 3).map (fun i => (i.zero, i.size, i.bytes)) = some (some (.int .i64 0), 1, 8) := by kernel_rfl
/-- The numbers below n. -/
def upL (n : Nat) : List Int := (List.range n).map fun i : Nat => (i : Int)
theorem upL_len (n : Nat) : (upL n).length = n := by simp [upL]
theorem upL_succ (n : Nat) : upL (n + 1) = upL n ++ [(n : Int)] := by simp [upL, List.range_succ]
theorem sli_ownI {w : World} {base : Nat} {v : Value} {l : List Int} (h : w.ownsRow base 3 1 v l.length (icells l)) : ∃ A c, v = .slice A l.length c ∧ SlI w A l := by
  rcases h.2 with ⟨rfl, hn⟩ | ⟨g, cap, cur, rfl, hb, hg, hc, hm, hs, ht⟩
  · exact ⟨none, 0, by rw [hn], fun j n hj => by have := List.eq_nil_of_length_eq_zero hn; subst this; simp at hj⟩
  · refine ⟨_, cap, rfl, fun j n hj => ⟨g, 0, rfl, block_lt hg, ?_⟩⟩
    have hjl := (List.getElem?_eq_some_iff.1 hj).1
    have hp : (icells l)[j]? = some (.int .i64 n) := by unfold icells; rw [List.getElem?_map, hj]; rfl
    rw [← ht, List.getElem?_take, if_pos (by omega)] at hp
    rw [Nat.zero_add]
    exact cell_block hg (by simpa using hp)
set_option maxHeartbeats 800000 in
set_option maxRecDepth 100000 in
theorem c_upTo (n : Nat) (hn : n ≤ 1000000) (w : World) :
    Calls Try.prog 64 #[.int .i64 n] w fun e w' => ∃ v, e = .returned v ∧ Below w.heap.size w w' ∧ w'.ownsRow w.heap.size 3 1 v (upL n).length (icells (upL n)) := by
  obtain ⟨i0, hi, hz0, hz1, hz2⟩ := info_parts Try.infoInt
  go_enter Try.func64, Try.ntmps64
  go_wp2_with fail
  go_loopw [3, 6] (fun v i wr => ∃ k : Nat, k ≤ n ∧ i = .int .i64 k ∧ Hid (Below w.heap.size w wr) ∧ Hid (wr.ownsRow w.heap.size 3 1 v (upL k).length (icells (upL k)))) (fun _ i _ => n - (intOf i).toNat)
  case atStart => exact ⟨0, by omega, rfl, Below.refl _ _, World.ownsRow_nil _ _ _ _⟩
  case round =>
    obtain ⟨k, hk, rfl, hb, hO⟩ := hrel
    by_cases hkl : k < n
    · have hd : decide ((k : Int) < (n : Int)) = true := decide_eq_true (by omega)
      have HLE : Hid ((upL k).length ≤ 1000000) := by rw [upL_len]; exact Nat.le_trans hk hn
      have HBS := hid hb.out.size
      have HY := hid (upL_succ k)
      go_wp2_with ((with_reducible refine gate (N := 12) rfl ?_); refine wpList_append_own _ rfl (.tmp 9) (.tmp 11) 93 rfl w.heap.size 3 i0 (.int .i64 0) 1 8 Try.underlying93 hi hz0 hz1 hz2 rfl (by decide) _ _ _ rfl (hO.out.alloc _) ⟨wr.heap.size, 0, none⟩ 1 1 [.int .i64 k] rfl rfl (cell_one_new' wr _ _) (by simp [Value.oneCell']) (Nat.le_trans (Nat.add_le_add_right HLE.out 1) (by decide)) (by have := HLE.out; omega) (Nat.le_trans HBS.out (by simp)) ?_; intro v' w3 hown3 hgrow _)
      refine ⟨⟨k + 1, by omega, by go_num, (hb.out.alloc HBS.out _).grown hgrow (by have := HBS.out; simp; omega) (fun k hk => (hO.out.lt k hk).1), ?_⟩, by simp [intOf]; omega⟩
      show World.ownsRow _ _ _ _ _ _ _
      rw [HY.out, List.length_append]
      unfold icells
      rw [List.map_append]; exact hown3
    · obtain rfl : k = n := by omega
      have hd : decide ((k : Int) < (k : Int)) = false := decide_eq_false (by omega)
      go_wp2_with fail
      go_ret
      exact ⟨_, rfl, hb.out, hO.out⟩
/-- How many tiles of course i are laid whole, and its pieces. -/
def courseW (s : Int) (l : List (Int × Int)) (i : Nat) : Int := laidW (l.getD i (0, 0)).1 (l.getD i (0, 0)).2 (beginB s i) (laidN (l.getD i (0, 0)).2 (beginB s i))
def courseP (s : Int) (l : List (Int × Int)) (i : Nat) : List (Int × Int) := laidP (l.getD i (0, 0)).1 (l.getD i (0, 0)).2 (beginB s i) (laidN (l.getD i (0, 0)).2 (beginB s i))
theorem getD_of {l : List (Int × Int)} {i : Nat} {p : Int × Int} (h : l[i]? = some p) : l.getD i (0, 0) = p := by rw [List.getD_eq_getElem?_getD, h]; rfl
theorem courseW_of {s : Int} {l : List (Int × Int)} {i : Nat} {L R : Int} (h : l[i]? = some (L, R)) : laidW L R (beginB s i) (laidN R (beginB s i)) = courseW s l i := by unfold courseW; rw [getD_of h]
theorem courseP_of {s : Int} {l : List (Int × Int)} {i : Nat} {L R : Int} (h : l[i]? = some (L, R)) : laidP L R (beginB s i) (laidN R (beginB s i)) = courseP s l i := by unfold courseP; rw [getD_of h]
theorem laidN_le {R B : Int} (hR : R ≤ 200) (hB : 0 ≤ B) : laidN R B ≤ 30 := by unfold laidN; omega
theorem courseW_b {s : Int} {l : List (Int × Int)} {i : Nat} (h : ∀ p ∈ l, 0 ≤ p.1 ∧ p.1 < p.2 ∧ p.2 ≤ 200) (hi : i < l.length) : 0 ≤ courseW s l i ∧ courseW s l i ≤ 30 := by
  have h1 := h _ (List.getElem_mem hi)
  have e : l.getD i (0, 0) = l[i] := getD_of (List.getElem?_eq_getElem hi)
  unfold courseW
  rw [e]
  have := laidW_le l[i].1 l[i].2 (beginB s i) (laidN l[i].2 (beginB s i))
  have := laidN_le h1.2.2 (beginB_04 s i).1
  omega
theorem courseW_bs (s : Int) {l : List (Int × Int)} (h : ∀ p ∈ l, 0 ≤ p.1 ∧ p.1 < p.2 ∧ p.2 ≤ 200) : ∀ n ∈ (upL l.length).map (fun n => courseW s l n.toNat), 0 ≤ n ∧ n ≤ 1000000 := by
  intro n hn
  obtain ⟨p, hp, hpn⟩ := List.mem_map.1 hn
  obtain ⟨i, hi, hpi⟩ := List.mem_map.1 hp
  subst hpi
  rw [Int.toNat_natCast] at hpn
  have h1 := courseW_b (s := s) h (List.mem_range.1 hi)
  rw [hpn] at h1
  omega
def courseWs (s : Int) (l : List (Int × Int)) : List Int := (upL l.length).map fun n => courseW s l n.toNat
theorem courseWs_len (s : Int) (l : List (Int × Int)) : (courseWs s l).length = l.length := by unfold courseWs; rw [List.length_map, upL_len]
def wholeL (s : Int) (l : List (Int × Int)) : Int := (courseWs s l).sum
/-- What 'laid' returns of a course that is there. -/
def RetLaid (w : World) (s : Int) (l : List (Int × Int)) (i : Nat) (e : Ending) (w' : World) : Prop := ∃ v, e = .returned (.tuple #[.int .i64 (courseW s l i), v]) ∧ Below w.heap.size w w' ∧ w'.ownsRow w.heap.size 64 2 v (courseP s l i).length (ccells (courseP s l i))
theorem c_laidC (s : Int) (hs : 0 ≤ s ∧ s ≤ 1) (A : Option Addr) (c : Nat) (l : List (Int × Int)) (hB : ∀ p ∈ l, 0 ≤ p.1 ∧ p.1 < p.2 ∧ p.2 ≤ 200) (i : Nat) (hi : i < l.length) (hlen : l.length ≤ 1048576) (w : World) (hA : PairsAt .i16 .i16 w A l) :
    Calls Try.prog 37 #[.agg #[.int .u8 s, .slice A l.length c], .int .i64 i] w (RetLaid w s l i) := by
  have h1 := List.getElem?_eq_getElem hi
  have h2 := hB _ (List.getElem_mem hi)
  obtain ⟨⟨L, R⟩, hn⟩ : ∃ n, n = l[i] := ⟨_, rfl⟩
  rw [← hn] at h1 h2
  have := c_laid s hs A c l i L R h1 h2 hlen w hA
  rw [courseW_of h1, courseP_of h1] at this
  exact this
theorem c_l05CourseC (s : Int) (hs : 0 ≤ s ∧ s ≤ 1) (A : Option Addr) (c : Nat) (l : List (Int × Int)) (hB : ∀ p ∈ l, 0 ≤ p.1 ∧ p.1 < p.2 ∧ p.2 ≤ 200) (i : Nat) (hi : i < l.length) (hlen : l.length ≤ 1048576) (bs : Nat) (w : World) (hx : w.heap[bs]? = some (.cells #[.int .u8 s, .slice A l.length c] 31 (0, 0))) (hA : PairsAt .i16 .i16 w A l) :
    Calls Try.prog 33 #[.pointer (some ⟨bs, 0, none⟩), .int .i64 i] w (RetLaid w s l i) := by
  have h1 := List.getElem?_eq_getElem hi
  have h2 := hB _ (List.getElem_mem hi)
  obtain ⟨⟨L, R⟩, hn⟩ : ∃ n, n = l[i] := ⟨_, rfl⟩
  rw [← hn] at h1 h2
  have := c_l05Course s hs A c l i L R h1 h2 hlen bs w hx hA
  rw [courseW_of h1, courseP_of h1] at this
  exact this
def wholeN (s : Int) (l : List (Int × Int)) : Int := if shOk s l = true then wholeL s l else 0
theorem wholeK (s : Int) (l : List (Int × Int)) (k : Nat) (hk : k < l.length) : ((courseWs s l).take (k + 1)).sum = ((courseWs s l).take k).sum + courseW s l k := by
  rw [sum_take_succ _ k (by rw [courseWs_len]; exact hk)]
  congr 1
  simp [courseWs, upL]
theorem wholeK_b (s : Int) (l : List (Int × Int)) (hB : ∀ p ∈ l, 0 ≤ p.1 ∧ p.1 < p.2 ∧ p.2 ≤ 200) (k : Nat) : 0 ≤ ((courseWs s l).take k).sum ∧ ((courseWs s l).take k).sum ≤ 1000000 * k := by
  have h := sum_le ((courseWs s l).take k) 1000000 (by decide) fun n hn => courseW_bs s hB n (List.mem_of_mem_take hn)
  have h2 : ((courseWs s l).take k).length ≤ k := by rw [List.length_take]; omega
  omega
end Go.Proofs.Ytgbihaliiogboaa

/- The indices of pieces, from the widest one on: plain. -/
namespace Go.Proofs.Ytgbihaliiogboaa
set_option linter.unusedSimpArgs false
set_option linter.unusedVariables false

def wdL (l : List (Int × Int)) (i : Int) : Int := (l.getD i.toNat (0, 0)).2
def haL (l : List (Int × Int)) (i : Int) : Int := (l.getD i.toNat (0, 0)).1
theorem wdL_get {l : List (Int × Int)} {k : Nat} {p : Int × Int} (h : l[k]? = some p) : wdL l k = p.2 := by
  unfold wdL
  rw [List.getD_eq_getElem?_getD, Int.toNat_natCast, h]; rfl
theorem haL_get {l : List (Int × Int)} {k : Nat} {p : Int × Int} (h : l[k]? = some p) : haL l k = p.1 := by
  unfold haL
  rw [List.getD_eq_getElem?_getD, Int.toNat_natCast, h]; rfl
def rkL (l : List (Int × Int)) (i : Int) : Int := (8 - wdL l i) * 1000 + i
def filW (l : List (Int × Int)) (k : Nat) : List Int := (upL l.length).filter fun i => decide (wdL l i = (k : Int))
def ordFrom (l : List (Int × Int)) : Nat → List Int
  | 0 => filW l 0
  | k + 1 => filW l (k + 1) ++ ordFrom l k
def ordL (l : List (Int × Int)) : List Int := ordFrom l 8
theorem mem_upL {n : Nat} {i : Int} : i ∈ upL n ↔ 0 ≤ i ∧ i < n := by
  unfold upL
  rw [List.mem_map]
  constructor
  · rintro ⟨k, hk, rfl⟩
    have := List.mem_range.1 hk
    omega
  · rintro ⟨h1, h2⟩
    exact ⟨i.toNat, List.mem_range.2 (by omega), by omega⟩
theorem upL_pair (n : Nat) : (upL n).Pairwise (· < ·) := by
  unfold upL
  rw [List.pairwise_map]
  exact List.pairwise_lt_range.imp fun h => by omega
theorem mem_filW {l : List (Int × Int)} {k : Nat} {i : Int} : i ∈ filW l k ↔ (0 ≤ i ∧ i < l.length) ∧ wdL l i = k := by
  unfold filW
  rw [List.mem_filter, mem_upL, decide_eq_true_iff]
theorem mem_ordFrom {l : List (Int × Int)} : ∀ {k : Nat} {i : Int}, i ∈ ordFrom l k ↔ (0 ≤ i ∧ i < l.length) ∧ (0 ≤ wdL l i ∧ wdL l i ≤ k)
  | 0, i => by
    unfold ordFrom
    rw [mem_filW]
    constructor
    · rintro ⟨h1, h2⟩; exact ⟨h1, by omega⟩
    · rintro ⟨h1, h2⟩; exact ⟨h1, by omega⟩
  | k + 1, i => by
    unfold ordFrom
    rw [List.mem_append, mem_filW, mem_ordFrom]
    constructor
    · rintro (⟨h1, h2⟩ | ⟨h1, h2⟩)
      · exact ⟨h1, by omega⟩
      · exact ⟨h1, by omega⟩
    · rintro ⟨h1, h2⟩
      by_cases h : wdL l i = ((k + 1 : Nat) : Int)
      · exact .inl ⟨h1, h⟩
      · exact .inr ⟨h1, by omega⟩
theorem rk_idx {l : List (Int × Int)} {x y : Int} (h : wdL l x = wdL l y) (hxy : x < y) : rkL l x < rkL l y := by unfold rkL; rw [h]; omega
theorem rk_wide {l : List (Int × Int)} {x y : Int} (h : wdL l y < wdL l x) (hx : 0 ≤ x ∧ x < 1000) (hy : 0 ≤ y ∧ y < 1000) : rkL l x < rkL l y := by unfold rkL; omega
theorem filW_pair (l : List (Int × Int)) (k : Nat) : (filW l k).Pairwise fun a b => rkL l a < rkL l b := by
  unfold filW
  have h := (upL_pair l.length).filter (fun i => decide (wdL l i = (k : Int)))
  refine h.imp_of_mem fun {a b} ha hb hab => rk_idx ?_ hab
  have h1 := of_decide_eq_true (List.mem_filter.1 ha).2
  have h2 := of_decide_eq_true (List.mem_filter.1 hb).2
  rw [h1, h2]
theorem ordFrom_pair (l : List (Int × Int)) (hn : l.length ≤ 1000) : ∀ k : Nat, (ordFrom l k).Pairwise fun a b => rkL l a < rkL l b
  | 0 => filW_pair l 0
  | k + 1 => by
    unfold ordFrom
    rw [List.pairwise_append]
    refine ⟨filW_pair l (k + 1), ordFrom_pair l hn k, fun a ha b hb => ?_⟩
    have h1 := mem_filW.1 ha
    have h2 := mem_ordFrom.1 hb
    exact rk_wide (by omega) ⟨h1.1.1, by omega⟩ ⟨h2.1.1, by omega⟩
theorem sorted_ext {α : Type} {R : α → α → Prop} (hir : ∀ a, ¬ R a a) (htr : ∀ a b c, R a b → R b c → R a c) : ∀ (l1 l2 : List α), l1.Pairwise R → l2.Pairwise R → (∀ x, x ∈ l1 ↔ x ∈ l2) → l1 = l2
  | [], [], _, _, _ => rfl
  | [], b :: l2, _, _, h => by have := (h b).2 (by simp); simp at this
  | a :: l1, [], _, _, h => by have := (h a).1 (by simp); simp at this
  | a :: l1, b :: l2, h1, h2, h => by
    rw [List.pairwise_cons] at h1 h2
    have hab : a = b := by
      rcases List.mem_cons.1 ((h a).1 (by simp)) with e | e
      · exact e
      · rcases List.mem_cons.1 ((h b).2 (by simp)) with e' | e'
        · exact e'.symm
        · exact absurd (htr _ _ _ (h2.1 a e) (h1.1 b e')) (hir b)
    subst hab
    congr 1
    refine sorted_ext hir htr l1 l2 h1.2 h2.2 fun x => ?_
    constructor
    · intro hx
      rcases List.mem_cons.1 ((h x).1 (List.mem_cons_of_mem _ hx)) with e | e
      · subst e; exact absurd (h1.1 x hx) (hir x)
      · exact e
    · intro hx
      rcases List.mem_cons.1 ((h x).2 (List.mem_cons_of_mem _ hx)) with e | e
      · subst e; exact absurd (h2.1 x hx) (hir x)
      · exact e
theorem ord_of_sorted {l : List (Int × Int)} (hn : l.length ≤ 1000) (hw : ∀ i : Int, 0 ≤ i → i < l.length → 0 ≤ wdL l i ∧ wdL l i ≤ 8) {f f' : Nat → Int} (hf : ∀ k, k < l.length → f k = (k : Int)) (hs : Same 0 l.length f f') (ha : Asc (rkL l) 0 l.length f') :
    (List.range l.length).map f' = ordL l := by
  refine sorted_ext (R := fun a b => rkL l a < rkL l b) (fun a h => absurd h (Int.lt_irrefl _)) (fun a b c h1 h2 => Int.lt_trans h1 h2) _ _ ?_ (ordFrom_pair l hn 8) fun x => ?_
  · rw [List.pairwise_map]
    refine List.pairwise_lt_range.imp_of_mem fun {a b} ha' hb' hab => ha a b (Nat.zero_le _) hab (List.mem_range.1 hb')
  · unfold ordL
    rw [mem_ordFrom, List.mem_map]
    constructor
    · rintro ⟨k, hk, rfl⟩
      obtain ⟨j, _, j2, e⟩ := hs.to k (Nat.zero_le _) (List.mem_range.1 hk)
      rw [e, hf j j2]
      exact ⟨by omega, hw _ (by omega) (by omega)⟩
    · rintro ⟨⟨h1, h2⟩, _⟩
      obtain ⟨j, _, j2, e⟩ := hs.of x.toNat (Nat.zero_le _) (by omega)
      refine ⟨j, List.mem_range.2 j2, ?_⟩
      rw [← e, hf _ (by omega)]; omega
theorem ordL_mem {l : List (Int × Int)} {i : Int} (h : i ∈ ordL l) : 0 ≤ i ∧ i < l.length := (mem_ordFrom.1 h).1
theorem ordL_nodup (l : List (Int × Int)) (hn : l.length ≤ 1000) : (ordL l).Nodup := (ordFrom_pair l hn 8).imp fun h e => by rw [e] at h; exact absurd h (Int.lt_irrefl _)
theorem ordL_len {l : List (Int × Int)} (hn : l.length ≤ 1000) (hw : ∀ i : Int, 0 ≤ i → i < l.length → 0 ≤ wdL l i ∧ wdL l i ≤ 8) : (ordL l).length = l.length := by
  have hp : (ordL l).Perm (upL l.length) := (List.perm_ext_iff_of_nodup (ordL_nodup l hn) ((upL_pair _).imp fun h => Int.ne_of_lt h)).2 fun x => by
    unfold ordL
    rw [mem_ordFrom, mem_upL]
    exact ⟨fun h => h.1, fun h => ⟨h, hw x h.1 h.2⟩⟩
  rw [hp.length_eq, upL_len]
end Go.Proofs.Ytgbihaliiogboaa

/- Pairs of pieces: plain. -/
namespace Go.Proofs.Ytgbihaliiogboaa
set_option linter.unusedSimpArgs false
set_option linter.unusedVariables false

/-- A right piece that fits a left one and is not taken. -/
def fitB (l : List (Int × Int)) (a : Int) (T : List Int) (b : Int) : Bool := decide (haL l b = 1) && (!decide (b ∈ T) && decide (wdL l a + wdL l b ≤ 8))
def pairA (l : List (Int × Int)) (ord : List Int) (st : List (Int × Int)) (a : Int) : List (Int × Int) :=
  if haL l a = 0 then (if ord.any (fitB l a (st.map (·.2))) = true then st ++ [(a, ord.getD (ord.findIdx (fitB l a (st.map (·.2)))) 0)] else st) else st
/-- The pairs that the first k of the order give. -/
def pairN (l : List (Int × Int)) (ord : List Int) (k : Nat) : List (Int × Int) := (ord.take k).foldl (pairA l ord) []
def pairL (l : List (Int × Int)) : List (Int × Int) := pairN l (ordL l) (ordL l).length
theorem pairN_succ {l : List (Int × Int)} {ord : List Int} {k : Nat} {a : Int} (h : ord[k]? = some a) : pairN l ord (k + 1) = pairA l ord (pairN l ord k) a := by
  obtain ⟨hk, rfl⟩ := List.getElem?_eq_some_iff.1 h
  unfold pairN
  rw [List.take_succ_eq_append_getElem hk, List.foldl_append]; rfl
theorem pairA_no {l : List (Int × Int)} {ord : List Int} {st : List (Int × Int)} {a : Int} (h : ¬ haL l a = 0) : pairA l ord st a = st := if_neg h
theorem pairA_none {l : List (Int × Int)} {ord : List Int} {st : List (Int × Int)} {a : Int} (h : ord.any (fitB l a (st.map (·.2))) = false) : pairA l ord st a = st := by
  unfold pairA
  rw [h]
  split <;> rfl
theorem pairA_some {l : List (Int × Int)} {ord : List Int} {st : List (Int × Int)} {a b : Int} {k : Nat} (h0 : haL l a = 0) (hk : ord[k]? = some b) (hno : (ord.take k).any (fitB l a (st.map (·.2))) = false) (hf : fitB l a (st.map (·.2)) b = true) :
    pairA l ord st a = st ++ [(a, b)] ∧ ord.any (fitB l a (st.map (·.2))) = true ∧ (k : Int) = idxI (fitB l a (st.map (·.2))) ord := by
  obtain ⟨hkl, rfl⟩ := List.getElem?_eq_some_iff.1 hk
  have h1 : ord.any (fitB l a (st.map (·.2))) = true := List.any_eq_true.2 ⟨_, List.getElem_mem hkl, hf⟩
  have h2 := idxI_at hkl hno hf
  refine ⟨?_, h1, h2⟩
  unfold pairA
  rw [if_pos h0, if_pos h1]
  unfold idxI at h2
  rw [if_pos h1] at h2
  have h3 : ord.findIdx (fitB l a (st.map (·.2))) = k := by omega
  rw [h3, List.getD_eq_getElem?_getD, List.getElem?_eq_getElem hkl]; rfl
/-- The index that is found. -/
theorem idxI_some {f : Int → Bool} {ord : List Int} (h : ord.any f = true) : ∃ k b, idxI f ord = ((k : Nat) : Int) ∧ ord[k]? = some b ∧ f b = true ∧ (ord.take k).any f = false := by
  have h1 : ord.findIdx f < ord.length := List.findIdx_lt_length.2 (List.any_eq_true.1 h)
  refine ⟨ord.findIdx f, ord[ord.findIdx f], by unfold idxI; rw [if_pos h], List.getElem?_eq_getElem h1, List.findIdx_getElem (w := h1), ?_⟩
  cases hh : (ord.take (ord.findIdx f)).any f with
  | false => rfl
  | true =>
    obtain ⟨x, hx, hfx⟩ := List.any_eq_true.1 hh
    obtain ⟨j, hj, rfl⟩ := List.mem_iff_getElem.1 hx
    rw [List.getElem_take] at hfx
    have hj' : j < ord.findIdx f := by rw [List.length_take] at hj; omega
    exact absurd hfx (by simpa using List.not_of_lt_findIdx hj')
theorem pairN_len (l : List (Int × Int)) (ord : List Int) : ∀ k : Nat, (pairN l ord k).length ≤ k := by
  intro k
  induction k with
  | zero => simp [pairN]
  | succ k ih =>
    cases h : ord[k]? with
    | none =>
      have hk : ord.length ≤ k := List.getElem?_eq_none_iff.1 h
      unfold pairN at ih ⊢
      rw [List.take_of_length_le (by omega)] at ih ⊢
      omega
    | some a =>
      rw [pairN_succ h]
      unfold pairA
      split
      · split
        · rw [List.length_append, List.length_singleton]; omega
        · omega
      · omega
theorem pairN_mem {l : List (Int × Int)} {ord : List Int} (hr : ∀ x ∈ ord, 0 ≤ x ∧ x < l.length) : ∀ k : Nat, ∀ p ∈ pairN l ord k, (0 ≤ p.1 ∧ p.1 < l.length) ∧ (0 ≤ p.2 ∧ p.2 < l.length) := by
  intro k
  induction k with
  | zero => intro p hp; simp [pairN] at hp
  | succ k ih =>
    cases h : ord[k]? with
    | none =>
      have hk : ord.length ≤ k := List.getElem?_eq_none_iff.1 h
      unfold pairN at ih ⊢
      rw [List.take_of_length_le (by omega)] at ih ⊢
      exact ih
    | some a =>
      have ha := hr a (List.mem_of_getElem? h)
      rw [pairN_succ h]
      unfold pairA
      split
      · split
        · rename_i hany
          obtain ⟨j, b, e1, e2, _, _⟩ := idxI_some hany
          intro p hp
          rcases List.mem_append.1 hp with hp | hp
          · exact ih p hp
          · rw [List.mem_singleton] at hp
            subst hp
            refine ⟨ha, ?_⟩
            have h1 : ord.findIdx (fitB l a ((pairN l ord k).map (·.2))) = j := by unfold idxI at e1; rw [if_pos hany] at e1; omega
            show 0 ≤ ord.getD _ 0 ∧ ord.getD _ 0 < _
            rw [h1, List.getD_eq_getElem?_getD, e2]
            exact hr b (List.mem_of_getElem? e2)
        · exact ih
      · exact ih
end Go.Proofs.Ytgbihaliiogboaa

/- A map[int]bool that a call made, all of whose entries are true: a set of numbers. -/
namespace Go.Proofs.Ytgbihaliiogboaa
open Go.RowKit
set_option linter.unusedSimpArgs false
set_option linter.unusedVariables false

/-- Block b is the map; the numbers in T are its keys. -/
def MapB (w : World) (b n : Nat) (T : List Int) : Prop :=
  ∃ D : DataW Nat, w.ownsMap Try.prog 3 (plainElem Try.prog 4) b n D ∧ Go.Maps.IsMap D ∧ ∀ x : Int, D.atKey (.int .i64 x) (.lit (.bool false)) = .lit (.bool (decide (x ∈ T)))
theorem MapB.made (w : World) : MapB (w.alloc (.map #[] 0)) w.heap.size 0 [] :=
  ⟨.map [], World.ownsMap_made w _ _ _, Go.Maps.isMap_empty, fun x => by simp [DataW.atKey]⟩
theorem MapB.lt {w : World} {b n : Nat} {T : List Int} (h : MapB w b n T) : b < w.heap.size := by
  obtain ⟨D, h1, _⟩ := h
  exact h1.lt
theorem MapB.keep {w w' : World} {b n : Nat} {T : List Int} (h : MapB w b n T) (hk : ∀ o, w.heap[b]? = some o → w'.heap[b]? = some o) : MapB w' b n T := by
  obtain ⟨D, ⟨es, clock, hb, F, hs, hD⟩, h2, h3⟩ := h
  exact ⟨D, ⟨es, clock, hk _ hb, F, hs, hD⟩, h2, h3⟩
theorem MapB.below {w w' : World} {b n : Nat} {T : List Int} (h : MapB w b n T) {B : Nat} (hb : Below B w w') (hB : b < B) : MapB w' b n T := h.keep fun o ho => block_below hb ho hB
theorem lit_i64 {x : Int} (h : -9223372036854775808 ≤ x ∧ x ≤ 9223372036854775807) : (Lit.int .i64 x).wf = true := by
  have e1 : IntKind.i64.min = -9223372036854775808 := by decide
  have e2 : IntKind.i64.max = 9223372036854775807 := by decide
  simp [Lit.wf, e1, e2]
  omega
theorem plain_bool_inv {P : Program} {e : TypeId} (he : P.underlying e = some .bool) {v : Value} {z : DataW Nat × List MemPlace} (h : plainElem P e v = some z) : ∃ a, v = .bool a ∧ z = (.lit (.bool a), []) := by
  unfold plainElem at h
  rw [he] at h
  cases v <;> simp at h
  exact ⟨_, rfl, h.symm⟩
theorem Try.keyInt : Go.Maps.Keyed Try.prog 3 := Go.Maps.int_keyed Try.underlying3
theorem MapB.lookup {w : World} {b n : Nat} {T : List Int} (h : MapB w b n T) (x : Int) (hx : -9223372036854775808 ≤ x ∧ x ≤ 9223372036854775807) :
    (Instr.lookup 102 (.map (some b)) (.int .i64 x) false).run Try.prog w = .ok (.bool (decide (x ∈ T))) w := by
  obtain ⟨D, h1, h2, h3⟩ := h
  have hz : (zeroValue 4).run Try.prog w = .ok (.bool false) w := by kernel_rfl
  obtain ⟨v, ps, hrun, hv⟩ := h1.lookup Try.keyInt Try.underlying102 hz (plainElem_bool Try.underlying4 false) (Go.Maps.keyOf_int_mk Try.underlying3 (lit_i64 hx))
  obtain ⟨a, rfl, e⟩ := plain_bool_inv Try.underlying4 hv
  rw [hrun]
  have e1 : D.atKey (.int .i64 x) (.lit (.bool false)) = .lit (.bool a) := (Prod.mk.inj e).1
  rw [h3 x] at e1
  have : decide (x ∈ T) = a := by simpa using e1
  rw [this]
theorem MapB.update {w : World} {b n : Nat} {T : List Int} (h : MapB w b n T) (hn : n < 1000000) (x : Int) (hx : -9223372036854775808 ≤ x ∧ x ≤ 9223372036854775807) :
    ∃ w', (Instr.mapUpdate 102 (.map (some b)) (.int .i64 x) (.bool true)).run Try.prog w = .ok () w' ∧ MapB w' b (n + 1) (T ++ [x]) ∧ w.grownBy w' (some b) := by
  obtain ⟨D, h1, h2, h3⟩ := h
  obtain ⟨w', hrun, h4, h5⟩ := h1.update Try.keyInt Try.underlying102 (Nat.lt_of_lt_of_le hn (by decide)) (Go.Maps.keyOf_int_mk Try.underlying3 (lit_i64 hx)) (plainElem_bool Try.underlying4 true)
  refine ⟨w', hrun, ⟨_, h4, h2.put _ _, fun y => ?_⟩, h5⟩
  by_cases e : y = x
  · subst e
    rw [Go.Maps.atKey_put_same h2 (show WideAt.IsKeyLit (.int .i64 y) from trivial)]
    simp
  · rw [Go.Maps.atKey_put_other (fun e' => e (by simpa using e')), h3 y]
    simp [e]
end Go.Proofs.Ytgbihaliiogboaa

/- Worlds in which one block was turned, and others made. -/
namespace Go.Proofs.Ytgbihaliiogboaa
open Go.RowKit
set_option linter.unusedSimpArgs false
set_option linter.unusedVariables false

/-- From w to w' nothing is turned but the block p. -/
structure Butt (p : Nat) (w w' : World) : Prop where
  os : w'.os = w.os
  tape : w'.tape = w.tape
  output : w'.output = w.output
  size : w.heap.size ≤ w'.heap.size
  block : ∀ k, k < w.heap.size → k ≠ p → w'.heap[k]? = w.heap[k]?
theorem Butt.refl (p : Nat) (w : World) : Butt p w w := ⟨rfl, rfl, rfl, Nat.le_refl _, fun _ _ _ => rfl⟩
theorem Butt.trans {p : Nat} {a b c : World} (h : Butt p a b) (k : Butt p b c) : Butt p a c :=
  ⟨k.os.trans h.os, k.tape.trans h.tape, k.output.trans h.output, Nat.le_trans h.size k.size, fun i hi hn => (k.block i (Nat.lt_of_lt_of_le hi h.size) hn).trans (h.block i hi hn)⟩
theorem Butt.of {p : Nat} {w w' : World} (h : Below w.heap.size w w') : Butt p w w' := ⟨h.os, h.tape, h.output, h.size, fun k hk _ => h.block k hk⟩
theorem Butt.set (p : Nat) (w : World) (j : Nat) (v : Value) : Butt p w (w.setCell ⟨p, j, none⟩ v) :=
  ⟨rfl, rfl, rfl, by simp, fun k _ hn => heap_setCell_other w ⟨p, j, none⟩ k v hn⟩
theorem Butt.below {p B : Nat} {w w' : World} (h : Butt p w w') (h1 : B ≤ p) (h2 : B ≤ w.heap.size) : Below B w w' :=
  ⟨h.os, h.tape, h.output, h.size, fun k hk => h.block k (by omega) (by omega)⟩
theorem Butt.at {p : Nat} {w w' : World} (h : Butt p w w') {b : Nat} {o : Obj} (hb : w.heap[b]? = some o) (hn : b ≠ p) : w'.heap[b]? = some o := (h.block b (block_lt hb) hn).trans hb
end Go.Proofs.Ytgbihaliiogboaa

/- Rows that a call owns, several side by side: appended to, stored into. -/
namespace Go.Proofs.Ytgbihaliiogboaa
open Go.RowKit
set_option linter.unusedSimpArgs false
set_option linter.unusedVariables false

/-- Two slices do not share their array. -/
def Apart (v v' : Value) : Prop := ∀ g, v.ownBlock = some g → v'.ownBlock = some g → False
theorem Apart.symm {v v' : Value} (h : Apart v v') : Apart v' v := fun g h1 h2 => h g h2 h1
theorem Apart.nil (v : Value) (n c : Nat) : Apart (.slice none n c) v := fun g h => by simp [Value.ownBlock] at h
theorem Apart.nil' (v : Value) (n c : Nat) : Apart v (.slice none n c) := (Apart.nil v n c).symm
/-- From W to w': nothing is turned but the array of v; v' has it, or an array of its own. -/
structure Grew (v v' : Value) (W w' : World) : Prop where
  below : ∀ B0, (∀ g, v.ownBlock = some g → B0 ≤ g) → B0 ≤ W.heap.size → Below B0 W w'
  block : ∀ b o, W.heap[b]? = some o → v.ownBlock ≠ some b → w'.heap[b]? = some o
  own : ∀ g, v'.ownBlock = some g → v.ownBlock = some g ∨ W.heap.size ≤ g
  size : W.heap.size ≤ w'.heap.size
theorem Grew.row {v v' u : Value} {W w' : World} (h : Grew v v' W w') {B : Nat} {e : TypeId} {sz n : Nat} {xs : List Value} (hu : W.ownsRow B e sz u n xs) (ha : Apart u v) : w'.ownsRow B e sz u n xs := by
  refine ⟨hu.1, ?_⟩
  rcases hu.2 with hn | ⟨g, cap, cur, rfl, hb, hg, rest⟩
  · exact .inl hn
  · exact .inr ⟨g, cap, cur, rfl, hb, h.block g _ hg (fun e => ha g rfl e), rest⟩
theorem Grew.apart {v v' u : Value} {W w' : World} (h : Grew v v' W w') {B : Nat} {e : TypeId} {sz n : Nat} {xs : List Value} (hu : W.ownsRow B e sz u n xs) (ha : Apart u v) : Apart u v' := fun g h1 h2 => by
  rcases h.own g h2 with h3 | h3
  · exact ha g h1 h3
  · have := (hu.lt g h1).2; omega
theorem owns_slc {w : World} {base : Nat} {T : TypeId} {s n : Nat} {v : Value} {xs : List Value} (h : w.ownsRow base T s v n xs) : ∃ A c, v = .slice A n c := by
  rcases h.2 with ⟨rfl, rfl⟩ | ⟨g, cap, cur, rfl, _⟩
  · exact ⟨none, 0, rfl⟩
  · exact ⟨_, _, rfl⟩
/-- One element more, which lies in a block of its own that was just laid. -/
theorem wpList_append_row {P : Program} {ops : Array Oper} {rest : List Oper} {o : Oper} {a : Act} {W : World} {Q : Exit → Act → World → Prop} (hgd : o.guard = none) (s x : Operand) (t : TypeId)
    (ho : o.op = .call { callee := .builtin .append, args := #[s, x], argTypes := #[t, t] })
    (B : Nat) (e : TypeId) (i : TypeInfo) (z : Value) (size bytes : Nat) (ht : P.underlying t = some (.slice e)) (hi : P.info? e = some i) (hz : i.zero = some z)
    (hsize : i.size = size) (hby : i.bytes = bytes) (hzs : z.cells.size = size) (hsz : 0 < size) (hby2 : bytes ≤ 100)
    (v : Value) (n : Nat) (xs : List Value) (hs : a.eval s = v) (hown : W.ownsRow B e size v n xs) (news : Array Value) (hns : news.size = size) (h1 : ∀ u ∈ news, u.oneCell' = true)
    (H : Nat) (hx : a.eval x = .slice (some ⟨H, 0, none⟩) 1 1) (hn : n ≤ 1100000) (hB : B ≤ W.heap.size) (hH : W.heap.size = H) (E : TypeId)
    (h : ∀ v' w', w'.ownsRow B e size v' (n + 1) (xs ++ news.toList) → Grew v v' W w' → wpList P ops Q rest (a.put o.dst v') w') : wpList P ops Q (o :: rest) a (W.alloc (.cells news E)) := by
  subst hH
  refine wpList_append_lies _ hgd s x t ho B e i z size bytes ht hi hz hsize hby hzs hsz v n xs hs (hown.alloc _) ⟨W.heap.size, 0, none⟩ 1 1 news.toList hx (by simp [hns]) ?_ (fun u hu => h1 u (by simpa using hu)) (by decide) (Nat.le_trans (Nat.add_le_add_right hn 1) (by decide))
    (Nat.le_trans (Nat.mul_le_mul (Nat.add_le_add_right hn 1) hby2) (by decide)) (Nat.le_trans hB (by simp)) (W.heap.size + 1) (by simp) ?_
  · exact World.news_of_block (block_new1 W _ rfl)
  · intro g cap w' h2 h3 h4 h5
    refine h _ _ h2 ⟨?_, ?_, ?_, ?_⟩
    · intro B0 hB0 hB1
      exact ((Below.refl B0 W).alloc hB1 _).grown h3 (by simp; omega) hB0
    · intro b o hb hne
      have hlt : b < (W.alloc (.cells news E)).heap.size := by have := block_lt hb; simp; omega
      exact (h3.block b hlt (fun e => hne e.symm)).trans (block_alloc hb _)
    · intro g' hg'
      simp [Value.ownBlock] at hg'
      subst hg'
      rcases h4 with h4 | h4
      · exact .inl h4
      · right; omega
    · have := h3.size; simp at this; omega
theorem Grew.of_drew {v v' : Value} {W w' : World} (h : Grew v v' W.drew w') : Grew v v' W w' :=
  ⟨fun B0 h1 h2 => ((Below.refl B0 W).drew).trans (h.below B0 h1 h2), fun b o hb hne => h.block b o hb hne, h.own, h.size⟩
/-- The same behind a draw. -/
theorem wpList_append_rowD {P : Program} {ops : Array Oper} {rest : List Oper} {o : Oper} {a : Act} {W : World} {Q : Exit → Act → World → Prop} (hgd : o.guard = none) (s x : Operand) (t : TypeId)
    (ho : o.op = .call { callee := .builtin .append, args := #[s, x], argTypes := #[t, t] })
    (B : Nat) (e : TypeId) (i : TypeInfo) (z : Value) (size bytes : Nat) (ht : P.underlying t = some (.slice e)) (hi : P.info? e = some i) (hz : i.zero = some z)
    (hsize : i.size = size) (hby : i.bytes = bytes) (hzs : z.cells.size = size) (hsz : 0 < size) (hby2 : bytes ≤ 100)
    (v : Value) (n : Nat) (xs : List Value) (hs : a.eval s = v) (hown : W.ownsRow B e size v n xs) (news : Array Value) (hns : news.size = size) (h1 : ∀ u ∈ news, u.oneCell' = true)
    (H : Nat) (hx : a.eval x = .slice (some ⟨H, 0, none⟩) 1 1) (hn : n ≤ 1100000) (hB : B ≤ W.heap.size) (hH : W.heap.size = H) (E : TypeId)
    (h : ∀ v' w', w'.ownsRow B e size v' (n + 1) (xs ++ news.toList) → Grew v v' W w' → wpList P ops Q rest (a.put o.dst v') w') : wpList P ops Q (o :: rest) a (W.alloc (.cells news E)).drew :=
  wpList_append_row (W := W.drew) hgd s x t ho B e i z size bytes ht hi hz hsize hby hzs hsz hby2 v n xs hs hown news hns h1 H hx hn hB hH E fun v' w' g1 g2 => h v' w' g1 g2.of_drew
/-- One cell of such a row, replaced. -/
theorem owns_set {W : World} {B : Nat} {e : TypeId} {sz n : Nat} {v : Value} {xs : List Value} (h : W.ownsRow B e sz v n xs) {g : Nat} (hg : v.ownBlock = some g) (j : Nat) (hj : j < n * sz) (x : Value) :
    (W.setCell ⟨g, j, none⟩ x).ownsRow B e sz v n (xs.set j x) := by
  refine ⟨by simp [h.1], ?_⟩
  rcases h.2 with ⟨rfl, hn⟩ | ⟨g', cap, cur, rfl, hb, hgg, hc, hm, hs, ht⟩
  · simp [Value.ownBlock] at hg
  · simp [Value.ownBlock] at hg
    subst hg
    refine .inr ⟨g', cap, _, rfl, hb, heap_setCell_same W g' j cur e x hgg, hc, hm, by simp [hs], ?_⟩
    rw [← ht]
    simp [List.take_set]
theorem owns_set_other {W : World} {B : Nat} {e : TypeId} {sz n : Nat} {v : Value} {xs : List Value} (h : W.ownsRow B e sz v n xs) {g : Nat} (hg : v.ownBlock ≠ some g) (j : Nat) (x : Value) :
    (W.setCell ⟨g, j, none⟩ x).ownsRow B e sz v n xs := by
  refine ⟨h.1, ?_⟩
  rcases h.2 with hn | ⟨g', cap, cur, rfl, hb, hgg, rest⟩
  · exact .inl hn
  · exact .inr ⟨g', cap, cur, rfl, hb, block_set_other hgg (a := ⟨g, j, none⟩) x (by rintro rfl; exact hg rfl), rest⟩
theorem owns_below2 {w w' : World} {base B : Nat} {e : TypeId} {size : Nat} {v : Value} {n : Nat} {xs : List Value} (h : w.ownsRow base e size v n xs) (hb : Below B w w') (hB : w.heap.size ≤ B) : w'.ownsRow base e size v n xs := by
  refine ⟨h.1, ?_⟩
  rcases h.2 with hn | ⟨g, cap, cur, rfl, hb0, hg, rest⟩
  · exact .inl hn
  · exact .inr ⟨g, cap, cur, rfl, hb0, block_below hb hg (Nat.lt_of_lt_of_le (block_lt hg) hB), rest⟩
/-- A cell of such a row. -/
theorem owns_cell {W : World} {B : Nat} {e : TypeId} {sz n : Nat} {v : Value} {xs : List Value} (h : W.ownsRow B e sz v n xs) {j : Nat} {x : Value} (hx : xs[j]? = some x) :
    ∃ g c, v = .slice (some ⟨g, 0, none⟩) n c ∧ B ≤ g ∧ g < W.heap.size ∧ W.cell? ⟨g, j, none⟩ = some x ∧ W.frozen? ⟨g, j, none⟩ = false := by
  have hl := (List.getElem?_eq_some_iff.1 hx).1
  rw [h.1] at hl
  rcases h.2 with ⟨rfl, hn⟩ | ⟨g, cap, cur, rfl, hb, hgg, hc, hm, hs, ht⟩
  · subst hn; simp at hl
  · refine ⟨g, cap, rfl, hb, block_lt hgg, cell_block hgg ?_, frozen_of_row _ _ _ _ _ hgg⟩
    rw [← ht, List.getElem?_take, if_pos hl] at hx
    simpa using hx
end Go.Proofs.Ytgbihaliiogboaa
