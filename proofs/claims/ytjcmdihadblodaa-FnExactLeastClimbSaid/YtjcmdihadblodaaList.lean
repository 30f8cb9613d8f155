/- Lists of places in memory; the code of a roof and of places. -/
import Derived.Test.YtjcmdihadblodaaKind
namespace Go.Proofs.Ytjcmdihadblodaa
open Go.RowKit
set_option linter.unusedSimpArgs false
set_option linter.unusedVariables false

/-- A slice's elements, places, lie at A. -/
def SlP (w : World) (A : Option Addr) (l : List (Int × Int)) : Prop := ∀ j p, l[j]? = some p → ∃ b off, A = some ⟨b, off, none⟩ ∧ b < w.heap.size ∧ w.cell? ⟨b, off + j * 2, none⟩ = some (.int .i8 p.1) ∧ w.cell? ⟨b, off + j * 2 + 1, none⟩ = some (.int .i8 p.2)
theorem SlP.nil (w : World) (A : Option Addr) : SlP w A [] := fun j p h => by simp at h
theorem SlP.below {B : Nat} {w w' : World} {A : Option Addr} {l : List (Int × Int)} (h : SlP w A l) (hb : Below B w w') (hB : w.heap.size ≤ B) : SlP w' A l := fun j p hj => by
  obtain ⟨b, off, e, h1, h2, h3⟩ := h j p hj
  exact ⟨b, off, e, Nat.lt_of_lt_of_le h1 hb.size, (hb.cell (p := ⟨b, _, none⟩) (by show b < B; omega)).trans h2, (hb.cell (p := ⟨b, _, none⟩) (by show b < B; omega)).trans h3⟩
/-- The numbers of places are of their kinds. -/
def PlB (l : List (Int × Int)) : Prop := ∀ p ∈ l, (-128 ≤ p.1 ∧ p.1 ≤ 127) ∧ (-128 ≤ p.2 ∧ p.2 ≤ 127)
/-- The code of a roof, of what has to be so, and of how many places there are. -/
def codeL (v g : Bool) (n : Nat) : Int := if codeOf v g = 0 ∧ 8 < n then 3 else codeOf v g
theorem codeL_cases (v g : Bool) (n : Nat) : (v = false ∧ codeL v g n = 1) ∨ (v = true ∧ g = false ∧ codeL v g n = 2) ∨ (v = true ∧ g = true ∧ 8 < n ∧ codeL v g n = 3) ∨ (v = true ∧ g = true ∧ n ≤ 8 ∧ codeL v g n = 0) := by
  cases v <;> cases g <;> by_cases h : 8 < n <;> simp [codeL, codeOf, h] <;> omega
def allPl (r : Rf) (l : List (Int × Int)) : Bool := l.all fun p => isPl r p.1 p.2
theorem allPl_snoc (r : Rf) (l : List (Int × Int)) (k : Nat) (p : Int × Int) (h : l[k]? = some p) : allPl r (l.take (k + 1)) = (allPl r (l.take k) && isPl r p.1 p.2) := by
  obtain ⟨hk, rfl⟩ := List.getElem?_eq_some_iff.1 h
  unfold allPl
  rw [List.take_succ_eq_append_getElem hk, List.all_append]
  simp

set_option maxRecDepth 100000 in
theorem c_l04Asked (r : Rf) (hr : r.Ok) (b : Nat) (Ac : Option Addr) (cc : Nat) (A : Option Addr) (c : Nat) (l : List (Int × Int)) (hB : PlB l) (hlen : l.length ≤ 70368744177664) (fine : Bool) (w : World) (hb : w.heap[b]? = some (.cells (rcells r) 38 (0,0))) (hA : SlP w A l) :
    Calls Try.prog 29 #[.pointer (some ⟨b,0,none⟩), .slice Ac 0 cc, .slice A l.length c, .bool fine] w fun e w' => e = .returned (.int .i64 (codeL (validB r) (fine && allPl r l) l.length)) ∧ Below w.heap.size w w' := by
  have hlt := block_lt hb
  have HR := hid hb; clear hb
  have HA := hid hA; clear hA
  have HP := hid hB; clear hB
  go_enter Try.func29, Try.ntmps29
  go_wp2_with fail
  go_loop [3, 9] (fun f i => f = .bool fine ∧ i = .int .i64 0) (fun _ _ => 0)
  case atStart => exact ⟨rfl, rfl⟩
  case round =>
    obtain ⟨rfl, rfl⟩ := hrel
    go_wp2_with fail
    go_loopw [3, 10] (fun f i wr => ∃ (k : Nat) (g : Bool), k ≤ l.length ∧ i = .int .i64 k ∧ f = .bool g ∧ Hid (g = (fine && allPl r (l.take k))) ∧ Below w.heap.size w wr) (fun _ i _ => l.length - (intOf i).toNat)
    case atStart => exact ⟨0, fine, by omega, rfl, rfl, by simp [Hid, allPl], Below.refl _ _⟩
    case round =>
      obtain ⟨k, g, hk, rfl, rfl, hg, hb⟩ := hrel
      by_cases hkl : k < l.length
      · have hk8 : decide ((k : Int) < (l.length : Int)) = true := decide_eq_true (by omega)
        have hp := List.getElem?_eq_getElem hkl
        obtain ⟨p, hpp⟩ : ∃ p, p = l[k] := ⟨_, rfl⟩
        rw [← hpp] at hp
        have hpb := HP.out p (hpp ▸ List.getElem_mem hkl)
        have hsn := hid (allPl_snoc r l k p hp)
        cases g
        · clear hp hpp hpb
          go_wp2_with fail
          go_roundw
          case rel => exact ⟨k + 1, false, by omega, by go_num, rfl, by show false = _; rw [hsn.out, ← Bool.and_assoc, ← hg.out]; rfl, hb⟩
          case measure => simp [intOf]; omega
        · obtain ⟨bb, off, rfl, q1, q2, q3⟩ := HA.out k p hp
          have c0 := (hb.cell (p := ⟨bb, _, none⟩) q1).trans q2
          have c1 := (hb.cell (p := ⟨bb, _, none⟩) q1).trans q3
          have HR2 := hid (block_below hb HR.out hlt)
          obtain ⟨p1, p2⟩ := p
          clear hp hpp q2 q3
          obtain ⟨b1, b2⟩ := hpb
          have B1 := hid b1; have B2 := hid b2; clear b1 b2
          dsimp only at c0 c1 hsn B1 B2
          cases hv : isPl r p1 p2
          all_goals
            have HV := hid hv
            clear hv
            go_wp2_with (go_at_call 52; ((with_reducible refine (c_l01Is p1 p2 B1.out B2.out r hr b _ HR2.out _ HV.out).mono ?_); rintro e w1 ⟨rfl, hb1⟩))
            go_roundw
            case rel => exact ⟨k + 1, _, by omega, by go_num, rfl, by show _ = _; rw [hsn.out, ← Bool.and_assoc, ← hg.out, HV.out]; rfl, hb.trans (hb1.mono hb.size)⟩
            case measure => simp [intOf]; omega
      · obtain rfl : k = l.length := by omega
        rw [List.take_length] at hg
        have HR2 := hid (block_below hb HR.out hlt)
        have hnd : decide ((l.length : Int) < (l.length : Int)) = false := decide_eq_false (by omega)
        have key : codeL (validB r) (fine && allPl r l) l.length = codeL (validB r) g l.length := by rw [hg.out]
        have KEY := hid key
        clear hk hkl key hg
        rcases codeL_cases (validB r) g l.length with ⟨hv, hc⟩ | ⟨hv, hg, hc⟩ | ⟨hv, hg, h8, hc⟩ | ⟨hv, hg, h8, hc⟩
        all_goals
          have HC := hid hc
          first
            | (have HK : Hid (codeOf (validB r) g = 1) := by simp [Hid, hv, codeOf])
            | (have HK : Hid (codeOf (validB r) g = 2) := by simp [Hid, hv, hg, codeOf])
            | (have HK : Hid (codeOf (validB r) g = 0) := by simp [Hid, hv, hg, codeOf])
          clear hc hv
          try clear hg
          go_wp2_with (go_at_call 53; ((with_reducible refine (c_l01ToldK r hr b g _ HK.out _ HR2.out).mono ?_); rintro e w1 ⟨rfl, hb1⟩))
          go_ret
          exact ⟨ret_int (KEY.out.trans HC.out).symm, hb.trans (hb1.mono hb.size)⟩
end Go.Proofs.Ytjcmdihadblodaa
