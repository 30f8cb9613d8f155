/- Slices of numbers: copied out of the law's arguments, marked. -/
import Derived.Test.YtjcmdihadblodaaSli
import Derived.Test.YtjcmdihadblodaaOut
namespace Go.Proofs.Ytjcmdihadblodaa
open Go.RowKit
set_option linter.unusedSimpArgs false
set_option linter.unusedVariables false

theorem OwI.sli {lo hi : Nat} {w : World} {A : Option Addr} {n c : Nat} {l : List Int} (h : OwI lo hi w (.slice A n c) l) : SlI w A l := fun j p hj => by
  obtain ⟨b, c', e, _, _, h1, h2, _⟩ := h.cells hj
  obtain ⟨rfl, _, _⟩ : A = some ⟨b, 0, none⟩ ∧ n = l.length ∧ c = c' := by simpa using e
  exact ⟨b, 0, rfl, h1, by rw [Nat.zero_add]; exact h2⟩
theorem OwJ.sli {lo hi : Nat} {w : World} {A : Option Addr} {n c : Nat} {l : List Int} (h : OwJ lo hi w (.slice A n c) l) : SlI w A l := h.1.sli
theorem OwJ.alloc {lo hi : Nat} {w : World} {v : Value} {l : List Int} (h : OwJ lo hi w v l) (o : Obj) : OwJ lo hi (w.alloc o) v l := h.below ((Below.refl _ w).alloc (Nat.le_refl _) o)
theorem OwJ.lo {lo lo' hi : Nat} {w : World} {v : Value} {l : List Int} (h : OwJ lo hi w v l) (hl : lo' ≤ lo) : OwJ lo' hi w v l := by
  obtain ⟨⟨A, c, rfl, h⟩, h2, h3⟩ := h
  exact ⟨⟨A, c, rfl, fun hl => by obtain ⟨b, cs, h1, h2, h3, h4⟩ := h hl; exact ⟨b, cs, h1, by omega, by omega, h4⟩⟩, by omega, h3⟩
theorem OwJ.outS {lo hi lo' hi' : Nat} {w w' : World} {v : Value} {l : List Int} (h : OwJ lo hi w v l) (hO : OutS lo' hi' w w') (hd : hi ≤ lo' ∨ hi' ≤ lo) : OwJ lo hi w' v l := by
  obtain ⟨⟨A, c, rfl, h⟩, h2, h3⟩ := h
  refine ⟨⟨A, c, rfl, fun hl => ?_⟩, h2, Nat.le_trans h3 hO.size⟩
  obtain ⟨b, cs, r1, r2, r3, r4, r5⟩ := h hl
  exact ⟨b, cs, r1, r2, r3, hO.keep r4 (by omega), r5⟩
theorem OwI.hi {lo hi lo' hi' : Nat} {w : World} {v : Value} {l : List Int} (h : OwI lo hi w v l) (hl : lo' ≤ lo) (hh : hi ≤ hi') : OwI lo' hi' w v l := by
  obtain ⟨A, c, rfl, h⟩ := h
  exact ⟨A, c, rfl, fun hl => by obtain ⟨b, cs, h1, h2, h3, h4⟩ := h hl; exact ⟨b, cs, h1, by omega, by omega, h4⟩⟩
theorem SlI.belowB {B : Nat} {w w' : World} {A : Option Addr} {l : List Int} (h : SlI w A l) (hb : Below B w w') (hB : w.heap.size ≤ B) : SlI w' A l := h.below hb hB
/-- The first k numbers of a list, zeros behind. -/
def padJ (l : List Int) (k : Nat) : List Int := l.take k ++ List.replicate (l.length - k) 0
theorem padJ_len (l : List Int) (k : Nat) (hk : k ≤ l.length) : (padJ l k).length = l.length := by simp [padJ]; omega
theorem padJ_zero (l : List Int) : padJ l 0 = List.replicate l.length 0 := by simp [padJ]
theorem padJ_all (l : List Int) : padJ l l.length = l := by simp [padJ]
theorem padJ_step (l : List Int) (k : Nat) (hk : k < l.length) (p : Int) (hp : p = l[k]) : (padJ l k).set k p = padJ l (k + 1) := by
  unfold padJ
  have e : l.length - k = (l.length - (k + 1)) + 1 := by omega
  have h1 : (l.take k).length = k := by simp; omega
  have h2 : (l.take k ++ List.replicate (l.length - k) (0 : Int)).set k p = l.take k ++ (List.replicate (l.length - k) (0 : Int)).set 0 p := by
    rw [List.set_append_right _ _ (by omega)]; rw [h1, Nat.sub_self]
  rw [h2, e, List.replicate_succ, List.set_cons_zero, List.take_succ_eq_append_getElem hk, List.append_assoc, ← hp]
  rfl
theorem owJ_free {lo hi : Nat} {w : World} {b n c : Nat} {l : List Int} (h : OwI lo hi w (.slice (some ⟨b, 0, none⟩) n c) l) {k : Nat} (hk : k < l.length) :
    (∃ v, w.cell? ⟨b, k, none⟩ = some v) ∧ w.frozen? ⟨b, k, none⟩ = false ∧ lo ≤ b := by
  obtain ⟨b', c', e, h1, h2, h3, h4, h5⟩ := h.cells (List.getElem?_eq_getElem hk)
  obtain ⟨rfl, _⟩ : b = b' ∧ n = l.length ∧ c = c' := by simpa using e
  exact ⟨⟨_, h4⟩, h5, h1⟩
theorem made_ints (n : Nat) {w : World} {base cap : Nat} {A : Option Addr} (h : w.ownsRow base 2 1 (.slice A n cap) n (madeCells (Value.int .i64 0).cells (n * 1)).toList) : OwI base w.heap.size w (.slice A n cap) (List.replicate n 0) := by
  have e : (madeCells (Value.int .i64 0).cells (n * 1)).toList = icells (List.replicate n 0) := by
    simp [icells, madeCells]
    apply List.ext_getElem
    · simp
    · intro j h1 h2
      have e1 : (Value.int .i64 0).cells = #[.int .i64 0] := rfl
      have e2 : j % 1 = 0 := by omega
      simp [e1, e2]
  rw [e] at h
  have h2 : w.ownsRow base 2 1 (.slice A n cap) (List.replicate n (0 : Int)).length (icells (List.replicate n 0)) := by rw [List.length_replicate]; exact h
  exact OwI.of_owns h2
set_option maxHeartbeats 800000 in
set_option maxRecDepth 100000 in
theorem c_toInt64S (A : Option Addr) (c : Nat) (l : List Int) (hlen : l.length ≤ 1048576) (w : World) (hA : SlI w A l) :
    Calls Try.prog 8 #[.slice A l.length c] w fun e w' => ∃ (A' : Option Addr) (c' : Nat), e = .returned (.slice A' l.length c') ∧ Below w.heap.size w w' ∧ OwJ w.heap.size w'.heap.size w' (.slice A' l.length c') l := by
  obtain ⟨i0, hi, hz0, hz1, hz2⟩ := info_parts Try.infoI64
  have HA := hid hA; clear hA
  go_enter Try.func8, Try.ntmps8
  go_wp2_with ((with_reducible refine gate (N := 7) rfl ?_); refine wpList_make_full _ rfl (.tmp 6) (.tmp 6) 22 rfl w.heap.size 2 i0 (.int .i64 0) 1 Try.underlying22 hi hz0 hz1 .i64 .i64 (l.length : Int) (l.length : Int) l.length rfl rfl rfl rfl (by rw [hz2]; omega) (Nat.le_trans hlen (by decide)) (Nat.le_refl _) ?_; intro w1 hown hgrow)
  have HB1 : Hid (Below w.heap.size w w1) := (Below.refl _ w).grown hgrow (Nat.le_refl _) (fun k hk => by cases hk)
  have HO1 : Hid (OwI w.heap.size w1.heap.size w1 (.slice (some ⟨w.heap.size, 0, none⟩) l.length l.length) (padJ l 0)) := by
    rw [padJ_zero]
    have := made_ints l.length hown
    simpa [Hid] using this
  have hS1 : Hid (w.heap.size ≤ w1.heap.size) := HB1.out.size
  clear hown hgrow
  go_loopw [4] (fun i wr => ∃ k : Nat, k ≤ l.length ∧ i = .int .i64 k ∧ Hid (Below w.heap.size w wr) ∧ Hid (w1.heap.size ≤ wr.heap.size) ∧ Hid (OwI w.heap.size w1.heap.size wr (.slice (some ⟨w.heap.size, 0, none⟩) l.length l.length) (padJ l k))) (fun i _ => l.length - (intOf i).toNat)
  case atStart => exact ⟨0, by omega, rfl, HB1, Nat.le_refl _, HO1⟩
  case round =>
    obtain ⟨k, hk, rfl, hb, hS, hO⟩ := hrel
    by_cases hkl : k < l.length
    · have hd : decide ((k : Int) < (l.length : Int)) = true := decide_eq_true (by omega)
      have hkI : (k : Int) < (l.length : Int) := by omega
      have hk0 : (0 : Int) ≤ (k : Int) := by omega
      have hp := List.getElem?_eq_getElem hkl
      obtain ⟨p, hpp⟩ : ∃ p, p = l[k] := ⟨_, rfl⟩
      rw [← hpp] at hp
      have HST : Hid ((padJ l k).set k p = padJ l (k + 1)) := padJ_step l k hkl _ hpp
      have HL := hid (padJ_len l k hk)
      obtain ⟨b, off, rfl, r1, r2⟩ := HA.out k _ hp
      have c0 := (hb.out.cell (p := ⟨b, _, none⟩) r1).trans r2
      obtain ⟨⟨v0, m0⟩, m2, m4⟩ := owJ_free hO.out (k := k) (by rw [HL.out]; exact hkl)
      clear hp hpp r2
      go_wp2_with fail
      refine ⟨⟨k + 1, by omega, by go_num, Below.setCell hb.out (p := ⟨w.heap.size, k, none⟩) (Nat.le_refl _) _, ?_, ?_⟩, by simp [intOf]; omega⟩
      · have := hS.out; simpa [Hid] using this
      · have h1 := hO.out
        rw [← HL.out] at h1
        have h2 := OwI.put h1 (by rw [HL.out]; exact hkl) p
        rw [HST.out, HL.out] at h2
        exact h2
    · obtain rfl : k = l.length := by omega
      have hd : decide ((l.length : Int) < (l.length : Int)) = false := decide_eq_false (by omega)
      rw [padJ_all] at hO
      go_wp2_with fail
      go_ret
      exact ⟨_, _, rfl, hb.out, ⟨hO.out.hi (Nat.le_refl _) hS.out, hb.out.size, Nat.le_refl _⟩⟩
theorem e_Int64S {lo hi lo' hi' : Nat} {v v' : Value} {l : List Int} (hlen : l.length ≤ 1048576) {w : World} (h : OwJ lo hi w v l) (h' : OwJ lo' hi' w v' l) :
    Calls Try.prog 10 #[v, v'] w fun e w' => e = .returned (.bool true) ∧ Below w.heap.size w w' :=
  c_eqInt64S lo hi lo' hi' v v' l (Nat.le_trans hlen (by decide)) w h.1 h'.1 h.2.2 h'.2.2
set_option maxRecDepth 100000 in
theorem m_Int64S {lo hi : Nat} {v : Value} {l : List Int} {m : Int} (hm : 0 ≤ m ∧ m ≤ 1000000000) (hlen : l.length ≤ 1048576) {w : World} (h : OwJ lo hi w v l) :
    Calls Try.prog 11 #[v, .int .i64 m] w fun e w' => e = .returned (.int .i64 (m + l.length)) ∧ Below lo w w' ∧ OutS lo hi w w' ∧ OwJ lo hi w' v (mkI l m l.length) := by
  have h2 := h.2
  have h0 := h.1
  obtain ⟨⟨A, c, rfl, _⟩, _, _⟩ := h
  go_enter Try.func11, Try.ntmps11
  go_wp2_with fail
  go_loopw [1, 5] (fun q i wr => ∃ k : Nat, k ≤ l.length ∧ i = .int .i64 k ∧ q = .int .i64 (m + k) ∧ Hid (Below lo w wr) ∧ Hid (OutS lo hi w wr) ∧ Hid (OwI lo hi wr (.slice A l.length c) (mkI l m k))) (fun _ i _ => l.length - (intOf i).toNat)
  case atStart => exact ⟨0, by omega, rfl, by simp, Below.refl _ _, OutS.refl _ _ _, by rw [mkI_zero]; exact h0⟩
  case round =>
    obtain ⟨k, hk, rfl, rfl, hb, hOut, hO⟩ := hrel
    by_cases hkl : k < l.length
    · have hd : decide ((k : Int) < (l.length : Int)) = true := decide_eq_true (by omega)
      have hkI : (k : Int) < (l.length : Int) := by omega
      have hk0 : (0 : Int) ≤ (k : Int) := by omega
      have hkl' : k < (mkI l m k).length := by rw [mkI_len]; exact hkl
      have hp := List.getElem?_eq_getElem hkl'
      obtain ⟨p, hpp⟩ : ∃ p, p = (mkI l m k)[k] := ⟨_, rfl⟩
      rw [← hpp] at hp
      obtain ⟨b, c1, e1, r1, r9, q1, q2, f2⟩ := hO.out.cells hp
      obtain ⟨rfl, _, rfl⟩ : A = some ⟨b, 0, none⟩ ∧ l.length = (mkI l m k).length ∧ c = c1 := by simpa using e1
      have HP : Hid (OwI lo hi (wr.setCell ⟨b, k, none⟩ (.int .i64 (m + k))) (.slice (some ⟨b, 0, none⟩) l.length c) (mkI l m (k + 1))) := by
        have := hO.out
        rw [← mkI_len l m k] at this
        have := OwI.put this hkl' (m + k)
        rw [mkI_step l m k hkl, mkI_len] at this
        exact this
      clear hp hpp e1 h0 hkl'
      go_wp2_with fail
      exact ⟨⟨k + 1, by omega, by go_num, congrArg (Value.int .i64) (by omega), Below.setCell hb.out (p := ⟨b, k, none⟩) r1 _, OutS.setCell hOut.out (a := ⟨b, k, none⟩) _ r1 r9, HP.out⟩, by simp [intOf]; omega⟩
    · obtain rfl : k = l.length := by omega
      have hd : decide ((l.length : Int) < (l.length : Int)) = false := decide_eq_false (by omega)
      go_wp2_with fail
      go_ret
      exact ⟨rfl, hb.out, hOut.out, hO.out, h2.1, Nat.le_trans h2.2 hOut.out.size⟩
set_option maxRecDepth 100000 in
theorem h_Int64S {lo hi : Nat} {v : Value} {l : List Int} {m : Int} (hm : 0 ≤ m ∧ m ≤ 1000000000) (hlen : l.length ≤ 1048576) {w : World} (h : OwJ lo hi w v (mkI l m l.length)) :
    Calls Try.prog 12 #[v, .int .i64 m] w fun e w' => e = .returned (.int .i64 (m + l.length)) ∧ Below w.heap.size w w' := by
  have h0 := hid h.1
  obtain ⟨⟨A, c, rfl, _⟩, _, _⟩ := h
  rw [mkI_len] at h0 ⊢
  go_enter Try.func12, Try.ntmps12
  go_wp2_with fail
  go_loop [1, 5] (fun q i => ∃ k : Nat, k ≤ l.length ∧ i = .int .i64 k ∧ q = .int .i64 (m + k)) (fun _ i => l.length - (intOf i).toNat)
  case atStart => exact ⟨0, by omega, rfl, by simp⟩
  case round =>
    obtain ⟨k, hk, rfl, rfl⟩ := hrel
    by_cases hkl : k < l.length
    · have hd : decide ((k : Int) < (l.length : Int)) = true := decide_eq_true (by omega)
      have hkI : (k : Int) < (l.length : Int) := by omega
      have hk0 : (0 : Int) ≤ (k : Int) := by omega
      have hp : (mkI l m l.length)[k]? = some (m + k) := by rw [mkI_get, if_pos hkl, if_pos hkl]
      obtain ⟨b, c1, e1, r1, _, q1, q2, _⟩ := h0.out.cells hp
      obtain ⟨rfl, _⟩ : A = some ⟨b, 0, none⟩ ∧ c = c1 := by simpa [mkI_len] using e1
      have hne : (m + (k : Int) != m + (k : Int)) = false := by simp
      clear hp e1
      go_wp2_with fail
      exact ⟨⟨k + 1, by omega, by go_num, congrArg (Value.int .i64) (by omega)⟩, by simp [intOf]; omega⟩
    · obtain rfl : k = l.length := by omega
      have hd : decide ((l.length : Int) < (l.length : Int)) = false := decide_eq_false (by omega)
      go_wp2_with fail
      go_ret
      exact ⟨rfl, Below.refl _ _⟩
end Go.Proofs.Ytjcmdihadblodaa
