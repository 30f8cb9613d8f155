/- FewestDays: the reference's branch and bound. -/
import Derived.Test.YtjcmdihadblodaaFewI
namespace Go.Proofs.Ytjcmdihadblodaa
open Go.RowKit
set_option linter.unusedSimpArgs false
set_option linter.unusedVariables false

/-- From w to w' nothing is turned but the block p. -/
structure Butt (p : Nat) (w w' : World) : Prop where
  os : w'.os = w.os
  tape : w'.tape = w.tape
  output : w'.output = w.output
  size : w.heap.size ≤ w'.heap.size
  block : ∀ k, k < w.heap.size → k ≠ p → w'.heap[k]? = w.heap[k]?
theorem Butt.refl (p : Nat) (w : World) : Butt p w w := ⟨rfl, rfl, rfl, Nat.le_refl _, fun _ _ _ => rfl⟩
theorem Butt.trans {p : Nat} {a b c : World} (h : Butt p a b) (k : Butt p b c) : Butt p a c :=
  ⟨k.os.trans h.os, k.tape.trans h.tape, k.output.trans h.output, Nat.le_trans h.size k.size, fun i hi hn => (k.block i (Nat.lt_of_lt_of_le hi h.size) hn).trans (h.block i hi hn)⟩
theorem Butt.of {p : Nat} {w w' : World} (h : Below w.heap.size w w') : Butt p w w' := ⟨h.os, h.tape, h.output, h.size, fun k hk _ => h.block k hk⟩
theorem Butt.set (p : Nat) (w : World) (j : Nat) (v : Value) : Butt p w (w.setCell ⟨p, j, none⟩ v) :=
  ⟨rfl, rfl, rfl, by simp, fun k _ hn => heap_setCell_other w ⟨p, j, none⟩ k v hn⟩
theorem Butt.below {p B : Nat} {w w' : World} (h : Butt p w w') (h1 : B ≤ p) (h2 : B ≤ w.heap.size) : Below B w w' :=
  ⟨h.os, h.tape, h.output, h.size, fun k hk => h.block k (by omega) (by omega)⟩
theorem Butt.at {p : Nat} {w w' : World} (h : Butt p w w') {b : Nat} {o : Obj} (hb : w.heap[b]? = some o) (hn : b ≠ p) : w'.heap[b]? = some o := (h.block b (block_lt hb) hn).trans hb
/-- Numbers at A, not in the block p. -/
def SlN (p : Nat) (w : World) (A : Option Addr) (l : List Int) : Prop := SlI w A l ∧ ∀ a, l ≠ [] → A = some a → a.block ≠ p
theorem SlN.butt {p : Nat} {w w' : World} {A : Option Addr} {l : List Int} (h : SlN p w A l) (hb : Butt p w w') : SlN p w' A l :=
  ⟨fun j n hj => by
    obtain ⟨b, off, e, h1, h2⟩ := h.1 j n hj
    have hne : b ≠ p := h.2 _ (by rintro rfl; simp at hj) e
    exact ⟨b, off, e, Nat.lt_of_lt_of_le h1 hb.size, (World.cell?_of_block (w := w) (a := ⟨b, off + j, none⟩) (hb.block b h1 hne)).trans h2⟩, h.2⟩
theorem RowI.slN {B p : Nat} {w : World} {A : Option Addr} {n c : Nat} {l : List Int} (h : RowI B w (.slice A n c) l) (hp : p < B) : SlN p w A l :=
  ⟨h.sli, fun a _ e => by
    subst e
    have := (h.lt a.block rfl).1
    omega⟩
theorem RowI.butt {B p : Nat} {w w' : World} {v : Value} {l : List Int} (h : RowI B w v l) (hb : Butt p w w') (hn : v.ownBlock ≠ some p) : RowI B w' v l := by
  refine ⟨h.1, ?_⟩
  rcases h.2 with hn' | ⟨g, cap, cur, rfl, hb0, hg, rest⟩
  · exact .inl hn'
  · exact .inr ⟨g, cap, cur, rfl, hb0, hb.at hg (by rintro rfl; exact hn rfl), rest⟩
/-- The state of the search, at p. -/
def StAt (B p : Nat) (tv : Value) (s : Int) (w : World) : Option (List Int × Nat) → Prop
  | none => ∃ bv ls, w.heap[p]? = some (.cells #[tv, .int .i64 s, bv, .int .i64 ls, .bool false] 49 (0, 0))
  | some (l, n) => ∃ A c, w.heap[p]? = some (.cells #[tv, .int .i64 s, .slice A l.length c, .int .i64 n, .bool true] 49 (0, 0)) ∧ RowI B w (.slice A l.length c) l ∧ (Value.slice A l.length c).ownBlock ≠ some p
theorem StAt.below {B p : Nat} {tv : Value} {s : Int} {w w' : World} {st : Option (List Int × Nat)} (h : StAt B p tv s w st) (hb : Below w.heap.size w w') : StAt B p tv s w' st := by
  rcases st with _ | ⟨l, n⟩
  · obtain ⟨bv, ls, h1⟩ := h
    exact ⟨bv, ls, block_below hb h1 (block_lt h1)⟩
  · obtain ⟨A, c, h1, h2, h3⟩ := h
    exact ⟨A, c, block_below hb h1 (block_lt h1), h2.below hb (Nat.le_refl _), h3⟩
theorem StAt.heads {B p : Nat} {tv : Value} {s : Int} {w : World} {st : Option (List Int × Nat)} (h : StAt B p tv s w st) : ∃ bv ls f, w.heap[p]? = some (.cells #[tv, .int .i64 s, bv, .int .i64 ls, .bool f] 49 (0, 0)) := by
  rcases st with _ | ⟨l, n⟩
  · obtain ⟨bv, ls, h1⟩ := h; exact ⟨bv, ls, _, h1⟩
  · obtain ⟨A, c, h1, _⟩ := h; exact ⟨_, _, _, h1⟩
/-- What from leaves. -/
def FromRet (B p : Nat) (tv : Value) (s : Int) (w : World) (st : Option (List Int × Nat)) (e : Ending) (w' : World) : Prop := e = .returned (.tuple #[]) ∧ Butt p w w' ∧ StAt B p tv s w' st
set_option maxHeartbeats 1600000 in
set_option maxRecDepth 100000 in
/-- Pruned. -/
theorem c_fromP (B p : Nat) (tv : Value) (s : Int) (l : List Int) (n : Nat) (hn : n ≤ 100) (days long : List Int) (hp : n ≤ long.length) (hlong : long.length ≤ 100) (A1 A2 : Option Addr) (c1 c2 : Nat) (w : World) (hst : StAt B p tv s w (some (l, n))) :
    Calls Try.prog 27 #[.pointer (some ⟨p, 0, none⟩), .slice A1 days.length c1, .slice A2 long.length c2] w (FromRet B p tv s w (some (l, n))) := by
  have HS := hid hst
  obtain ⟨A, c, h1, h2, h3⟩ := hst
  have k3 : w.cell? ⟨p, 3, none⟩ = some (.int .i64 n) := cell_block h1 rfl
  have k4 : w.cell? ⟨p, 4, none⟩ = some (.bool true) := cell_block h1 rfl
  have hge : decide ((long.length : Int) ≥ (n : Int)) = true := decide_eq_true (by omega)
  clear h1 h2 h3
  go_enter Try.func27, Try.ntmps27
  go_wp2_with fail
  refine bodyPost_ret (results_none rfl _ _ _) rfl ?_
  exact ⟨rfl, Butt.refl _ _, HS.out⟩
set_option maxHeartbeats 3200000 in
set_option maxRecDepth 100000 in
/-- A leaf. -/
theorem c_fromL (B p : Nat) (hBp : B ≤ p) (A0 : Option Addr) (c0 : Nat) (s : Int) (st : Option (List Int × Nat)) (days long : List Int) (hp : prunedS st long.length = false) (hdays : days.length ≤ 100) (hlong : long.length ≤ 100) (A1 A2 : Option Addr) (c1 c2 : Nat) (w : World) (hst : StAt B p (.slice A0 days.length c0) s w st) (hA1 : SlN p w A1 days) :
    Calls Try.prog 27 #[.pointer (some ⟨p, 0, none⟩), .slice A1 days.length c1, .slice A2 long.length c2] w (FromRet B p (.slice A0 days.length c0) s w (some (days, long.length))) := by
  have hopen : ∃ bv ls f, w.heap[p]? = some (.cells #[.slice A0 days.length c0, .int .i64 s, bv, .int .i64 ls, .bool f] 49 (0, 0)) ∧ ((f = false) ∨ (f = true ∧ decide ((long.length : Int) ≥ ls) = false)) := by
    rcases st with _ | ⟨l, n⟩
    · obtain ⟨bv, ls, h1⟩ := hst
      exact ⟨bv, ls, false, h1, .inl rfl⟩
    · obtain ⟨A, c, h1, _⟩ := hst
      refine ⟨_, _, true, h1, .inr ⟨rfl, ?_⟩⟩
      have : ¬ n ≤ long.length := by simpa [prunedS] using hp
      exact decide_eq_false (by omega)
  obtain ⟨bv, ls, f, h1, hf⟩ := hopen
  have B0 : Below w.heap.size w (w.alloc (.cells #[] 2)) := (Below.refl _ w).alloc (Nat.le_refl _) _
  have k0 : w.cell? ⟨p, 0, none⟩ = some (.slice A0 days.length c0) := cell_block h1 rfl
  have k3 : w.cell? ⟨p, 3, none⟩ = some (.int .i64 ls) := cell_block h1 rfl
  have k4 : w.cell? ⟨p, 4, none⟩ = some (.bool f) := cell_block h1 rfl
  have HP := hid h1
  have hlt := block_lt h1
  have HLt := hid hlt
  have HA := hid (hA1.1.below B0 (Nat.le_refl _))
  have HM := hid (RowI.made (B := w.heap.size) (w := w) (Nat.le_refl _))
  have HB0 := hid B0
  have heq : ((days.length : Int) == (days.length : Int)) = true := by simp
  clear h1 hA1 hst B0
  rcases hf with rfl | ⟨rfl, hge⟩
  all_goals
    go_enter Try.func27, Try.ntmps27
    go_wp2_with ((with_reducible refine gate (N := 33) rfl ?_); (refine wp_appL rfl (.tmp 31) (.tmp 32) rfl w.heap.size _ [] days HM.out rfl A1 c1 HA.out rfl (by simp; omega) HB0.out.size ?_; intro v' w2 hown hg; have hb2 := HB0.out.trans (HM.out.belowG hg HB0.out.size); rw [List.nil_append] at hown; obtain ⟨A', c', rfl⟩ := hown.slc; have HP2 := hid (block_below hb2 HP.out HLt.out); have q2 := cell_block HP2.out (j := 2) rfl; have q3 := cell_block HP2.out (j := 3) rfl; have q4 := cell_block HP2.out (j := 4) rfl; have z2 := frozen_of_row _ _ 2 _ _ HP2.out; have z3 := frozen_of_row _ _ 3 _ _ HP2.out; have z4 := frozen_of_row _ _ 4 _ _ HP2.out; have HB2 := hid hb2; have HO2 := hid hown; clear hb2 hown hg))
    refine bodyPost_ret (results_none rfl _ _ _) rfl ?_
    have g2 := heap_setCell_same w2 p 2 _ _ (.slice A' days.length c') HP2.out
    have g3 := heap_setCell_same _ p 3 _ _ (.int .i64 (long.length : Int)) g2
    have g4 := heap_setCell_same _ p 4 _ _ (.bool true) g3
    have hne : (Value.slice A' days.length c').ownBlock ≠ some p := fun e => by have := (HO2.out.lt p e).1; have := HLt.out; omega
    refine ⟨rfl, (((Butt.of HB2.out).trans (Butt.set p _ 2 _)).trans (Butt.set p _ 3 _)).trans (Butt.set p _ 4 _), A', c', ?_, ?_, hne⟩
    · simpa using g4
    · exact (((HO2.out.setO hne 2 _).setO hne 3 _).setO hne 4 _).mono (by have := HLt.out; omega)
set_option maxHeartbeats 6400000 in
set_option maxRecDepth 100000 in
/-- A node. -/
theorem c_fromN (B p : Nat) (hBp : B ≤ p) (A0 : Option Addr) (c0 : Nat) (s : Int) (hs : 1 ≤ s ∧ s ≤ 1000) (t : Int) (ht : 0 ≤ t ∧ t ≤ s) (ts0 ts : List Int) (st : Option (List Int × Nat)) (days long : List Int) (hget : ts0[days.length]? = some t) (hN0 : ts0.length ≤ 100) (hp : prunedS st long.length = false) (hlong : long.length ≤ 100) (hlb : ∀ x ∈ long, 0 ≤ x ∧ x ≤ s)
    (ih : ∀ (days' long' : List Int) (st' : Option (List Int × Nat)) (A1 A2 : Option Addr) (c1 c2 : Nat) (w : World), days'.length = days.length + 1 → long'.length ≤ long.length + 1 → (∀ x ∈ long', 0 ≤ x ∧ x ≤ s) → SlN p w A0 ts0 → SlN p w A1 days' → SlN p w A2 long' → StAt B p (.slice A0 ts0.length c0) s w st' →
      Calls Try.prog 27 #[.pointer (some ⟨p, 0, none⟩), .slice A1 days'.length c1, .slice A2 long'.length c2] w (FromRet B p (.slice A0 ts0.length c0) s w (fromF s ts days' long' st')))
    (A1 A2 : Option Addr) (c1 c2 : Nat) (w : World) (hst : StAt B p (.slice A0 ts0.length c0) s w st) (hA0 : SlN p w A0 ts0) (hA1 : SlN p w A1 days) (hA2 : SlN p w A2 long) :
    Calls Try.prog 27 #[.pointer (some ⟨p, 0, none⟩), .slice A1 days.length c1, .slice A2 long.length c2] w (FromRet B p (.slice A0 ts0.length c0) s w (fromF s (t :: ts) days long st)) := by
  have hopen : ∃ bv ls f, w.heap[p]? = some (.cells #[.slice A0 ts0.length c0, .int .i64 s, bv, .int .i64 ls, .bool f] 49 (0, 0)) ∧ ((f = false) ∨ (f = true ∧ decide ((long.length : Int) ≥ ls) = false)) := by
    rcases st with _ | ⟨l, n⟩
    · obtain ⟨bv, ls, h1⟩ := hst
      exact ⟨bv, ls, false, h1, .inl rfl⟩
    · obtain ⟨A, c, h1, _⟩ := hst
      refine ⟨_, _, true, h1, .inr ⟨rfl, ?_⟩⟩
      have : ¬ n ≤ long.length := by simpa [prunedS] using hp
      exact decide_eq_false (by omega)
  obtain ⟨bv, ls, f, h1, hf⟩ := hopen
  have hdl : days.length < ts0.length := (List.getElem?_eq_some_iff.1 hget).1
  have k0 : w.cell? ⟨p, 0, none⟩ = some (.slice A0 ts0.length c0) := cell_block h1 rfl
  have k3 : w.cell? ⟨p, 3, none⟩ = some (.int .i64 ls) := cell_block h1 rfl
  have k4 : w.cell? ⟨p, 4, none⟩ = some (.bool f) := cell_block h1 rfl
  obtain ⟨b, off, rfl, r1, r2⟩ := hA0.1 _ _ hget
  have HST := hid hst
  have HA0 := hid hA0
  have HA1 := hid hA1
  have HA2 := hid hA2
  have HI := hid ih
  have HLB := hid hlb
  have HG := hid hget
  have heq : ((days.length : Int) == (ts0.length : Int)) = false := beq_false_of_ne (by omega)
  have d1 : (days.length : Int) < (ts0.length : Int) := by omega
  have d0 : (0 : Int) ≤ (days.length : Int) := by omega
  obtain ⟨stp, hstp⟩ : ∃ stp : Nat → Option (List Int × Nat), stp = fun k => (List.range k).foldl (fun st k => if (putS t long k).getD k 0 ≤ s then fromF s ts (days ++ [(k : Int)]) (putS t long k) st else st) st := ⟨_, rfl⟩
  have HF0 : Hid (fromF s (t :: ts) days long st = stp (long.length + 1)) := by
    rw [hstp]
    show fromF s (t :: ts) days long st = _
    rw [fromF, hp]; rfl
  have HS0 : Hid (stp 0 = st) := by rw [hstp]; rfl
  have HS1 : Hid (∀ k, stp (k + 1) = if (putS t long k).getD k 0 ≤ s then fromF s ts (days ++ [(k : Int)]) (putS t long k) (stp k) else stp k) := fun k => by
    rw [hstp]
    show (List.range (k + 1)).foldl _ _ = _
    rw [List.range_succ, List.foldl_append]; rfl
  clear h1 hst hA0 hA1 hA2 ih hlb hget hstp
  rcases hf with rfl | ⟨rfl, hge⟩
  all_goals
    go_enter Try.func27, Try.ntmps27
    go_wp2_with fail
    clear k0 k3 k4
    try clear hge
    go_loopw [7] (fun i wr => ∃ k : Nat, k ≤ long.length + 1 ∧ i = .int .i64 k ∧ Hid (Butt p w wr) ∧ Hid (StAt B p (.slice (some ⟨b, off, none⟩) ts0.length c0) s wr (stp k))) (fun i _ => long.length + 1 - (intOf i).toNat)
    case atStart => exact ⟨0, by omega, rfl, Butt.refl _ _, by rw [HS0.out]; exact HST.out⟩
    case round =>
      obtain ⟨k, hk, rfl, hb, hSt⟩ := hrel
      by_cases hkl : k ≤ long.length
      · have hd : decide ((k : Int) ≤ (long.length : Int)) = true := decide_eq_true (by omega)
        have hk0 : (0 : Int) ≤ (k : Int) := by omega
        obtain ⟨x, hx⟩ : ∃ x, x = (if k = long.length then long ++ [0] else long).getD k 0 := ⟨_, rfl⟩
        obtain ⟨own, hown⟩ : ∃ own, own = (if k = long.length then long ++ [0] else long) := ⟨_, rfl⟩
        have hkown : k < own.length := by rw [hown]; split <;> (try simp) <;> omega
        have hxo : own[k]? = some x := by rw [hx, ← hown, List.getD_eq_getElem?_getD, List.getElem?_eq_getElem hkown]; rfl
        have HOB : Hid (∀ y ∈ own, 0 ≤ y ∧ y ≤ s) := by
          intro y hm
          rw [hown] at hm
          split at hm
          · rcases List.mem_append.1 hm with h | h
            · exact HLB.out y h
            · have : y = 0 := by simpa using h
              omega
          · exact HLB.out y hm
        have hxb : 0 ≤ x ∧ x ≤ s := HOB.out x (List.mem_of_getElem? hxo)
        have HPut : Hid (putS t long k = own.set k (x + t)) := by rw [hown, hx]; rfl
        have HGP : Hid ((putS t long k).getD k 0 = x + t) := by
          rw [Hid, HPut.out, List.getD_eq_getElem?_getD, List.getElem?_set_self hkown]; rfl
        have HOL : Hid (own.length ≤ long.length + 1) := by rw [hown, Hid]; split <;> simp
        have HX := hid hxo
        have HXB := hid hxb
        have HKO := hid hkown
        have HB0 : Hid (Below wr.heap.size wr (wr.alloc (.cells #[] 2))) := (Below.refl _ wr).alloc (Nat.le_refl _) _
        have HA2r := hid ((HA2.out.butt hb.out).1.below HB0.out (Nat.le_refl _))
        have HM := hid (RowI.made (B := wr.heap.size) (w := wr) (Nat.le_refl _))
        obtain ⟨bv', ls', f', hpw⟩ := hSt.out.heads
        have HPw := hid hpw
        have ew : IntKind.i64.wrap (x + t) = x + t := by simp [IntKind.wrap, IntKind.bits, IntKind.signed]; omega
        have hOwn0 : Hid (k ≠ long.length → own = long) := fun h => by rw [hown, if_neg h]
        have hOwn1 : Hid (k = long.length → own = long ++ [0]) := fun h => by rw [hown, if_pos h]
        clear hx hown hxo hpw
        by_cases hke : k = long.length
        · have HO1 := hid (hOwn1.out hke)
          have hke2 : ((k : Int) == (long.length : Int)) = true := by simp; omega
          have HKE := hid hke
          clear hke
          go_wp2_with (first
            | ((with_reducible refine gate (N := 60) rfl ?_); (refine wp_appL rfl (.tmp 58) (.tmp 59) rfl wr.heap.size _ [] long HM.out rfl A2 c2 HA2r.out rfl (by simp; omega) HB0.out.size ?_; intro v' w2 hown2 hg2; have HB2 := hid (HB0.out.trans (HM.out.belowG hg2 HB0.out.size)); rw [List.nil_append] at hown2; obtain ⟨A', c', rfl⟩ := hown2.slc; have HO2 := hid hown2; clear hown2 hg2))
            | ((with_reducible refine gate (N := 67) rfl ?_); (refine wp_appI rfl (.tmp 65) (.tmp 66) rfl wr.heap.size _ _ 0 HO2.out rfl _ rfl (by omega) HB2.out.size rfl ?_; intro v' w3 hown3 hg3; have HB3 := hid (HB2.out.trans (HO2.out.belowG hg3 HB2.out.size)); rw [← HO1.out] at hown3; obtain ⟨A8, c8, rfl⟩ := hown3.slc; have HO3 := hid hown3; clear hown3 hg3; have hO := HO3.out; obtain ⟨g, cg, eg, q1, q2, q3, q4⟩ := hO.cell HX.out; obtain ⟨rfl, rfl⟩ : A8 = some ⟨g, 0, none⟩ ∧ cg = c8 := (by simp at eg; exact ⟨eg.1, eg.2.symm⟩); clear eg; have i1 : (k : Int) < (own.length : Int) := (by have := HKO.out; omega); have i0 : (0 : Int) ≤ (k : Int) := (by omega); have HNx := hid (hO.set (j := k) HKO.out (x + t)); rw [← HPut.out] at HNx; obtain ⟨WS, hWS⟩ : ∃ WS, WS = w3.setCell ⟨g, k, none⟩ (.int .i64 (x + t)) := ⟨_, rfl⟩; have HWS := hid hWS; have HB4 : Hid (Below wr.heap.size wr WS) := (by rw [hWS]; exact HB3.out.setCell (p := ⟨g, k, none⟩) q1 (.int .i64 (x + t))); rw [← hWS] at HNx; have HPr := hid (block_below HB4.out HPw.out (block_lt HPw.out)); have k1 := cell_block HPr.out (j := 1) rfl; have hgP : (putS t long k)[k]? = some (x + t) := (by rw [HPut.out, List.getElem?_set_self HKO.out]); have HLP : Hid ((putS t long k).length = own.length) := (by rw [Hid, HPut.out, List.length_set]); obtain ⟨g', cg', eg', p1, p2, p3, p4⟩ := HNx.out.cell hgP; obtain ⟨rfl, rfl⟩ : g = g' ∧ cg = cg' := (by rw [HLP.out] at eg'; simpa using eg'); have lp : p < WS.heap.size := block_lt HPr.out; clear hO hgP eg' p4 hWS)))
          clear HO1
          have hbd' : ∀ y ∈ putS t long k, (x + t ≤ s) → 0 ≤ y ∧ y ≤ s := by
            intro y hy hle
            rw [HPut.out] at hy
            rcases List.mem_or_eq_of_mem_set hy with h | h
            · exact HOB.out y h
            · have := HXB.out; omega
          have HBD := hid hbd'
          have hlen' : (putS t long k).length ≤ long.length + 1 := by rw [HLP.out]; exact HOL.out
          have HLE := hid hlen'
          have HStep := hid (HS1.out k)
          rw [HGP.out] at HStep
          clear hbd' hlen'
          by_cases hfit : x + t ≤ s
          · have hd3 : decide (x + t ≤ s) = true := decide_eq_true hfit
            have HFit := hid hfit
            clear hfit
            go_wp2_with fail
            rw [← HWS.out]
            refine wp_region_ext WS.heap.size (by kernel_rfl) (by kernel_rfl) ?_
            repeat (go_big_quiet_step (fail))
            refine wpQuiet_nil ?_
            intro xx
            have HN2 := hid (HNx.out.below xx.below (Nat.le_refl _))
            have HB5 := hid (HB4.out.trans (xx.below.mono HB4.out.size))
            obtain ⟨Y, hY⟩ : ∃ Y, Y = xx.out := ⟨_, rfl⟩
            rw [← hY] at HN2 HB5 ⊢
            clear hY HNx HB4 HPr p1 p2 p3 q1 q2 q3 q4 k1 lp
            have HBY : Hid (Below wr.heap.size wr (Y.alloc (.cells #[] 2))) := HB5.out.alloc HB5.out.size _
            have HMY := hid (RowI.made (B := wr.heap.size) (w := Y) HB5.out.size)
            have HA1y := hid ((HA1.out.butt hb.out).1.below HBY.out (Nat.le_refl _))
            have HNy := hid (HN2.out.alloc (.cells #[] 2))
            have HApY : Hid (Apart (.slice (some ⟨g, 0, none⟩) own.length cg) (.slice (some ⟨Y.heap.size, 0, none⟩) 0 0)) := fun e h1 h2 => by
              have := (HN2.out.lt e h1).2
              simp [Value.ownBlock] at h2; omega
            go_wp2_with (first
              | ((with_reducible refine gate (N := 87) rfl ?_); (refine wp_appL rfl (.tmp 85) (.tmp 86) rfl wr.heap.size _ [] days HMY.out rfl A1 c1 HA1y.out rfl (by simp; omega) HBY.out.size ?_; intro v' w5 hown5 hg5; have HB6 := hid (HBY.out.trans (HMY.out.belowG hg5 HBY.out.size)); have HN5 := hid (HNy.out.grew hg5 HApY.out); have HAp5 := hid (HNy.out.grewA hg5 HApY.out); rw [List.nil_append] at hown5; obtain ⟨A9, c9, rfl⟩ := hown5.slc; have HO5 := hid hown5; clear hown5 hg5))
              | ((with_reducible refine gate (N := 90) rfl ?_); (refine wp_appI rfl (.tmp 87) (.tmp 89) rfl wr.heap.size _ _ (k : Int) HO5.out rfl _ rfl (by omega) HB6.out.size rfl ?_; intro v' w6 hown6 hg6; have HB7 := hid (HB6.out.trans (HO5.out.belowG hg6 HB6.out.size)); have HN6 := hid (HN5.out.grew hg6 HAp5.out); obtain ⟨A10, c10, rfl⟩ := hown6.slc; have HO6 := hid hown6; clear hown6 hg6))
              | (go_at_call 27; (have HC := hid (HI.out (days ++ [(k : Int)]) (putS t long k) (stp k) A10 (some ⟨g, 0, none⟩) c10 cg w6 (by simp) HLE.out (fun y hy => HBD.out y hy HFit.out) ((HA0.out.butt hb.out).butt (Butt.of HB7.out)) (HO6.out.slN (block_lt HPw.out)) (HN6.out.slN (block_lt HPw.out)) (hSt.out.below HB7.out))); rw [HLP.out, List.length_append, List.length_singleton] at HC; ((with_reducible refine HC.out.mono ?_); rintro e w7 ⟨rfl, hb7, hs7⟩)))
            rw [if_pos HFit.out] at HStep
            refine ⟨⟨k + 1, by omega, by go_num, (hb.out.trans (Butt.of HB7.out)).trans hb7, ?_⟩, by simp [intOf]; omega⟩
            rw [Hid, HStep.out]
            exact hs7
          · have hd3 : decide (x + t ≤ s) = false := decide_eq_false hfit
            have HFit := hid hfit
            clear hfit
            go_wp2_with fail
            rw [← HWS.out]
            refine wp_region_ext WS.heap.size (by kernel_rfl) (by kernel_rfl) ?_
            repeat (go_big_quiet_step (fail))
            refine wpQuiet_nil ?_
            intro xx
            have HB5 := hid (HB4.out.trans (xx.below.mono HB4.out.size))
            have hno : ¬ x + t ≤ s := fun h => by have := HFit.out; omega
            rw [if_neg hno] at HStep
            go_wp2_with fail
            refine ⟨⟨k + 1, by omega, by go_num, hb.out.trans (Butt.of HB5.out), ?_⟩, by simp [intOf]; omega⟩
            rw [Hid, HStep.out]
            exact hSt.out.below HB5.out
        · have HO1 := hid (hOwn0.out hke)
          have hke2 : ((k : Int) == (long.length : Int)) = false := beq_false_of_ne (by omega)
          have HKE := hid hke
          obtain rfl := HO1.out
          clear hke HO1
          go_wp2_with (first
            | ((with_reducible refine gate (N := 60) rfl ?_); (refine wp_appL rfl (.tmp 58) (.tmp 59) rfl wr.heap.size _ [] _ HM.out rfl A2 c2 HA2r.out rfl (by simp; omega) HB0.out.size ?_; intro v' w2 hown2 hg2; have HB3 := hid (HB0.out.trans (HM.out.belowG hg2 HB0.out.size)); rw [List.nil_append] at hown2; obtain ⟨A', c', rfl⟩ := hown2.slc; have HO2 := hid hown2; clear hown2 hg2; have hO := HO2.out; obtain ⟨g, cg, eg, q1, q2, q3, q4⟩ := hO.cell HX.out; obtain ⟨rfl, rfl⟩ : A' = some ⟨g, 0, none⟩ ∧ cg = c' := (by simp at eg; exact ⟨eg.1, eg.2.symm⟩); clear eg; have i1 : (k : Int) < (own.length : Int) := (by have := HKO.out; omega); have i0 : (0 : Int) ≤ (k : Int) := (by omega); have HNx := hid (hO.set (j := k) HKO.out (x + t)); rw [← HPut.out] at HNx; obtain ⟨WS, hWS⟩ : ∃ WS, WS = w2.setCell ⟨g, k, none⟩ (.int .i64 (x + t)) := ⟨_, rfl⟩; have HWS := hid hWS; have HB4 : Hid (Below wr.heap.size wr WS) := (by rw [hWS]; exact HB3.out.setCell (p := ⟨g, k, none⟩) q1 (.int .i64 (x + t))); rw [← hWS] at HNx; have HPr := hid (block_below HB4.out HPw.out (block_lt HPw.out)); have k1 := cell_block HPr.out (j := 1) rfl; have hgP : (putS t own k)[k]? = some (x + t) := (by rw [HPut.out, List.getElem?_set_self HKO.out]); have HLP : Hid ((putS t own k).length = own.length) := (by rw [Hid, HPut.out, List.length_set]); obtain ⟨g', cg', eg', p1, p2, p3, p4⟩ := HNx.out.cell hgP; obtain ⟨rfl, rfl⟩ : g = g' ∧ cg = cg' := (by rw [HLP.out] at eg'; simpa using eg'); have lp : p < WS.heap.size := block_lt HPr.out; clear hO hgP eg' p4 hWS)))
          have hbd' : ∀ y ∈ putS t own k, (x + t ≤ s) → 0 ≤ y ∧ y ≤ s := by
            intro y hy hle
            rw [HPut.out] at hy
            rcases List.mem_or_eq_of_mem_set hy with h | h
            · exact HOB.out y h
            · have := HXB.out; omega
          have HBD := hid hbd'
          have hlen' : (putS t own k).length ≤ own.length + 1 := by rw [HLP.out]; exact HOL.out
          have HLE := hid hlen'
          have HStep := hid (HS1.out k)
          rw [HGP.out] at HStep
          clear hbd' hlen'
          by_cases hfit : x + t ≤ s
          · have hd3 : decide (x + t ≤ s) = true := decide_eq_true hfit
            have HFit := hid hfit
            clear hfit
            go_wp2_with fail
            rw [← HWS.out]
            refine wp_region_ext WS.heap.size (by kernel_rfl) (by kernel_rfl) ?_
            repeat (go_big_quiet_step (fail))
            refine wpQuiet_nil ?_
            intro xx
            have HN2 := hid (HNx.out.below xx.below (Nat.le_refl _))
            have HB5 := hid (HB4.out.trans (xx.below.mono HB4.out.size))
            obtain ⟨Y, hY⟩ : ∃ Y, Y = xx.out := ⟨_, rfl⟩
            rw [← hY] at HN2 HB5 ⊢
            clear hY HNx HB4 HPr p1 p2 p3 q1 q2 q3 q4 k1 lp
            have HBY : Hid (Below wr.heap.size wr (Y.alloc (.cells #[] 2))) := HB5.out.alloc HB5.out.size _
            have HMY := hid (RowI.made (B := wr.heap.size) (w := Y) HB5.out.size)
            have HA1y := hid ((HA1.out.butt hb.out).1.below HBY.out (Nat.le_refl _))
            have HNy := hid (HN2.out.alloc (.cells #[] 2))
            have HApY : Hid (Apart (.slice (some ⟨g, 0, none⟩) own.length cg) (.slice (some ⟨Y.heap.size, 0, none⟩) 0 0)) := fun e h1 h2 => by
              have := (HN2.out.lt e h1).2
              simp [Value.ownBlock] at h2; omega
            go_wp2_with (first
              | ((with_reducible refine gate (N := 87) rfl ?_); (refine wp_appL rfl (.tmp 85) (.tmp 86) rfl wr.heap.size _ [] days HMY.out rfl A1 c1 HA1y.out rfl (by simp; omega) HBY.out.size ?_; intro v' w5 hown5 hg5; have HB6 := hid (HBY.out.trans (HMY.out.belowG hg5 HBY.out.size)); have HN5 := hid (HNy.out.grew hg5 HApY.out); have HAp5 := hid (HNy.out.grewA hg5 HApY.out); rw [List.nil_append] at hown5; obtain ⟨A9, c9, rfl⟩ := hown5.slc; have HO5 := hid hown5; clear hown5 hg5))
              | ((with_reducible refine gate (N := 90) rfl ?_); (refine wp_appI rfl (.tmp 87) (.tmp 89) rfl wr.heap.size _ _ (k : Int) HO5.out rfl _ rfl (by omega) HB6.out.size rfl ?_; intro v' w6 hown6 hg6; have HB7 := hid (HB6.out.trans (HO5.out.belowG hg6 HB6.out.size)); have HN6 := hid (HN5.out.grew hg6 HAp5.out); obtain ⟨A10, c10, rfl⟩ := hown6.slc; have HO6 := hid hown6; clear hown6 hg6))
              | (go_at_call 27; (have HC := hid (HI.out (days ++ [(k : Int)]) (putS t own k) (stp k) A10 (some ⟨g, 0, none⟩) c10 cg w6 (by simp) HLE.out (fun y hy => HBD.out y hy HFit.out) ((HA0.out.butt hb.out).butt (Butt.of HB7.out)) (HO6.out.slN (block_lt HPw.out)) (HN6.out.slN (block_lt HPw.out)) (hSt.out.below HB7.out))); rw [HLP.out, List.length_append, List.length_singleton] at HC; ((with_reducible refine HC.out.mono ?_); rintro e w7 ⟨rfl, hb7, hs7⟩)))
            rw [if_pos HFit.out] at HStep
            refine ⟨⟨k + 1, by omega, by go_num, (hb.out.trans (Butt.of HB7.out)).trans hb7, ?_⟩, by simp [intOf]; omega⟩
            rw [Hid, HStep.out]
            exact hs7
          · have hd3 : decide (x + t ≤ s) = false := decide_eq_false hfit
            have HFit := hid hfit
            clear hfit
            go_wp2_with fail
            rw [← HWS.out]
            refine wp_region_ext WS.heap.size (by kernel_rfl) (by kernel_rfl) ?_
            repeat (go_big_quiet_step (fail))
            refine wpQuiet_nil ?_
            intro xx
            have HB5 := hid (HB4.out.trans (xx.below.mono HB4.out.size))
            have hno : ¬ x + t ≤ s := fun h => by have := HFit.out; omega
            rw [if_neg hno] at HStep
            go_wp2_with fail
            refine ⟨⟨k + 1, by omega, by go_num, hb.out.trans (Butt.of HB5.out), ?_⟩, by simp [intOf]; omega⟩
            rw [Hid, HStep.out]
            exact hSt.out.below HB5.out
      · obtain rfl : k = long.length + 1 := by omega
        have hd : decide (((long.length + 1 : Nat) : Int) ≤ (long.length : Int)) = false := decide_eq_false (by omega)
        have hd2 : decide ((long.length : Int) + 1 ≤ (long.length : Int)) = false := decide_eq_false (by omega)
        go_wp2_with fail
        go_end0
        refine ⟨rfl, hb.out, ?_⟩
        rw [HF0.out]
        exact hSt.out
theorem c_from (B p : Nat) (hBp : B ≤ p) (A0 : Option Addr) (c0 : Nat) (s : Int) (hs : 1 ≤ s ∧ s ≤ 1000) (ts0 : List Int) (hN0 : ts0.length ≤ 100) (hts : ∀ t ∈ ts0, 0 ≤ t ∧ t ≤ s) : ∀ (ts days long : List Int) (st : Option (List Int × Nat)), ts0.drop days.length = ts → days.length ≤ ts0.length → long.length ≤ days.length → (∀ x ∈ long, 0 ≤ x ∧ x ≤ s) →
    ∀ (A1 A2 : Option Addr) (c1 c2 : Nat) (w : World), SlN p w A0 ts0 → SlN p w A1 days → SlN p w A2 long → StAt B p (.slice A0 ts0.length c0) s w st →
    Calls Try.prog 27 #[.pointer (some ⟨p, 0, none⟩), .slice A1 days.length c1, .slice A2 long.length c2] w (FromRet B p (.slice A0 ts0.length c0) s w (fromF s ts days long st)) := by
  intro ts
  induction ts with
  | nil =>
    intro days long st hdr hd hl hlb A1 A2 c1 c2 w h0 h1 h2 hst
    cases hp : prunedS st long.length with
    | true =>
      rcases st with _ | ⟨l, n⟩
      · cases hp
      · have hn : n ≤ long.length := by simpa [prunedS] using hp
        have : fromF s [] days long (some (l, n)) = some (l, n) := by rw [fromF, hp]; rfl
        rw [this]
        exact c_fromP B p _ s l n (by omega) days long hn (by omega) A1 A2 c1 c2 w hst
    | false =>
      have : fromF s [] days long st = some (days, long.length) := by rw [fromF, hp]; rfl
      rw [this]
      have hlen : ts0.length ≤ days.length := by simpa using hdr
      have he : ts0.length = days.length := by omega
      rw [he] at hst ⊢
      exact c_fromL B p hBp A0 c0 s st days long hp (by omega) (by omega) A1 A2 c1 c2 w hst h1
  | cons t ts ih =>
    intro days long st hdr hd hl hlb A1 A2 c1 c2 w h0 h1 h2 hst
    cases hp : prunedS st long.length with
    | true =>
      rcases st with _ | ⟨l, n⟩
      · cases hp
      · have hn : n ≤ long.length := by simpa [prunedS] using hp
        have : fromF s (t :: ts) days long (some (l, n)) = some (l, n) := by rw [fromF, hp]; rfl
        rw [this]
        exact c_fromP B p _ s l n (by omega) days long hn (by omega) A1 A2 c1 c2 w hst
    | false =>
      have hg : ts0[days.length]? = some t := by
        have : (ts0.drop days.length)[0]? = some t := by rw [hdr]; rfl
        simpa using this
      have hlt := (List.getElem?_eq_some_iff.1 hg).1
      have htm := List.mem_of_getElem? hg
      refine c_fromN B p hBp A0 c0 s hs t (hts t htm) ts0 ts st days long hg hN0 hp (by omega) hlb (fun days' long' st' A1 A2 c1 c2 w g1 g2 g3 g4 g5 g6 g7 => ?_) A1 A2 c1 c2 w hst h0 h1 h2
      refine ih days' long' st' ?_ (by omega) (by omega) g3 A1 A2 c1 c2 w g4 g5 g6 g7
      rw [g1, ← List.drop_drop, hdr]; rfl
set_option maxHeartbeats 3200000 in
set_option maxRecDepth 100000 in
theorem c_sFewestDays (A : Option Addr) (c : Nat) (ts : List Int) (hlen : ts.length ≤ 1048576) (s : Int) (w : World) (hA : SlI w A ts) :
    Calls Try.prog 13 #[.slice A ts.length c, .int .i64 s] w (RetI3 w (fewL ts s) (fewN ts s) (timesC ts s)) := by
  have HC := hid (c_l04Times A c ts hlen s w hA)
  by_cases h0 : timesC ts s = 0
  · obtain ⟨l, n, hn, e1, e2, e0, -, -⟩ := few_some h0
    rw [e1, e2, h0]
    rw [h0] at HC
    obtain ⟨hs, hl8, hts⟩ := timesC_zero h0
    have HA : Hid (SlN w.heap.size w A ts) := ⟨hA, fun a hne e => by
      cases ts with
      | nil => exact absurd rfl hne
      | cons t ts =>
        obtain ⟨b, off, e', h1, _⟩ := hA 0 t rfl
        rw [e] at e'
        obtain rfl := Option.some.inj e'
        exact Nat.ne_of_lt h1⟩
    obtain ⟨W1, hW1⟩ : ∃ W1, W1 = w.alloc (.cells #[.slice A ts.length c, .int .i64 s, .slice none 0 0, .int .i64 0, .bool false] 49) := ⟨_, rfl⟩
    have HW1 := hid hW1
    have HB1 : Hid (Below w.heap.size w ((W1.alloc (.cells #[] 2)).alloc (.cells #[] 2))) := by
      rw [hW1]; exact (((Below.refl _ w).alloc (Nat.le_refl _) _).alloc (by simp) _).alloc (by simp; omega) _
    have HO1 : Hid (((W1.alloc (.cells #[] 2)).alloc (.cells #[] 2)).heap[w.heap.size]? = some (.cells #[.slice A ts.length c, .int .i64 s, .slice none 0 0, .int .i64 0, .bool false] 49 (0, 0))) := by
      rw [hW1]; exact block_alloc (block_alloc (block_new1 w _ rfl) _) _
    have hF := c_from w.heap.size w.heap.size (Nat.le_refl _) A c s hs ts (by omega) hts ts [] [] none rfl (Nat.zero_le _) (Nat.le_refl _) (by simp) (some ⟨W1.heap.size, 0, none⟩) (some ⟨W1.heap.size + 1, 0, none⟩) 0 0 ((W1.alloc (.cells #[] 2)).alloc (.cells #[] 2)) (HA.out.butt (Butt.of HB1.out)) ⟨by intro j x hj; simp at hj, by simp⟩ ⟨by intro j x hj; simp at hj, by simp⟩ ⟨_, _, HO1.out⟩
    rw [e0, hW1] at hF
    simp only [World.size_alloc, List.length_nil] at hF
    have HF := hid hF
    have HS1 : Hid (w.heap.size < ((W1.alloc (.cells #[] 2)).alloc (.cells #[] 2)).heap.size) := block_lt HO1.out
    rw [hW1] at HB1 HS1
    clear h0 hA hts e1 e2 e0 hF HO1 hW1 HW1
    go_enter Try.func13, Try.ntmps13
    go_wp2_with (first
      | (go_at_call 23; ((with_reducible refine HC.out.mono ?_); rintro e w1 ⟨rfl, rfl⟩))
      | (go_at_call 27; ((with_reducible refine HF.out.mono ?_); rintro e w2 ⟨rfl, hb2, A', c', ho, hr, hne⟩)))
    have HB2 := hid (HB1.out.trans (hb2.below (Nat.le_refl _) (Nat.le_of_lt HS1.out)))
    have k2 : w2.cell? ⟨w.heap.size, 2, none⟩ = some (.slice A' l.length c') := cell_block ho rfl
    have k3 : w2.cell? ⟨w.heap.size, 3, none⟩ = some (.int .i64 n) := cell_block ho rfl
    have lp : w.heap.size < w2.heap.size := block_lt ho
    have HR := hid hr
    clear hb2 hr hne ho
    refine wp_region_ext w2.heap.size (by kernel_rfl) (by kernel_rfl) ?_
    repeat (go_big_quiet_step (fail))
    refine wpQuiet_nil ?_
    intro xx
    have HR2 := hid (HR.out.below xx.below (Nat.le_refl _))
    have HB3 := hid (HB2.out.trans (xx.below.mono (Nat.le_of_lt lp)))
    go_wp2_with fail
    go_ret3
    exact ⟨_, rfl, HB3.out, HR2.out⟩
  · have hk := timesC_cases h0
    unfold fewL fewN
    rw [if_neg h0, if_neg h0]
    clear h0
    rcases hk with hk | hk | hk
    all_goals
      rw [hk] at HC ⊢
      clear hk hA
      go_enter Try.func13, Try.ntmps13
      go_wp2_with (go_at_call 23; ((with_reducible refine HC.out.mono ?_); rintro e w1 ⟨rfl, rfl⟩))
      go_ret3
      exact ⟨_, rfl, (Below.refl _ _).alloc (Nat.le_refl _) _, RowI.made (Nat.le_refl _)⟩
end Go.Proofs.Ytjcmdihadblodaa
