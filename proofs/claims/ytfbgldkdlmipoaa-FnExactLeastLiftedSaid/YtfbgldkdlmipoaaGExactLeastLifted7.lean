/- What is proved: FnExactLeastLifted holds of all arguments; with the texts that lead to it. -/
import Derived.Test.YtfbgldkdlmipoaaGExactLeastLifted6
import Derived.ChangeOld
/- LeastLifted: the reference's search. -/
namespace Go.Proofs.Ytfbgldkdlmipoaa
open Go.RowKit
set_option linter.unusedSimpArgs false
set_option linter.unusedVariables false

/-- The state of the search, at p. -/
def StQ (B p bx : Nat) (tv : Value) (w : World) : Option (List (Int × Int) × Int) → Prop
  | none => ∃ bv ls, w.heap[p]? = some (.cells #[.pointer (some ⟨bx, 0, none⟩), tv, bv, .int .i64 ls, .bool false] 71 (0, 0))
  | some (l, n) => ∃ A c, w.heap[p]? = some (.cells #[.pointer (some ⟨bx, 0, none⟩), tv, .slice A l.length c, .int .i64 n, .bool true] 71 (0, 0)) ∧ RowQ B w (.slice A l.length c) l ∧ (Value.slice A l.length c).ownBlock ≠ some p
theorem StQ.below {B p bx : Nat} {tv : Value} {w w' : World} {st : Option (List (Int × Int) × Int)} (h : StQ B p bx tv w st) (hb : Below w.heap.size w w') : StQ B p bx tv w' st := by
  rcases st with _ | ⟨l, n⟩
  · obtain ⟨bv, ls, h1⟩ := h
    exact ⟨bv, ls, block_below hb h1 (block_lt h1)⟩
  · obtain ⟨A, c, h1, h2, h3⟩ := h
    exact ⟨A, c, block_below hb h1 (block_lt h1), h2.below hb (Nat.le_refl _), h3⟩
theorem StQ.heads {B p bx : Nat} {tv : Value} {w : World} {st : Option (List (Int × Int) × Int)} (h : StQ B p bx tv w st) : ∃ bv ls f, w.heap[p]? = some (.cells #[.pointer (some ⟨bx, 0, none⟩), tv, bv, .int .i64 ls, .bool f] 71 (0, 0)) := by
  rcases st with _ | ⟨l, n⟩
  · obtain ⟨bv, ls, h1⟩ := h; exact ⟨bv, ls, _, h1⟩
  · obtain ⟨A, c, h1, _⟩ := h; exact ⟨_, _, _, h1⟩
theorem StQ.opened {B p bx : Nat} {tv : Value} {w : World} {st : Option (List (Int × Int) × Int)} {sum : Int} (h : StQ B p bx tv w st) (hp : prunedL st sum = false) :
    ∃ bv ls f, w.heap[p]? = some (.cells #[.pointer (some ⟨bx, 0, none⟩), tv, bv, .int .i64 ls, .bool f] 71 (0, 0)) ∧ ((f = false) ∨ (f = true ∧ decide (sum ≥ ls) = false)) := by
  rcases st with _ | ⟨l, n⟩
  · obtain ⟨bv, ls, h1⟩ := h
    exact ⟨bv, ls, false, h1, .inl rfl⟩
  · obtain ⟨A, c, h1, _⟩ := h
    exact ⟨_, _, true, h1, .inr ⟨rfl, hp⟩⟩
/-- What from leaves. -/
def SrchRet (B p bx : Nat) (tv : Value) (w : World) (st : Option (List (Int × Int) × Int)) (e : Ending) (w' : World) : Prop := e = .returned (.tuple #[]) ∧ Butt p w w' ∧ StQ B p bx tv w' st
/-- What stands when some of the operations have been carried out. -/
def SrR (B : Nat) (order : List (Int × Int)) (q1 q2 lift cost : Int) (res : Nat → Option Value) (V : World) : Prop :=
  (∀ v, res 1 = some v → res 3 = none → RowQ B V v []) ∧ (∀ v, res 3 = some v → res 12 = none → RowQ B V v order) ∧
  (∀ v, res 11 = some v → res 12 = none → ∃ g, v = .slice (some ⟨g, 0, none⟩) 1 1 ∧ V.heap[g]? = some (.cells #[.int .i8 q1, .int .i8 q2] 50 (0, 0)) ∧ (res 3 = none → ∀ u, res 1 = some u → u.ownBlock ≠ some g)) ∧
  (∀ v, res 12 = some v → RowQ B V v (order ++ [(q1, q2)]) ∧ res 3 ≠ none) ∧ (∀ v, res 26 = some v → v = .int .i64 lift) ∧ (∀ v, res 27 = some v → v = .int .i64 cost)
theorem one_pair {V : World} {g : Nat} {q1 q2 : Int} (h : V.heap[g]? = some (.cells #[.int .i8 q1, .int .i8 q2] 50 (0, 0))) : PairsAt .i8 .i8 V (some ⟨g, 0, none⟩) [(q1, q2)] := fun j p hj => by
  cases j with
  | zero => simp at hj; subst hj; exact ⟨g, 0, rfl, block_lt h, cell_block h rfl, cell_block h rfl⟩
  | succ j => simp at hj
theorem SrR.zero (B : Nat) (order : List (Int × Int)) (q1 q2 lift cost : Int) (V : World) : SrR B order q1 q2 lift cost (fun _ => none) V :=
  ⟨fun v h => (by cases h), fun v h => (by cases h), fun v h => (by cases h), fun v h => (by cases h), fun v h => (by cases h), fun v h => (by cases h)⟩
theorem SrR.mono {B : Nat} {order : List (Int × Int)} {q1 q2 lift cost : Int} {res : Nat → Option Value} {V V' : World} (h : SrR B order q1 q2 lift cost res V) (hb : Below V.heap.size V V') : SrR B order q1 q2 lift cost res V' := by
  obtain ⟨h1, h2, h3, h4, h5, h6⟩ := h
  refine ⟨fun v a b => (h1 v a b).below hb (Nat.le_refl _), fun v a b => (h2 v a b).below hb (Nat.le_refl _), fun v a b => ?_, fun v a => ⟨(h4 v a).1.below hb (Nat.le_refl _), (h4 v a).2⟩, h5, h6⟩
  obtain ⟨g, e, hg, hn⟩ := h3 v a b
  exact ⟨g, e, block_below hb hg (block_lt hg), hn⟩
theorem getD_l2 (a : Act) (t : Nat) : a.tmps[t]?.getD undef = a.tmps.getD t undef := by simp [Array.getD_eq_getD_getElem?]
set_option maxHeartbeats 1600000 in
set_option maxRecDepth 100000 in
/-- Pruned. -/
theorem c_srchP (B p bx : Nat) (tv : Value) (l : List (Int × Int)) (n sum : Int) (hn : n ≤ sum) (order : List (Int × Int)) (A1 : Option Addr) (c1 : Nat) (w : World) (hst : StQ B p bx tv w (some (l, n))) :
    Calls Try.prog 44 #[.pointer (some ⟨p, 0, none⟩), .slice A1 order.length c1, .int .i64 sum] w (SrchRet B p bx tv w (some (l, n))) := by
  have HS := hid hst
  obtain ⟨A, c, h1, h2, h3⟩ := hst
  have k3 : w.cell? ⟨p, 3, none⟩ = some (.int .i64 n) := cell_block h1 rfl
  have k4 : w.cell? ⟨p, 4, none⟩ = some (.bool true) := cell_block h1 rfl
  have hge : decide (sum ≥ n) = true := decide_eq_true (by omega)
  clear h1 h2 h3 hn
  go_enter Try.func44, Try.ntmps44
  go_wp2_with fail
  refine bodyPost_ret (results_none rfl _ _ _) rfl ?_
  exact ⟨rfl, Butt.refl _ _, HS.out⟩
set_option maxHeartbeats 3200000 in
set_option maxRecDepth 100000 in
/-- A leaf. -/
theorem c_srchL (B p bx : Nat) (hBp : B ≤ p) (A0 : Option Addr) (c0 N : Nat) (st : Option (List (Int × Int) × Int)) (order : List (Int × Int)) (hN : order.length = N) (sum : Int) (hp : prunedL st sum = false) (h8 : order.length ≤ 8) (A1 : Option Addr) (c1 : Nat) (w : World) (hst : StQ B p bx (.slice A0 N c0) w st) (hA1 : PlN p w A1 order) :
    Calls Try.prog 44 #[.pointer (some ⟨p, 0, none⟩), .slice A1 order.length c1, .int .i64 sum] w (SrchRet B p bx (.slice A0 N c0) w (some (order, sum))) := by
  subst hN
  obtain ⟨bv, ls, f, h1, hf⟩ := hst.opened hp
  have B0 : Below w.heap.size w (w.alloc (.cells #[] 50)) := (Below.refl _ w).alloc (Nat.le_refl _) _
  have k1 : w.cell? ⟨p, 1, none⟩ = some (.slice A0 order.length c0) := cell_block h1 rfl
  have k3 : w.cell? ⟨p, 3, none⟩ = some (.int .i64 ls) := cell_block h1 rfl
  have k4 : w.cell? ⟨p, 4, none⟩ = some (.bool f) := cell_block h1 rfl
  have HP := hid h1
  have hlt := block_lt h1
  have HLt := hid hlt
  have HA := hid (hA1.1.below B0 (Nat.le_refl _))
  have HM := hid (RowQ.made (B := w.heap.size) (w := w) (Nat.le_refl _))
  have HB0 := hid B0
  have H8 := hid h8
  have heq : ((order.length : Int) == (order.length : Int)) = true := by simp
  clear h1 hA1 hst B0 hp h8
  rcases hf with rfl | ⟨rfl, hge⟩
  all_goals
    go_enter Try.func44, Try.ntmps44
    go_wp2_with ((with_reducible refine gate (N := 30) rfl ?_); (refine wp_appQ rfl (.tmp 28) (.tmp 29) rfl w.heap.size _ [] order HM.out rfl A1 c1 HA.out rfl (by have := H8.out; simp; omega) HB0.out.size ?_; intro v' w2 hown hg; have hb2 := HB0.out.trans (HM.out.belowG hg HB0.out.size); rw [List.nil_append] at hown; obtain ⟨A', c', rfl⟩ := hown.slc; have HP2 := hid (block_below hb2 HP.out HLt.out); have q2 := cell_block HP2.out (j := 2) rfl; have q3 := cell_block HP2.out (j := 3) rfl; have q4 := cell_block HP2.out (j := 4) rfl; have z2 := frozen_of_row _ _ 2 _ _ HP2.out; have z3 := frozen_of_row _ _ 3 _ _ HP2.out; have z4 := frozen_of_row _ _ 4 _ _ HP2.out; have HB2 := hid hb2; have HO2 := hid hown; clear hb2 hown hg))
    refine bodyPost_ret (results_none rfl _ _ _) rfl ?_
    have g2 := heap_setCell_same w2 p 2 _ _ (.slice A' order.length c') HP2.out
    have g3 := heap_setCell_same _ p 3 _ _ (.int .i64 sum) g2
    have g4 := heap_setCell_same _ p 4 _ _ (.bool true) g3
    have hne : (Value.slice A' order.length c').ownBlock ≠ some p := fun e => by have := (HO2.out.lt p e).1; have := HLt.out; omega
    refine ⟨rfl, (((Butt.of HB2.out).trans (Butt.set p _ 2 _)).trans (Butt.set p _ 3 _)).trans (Butt.set p _ 4 _), A', c', ?_, ?_, hne⟩
    · simpa using g4
    · exact (((HO2.out.setO hne 2 _).setO hne 3 _).setO hne 4 _).mono (by have := HLt.out; omega)
set_option maxHeartbeats 6400000 in
set_option maxRecDepth 100000 in
/-- A node, while none was found. -/
theorem c_srchN1 (bv : Value) (ls : Int) (B p bx : Nat) (hBp : B ≤ p) (hbx : bx ≠ p) (r : Rf) (hr : r.Ok) (hv : validB r = true) (A0 : Option Addr) (c0 : Nat) (S : List (Int × Int)) (hS8 : S.length ≤ 8) (hSP : ∀ q ∈ S, (0 ≤ q.1 ∧ q.1 ≤ 7) ∧ (0 ≤ q.2 ∧ q.2 ≤ 7)) (m : Nat) (order : List (Int × Int)) (hm : order.length + (m + 1) = S.length) (sum : Int) (hs : 0 ≤ sum ∧ sum ≤ 4 * order.length) (st : Option (List (Int × Int) × Int)) (hp : prunedL st sum = false)
    (ih : ∀ (order' : List (Int × Int)) (sum' : Int) (st' : Option (List (Int × Int) × Int)) (A1 : Option Addr) (c1 : Nat) (w : World), order'.length = order.length + 1 → (0 ≤ sum' ∧ sum' ≤ 4 * order'.length) → w.heap[bx]? = some (.cells (rcells r) 31 (0,0)) → PlN p w A0 S → PlN p w A1 order' → StQ B p bx (.slice A0 S.length c0) w st' →
      Calls Try.prog 44 #[.pointer (some ⟨p, 0, none⟩), .slice A1 order'.length c1, .int .i64 sum'] w (SrchRet B p bx (.slice A0 S.length c0) w (fromL r S m order' sum' st')))
    (A1 : Option Addr) (c1 : Nat) (w : World) (hx : w.heap[bx]? = some (.cells (rcells r) 31 (0,0))) (hst : StQ B p bx (.slice A0 S.length c0) w st) (h1 : w.heap[p]? = some (.cells #[.pointer (some ⟨bx, 0, none⟩), .slice A0 S.length c0, bv, .int .i64 ls, .bool false] 71 (0, 0))) (hA0 : PlN p w A0 S) (hA1 : PlN p w A1 order) :
    Calls Try.prog 44 #[.pointer (some ⟨p, 0, none⟩), .slice A1 order.length c1, .int .i64 sum] w (SrchRet B p bx (.slice A0 S.length c0) w (fromL r S (m + 1) order sum st)) := by
  have k1 : w.cell? ⟨p, 1, none⟩ = some (.slice A0 S.length c0) := cell_block h1 rfl
  have k3 : w.cell? ⟨p, 3, none⟩ = some (.int .i64 ls) := cell_block h1 rfl
  have k4 : w.cell? ⟨p, 4, none⟩ = some (.bool false) := cell_block h1 rfl
  have HST := hid hst
  have HX := hid hx
  have HA0 := hid hA0
  have HA1 := hid hA1
  have HI := hid ih
  have HSP := hid hSP
  have HV := hid hv
  have HSM := hid hs
  have HM := hid hm
  have HS8 := hid hS8
  have HO7 : Hid (order.length ≤ 7) := by show _ ≤ _; omega
  have heq : ((order.length : Int) == (S.length : Int)) = false := beq_false_of_ne (by omega)
  obtain ⟨stp, hstp⟩ : ∃ stp : Nat → Option (List (Int × Int) × Int), stp = fun k => (S.take k).foldl (fun st q => if q ∈ order then st else fromL r S m (order ++ [q]) (sum + liftP r q order) st) st := ⟨_, rfl⟩
  have HF0 : Hid (fromL r S (m + 1) order sum st = stp S.length) := by
    rw [hstp]
    show fromL r S (m + 1) order sum st = (S.take S.length).foldl _ st
    rw [List.take_length, fromL, hp]; rfl
  have HS0 : Hid (stp 0 = st) := by rw [hstp]; rfl
  have HS1 : Hid (∀ k q, S[k]? = some q → stp (k + 1) = if q ∈ order then stp k else fromL r S m (order ++ [q]) (sum + liftP r q order) (stp k)) := fun k q hq => by
    obtain ⟨hk, rfl⟩ := List.getElem?_eq_some_iff.1 hq
    rw [hstp]
    show (S.take (k + 1)).foldl _ _ = _
    rw [List.take_succ_eq_append_getElem hk, List.foldl_append]; rfl
  have hH := fun (q1 q2 : Int) W h => hid (c_l01Has A1 c1 order (by omega) q1 q2 W h)
  have HBX := hid hbx
  have HBP := hid hBp
  clear h1 hst hx hA0 hA1 ih hstp hp hs hm hS8 hSP hv hbx hBp
  go_enter Try.func44, Try.ntmps44
  go_wp2_with fail
  clear k1 k3 k4
  go_loopw [6] (fun i wr => ∃ k : Nat, k ≤ S.length ∧ i = .int .i64 k ∧ Hid (Butt p w wr) ∧ Hid (StQ B p bx (.slice A0 S.length c0) wr (stp k))) (fun i _ => S.length - (intOf i).toNat)
  case atStart => exact ⟨0, by omega, rfl, Butt.refl _ _, by rw [HS0.out]; exact HST.out⟩
  case round =>
    obtain ⟨k, hk, rfl, hb, hSt⟩ := hrel
    obtain ⟨bv', ls', f', h1'⟩ := hSt.out.heads
    have k1 : wr.cell? ⟨p, 1, none⟩ = some (.slice A0 S.length c0) := cell_block h1' rfl
    have k0 : wr.cell? ⟨p, 0, none⟩ = some (.pointer (some ⟨bx, 0, none⟩)) := cell_block h1' rfl
    have HP := hid h1'
    have lp : p < wr.heap.size := block_lt h1'
    clear h1'
    by_cases hkl : k < S.length
    · have hd : decide ((k : Int) < (S.length : Int)) = true := decide_eq_true (by omega)
      have hkI : (k : Int) < (S.length : Int) := by omega
      have hk0 : (0 : Int) ≤ (k : Int) := by omega
      have hk8 : (k : Int) ≤ 8 := by have := HS8.out; omega
      have hq := List.getElem?_eq_getElem hkl
      obtain ⟨⟨q1, q2⟩, hqq⟩ : ∃ q, q = S[k] := ⟨_, rfl⟩
      rw [← hqq] at hq
      have HQ7 := hid (HSP.out (q1, q2) (List.mem_of_getElem? hq))
      have HStep := hid (HS1.out k (q1, q2) hq)
      have HXr := hid (hb.out.at HX.out HBX.out)
      have HA0r := hid (HA0.out.butt hb.out)
      have HA1r := hid (HA1.out.butt hb.out)
      obtain ⟨b, off, rfl, r1, r2, r3⟩ := HA0r.out.1 k (q1, q2) hq
      dsimp only at r2 r3
      have HH := fun W h => hid (hH q1 q2 W h).out
      have HKL := hid hkl
      have R1 := hid r1
      have R2 := hid r2
      have R3 := hid r3
      have LP := hid lp
      have hin0 : ∃ b : Bool, b = decide ((q1, q2) ∈ order) := ⟨_, rfl⟩
      obtain ⟨bi, hbi⟩ := hin0
      rw [← hbi] at HH
      clear hq hqq hkl r1
      cases bi with
      | true =>
        have hin : (q1, q2) ∈ order := of_decide_eq_true hbi.symm
        rw [if_pos hin] at HStep
        clear hbi hin
        go_wp2_with (go_at_call 36; ((refine (HH _ HA1r.out.1).out.mono ?_); rintro e w1 ⟨rfl, hb1⟩); have HB1 := hid hb1; clear hb1)
        refine ⟨⟨k + 1, by have := HKL.out; omega, by go_num, hb.out.trans (Butt.of HB1.out), ?_⟩, by have := HKL.out; simp [intOf]; omega⟩
        rw [HStep.out]
        exact hSt.out.below HB1.out
      | false =>
        have hin : ¬ (q1, q2) ∈ order := of_decide_eq_false hbi.symm
        rw [if_neg hin] at HStep
        clear hbi hin
        go_wp2_with (go_at_call 36; ((refine (HH _ HA1r.out.1).out.mono ?_); rintro e w1 ⟨rfl, hb1⟩); have HB1 := hid hb1; clear hb1)
        have HPq := hid (block_below HB1.out HP.out LP.out)
        have HXq := hid (block_below HB1.out HXr.out (block_lt HXr.out))
        have HA1q := hid (HA1r.out.1.below HB1.out (Nat.le_refl _))
        have HLF := fun W h1 h2 => hid (c_l04Lift r hr HV.out bx q1 q2 HQ7.out.1 HQ7.out.2 A1 c1 order (by have := HO7.out; omega) W h1 h2)
        have hlb := liftP_b r (q1, q2) order
        obtain ⟨lf, hlf⟩ : ∃ t, t = liftP r (q1, q2) order := ⟨_, rfl⟩
        rw [← hlf] at HLF HStep hlb
        obtain ⟨cost, hcost⟩ : ∃ t, t = sum + lf := ⟨_, rfl⟩
        rw [← hcost] at HStep
        have hsm := HSM.out
        have ho7 := HO7.out
        have HCB : Hid (0 ≤ cost ∧ cost ≤ 4 * (order ++ [(q1, q2)]).length) := by rw [List.length_append, List.length_singleton]; refine ⟨by omega, ?_⟩; rw [Int.natCast_add, hcost]; show sum + lf ≤ 4 * ((order.length : Int) + 1); omega
        have ew : IntKind.i64.wrap (sum + lf) = cost := by rw [hcost]; exact IntWalk.i64_in _ (by omega)
        have LP1 := Nat.lt_of_lt_of_le LP.out HB1.out.size
        have LB1 := Nat.lt_of_lt_of_le R1.out HB1.out.size
        have x0 := (HB1.out.cell (p := ⟨b, _, none⟩) R1.out).trans R2.out
        have x1 := (HB1.out.cell (p := ⟨b, _, none⟩) R1.out).trans R3.out
        clear hsm ho7 hlb hlf hcost k1 k0 lp r2 r3
        obtain ⟨wq0, hwq0⟩ : ∃ W, W = w1 := ⟨_, rfl⟩
        rw [← hwq0] at HPq HXq HA1q LP1 LB1 x0 x1 HB1 ⊢
        clear hwq0
        refine wp_region_wildL wq0.heap.size [0, 2, 4, 5, 6, 7, 8, 9, 10, 13, 14, 15, 16, 17, 18, 19, 20, 21, 22, 23, 24, 25] [1, 3, 11, 12, 26, 27] ?s1 (SrR wq0.heap.size order q1 q2 lf cost) (by kernel_rfl) (by kernel_rfl) (by kernel_rfl) 28 (by kernel_rfl) (Nat.le_refl _) ?pre1 ?zero1 ?mono1 ?step1 ?last1
        case pre1 =>
          intro B' W' hb' hB hS'
          have p0 : W'.cell? ⟨p, 0, none⟩ = some (.pointer (some ⟨bx, 0, none⟩)) := cell_block (block_below hb' HPq.out LP1) rfl
          have p1 : W'.cell? ⟨p, 1, none⟩ = some (.slice (some ⟨b, off, none⟩) S.length c0) := cell_block (block_below hb' HPq.out LP1) rfl
          have y0 := (hb'.cell (p := ⟨b, _, none⟩) LB1).trans x0
          have y1 := (hb'.cell (p := ⟨b, _, none⟩) LB1).trans x1
          have l1 : p < B' := Nat.lt_of_lt_of_le LP1 hB
          have l2 : b < B' := Nat.lt_of_lt_of_le LB1 hB
          change wpQuiet _ _ _ _ [_, _, _, _, _, _, _, _, _, _, _, _, _, _, _, _, _, _, _, _, _, _] _
          repeat (go_big_quiet_step (fail))
          refine wpQuiet_nil ?_
          exact rfl
        case zero1 => exact fun w' _ => SrR.zero _ _ _ _ _ _ _
        case mono1 => exact fun res V V' h hb => h.mono hb
        case step1 =>
          intro i o hi ho res a wq hn hRq hbq hBq hey hdep
          simp only [List.mem_cons, List.not_mem_nil, or_false] at hi
          obtain ⟨h1, h2, h3, h4, h5, h6⟩ := hRq
          rcases hi with rfl | rfl | rfl | rfl | rfl | rfl
          · -- the slice of no places
            obtain rfl := Option.some.inj ho
            have hb' : Below wq.heap.size wq (wq.alloc (.cells #[] 50)) := (Below.refl _ wq).alloc (Nat.le_refl _) _
            refine .inr (.inl ⟨.slice (some ⟨wq.heap.size, 0, none⟩) 0 0, wq.alloc (.cells #[] 50), by unfold execOp; go_simp, ⟨fun v hv _ => ?_, fun v hv h12 => (h2 v hv h12).below hb' (Nat.le_refl _), fun v hv h12 => ?_, fun v hv => ⟨(h4 v hv).1.below hb' (Nat.le_refl _), (h4 v hv).2⟩, h5, h6⟩, hbq.trans (hb'.mono hBq)⟩)
            · obtain rfl := Option.some.inj hv
              exact RowQ.made hBq
            · obtain ⟨g, e, hg, _⟩ := h3 v hv h12
              refine ⟨g, e, block_below hb' hg (block_lt hg), fun _ u hu => ?_⟩
              obtain rfl := Option.some.inj hu
              intro e'
              have := block_lt hg
              simp [Value.ownBlock] at e'
              omega
          · -- the append of the order
            obtain rfl := Option.some.inj ho
            have r1 := (hey 60 (by decide)).1 1 (by decide) (by decide)
            have e61 : a.eval (.tmp 61) = .slice A1 order.length c1 := (hey 61 (by decide)).2 (by decide)
            have e60 : a.eval (.tmp 60) = a.tmps.getD 60 undef := rfl
            have hO := h1 _ r1 hn
            obtain ⟨v', w', hrun, hown, hg⟩ := run_appQ 33 wq0.heap.size wq _ [] order hO A1 c1 (HA1q.out.below hbq (Nat.le_refl _)) (by have := HO7.out; simp; omega) hBq
            rw [List.nil_append] at hown
            refine .inr (.inl ⟨v', w', exec_append rfl e60 e61 hrun, ⟨fun u hu h => ?_, fun u hu _ => ?_, fun u hu h12 => ?_, fun u hu => ?_, h5, h6⟩, hbq.trans (hO.belowG hg hBq)⟩)
            · cases h
            · obtain rfl := Option.some.inj hu; exact hown
            · obtain ⟨g, e, hgb, hap⟩ := h3 u hu h12
              exact ⟨g, e, hg.block g _ hgb (hap hn _ r1), fun h => by cases h⟩
            · exact absurd hn (h4 u hu).2
          · -- the slice of one place
            obtain rfl := Option.some.inj ho
            have e69 : a.eval (.tmp 69) = .agg #[.int .i8 q1, .int .i8 q2] := (hey 69 (by decide)).2 (by decide)
            have hb' : Below wq.heap.size wq (wq.alloc (.cells #[.int .i8 q1, .int .i8 q2] 50)) := (Below.refl _ wq).alloc (Nat.le_refl _) _
            have e69' := (getD_l2 a 69).trans e69
            refine .inr (.inl ⟨.slice (some ⟨wq.heap.size, 0, none⟩) 1 1, wq.alloc (.cells #[.int .i8 q1, .int .i8 q2] 50), by unfold execOp; go_simp, ⟨fun v hv h => (h1 v hv h).below hb' (Nat.le_refl _), fun v hv h12 => (h2 v hv h12).below hb' (Nat.le_refl _), fun v hv h12 => ?_, fun v hv => ⟨(h4 v hv).1.below hb' (Nat.le_refl _), (h4 v hv).2⟩, h5, h6⟩, hbq.trans (hb'.mono hBq)⟩)
            obtain rfl := Option.some.inj hv
            refine ⟨wq.heap.size, rfl, block_new1 wq _ rfl, fun h3n u hu e' => ?_⟩
            have := (World.ownsRow.lt (h1 u hu h3n) _ e').2
            omega
          · -- the append of the place
            obtain rfl := Option.some.inj ho
            have r3 := (hey 62 (by decide)).1 3 (by decide) (by decide)
            have r11 := (hey 70 (by decide)).1 11 (by decide) (by decide)
            have hO := h2 _ r3 hn
            obtain ⟨g, e, hg, _⟩ := h3 _ r11 hn
            have e62 : a.eval (.tmp 62) = a.tmps.getD 62 undef := rfl
            have e70 : a.eval (.tmp 70) = .slice (some ⟨g, 0, none⟩) 1 1 := e
            obtain ⟨v', w', hrun, hown, hgr⟩ := run_appQ 33 wq0.heap.size wq _ order [(q1, q2)] hO _ 1 (one_pair hg) (by have := HO7.out; simp; omega) hBq
            refine .inr (.inl ⟨v', w', exec_append rfl e62 e70 hrun, ⟨fun u hu h => ?_, fun u hu h => (by cases h), fun u hu h => (by cases h), fun u hu => ?_, h5, h6⟩, hbq.trans (hO.belowG hgr hBq)⟩)
            · exact absurd h (by show res 3 ≠ none; rw [r3]; simp)
            · obtain rfl := Option.some.inj hu
              exact ⟨hown, by show res 3 ≠ none; rw [r3]; simp⟩
          · -- what is lifted
            obtain rfl := Option.some.inj ho
            have e76 : a.eval (.tmp 76) = .pointer (some ⟨bx, 0, none⟩) := (hey 76 (by decide)).2 (by decide)
            have e83 : a.eval (.tmp 83) = .agg #[.int .i8 q1, .int .i8 q2] := (hey 83 (by decide)).2 (by decide)
            have e84 : a.eval (.tmp 84) = .slice A1 order.length c1 := (hey 84 (by decide)).2 (by decide)
            refine .inl ⟨63, #[.pointer (some ⟨bx, 0, none⟩), .agg #[.int .i8 q1, .int .i8 q2], .slice A1 order.length c1], fun W => by unfold execOp; go_simp; exact ⟨(getD_l2 a 76).trans e76, (getD_l2 a 83).trans e83, (getD_l2 a 84).trans e84⟩, ?_⟩
            refine (HLF wq (block_below hbq HXq.out (block_lt HXq.out)) (HA1q.out.below hbq (Nat.le_refl _))).out.mono ?_
            rintro e w' ⟨rfl, hb'⟩
            refine ⟨_, rfl, ⟨fun v hv h => (h1 v hv h).below hb' (Nat.le_refl _), fun v hv h12 => (h2 v hv h12).below hb' (Nat.le_refl _), fun v hv h12 => ?_, fun v hv => ⟨(h4 v hv).1.below hb' (Nat.le_refl _), (h4 v hv).2⟩, fun v hv => (Option.some.inj hv).symm, h6⟩, hbq.trans (hb'.mono hBq)⟩
            obtain ⟨g, e, hg, hn'⟩ := h3 v hv h12
            exact ⟨g, e, block_below hb' hg (block_lt hg), hn'⟩
          · -- the sum
            obtain rfl := Option.some.inj ho
            have r26 := (hey 85 (by decide)).1 26 (by decide) (by decide)
            have e85 : a.eval (.tmp 85) = .int .i64 lf := h5 _ r26
            have e72 : a.eval (.tmp 72) = .int .i64 sum := (hey 72 (by decide)).2 (by decide)
            have e85' := (getD_l2 a 85).trans e85
            have e72' := (getD_l2 a 72).trans e72
            refine .inr (.inl ⟨.int .i64 cost, wq, ?_, ⟨h1, h2, h3, h4, h5, fun u hu => (Option.some.inj hu).symm⟩, hbq⟩)
            unfold execOp
            go_simp
        case last1 =>
          intro ol hol val a wq hRq hbq hBq hey
          obtain rfl := Option.some.inj hol
          obtain ⟨_, _, _, h4, _, h6⟩ := hRq
          have hn12 : RowQ wq0.heap.size wq (val 12) (order ++ [(q1, q2)]) := (h4 (val 12) rfl).1
          have hn27 : val 27 = .int .i64 cost := h6 (val 27) rfl
          obtain ⟨A2, c2, e2⟩ := owns_slc hn12
          rw [e2] at hn12
          have e59 : a.tmps.getD 59 undef = .pointer (some ⟨p, 0, none⟩) := (hey 59 (by decide)).trans (putW_other _ _ 59 _ _ (by decide))
          have e71 : a.tmps.getD 71 undef = val 12 := (hey 71 (by decide)).trans (putW_here _ _ 71 12 (by rfl) _ _ (by decide) (by decide) (Nat.le_of_ble_eq_true rfl))
          have e86 : a.tmps.getD 86 undef = val 27 := (hey 86 (by decide)).trans (putW_here _ _ 86 27 (by rfl) _ _ (by decide) (by decide) (Nat.le_of_ble_eq_true rfl))
          rw [e2] at e71
          rw [hn27] at e86
          have e59' := (getD_l2 a 59).trans e59
          have e71' := (getD_l2 a 71).trans e71
          have e86' := (getD_l2 a 86).trans e86
          clear hey h4 h6 e2 e59 e71 e86
          refine ⟨44, #[.pointer (some ⟨p, 0, none⟩), .slice A2 (order ++ [(q1, q2)]).length c2, .int .i64 cost], fun W => by clear hn27 hn12; unfold execOp; go_simp, ?_⟩
          have hbt := Butt.of (p := p) (HB1.out.trans (hbq.mono HB1.out.size))
          refine (HI.out (order ++ [(q1, q2)]) cost (stp k) A2 c2 wq (by simp) HCB.out (block_below hbq HXq.out (block_lt HXq.out)) (HA0r.out.butt hbt) (hn12.plN LP1) (hSt.out.below (HB1.out.trans (hbq.mono HB1.out.size)))).mono ?_
          rintro e w7 ⟨rfl, hb7, hs7⟩
          refine ⟨_, rfl, ?_⟩
          have hbfin := hid ((hb.out.trans hbt).trans hb7)
          have hs7 := hid hs7
          clear hb7
          change Exit.inBlock _ _ _ ((((((((_ : Act).put (some 60) (val 1)).put (some 62) (val 3)).put (some 70) (val 11)).put (some 71) (val 12)).put (some 85) (val 26)).put (some 86) (val 27)).put _ _) _
          simp only [Act.put, List.setIfInBounds_toArray, List.set_cons_zero, List.set_cons_succ]
          clear hn12 hn27 e59' e71' e86' hbq hBq hbt
          go_wp2_with fail
          refine ⟨⟨k + 1, by have := HKL.out; omega, by go_num, hbfin.out, ?_⟩, by have := HKL.out; simp [intOf]; omega⟩
          rw [HStep.out]
          exact hs7.out
    · obtain rfl : k = S.length := by omega
      have hd : decide ((S.length : Int) < (S.length : Int)) = false := decide_eq_false (by omega)
      go_wp2_with fail
      go_end0
      refine ⟨rfl, hb.out, ?_⟩
      rw [HF0.out]
      exact hSt.out
set_option maxHeartbeats 6400000 in
set_option maxRecDepth 100000 in
/-- A node, when some was found. -/
theorem c_srchN2 (bv : Value) (ls : Int) (B p bx : Nat) (hBp : B ≤ p) (hbx : bx ≠ p) (r : Rf) (hr : r.Ok) (hv : validB r = true) (A0 : Option Addr) (c0 : Nat) (S : List (Int × Int)) (hS8 : S.length ≤ 8) (hSP : ∀ q ∈ S, (0 ≤ q.1 ∧ q.1 ≤ 7) ∧ (0 ≤ q.2 ∧ q.2 ≤ 7)) (m : Nat) (order : List (Int × Int)) (hm : order.length + (m + 1) = S.length) (sum : Int) (hs : 0 ≤ sum ∧ sum ≤ 4 * order.length) (st : Option (List (Int × Int) × Int)) (hp : prunedL st sum = false)
    (ih : ∀ (order' : List (Int × Int)) (sum' : Int) (st' : Option (List (Int × Int) × Int)) (A1 : Option Addr) (c1 : Nat) (w : World), order'.length = order.length + 1 → (0 ≤ sum' ∧ sum' ≤ 4 * order'.length) → w.heap[bx]? = some (.cells (rcells r) 31 (0,0)) → PlN p w A0 S → PlN p w A1 order' → StQ B p bx (.slice A0 S.length c0) w st' →
      Calls Try.prog 44 #[.pointer (some ⟨p, 0, none⟩), .slice A1 order'.length c1, .int .i64 sum'] w (SrchRet B p bx (.slice A0 S.length c0) w (fromL r S m order' sum' st')))
    (A1 : Option Addr) (c1 : Nat) (w : World) (hx : w.heap[bx]? = some (.cells (rcells r) 31 (0,0))) (hst : StQ B p bx (.slice A0 S.length c0) w st) (h1 : w.heap[p]? = some (.cells #[.pointer (some ⟨bx, 0, none⟩), .slice A0 S.length c0, bv, .int .i64 ls, .bool true] 71 (0, 0))) (hge : decide (sum ≥ ls) = false) (hA0 : PlN p w A0 S) (hA1 : PlN p w A1 order) :
    Calls Try.prog 44 #[.pointer (some ⟨p, 0, none⟩), .slice A1 order.length c1, .int .i64 sum] w (SrchRet B p bx (.slice A0 S.length c0) w (fromL r S (m + 1) order sum st)) := by
  have k1 : w.cell? ⟨p, 1, none⟩ = some (.slice A0 S.length c0) := cell_block h1 rfl
  have k3 : w.cell? ⟨p, 3, none⟩ = some (.int .i64 ls) := cell_block h1 rfl
  have k4 : w.cell? ⟨p, 4, none⟩ = some (.bool true) := cell_block h1 rfl
  have HST := hid hst
  have HX := hid hx
  have HA0 := hid hA0
  have HA1 := hid hA1
  have HI := hid ih
  have HSP := hid hSP
  have HV := hid hv
  have HSM := hid hs
  have HM := hid hm
  have HS8 := hid hS8
  have HO7 : Hid (order.length ≤ 7) := by show _ ≤ _; omega
  have heq : ((order.length : Int) == (S.length : Int)) = false := beq_false_of_ne (by omega)
  obtain ⟨stp, hstp⟩ : ∃ stp : Nat → Option (List (Int × Int) × Int), stp = fun k => (S.take k).foldl (fun st q => if q ∈ order then st else fromL r S m (order ++ [q]) (sum + liftP r q order) st) st := ⟨_, rfl⟩
  have HF0 : Hid (fromL r S (m + 1) order sum st = stp S.length) := by
    rw [hstp]
    show fromL r S (m + 1) order sum st = (S.take S.length).foldl _ st
    rw [List.take_length, fromL, hp]; rfl
  have HS0 : Hid (stp 0 = st) := by rw [hstp]; rfl
  have HS1 : Hid (∀ k q, S[k]? = some q → stp (k + 1) = if q ∈ order then stp k else fromL r S m (order ++ [q]) (sum + liftP r q order) (stp k)) := fun k q hq => by
    obtain ⟨hk, rfl⟩ := List.getElem?_eq_some_iff.1 hq
    rw [hstp]
    show (S.take (k + 1)).foldl _ _ = _
    rw [List.take_succ_eq_append_getElem hk, List.foldl_append]; rfl
  have hH := fun (q1 q2 : Int) W h => hid (c_l01Has A1 c1 order (by omega) q1 q2 W h)
  have HBX := hid hbx
  have HBP := hid hBp
  clear h1 hst hx hA0 hA1 ih hstp hp hs hm hS8 hSP hv hbx hBp
  go_enter Try.func44, Try.ntmps44
  go_wp2_with fail
  clear k1 k3 k4
  clear hge
  go_loopw [6] (fun i wr => ∃ k : Nat, k ≤ S.length ∧ i = .int .i64 k ∧ Hid (Butt p w wr) ∧ Hid (StQ B p bx (.slice A0 S.length c0) wr (stp k))) (fun i _ => S.length - (intOf i).toNat)
  case atStart => exact ⟨0, by omega, rfl, Butt.refl _ _, by rw [HS0.out]; exact HST.out⟩
  case round =>
    obtain ⟨k, hk, rfl, hb, hSt⟩ := hrel
    obtain ⟨bv', ls', f', h1'⟩ := hSt.out.heads
    have k1 : wr.cell? ⟨p, 1, none⟩ = some (.slice A0 S.length c0) := cell_block h1' rfl
    have k0 : wr.cell? ⟨p, 0, none⟩ = some (.pointer (some ⟨bx, 0, none⟩)) := cell_block h1' rfl
    have HP := hid h1'
    have lp : p < wr.heap.size := block_lt h1'
    clear h1'
    by_cases hkl : k < S.length
    · have hd : decide ((k : Int) < (S.length : Int)) = true := decide_eq_true (by omega)
      have hkI : (k : Int) < (S.length : Int) := by omega
      have hk0 : (0 : Int) ≤ (k : Int) := by omega
      have hk8 : (k : Int) ≤ 8 := by have := HS8.out; omega
      have hq := List.getElem?_eq_getElem hkl
      obtain ⟨⟨q1, q2⟩, hqq⟩ : ∃ q, q = S[k] := ⟨_, rfl⟩
      rw [← hqq] at hq
      have HQ7 := hid (HSP.out (q1, q2) (List.mem_of_getElem? hq))
      have HStep := hid (HS1.out k (q1, q2) hq)
      have HXr := hid (hb.out.at HX.out HBX.out)
      have HA0r := hid (HA0.out.butt hb.out)
      have HA1r := hid (HA1.out.butt hb.out)
      obtain ⟨b, off, rfl, r1, r2, r3⟩ := HA0r.out.1 k (q1, q2) hq
      dsimp only at r2 r3
      have HH := fun W h => hid (hH q1 q2 W h).out
      have HKL := hid hkl
      have R1 := hid r1
      have R2 := hid r2
      have R3 := hid r3
      have LP := hid lp
      have hin0 : ∃ b : Bool, b = decide ((q1, q2) ∈ order) := ⟨_, rfl⟩
      obtain ⟨bi, hbi⟩ := hin0
      rw [← hbi] at HH
      clear hq hqq hkl r1
      cases bi with
      | true =>
        have hin : (q1, q2) ∈ order := of_decide_eq_true hbi.symm
        rw [if_pos hin] at HStep
        clear hbi hin
        go_wp2_with (go_at_call 36; ((refine (HH _ HA1r.out.1).out.mono ?_); rintro e w1 ⟨rfl, hb1⟩); have HB1 := hid hb1; clear hb1)
        refine ⟨⟨k + 1, by have := HKL.out; omega, by go_num, hb.out.trans (Butt.of HB1.out), ?_⟩, by have := HKL.out; simp [intOf]; omega⟩
        rw [HStep.out]
        exact hSt.out.below HB1.out
      | false =>
        have hin : ¬ (q1, q2) ∈ order := of_decide_eq_false hbi.symm
        rw [if_neg hin] at HStep
        clear hbi hin
        go_wp2_with (go_at_call 36; ((refine (HH _ HA1r.out.1).out.mono ?_); rintro e w1 ⟨rfl, hb1⟩); have HB1 := hid hb1; clear hb1)
        have HPq := hid (block_below HB1.out HP.out LP.out)
        have HXq := hid (block_below HB1.out HXr.out (block_lt HXr.out))
        have HA1q := hid (HA1r.out.1.below HB1.out (Nat.le_refl _))
        have HLF := fun W h1 h2 => hid (c_l04Lift r hr HV.out bx q1 q2 HQ7.out.1 HQ7.out.2 A1 c1 order (by have := HO7.out; omega) W h1 h2)
        have hlb := liftP_b r (q1, q2) order
        obtain ⟨lf, hlf⟩ : ∃ t, t = liftP r (q1, q2) order := ⟨_, rfl⟩
        rw [← hlf] at HLF HStep hlb
        obtain ⟨cost, hcost⟩ : ∃ t, t = sum + lf := ⟨_, rfl⟩
        rw [← hcost] at HStep
        have hsm := HSM.out
        have ho7 := HO7.out
        have HCB : Hid (0 ≤ cost ∧ cost ≤ 4 * (order ++ [(q1, q2)]).length) := by rw [List.length_append, List.length_singleton]; refine ⟨by omega, ?_⟩; rw [Int.natCast_add, hcost]; show sum + lf ≤ 4 * ((order.length : Int) + 1); omega
        have ew : IntKind.i64.wrap (sum + lf) = cost := by rw [hcost]; exact IntWalk.i64_in _ (by omega)
        have LP1 := Nat.lt_of_lt_of_le LP.out HB1.out.size
        have LB1 := Nat.lt_of_lt_of_le R1.out HB1.out.size
        have x0 := (HB1.out.cell (p := ⟨b, _, none⟩) R1.out).trans R2.out
        have x1 := (HB1.out.cell (p := ⟨b, _, none⟩) R1.out).trans R3.out
        clear hsm ho7 hlb hlf hcost k1 k0 lp r2 r3
        obtain ⟨wq0, hwq0⟩ : ∃ W, W = w1 := ⟨_, rfl⟩
        rw [← hwq0] at HPq HXq HA1q LP1 LB1 x0 x1 HB1 ⊢
        clear hwq0
        refine wp_region_wildL wq0.heap.size [0, 2, 4, 5, 6, 7, 8, 9, 10, 13, 14, 15, 16, 17, 18, 19, 20, 21, 22, 23, 24, 25] [1, 3, 11, 12, 26, 27] ?s1 (SrR wq0.heap.size order q1 q2 lf cost) (by kernel_rfl) (by kernel_rfl) (by kernel_rfl) 28 (by kernel_rfl) (Nat.le_refl _) ?pre1 ?zero1 ?mono1 ?step1 ?last1
        case pre1 =>
          intro B' W' hb' hB hS'
          have p0 : W'.cell? ⟨p, 0, none⟩ = some (.pointer (some ⟨bx, 0, none⟩)) := cell_block (block_below hb' HPq.out LP1) rfl
          have p1 : W'.cell? ⟨p, 1, none⟩ = some (.slice (some ⟨b, off, none⟩) S.length c0) := cell_block (block_below hb' HPq.out LP1) rfl
          have y0 := (hb'.cell (p := ⟨b, _, none⟩) LB1).trans x0
          have y1 := (hb'.cell (p := ⟨b, _, none⟩) LB1).trans x1
          have l1 : p < B' := Nat.lt_of_lt_of_le LP1 hB
          have l2 : b < B' := Nat.lt_of_lt_of_le LB1 hB
          change wpQuiet _ _ _ _ [_, _, _, _, _, _, _, _, _, _, _, _, _, _, _, _, _, _, _, _, _, _] _
          repeat (go_big_quiet_step (fail))
          refine wpQuiet_nil ?_
          exact rfl
        case zero1 => exact fun w' _ => SrR.zero _ _ _ _ _ _ _
        case mono1 => exact fun res V V' h hb => h.mono hb
        case step1 =>
          intro i o hi ho res a wq hn hRq hbq hBq hey hdep
          simp only [List.mem_cons, List.not_mem_nil, or_false] at hi
          obtain ⟨h1, h2, h3, h4, h5, h6⟩ := hRq
          rcases hi with rfl | rfl | rfl | rfl | rfl | rfl
          · -- the slice of no places
            obtain rfl := Option.some.inj ho
            have hb' : Below wq.heap.size wq (wq.alloc (.cells #[] 50)) := (Below.refl _ wq).alloc (Nat.le_refl _) _
            refine .inr (.inl ⟨.slice (some ⟨wq.heap.size, 0, none⟩) 0 0, wq.alloc (.cells #[] 50), by unfold execOp; go_simp, ⟨fun v hv _ => ?_, fun v hv h12 => (h2 v hv h12).below hb' (Nat.le_refl _), fun v hv h12 => ?_, fun v hv => ⟨(h4 v hv).1.below hb' (Nat.le_refl _), (h4 v hv).2⟩, h5, h6⟩, hbq.trans (hb'.mono hBq)⟩)
            · obtain rfl := Option.some.inj hv
              exact RowQ.made hBq
            · obtain ⟨g, e, hg, _⟩ := h3 v hv h12
              refine ⟨g, e, block_below hb' hg (block_lt hg), fun _ u hu => ?_⟩
              obtain rfl := Option.some.inj hu
              intro e'
              have := block_lt hg
              simp [Value.ownBlock] at e'
              omega
          · -- the append of the order
            obtain rfl := Option.some.inj ho
            have r1 := (hey 60 (by decide)).1 1 (by decide) (by decide)
            have e61 : a.eval (.tmp 61) = .slice A1 order.length c1 := (hey 61 (by decide)).2 (by decide)
            have e60 : a.eval (.tmp 60) = a.tmps.getD 60 undef := rfl
            have hO := h1 _ r1 hn
            obtain ⟨v', w', hrun, hown, hg⟩ := run_appQ 33 wq0.heap.size wq _ [] order hO A1 c1 (HA1q.out.below hbq (Nat.le_refl _)) (by have := HO7.out; simp; omega) hBq
            rw [List.nil_append] at hown
            refine .inr (.inl ⟨v', w', exec_append rfl e60 e61 hrun, ⟨fun u hu h => ?_, fun u hu _ => ?_, fun u hu h12 => ?_, fun u hu => ?_, h5, h6⟩, hbq.trans (hO.belowG hg hBq)⟩)
            · cases h
            · obtain rfl := Option.some.inj hu; exact hown
            · obtain ⟨g, e, hgb, hap⟩ := h3 u hu h12
              exact ⟨g, e, hg.block g _ hgb (hap hn _ r1), fun h => by cases h⟩
            · exact absurd hn (h4 u hu).2
          · -- the slice of one place
            obtain rfl := Option.some.inj ho
            have e69 : a.eval (.tmp 69) = .agg #[.int .i8 q1, .int .i8 q2] := (hey 69 (by decide)).2 (by decide)
            have hb' : Below wq.heap.size wq (wq.alloc (.cells #[.int .i8 q1, .int .i8 q2] 50)) := (Below.refl _ wq).alloc (Nat.le_refl _) _
            have e69' := (getD_l2 a 69).trans e69
            refine .inr (.inl ⟨.slice (some ⟨wq.heap.size, 0, none⟩) 1 1, wq.alloc (.cells #[.int .i8 q1, .int .i8 q2] 50), by unfold execOp; go_simp, ⟨fun v hv h => (h1 v hv h).below hb' (Nat.le_refl _), fun v hv h12 => (h2 v hv h12).below hb' (Nat.le_refl _), fun v hv h12 => ?_, fun v hv => ⟨(h4 v hv).1.below hb' (Nat.le_refl _), (h4 v hv).2⟩, h5, h6⟩, hbq.trans (hb'.mono hBq)⟩)
            obtain rfl := Option.some.inj hv
            refine ⟨wq.heap.size, rfl, block_new1 wq _ rfl, fun h3n u hu e' => ?_⟩
            have := (World.ownsRow.lt (h1 u hu h3n) _ e').2
            omega
          · -- the append of the place
            obtain rfl := Option.some.inj ho
            have r3 := (hey 62 (by decide)).1 3 (by decide) (by decide)
            have r11 := (hey 70 (by decide)).1 11 (by decide) (by decide)
            have hO := h2 _ r3 hn
            obtain ⟨g, e, hg, _⟩ := h3 _ r11 hn
            have e62 : a.eval (.tmp 62) = a.tmps.getD 62 undef := rfl
            have e70 : a.eval (.tmp 70) = .slice (some ⟨g, 0, none⟩) 1 1 := e
            obtain ⟨v', w', hrun, hown, hgr⟩ := run_appQ 33 wq0.heap.size wq _ order [(q1, q2)] hO _ 1 (one_pair hg) (by have := HO7.out; simp; omega) hBq
            refine .inr (.inl ⟨v', w', exec_append rfl e62 e70 hrun, ⟨fun u hu h => ?_, fun u hu h => (by cases h), fun u hu h => (by cases h), fun u hu => ?_, h5, h6⟩, hbq.trans (hO.belowG hgr hBq)⟩)
            · exact absurd h (by show res 3 ≠ none; rw [r3]; simp)
            · obtain rfl := Option.some.inj hu
              exact ⟨hown, by show res 3 ≠ none; rw [r3]; simp⟩
          · -- what is lifted
            obtain rfl := Option.some.inj ho
            have e76 : a.eval (.tmp 76) = .pointer (some ⟨bx, 0, none⟩) := (hey 76 (by decide)).2 (by decide)
            have e83 : a.eval (.tmp 83) = .agg #[.int .i8 q1, .int .i8 q2] := (hey 83 (by decide)).2 (by decide)
            have e84 : a.eval (.tmp 84) = .slice A1 order.length c1 := (hey 84 (by decide)).2 (by decide)
            refine .inl ⟨63, #[.pointer (some ⟨bx, 0, none⟩), .agg #[.int .i8 q1, .int .i8 q2], .slice A1 order.length c1], fun W => by unfold execOp; go_simp; exact ⟨(getD_l2 a 76).trans e76, (getD_l2 a 83).trans e83, (getD_l2 a 84).trans e84⟩, ?_⟩
            refine (HLF wq (block_below hbq HXq.out (block_lt HXq.out)) (HA1q.out.below hbq (Nat.le_refl _))).out.mono ?_
            rintro e w' ⟨rfl, hb'⟩
            refine ⟨_, rfl, ⟨fun v hv h => (h1 v hv h).below hb' (Nat.le_refl _), fun v hv h12 => (h2 v hv h12).below hb' (Nat.le_refl _), fun v hv h12 => ?_, fun v hv => ⟨(h4 v hv).1.below hb' (Nat.le_refl _), (h4 v hv).2⟩, fun v hv => (Option.some.inj hv).symm, h6⟩, hbq.trans (hb'.mono hBq)⟩
            obtain ⟨g, e, hg, hn'⟩ := h3 v hv h12
            exact ⟨g, e, block_below hb' hg (block_lt hg), hn'⟩
          · -- the sum
            obtain rfl := Option.some.inj ho
            have r26 := (hey 85 (by decide)).1 26 (by decide) (by decide)
            have e85 : a.eval (.tmp 85) = .int .i64 lf := h5 _ r26
            have e72 : a.eval (.tmp 72) = .int .i64 sum := (hey 72 (by decide)).2 (by decide)
            have e85' := (getD_l2 a 85).trans e85
            have e72' := (getD_l2 a 72).trans e72
            refine .inr (.inl ⟨.int .i64 cost, wq, ?_, ⟨h1, h2, h3, h4, h5, fun u hu => (Option.some.inj hu).symm⟩, hbq⟩)
            unfold execOp
            go_simp
        case last1 =>
          intro ol hol val a wq hRq hbq hBq hey
          obtain rfl := Option.some.inj hol
          obtain ⟨_, _, _, h4, _, h6⟩ := hRq
          have hn12 : RowQ wq0.heap.size wq (val 12) (order ++ [(q1, q2)]) := (h4 (val 12) rfl).1
          have hn27 : val 27 = .int .i64 cost := h6 (val 27) rfl
          obtain ⟨A2, c2, e2⟩ := owns_slc hn12
          rw [e2] at hn12
          have e59 : a.tmps.getD 59 undef = .pointer (some ⟨p, 0, none⟩) := (hey 59 (by decide)).trans (putW_other _ _ 59 _ _ (by decide))
          have e71 : a.tmps.getD 71 undef = val 12 := (hey 71 (by decide)).trans (putW_here _ _ 71 12 (by rfl) _ _ (by decide) (by decide) (Nat.le_of_ble_eq_true rfl))
          have e86 : a.tmps.getD 86 undef = val 27 := (hey 86 (by decide)).trans (putW_here _ _ 86 27 (by rfl) _ _ (by decide) (by decide) (Nat.le_of_ble_eq_true rfl))
          rw [e2] at e71
          rw [hn27] at e86
          have e59' := (getD_l2 a 59).trans e59
          have e71' := (getD_l2 a 71).trans e71
          have e86' := (getD_l2 a 86).trans e86
          clear hey h4 h6 e2 e59 e71 e86
          refine ⟨44, #[.pointer (some ⟨p, 0, none⟩), .slice A2 (order ++ [(q1, q2)]).length c2, .int .i64 cost], fun W => by clear hn27 hn12; unfold execOp; go_simp, ?_⟩
          have hbt := Butt.of (p := p) (HB1.out.trans (hbq.mono HB1.out.size))
          refine (HI.out (order ++ [(q1, q2)]) cost (stp k) A2 c2 wq (by simp) HCB.out (block_below hbq HXq.out (block_lt HXq.out)) (HA0r.out.butt hbt) (hn12.plN LP1) (hSt.out.below (HB1.out.trans (hbq.mono HB1.out.size)))).mono ?_
          rintro e w7 ⟨rfl, hb7, hs7⟩
          refine ⟨_, rfl, ?_⟩
          have hbfin := hid ((hb.out.trans hbt).trans hb7)
          have hs7 := hid hs7
          clear hb7
          change Exit.inBlock _ _ _ ((((((((_ : Act).put (some 60) (val 1)).put (some 62) (val 3)).put (some 70) (val 11)).put (some 71) (val 12)).put (some 85) (val 26)).put (some 86) (val 27)).put _ _) _
          simp only [Act.put, List.setIfInBounds_toArray, List.set_cons_zero, List.set_cons_succ]
          clear hn12 hn27 e59' e71' e86' hbq hBq hbt
          go_wp2_with fail
          refine ⟨⟨k + 1, by have := HKL.out; omega, by go_num, hbfin.out, ?_⟩, by have := HKL.out; simp [intOf]; omega⟩
          rw [HStep.out]
          exact hs7.out
    · obtain rfl : k = S.length := by omega
      have hd : decide ((S.length : Int) < (S.length : Int)) = false := decide_eq_false (by omega)
      go_wp2_with fail
      go_end0
      refine ⟨rfl, hb.out, ?_⟩
      rw [HF0.out]
      exact hSt.out
theorem c_srchN (B p bx : Nat) (hBp : B ≤ p) (hbx : bx ≠ p) (r : Rf) (hr : r.Ok) (hv : validB r = true) (A0 : Option Addr) (c0 : Nat) (S : List (Int × Int)) (hS8 : S.length ≤ 8) (hSP : ∀ q ∈ S, (0 ≤ q.1 ∧ q.1 ≤ 7) ∧ (0 ≤ q.2 ∧ q.2 ≤ 7)) :
    ∀ (m : Nat) (order : List (Int × Int)) (sum : Int) (st : Option (List (Int × Int) × Int)), order.length + m = S.length → (0 ≤ sum ∧ sum ≤ 4 * order.length) → ∀ (A1 : Option Addr) (c1 : Nat) (w : World), w.heap[bx]? = some (.cells (rcells r) 31 (0,0)) → StQ B p bx (.slice A0 S.length c0) w st → PlN p w A0 S → PlN p w A1 order →
    Calls Try.prog 44 #[.pointer (some ⟨p, 0, none⟩), .slice A1 order.length c1, .int .i64 sum] w (SrchRet B p bx (.slice A0 S.length c0) w (fromL r S m order sum st)) := by
  intro m
  induction m with
  | zero =>
    intro order sum st hm hs A1 c1 w hx hst h0 h1
    cases hp : prunedL st sum with
    | true =>
      rcases st with _ | ⟨l, n⟩
      · cases hp
      · have hn : n ≤ sum := by simpa [prunedL] using hp
        have : fromL r S 0 order sum (some (l, n)) = some (l, n) := by rw [fromL, hp]; rfl
        rw [this]
        exact c_srchP B p bx _ l n sum hn order A1 c1 w hst
    | false =>
      have : fromL r S 0 order sum st = some (order, sum) := by rw [fromL, hp]; rfl
      rw [this]
      exact c_srchL B p bx hBp A0 c0 S.length st order (by omega) sum hp (by omega) A1 c1 w hst h1
  | succ m ih =>
    intro order sum st hm hs A1 c1 w hx hst h0 h1
    cases hp : prunedL st sum with
    | true =>
      rcases st with _ | ⟨l, n⟩
      · cases hp
      · have hn : n ≤ sum := by simpa [prunedL] using hp
        have : fromL r S (m + 1) order sum (some (l, n)) = some (l, n) := by rw [fromL, hp]; rfl
        rw [this]
        exact c_srchP B p bx _ l n sum hn order A1 c1 w hst
    | false =>
      have ih' : ∀ (order' : List (Int × Int)) (sum' : Int) (st' : Option (List (Int × Int) × Int)) (A1 : Option Addr) (c1 : Nat) (w : World), order'.length = order.length + 1 → (0 ≤ sum' ∧ sum' ≤ 4 * order'.length) → w.heap[bx]? = some (.cells (rcells r) 31 (0,0)) → PlN p w A0 S → PlN p w A1 order' → StQ B p bx (.slice A0 S.length c0) w st' →
          Calls Try.prog 44 #[.pointer (some ⟨p, 0, none⟩), .slice A1 order'.length c1, .int .i64 sum'] w (SrchRet B p bx (.slice A0 S.length c0) w (fromL r S m order' sum' st')) :=
        fun order' sum' st' A1 c1 w e1 e2 e3 e4 e5 e6 => ih order' sum' st' (by omega) e2 A1 c1 w e3 e6 e4 e5
      obtain ⟨bv, ls, f, hh, hf⟩ := hst.opened hp
      rcases hf with rfl | ⟨rfl, hge⟩
      · exact c_srchN1 bv ls B p bx hBp hbx r hr hv A0 c0 S hS8 hSP m order hm sum hs st hp ih' A1 c1 w hx hst hh h0 h1
      · exact c_srchN2 bv ls B p bx hBp hbx r hr hv A0 c0 S hS8 hSP m order hm sum hs st hp ih' A1 c1 w hx hst hh hge h0 h1
end Go.Proofs.Ytfbgldkdlmipoaa

/- LeastLifted, the reference's. -/
namespace Go.Proofs.Ytfbgldkdlmipoaa
open Go.RowKit
set_option linter.unusedSimpArgs false
set_option linter.unusedVariables false
theorem RowQ.plF {B p : Nat} {w : World} {A : Option Addr} {n c : Nat} {l : List (Int × Int)} (h : RowQ B w (.slice A n c) l) (hp : w.heap.size ≤ p) : PlN p w A l :=
  ⟨h.pairs, fun a hl e => by
    subst e
    have := (h.lt a.block rfl).2
    omega⟩
set_option maxHeartbeats 3200000 in
set_option maxRecDepth 100000 in
theorem c_sLeastLifted (r : Rf) (hr : r.Ok) (A : Option Addr) (c : Nat) (l : List (Int × Int)) (hB : PlB l) (hlen : l.length ≤ 1048576) (hlc : l.length ≤ c) (w : World) (hA : PairsAt .i8 .i8 w A l) :
    Calls Try.prog 20 #[.agg (rcells r), .slice A l.length c] w fun e w' => ∃ v, e = .returned (.tuple #[v, .int .i64 (leaC r l), .int .i64 (onceK r l true)]) ∧ Below w.heap.size w w' ∧ RowQ w.heap.size w' v (leaV r l) := by
  have HX := hid (block_new1 w (.cells (rcells r) 31) rfl)
  have HW : Hid (Below w.heap.size w (w.alloc (.cells (rcells r) 31))) := (Below.refl _ w).alloc (Nat.le_refl _) _
  have HA := hid hA
  have HC := fun W h1 h2 => hid (c_l04Once r hr w.heap.size A c l hB hlen hlc true W h1 h2)
  unfold leaV leaC
  by_cases h0 : onceK r l true = 0
  · rw [if_pos h0, if_pos h0, h0]
    rw [h0] at HC
    obtain ⟨hv, hall, _, h8, hnd, _⟩ := onceK_zero h0
    have HPL : Hid (∀ p ∈ sortP l, (0 ≤ p.1 ∧ p.1 ≤ 7) ∧ (0 ≤ p.2 ∧ p.2 ≤ 7)) := fun p hp => all_pl hv hall p ((sortP_perm l).mem_iff.1 hp)
    have HND : Hid ((sortP l).Nodup) := (sortP_nodup l).2 hnd
    have HQ := fun W h => hid (c_l04Sorted A c l (by omega) W h)
    have hSL := sortP_lenQ l
    obtain ⟨S, hS⟩ : ∃ S, S = sortP l := ⟨_, rfl⟩
    rw [← hS] at HPL HND HQ ⊢
    have HS8 : Hid (S.length ≤ 8) := by rw [hS]; show _ ≤ _; omega
    have HF0 := hid (fromL_all r HND.out (Nat.le_trans HS8.out (by decide)))
    have HN := fun p A0 c0 A1 c1 W h1 h2 h3 h4 h5 => hid (c_srchN w.heap.size p w.heap.size h1 h2 r hr hv A0 c0 S HS8.out HPL.out S.length [] 0 none (by simp) (by simp) A1 c1 W h3 ⟨.slice none 0 0, 0, h4⟩ h5 ⟨by intro j x hj; simp at hj, by simp⟩)
    rw [HF0.out] at HN
    clear h0 hv hall hA hB hlen hlc h8 hnd hS hSL HF0
    go_enter Try.func20, Try.ntmps20
    go_wp2_with (first
      | (go_at_call 24; ((with_reducible refine (HC _ HX.out (HA.out.below HW.out (Nat.le_refl _))).out.mono ?_); rintro e w1 ⟨rfl, hb1⟩); have HX1 := hid (block_below hb1 HX.out (block_lt HX.out)); have HW1 := hid (HW.out.trans (hb1.mono HW.out.size)); clear hb1)
      | (go_at_call 35; ((with_reducible refine (HQ _ (HA.out.below HW1.out (Nat.le_refl _))).out.mono ?_); rintro e w2 ⟨v, rfl, hb2, hr2⟩); obtain ⟨As, cs, rfl⟩ := owns_slc hr2; have LX1 := hid (block_lt HX1.out); have HX2 := hid (block_below hb2 HX1.out (block_lt HX1.out)); have HW2 := hid (HW1.out.trans (hb2.mono HW1.out.size)); have HR2 := hid hr2; have LW2 := hid (Nat.lt_of_lt_of_le LX1.out hb2.size); clear hb2 hr2; have HBW := hid (HW2.out.alloc HW2.out.size (.cells #[.pointer (some ⟨w.heap.size, 0, none⟩), .slice As S.length cs, .slice none 0 0, .int .i64 0, .bool false] 71)); have HBW2 := hid (HBW.out.alloc HBW.out.size (.cells #[] 50)))
      | (go_at_call 44; ((refine (HN w2.heap.size As cs (some ⟨w2.heap.size + 1, 0, none⟩) 0 _ HW2.out.size (Nat.ne_of_lt LW2.out) (block_alloc (block_alloc HX2.out _) _) (block_alloc (block_new1 w2 (.cells #[.pointer (some ⟨w.heap.size, 0, none⟩), .slice As S.length cs, .slice none 0 0, .int .i64 0, .bool false] 71) rfl) _) ((RowQ.plF HR2.out (Nat.le_refl _)).butt (Butt.of (((Below.refl w2.heap.size w2).alloc (Nat.le_refl _) _).alloc (by simp) _)))).out.mono ?_); rintro e w5 ⟨rfl, hb5, A', c', ho, hr5, hne⟩)))
    have LB2 : w2.heap.size < ((w2.alloc (.cells #[.pointer (some ⟨w.heap.size, 0, none⟩), .slice As S.length cs, .slice none 0 0, .int .i64 0, .bool false] 71)).alloc (.cells #[] 50)).heap.size := by simp; omega
    have HB5 := hid (HBW2.out.trans (hb5.below HW2.out.size (by have := HW2.out.size; omega)))
    have k2 : w5.cell? ⟨w2.heap.size, 2, none⟩ = some (.slice A' (leastF r S).length c') := cell_block ho rfl
    have k3 : w5.cell? ⟨w2.heap.size, 3, none⟩ = some (.int .i64 (leastC r S)) := cell_block ho rfl
    have lp : w2.heap.size < w5.heap.size := block_lt ho
    have HR := hid hr5
    clear hb5 hr5 hne ho LB2
    refine wp_region_ext w5.heap.size (by kernel_rfl) (by kernel_rfl) ?_
    repeat (go_big_quiet_step (fail))
    refine wpQuiet_nil ?_
    intro xx
    have HR2 := hid (HR.out.below xx.below (Nat.le_refl _))
    have HB3 := hid (HB5.out.trans (xx.below.mono HB5.out.size))
    go_wp2_with fail
    go_ret3
    exact ⟨_, rfl, HB3.out, HR2.out⟩
  · rw [if_neg h0, if_neg h0]
    have hk := onceK_cases r l true
    obtain ⟨k, hkk⟩ : ∃ k, k = onceK r l true := ⟨_, rfl⟩
    rw [← hkk] at HC hk h0 ⊢
    have hk0 : (k == 0) = false := by rw [beq_eq_false_iff_ne]; exact h0
    have hk1 : (k != 0) = true := by unfold bne; rw [hk0]; rfl
    clear hkk hA hB hk h0
    go_enter Try.func20, Try.ntmps20
    go_wp2_with (go_at_call 24; ((with_reducible refine (HC _ HX.out (HA.out.below HW.out (Nat.le_refl _))).out.mono ?_); rintro e w1 ⟨rfl, hb1⟩); have HW1 := hid (HW.out.trans (hb1.mono HW.out.size)); clear hb1)
    go_ret3
    exact ⟨_, rfl, HW1.out.alloc HW1.out.size _, RowQ.made HW1.out.size⟩
end Go.Proofs.Ytfbgldkdlmipoaa

/- toPlaceS makes slices that are full. -/
namespace Go.Proofs.Ytfbgldkdlmipoaa
open Go.RowKit
set_option linter.unusedSimpArgs false
set_option linter.unusedVariables false
set_option maxHeartbeats 800000 in
set_option maxRecDepth 100000 in
theorem c_toPlaceSF (A : Option Addr) (c : Nat) (l : List (Int × Int)) (hlen : l.length ≤ 1048576) (w : World) (hA : PairsAt .i8 .i8 w A l) :
    Calls Try.prog 11 #[.slice A l.length c] w fun e w' => ∃ (A' : Option Addr), e = .returned (.slice A' l.length l.length) ∧ Below w.heap.size w w' ∧ OwQ w.heap.size w'.heap.size w' (.slice A' l.length l.length) l := by
  obtain ⟨i0, hi, hz0, hz1, hz2⟩ := toPlace_parts
  have HA := hid hA; clear hA
  go_enter Try.func11, Try.ntmps11
  go_wp2_with ((with_reducible refine gate (N := 7) rfl ?_); refine wpList_make_full _ rfl (.tmp 6) (.tmp 6) 33 rfl w.heap.size 50 i0 (.agg #[.int .i8 0, .int .i8 0]) 2 Try.underlying33 hi hz0 hz1 .i64 .i64 (l.length : Int) (l.length : Int) l.length rfl rfl rfl rfl (by rw [hz2]; omega) (Nat.le_trans hlen (by decide)) (Nat.le_refl _) ?_; intro w1 hown hgrow)
  have HB1 : Hid (Below w.heap.size w w1) := (Below.refl _ w).grown hgrow (Nat.le_refl _) (fun k hk => by cases hk)
  have HO1 : Hid (OwP w.heap.size w1.heap.size w1 (.slice (some ⟨w.heap.size, 0, none⟩) l.length l.length) (padQ l 0)) := by
    rw [padQ_zero]
    have := made_Q l.length hown
    simpa [Hid] using this
  have hS1 : Hid (w.heap.size ≤ w1.heap.size) := HB1.out.size
  clear hown hgrow
  go_loopw [4] (fun i wr => ∃ k : Nat, k ≤ l.length ∧ i = .int .i64 k ∧ Hid (Below w.heap.size w wr) ∧ Hid (w1.heap.size ≤ wr.heap.size) ∧ Hid (OwP w.heap.size w1.heap.size wr (.slice (some ⟨w.heap.size, 0, none⟩) l.length l.length) (padQ l k))) (fun i _ => l.length - (intOf i).toNat)
  case atStart => exact ⟨0, by omega, rfl, HB1, Nat.le_refl _, HO1⟩
  case round =>
    obtain ⟨k, hk, rfl, hb, hS, hO⟩ := hrel
    by_cases hkl : k < l.length
    · have hd : decide ((k : Int) < (l.length : Int)) = true := decide_eq_true (by omega)
      have hkI : (k : Int) < (l.length : Int) := by omega
      have hk0 : (0 : Int) ≤ (k : Int) := by omega
      have hp := List.getElem?_eq_getElem hkl
      obtain ⟨⟨p1, p2⟩, hpp⟩ : ∃ p, p = l[k] := ⟨_, rfl⟩
      rw [← hpp] at hp
      have HST : Hid ((padQ l k).set k (p1, p2) = padQ l (k + 1)) := padQ_step l k hkl _ hpp
      have HL := hid (padQ_len l k hk)
      obtain ⟨b, off, rfl, r1, r2, r3⟩ := HA.out k _ hp
      dsimp only at r2 r3
      have c0 := (hb.out.cell (p := ⟨b, _, none⟩) r1).trans r2
      have c1 := (hb.out.cell (p := ⟨b, _, none⟩) r1).trans r3
      clear hp hpp r2 r3
      go_wp2_with (go_at_call 27; refine (c_toPlace p1 p2 _).mono ?_; rintro e w2 ⟨rfl, hb2⟩; have O2 := hid (hO.out.below hb2 hS.out); have hb := hid (hb.out.trans (hb2.mono hb.out.size)); have hS := hid (Nat.le_trans hS.out hb2.size); clear hb2; obtain ⟨⟨v0, m0⟩, ⟨v1, m1⟩, m2, m3, m4⟩ := owQ_free O2.out (k := k) (by rw [HL.out]; exact hkl))
      refine ⟨⟨k + 1, by omega, by go_num, Below.setCell (Below.setCell hb.out (p := ⟨w.heap.size, k * 2, none⟩) (Nat.le_refl _) _) (p := ⟨w.heap.size, k * 2 + 1, none⟩) (Nat.le_refl _) _, ?_, ?_⟩, by simp [intOf]; omega⟩
      · have := hS.out; simpa [Hid] using this
      · have h1 := O2.out
        rw [← HL.out] at h1
        have h2 := OwP.put h1 (by rw [HL.out]; exact hkl) p1 p2
        rw [HST.out, HL.out] at h2
        exact h2
    · obtain rfl : k = l.length := by omega
      have hd : decide ((l.length : Int) < (l.length : Int)) = false := decide_eq_false (by omega)
      rw [padQ_all] at hO
      go_wp2_with fail
      go_ret
      exact ⟨_, rfl, hb.out, ⟨hO.out.hi (Nat.le_refl _) hS.out, hb.out.size, Nat.le_refl _⟩⟩
end Go.Proofs.Ytfbgldkdlmipoaa

/- The walk of FnExactLeastLifted. -/
namespace Go.Proofs.Ytfbgldkdlmipoaa
open Go.RowKit
set_option linter.unusedSimpArgs false
set_option linter.unusedVariables false
theorem bestG_len (r : Rf) (S : List (Int × Int)) : ∀ (m : Nat) (bef : List (Int × Int)), (bestG r S m bef).2.length ≤ m
  | 0, _ => by simp [bestG]
  | m + 1, bef => by
    have key : ∀ (L : List (Int × Int)) (a : Int × List (Int × Int)), a.2.length ≤ m + 1 → (L.foldl (tryG r (bestG r S m) bef) a).2.length ≤ m + 1 := by
      intro L
      induction L with
      | nil => exact fun a h => h
      | cons p L ih =>
        intro a h
        refine ih _ ?_
        unfold tryG
        split
        · exact h
        · split
          · have := bestG_len r S m (bef ++ [p])
            show (p :: _).length ≤ _
            rw [List.length_cons]; omega
          · exact h
    exact key S (1000, []) (by simp)
theorem leaV_len (r : Rf) (l : List (Int × Int)) : (leaV r l).length ≤ 1048576 := by
  unfold leaV
  split
  · rename_i h
    obtain ⟨_, _, _, h8, _, _⟩ := onceK_zero h
    have h1 := bestG_len r (sortP l) (sortP l).length []
    have h2 := sortP_lenQ l
    unfold leastF
    omega
  · simp
set_option maxHeartbeats 6400000 in
set_option maxRecDepth 100000 in
theorem w_FnExactLeastLifted {w : World} (r0 : Rf) (ok0 : r0.Ok) (A1 : Option Addr) (c1 : Nat) (l1 : List (Int × Int)) (lc1 : l1.length ≤ c1) (cm1 : c1 ≤ maxLen) (bz1 : ∀ p ∈ l1, (-128 ≤ p.1 ∧ p.1 ≤ 127) ∧ (-128 ≤ p.2 ∧ p.2 ≤ 127)) (rd1 : PairsAt .i8 .i8 w A1 l1) (_w : World) :
    Calls Try.prog 6 #[.agg (rcells r0), .slice A1 l1.length c1] w fun e w' => e = .returned (.bool true) ∧ Below w.heap.size w w' := by
  unfold maxLen at cm1
  by_cases hn1 : l1.length ≤ 1048576
  rotate_left
  · -- the law answers true at once
    have HZ0 := hid (c_szPlaceS A1 c1 l1.length (by omega) 1048576 (by omega))
    rw [if_neg (by omega)] at HZ0
    have T0 : Hid True := trivial
    clear rd1 bz1
    go_enter Try.func6, Try.ntmps6
    go_wp2_with (first
      | (go_at_call 8; clear T0; ((with_reducible refine (HZ0.out _).mono ?_); rintro e w1 ⟨rfl, rfl⟩)))
    go_ret
    exact ⟨rfl, (Below.refl _ w).alloc (Nat.le_refl _) _⟩
  have hlen1 : l1.length ≤ 1048576 := by omega
  obtain ⟨R0, hR0⟩ : ∃ x, x = leaV r0 l1 := ⟨_, rfl⟩
  have lenR0 : R0.length ≤ 1048576 := by rw [hR0]; exact leaV_len r0 l1
  obtain ⟨R1, hR1⟩ : ∃ x, x = leaC r0 l1 := ⟨_, rfl⟩
  obtain ⟨R2, hR2⟩ : ∃ x, x = onceK r0 l1 true := ⟨_, rfl⟩
  have Hs := fun (A1' : Option Addr)  (w' : World) (h1 : PairsAt .i8 .i8 w' A1' l1) => hid (c_sLeastLifted r0 ok0 A1' l1.length l1 bz1 hlen1 (Nat.le_refl _) w' h1)
  rw [← hR0] at Hs
  rw [← hR1] at Hs
  rw [← hR2] at Hs
  have Hi := fun (A1' : Option Addr)  (w' : World) (h1 : PairsAt .i8 .i8 w' A1' l1) => hid (c_LeastLifted r0 ok0 A1' l1.length l1 bz1 hlen1 w' h1)
  rw [← hR0] at Hi
  rw [← hR1] at Hi
  rw [← hR2] at Hi
  have HT1 := fun (w' : World) h => hid (c_toPlaceSF A1 c1 l1 hlen1 w' h)
  have HZ0 := hid (c_szPlaceS A1 c1 l1.length (by omega) 1048576 (by omega))
  rw [if_pos (by omega)] at HZ0
  obtain ⟨q0, hq0⟩ : ∃ q : Int, q = 1048576 - (l1.length : Int) := ⟨_, rfl⟩
  rw [← hq0] at HZ0
  have hz0 : decide (q0 < 0) = false := decide_eq_false (by omega)
  have hne1 : (R1 != R1) = false := by simp
  have hne2 : (R2 != R2) = false := by simp
  have RD1 := hid rd1
  have LE1 := hid hlen1
  have LER0 := hid lenR0
  obtain ⟨M0, hM0⟩ : ∃ m : Int, m = 1 + 2 * (l1.length : Int) := ⟨_, rfl⟩
  obtain ⟨M1, hM1⟩ : ∃ m : Int, m = 1 + 2 * (R0.length : Int) := ⟨_, rfl⟩
  have HMM0 : ∀ (lo hi : Nat) {v : Value} {w' : World}, OwQ lo hi w' v l1 → Calls Try.prog 18 #[v, .int .i64 1] w' fun e w2 => e = .returned (.int .i64 M0) ∧ Below lo w' w2 ∧ OutS lo hi w' w2 ∧ OwQ lo hi w2 v (mkL l1 1 l1.length) := fun lo hi v w' h => by rw [hM0]; exact m_PlaceS (by omega) LE1.out h
  have HHM0 : ∀ (lo hi : Nat) {v : Value} {w' : World}, OwQ lo hi w' v (mkL l1 1 l1.length) → Calls Try.prog 19 #[v, .int .i64 1] w' fun e w2 => e = .returned (.int .i64 M0) ∧ Below w'.heap.size w' w2 := fun lo hi v w' h => by rw [hM0]; exact h_PlaceS (by omega) LE1.out h
  have hmM00 : decide (M0 < 0) = false := decide_eq_false (by omega)
  have hmM01 : (M0 != M0) = false := by simp
  have HMM1 : ∀ (lo hi : Nat) {v : Value} {w' : World}, OwQ lo hi w' v R0 → Calls Try.prog 18 #[v, .int .i64 1] w' fun e w2 => e = .returned (.int .i64 M1) ∧ Below lo w' w2 ∧ OutS lo hi w' w2 ∧ OwQ lo hi w2 v (mkL R0 1 R0.length) := fun lo hi v w' h => by rw [hM1]; exact m_PlaceS (by omega) LER0.out h
  have HHM1 : ∀ (lo hi : Nat) {v : Value} {w' : World}, OwQ lo hi w' v (mkL R0 1 R0.length) → Calls Try.prog 19 #[v, .int .i64 1] w' fun e w2 => e = .returned (.int .i64 M1) ∧ Below w'.heap.size w' w2 := fun lo hi v w' h => by rw [hM1]; exact h_PlaceS (by omega) LER0.out h
  have hmM10 : decide (M1 < 0) = false := decide_eq_false (by omega)
  have hmM11 : (M1 != M1) = false := by simp
  have HHMM0 := hid HMM0; clear HMM0; have HHHM0 := hid HHM0; clear HHM0
  have HHMM1 := hid HMM1; clear HMM1; have HHHM1 := hid HHM1; clear HHM1
  have HX0 := hid (block_new1 w (.cells (rcells r0) 26) rfl)
  have HW : Hid (Below w.heap.size w (w.alloc (.cells (rcells r0) 26))) := (Below.refl _ w).alloc (Nat.le_refl _) _
  clear rd1 bz1 hn1 hlen1 hR0 hR1 hR2 lenR0 hM0 hM1 hq0
  have K1 : Hid True := trivial
  have K2 : Hid True := trivial
  have K3 : Hid True := trivial
  have K4 : Hid True := trivial
  have K5 : Hid True := trivial
  have K6 : Hid True := trivial
  have K7 : Hid True := trivial
  have K8 : Hid True := trivial
  have K9 : Hid True := trivial
  have K10 : Hid True := trivial
  have K11 : Hid True := trivial
  have K12 : Hid True := trivial
  have K13 : Hid True := trivial
  have K14 : Hid True := trivial
  have K15 : Hid True := trivial
  have K16 : Hid True := trivial
  have K17 : Hid True := trivial
  have K18 : Hid True := trivial
  have K19 : Hid True := trivial
  go_enter Try.func6, Try.ntmps6
  go_wp2_with (first
    | ((with_reducible refine gate (N := 25) rfl ?_); refine wp_roof 26 Try.underlying26 rfl Try.infoLRoof rfl (.tmp 2) rfl w.heap.size rfl r0 ok0 HX0.out ?_)
    | ((with_reducible refine gate (N := 36) rfl ?_); refine wp_roof 26 Try.underlying26 rfl Try.infoLRoof rfl (.tmp 2) rfl w.heap.size rfl r0 ok0 HX0.out ?_)
    | ((with_reducible refine gate (N := 95) rfl ?_); refine wp_roof 26 Try.underlying26 rfl Try.infoLRoof rfl (.tmp 2) rfl w.heap.size rfl r0 ok0 HX0.out ?_)
    | (go_at_call 8; clear K1; ((with_reducible refine (HZ0.out _).mono ?_); rintro e w1 ⟨rfl, rfl⟩))
    | (go_at_call 10; clear K2; ((with_reducible refine (c_toRoof r0 ok0 _).mono ?_); rintro e w1 ⟨rfl, hb1⟩); replace HX0 := hid (block_below hb1 HX0.out (block_lt HX0.out)); replace HW := hid (HW.out.trans (hb1.mono HW.out.size)); clear hb1)
    | (go_at_call 11; clear K3; (have HRD := hid (RD1.out.below HW.out (Nat.le_refl _))); ((with_reducible refine (HT1 _ HRD.out).out.mono ?_); rintro e w1 ⟨Ax2, rfl, hb1, ho1⟩); have HLox2 := hid HW.out.size; have LX0_x2 := hid (block_lt HX0.out); replace HX0 := hid (block_below hb1 HX0.out (block_lt HX0.out)); replace HW := hid (HW.out.trans (hb1.mono HW.out.size)); have Ox2 := hid ho1; clear hb1 ho1)
    | (go_at_call 20; clear K4; ((with_reducible refine (Hs _ _ Ox2.out.pairs).out.mono ?_); rintro e w1 ⟨vg3_0, rfl, hb1, ho0⟩); have Sx2_g3 := hid Ox2.out.2.2; have HLog3 := hid HW.out.size; have LX0_g3 := hid (block_lt HX0.out); replace Ox2 := hid (Ox2.out.below hb1); replace HX0 := hid (block_below hb1 HX0.out (block_lt HX0.out)); replace HW := hid (HW.out.trans (hb1.mono HW.out.size)); have Og3 := hid (OwQ.of ho0 hb1); obtain ⟨Ag3, cg3, rfl⟩ := owns_slc ho0; clear hb1 ho0)
    | (go_at_call 11; clear K5; (have HRD := hid (RD1.out.below HW.out (Nat.le_refl _))); ((with_reducible refine (HT1 _ HRD.out).out.mono ?_); rintro e w1 ⟨Ax4, rfl, hb1, ho1⟩); have Sx2_x4 := hid Ox2.out.2.2; have Sg3_x4 := hid Og3.out.2.2; have HLox4 := hid HW.out.size; have LX0_x4 := hid (block_lt HX0.out); replace Ox2 := hid (Ox2.out.below hb1); replace Og3 := hid (Og3.out.below hb1); replace HX0 := hid (block_below hb1 HX0.out (block_lt HX0.out)); replace HW := hid (HW.out.trans (hb1.mono HW.out.size)); have Ox4 := hid ho1; clear hb1 ho1)
    | (go_at_call 10; clear K6; ((with_reducible refine (c_toRoof r0 ok0 _).mono ?_); rintro e w1 ⟨rfl, hb1⟩); replace Ox2 := hid (Ox2.out.below hb1); replace Og3 := hid (Og3.out.below hb1); replace Ox4 := hid (Ox4.out.below hb1); replace HX0 := hid (block_below hb1 HX0.out (block_lt HX0.out)); replace HW := hid (HW.out.trans (hb1.mono HW.out.size)); clear hb1)
    | (go_at_call 21; clear K7; ((with_reducible refine (Hi _ _ Ox4.out.pairs).out.mono ?_); rintro e w1 ⟨vg6_0, rfl, hb1, ho0⟩); have Sx2_g6 := hid Ox2.out.2.2; have Sg3_g6 := hid Og3.out.2.2; have Sx4_g6 := hid Ox4.out.2.2; have HLog6 := hid HW.out.size; have LX0_g6 := hid (block_lt HX0.out); replace Ox2 := hid (Ox2.out.below hb1); replace Og3 := hid (Og3.out.below hb1); replace Ox4 := hid (Ox4.out.below hb1); replace HX0 := hid (block_below hb1 HX0.out (block_lt HX0.out)); replace HW := hid (HW.out.trans (hb1.mono HW.out.size)); have Og6 := hid (OwQ.of ho0 hb1); obtain ⟨Ag6, cg6, rfl⟩ := owns_slc ho0; clear hb1 ho0)
    | (go_at_call 13; clear K8; ((with_reducible refine (e_PlaceS LER0.out Og6.out Og3.out).mono ?_); rintro e w1 ⟨rfl, hb1⟩); replace Ox2 := hid (Ox2.out.below hb1); replace Og3 := hid (Og3.out.below hb1); replace Ox4 := hid (Ox4.out.below hb1); replace Og6 := hid (Og6.out.below hb1); replace HX0 := hid (block_below hb1 HX0.out (block_lt HX0.out)); replace HW := hid (HW.out.trans (hb1.mono HW.out.size)); clear hb1)
    | (go_at_call 11; clear K9; (have HRD := hid (RD1.out.below HW.out (Nat.le_refl _))); ((with_reducible refine (HT1 _ HRD.out).out.mono ?_); rintro e w1 ⟨Ax8, rfl, hb1, ho1⟩); have Sx2_x8 := hid Ox2.out.2.2; have Sg3_x8 := hid Og3.out.2.2; have Sx4_x8 := hid Ox4.out.2.2; have Sg6_x8 := hid Og6.out.2.2; have HLox8 := hid HW.out.size; have LX0_x8 := hid (block_lt HX0.out); replace Ox2 := hid (Ox2.out.below hb1); replace Og3 := hid (Og3.out.below hb1); replace Ox4 := hid (Ox4.out.below hb1); replace Og6 := hid (Og6.out.below hb1); replace HX0 := hid (block_below hb1 HX0.out (block_lt HX0.out)); replace HW := hid (HW.out.trans (hb1.mono HW.out.size)); have Ox8 := hid ho1; clear hb1 ho1)
    | (go_at_call 13; clear K10; ((with_reducible refine (e_PlaceS LE1.out Ox4.out Ox8.out).mono ?_); rintro e w1 ⟨rfl, hb1⟩); replace Ox2 := hid (Ox2.out.below hb1); replace Og3 := hid (Og3.out.below hb1); replace Ox4 := hid (Ox4.out.below hb1); replace Og6 := hid (Og6.out.below hb1); replace Ox8 := hid (Ox8.out.below hb1); replace HX0 := hid (block_below hb1 HX0.out (block_lt HX0.out)); replace HW := hid (HW.out.trans (hb1.mono HW.out.size)); clear hb1)
    | (go_at_call 18; clear K11; ((with_reducible refine (HHMM0.out _ _ Ox4.out).mono ?_); rintro e w1 ⟨rfl, hb1, hq1, ho1⟩); replace Ox2 := hid (Ox2.out.outS hq1 (.inl Sx2_x4.out)); replace Og3 := hid (Og3.out.outS hq1 (.inl Sg3_x4.out)); replace Og6 := hid (Og6.out.outS hq1 (.inr Sx4_g6.out)); replace Ox8 := hid (Ox8.out.outS hq1 (.inr Sx4_x8.out)); replace HX0 := hid (hq1.keep HX0.out (.inl LX0_x4.out)); replace HW := hid (HW.out.trans (hb1.mono HLox4.out)); replace Ox4 := hid ho1; clear hb1 hq1 ho1)
    | (go_at_call 13; clear K12; ((with_reducible refine (e_PlaceS LER0.out Og6.out Og3.out).mono ?_); rintro e w1 ⟨rfl, hb1⟩); replace Ox2 := hid (Ox2.out.below hb1); replace Og3 := hid (Og3.out.below hb1); replace Ox4 := hid (Ox4.out.below hb1); replace Og6 := hid (Og6.out.below hb1); replace Ox8 := hid (Ox8.out.below hb1); replace HX0 := hid (block_below hb1 HX0.out (block_lt HX0.out)); replace HW := hid (HW.out.trans (hb1.mono HW.out.size)); clear hb1)
    | (go_at_call 18; clear K13; ((with_reducible refine (HHMM1.out _ _ Og6.out).mono ?_); rintro e w1 ⟨rfl, hb1, hq1, ho1⟩); replace Ox2 := hid (Ox2.out.outS hq1 (.inl Sx2_g6.out)); replace Og3 := hid (Og3.out.outS hq1 (.inl Sg3_g6.out)); replace Ox4 := hid (Ox4.out.outS hq1 (.inl Sx4_g6.out)); replace Ox8 := hid (Ox8.out.outS hq1 (.inr Sg6_x8.out)); replace HX0 := hid (hq1.keep HX0.out (.inl LX0_g6.out)); replace HW := hid (HW.out.trans (hb1.mono HLog6.out)); replace Og6 := hid ho1; clear hb1 hq1 ho1)
    | (go_at_call 19; clear K14; ((with_reducible refine (HHHM1.out _ _ Og6.out).mono ?_); rintro e w1 ⟨rfl, hb1⟩); replace Ox2 := hid (Ox2.out.below hb1); replace Og3 := hid (Og3.out.below hb1); replace Ox4 := hid (Ox4.out.below hb1); replace Og6 := hid (Og6.out.below hb1); replace Ox8 := hid (Ox8.out.below hb1); replace HX0 := hid (block_below hb1 HX0.out (block_lt HX0.out)); replace HW := hid (HW.out.trans (hb1.mono HW.out.size)); clear hb1)
    | (go_at_call 10; clear K15; ((with_reducible refine (c_toRoof r0 ok0 _).mono ?_); rintro e w1 ⟨rfl, hb1⟩); replace Ox2 := hid (Ox2.out.below hb1); replace Og3 := hid (Og3.out.below hb1); replace Ox4 := hid (Ox4.out.below hb1); replace Og6 := hid (Og6.out.below hb1); replace Ox8 := hid (Ox8.out.below hb1); replace HX0 := hid (block_below hb1 HX0.out (block_lt HX0.out)); replace HW := hid (HW.out.trans (hb1.mono HW.out.size)); clear hb1)
    | (go_at_call 11; clear K16; (have HRD := hid (RD1.out.below HW.out (Nat.le_refl _))); ((with_reducible refine (HT1 _ HRD.out).out.mono ?_); rintro e w1 ⟨Ax15, rfl, hb1, ho1⟩); have Sx2_x15 := hid Ox2.out.2.2; have Sg3_x15 := hid Og3.out.2.2; have Sx4_x15 := hid Ox4.out.2.2; have Sg6_x15 := hid Og6.out.2.2; have Sx8_x15 := hid Ox8.out.2.2; have HLox15 := hid HW.out.size; have LX0_x15 := hid (block_lt HX0.out); replace Ox2 := hid (Ox2.out.below hb1); replace Og3 := hid (Og3.out.below hb1); replace Ox4 := hid (Ox4.out.below hb1); replace Og6 := hid (Og6.out.below hb1); replace Ox8 := hid (Ox8.out.below hb1); replace HX0 := hid (block_below hb1 HX0.out (block_lt HX0.out)); replace HW := hid (HW.out.trans (hb1.mono HW.out.size)); have Ox15 := hid ho1; clear hb1 ho1)
    | (go_at_call 21; clear K17; ((with_reducible refine (Hi _ _ Ox15.out.pairs).out.mono ?_); rintro e w1 ⟨vg16_0, rfl, hb1, ho0⟩); have Sx2_g16 := hid Ox2.out.2.2; have Sg3_g16 := hid Og3.out.2.2; have Sx4_g16 := hid Ox4.out.2.2; have Sg6_g16 := hid Og6.out.2.2; have Sx8_g16 := hid Ox8.out.2.2; have Sx15_g16 := hid Ox15.out.2.2; have HLog16 := hid HW.out.size; have LX0_g16 := hid (block_lt HX0.out); replace Ox2 := hid (Ox2.out.below hb1); replace Og3 := hid (Og3.out.below hb1); replace Ox4 := hid (Ox4.out.below hb1); replace Og6 := hid (Og6.out.below hb1); replace Ox8 := hid (Ox8.out.below hb1); replace Ox15 := hid (Ox15.out.below hb1); replace HX0 := hid (block_below hb1 HX0.out (block_lt HX0.out)); replace HW := hid (HW.out.trans (hb1.mono HW.out.size)); have Og16 := hid (OwQ.of ho0 hb1); obtain ⟨Ag16, cg16, rfl⟩ := owns_slc ho0; clear hb1 ho0)
    | (go_at_call 13; clear K18; ((with_reducible refine (e_PlaceS LER0.out Og16.out Og3.out).mono ?_); rintro e w1 ⟨rfl, hb1⟩); replace Ox2 := hid (Ox2.out.below hb1); replace Og3 := hid (Og3.out.below hb1); replace Ox4 := hid (Ox4.out.below hb1); replace Og6 := hid (Og6.out.below hb1); replace Ox8 := hid (Ox8.out.below hb1); replace Ox15 := hid (Ox15.out.below hb1); replace Og16 := hid (Og16.out.below hb1); replace HX0 := hid (block_below hb1 HX0.out (block_lt HX0.out)); replace HW := hid (HW.out.trans (hb1.mono HW.out.size)); clear hb1)
    | (go_at_call 19; clear K19; ((with_reducible refine (HHHM1.out _ _ Og6.out).mono ?_); rintro e w1 ⟨rfl, hb1⟩); replace Ox2 := hid (Ox2.out.below hb1); replace Og3 := hid (Og3.out.below hb1); replace Ox4 := hid (Ox4.out.below hb1); replace Og6 := hid (Og6.out.below hb1); replace Ox8 := hid (Ox8.out.below hb1); replace Ox15 := hid (Ox15.out.below hb1); replace Og16 := hid (Og16.out.below hb1); replace HX0 := hid (block_below hb1 HX0.out (block_lt HX0.out)); replace HW := hid (HW.out.trans (hb1.mono HW.out.size)); clear hb1))
  go_ret
  exact ⟨rfl, HW.out⟩
end Go.Proofs.Ytfbgldkdlmipoaa

/- The row of FnExactLeastLifted: for every input the law returns true, and its arguments read as before. -/
namespace Go.Proofs.Ytfbgldkdlmipoaa.fnExactLeastLifted
open Go.ChangeShapes Go.WideShapes Go.ChangeAt Go.RowKit
open Go.ChangeMaps (open_string shut_string)
set_option linter.unusedVariables false
set_option maxRecDepth 100000 in
theorem lifted (os : Os) (started : os.Started) (H : Type) (enc : TypeId × Value → H) :
    ReturnsInHanded {} Try.checked os 6 .any (Rows.fnExactLeastLiftedSpec.pre6 enc Try.prog Try.f6 Rows.fnExactLeastLiftedRow.domain false) (Rows.fnExactLeastLiftedSpec.post enc Try.prog Try.f6 false true false false) := by
  refine returnsInHanded_of_change_sized (C := Try.checked) Try.own started (by kernel_rfl) Try.func6
    (ChangeSpec.witness6 (enc := enc) (C := Try.checked) false ⟨#[], #[.agg (rcells Rf.zero), .slice none 0 0], []⟩ 8 (by kernel_rfl) (by kernel_rfl) (by kernel_rfl) (by kernel_rfl)) ?_
  intro W base args ds gs before hval0 hW hcnd hsz0 _
  have hsz : (DataW.weightsEach Try.prog (Try.f6.params.toList ++ Rows.fnExactLeastLiftedSpec.plain.varTypes Try.prog) (ds ++ gs)).all (· ≤ reachBytes) = true := hsz0
  have hval : ∀ (j : Nat) t v, Try.f6.params[j]? = some t → args[j]? = some v → Value.okWide Try.prog W .any base t v := hval0
  have hW' := hW
  obtain ⟨p, q, hA0, hV, rfl, hfz, hnd⟩ := hW
  have hA : DataW.TrodAll enc Try.prog W 0 (fun _ => true) true Try.f6.params.toList args.toList ds p := hA0
  rw [Try.params6] at hA hval hsz
  obtain ⟨v0, vs0, d0, ds0, p0, q0, hargs, rfl, rfl, h0, r0⟩ := trodAll_cons hA
  obtain ⟨v1, vs1, d1, ds1, p1, q1, rfl, rfl, rfl, h1, r1⟩ := trodAll_cons r0
  obtain ⟨rfl, rfl, rfl⟩ := trodAll_nil r1
  obtain rfl : args = #[v0, v1] := by cases args; simp_all
  obtain ⟨rfl, rfl⟩ := trodVars_none hV
  have h0k := h0
  obtain ⟨R0, rfl, ok0⟩ := open_roof (hval 0 _ v0 rfl rfl) h0
  have h1k := h1
  obtain ⟨A1, c1, zs1, rfl, lc1, cm1, bz1, rd1⟩ := open_places (hval 1 _ v1 rfl rfl) h1
  clear hA0 hval0 hsz0 hsz
  have hlt := fun x hx => hW'.lt x hx
  try simp only [List.append_nil, List.mem_append] at hlt
  refine (w_FnExactLeastLifted R0 ok0 A1 c1 zs1 lc1 cm1 bz1 rd1 W).mono fun e W' ⟨he, bel⟩ => ?_
  subst he
  exact ⟨_, rfl, _, _, _, [], p0 ++ (p1 ++ []), [], hW', trodAll_mk1 (shut_bool Try.underlying4 _), (trodAll_cons_mk (Below.trod Try.laidOut (by kernel_rfl) (of_decide_eq_true (by kernel_rfl)) h0k bel (fun x hx => hlt x (.inl hx))) (trodAll_cons_mk (Below.trod Try.laidOut (by kernel_rfl) (of_decide_eq_true (by kernel_rfl)) h1k bel (fun x hx => hlt x (.inr (hx)))) trodAll_mk0)), rfl, bel.frame _, fun h => by cases h⟩
set_option maxHeartbeats 8000000 in
theorem facts : joinedFacts Try.checked.prog 6 Try.f6 Rows.fnExactLeastLiftedSpec Rows.fnExactLeastLiftedRow = true := by
  unfold joinedFacts
  repeat (with_reducible refine and_mk ?_ (by as_aux_lemma => kernel_rfl))
  as_aux_lemma => kernel_rfl
set_option maxHeartbeats 8000000 in
theorem over : Rows.fnExactLeastLiftedRow.holds Try.pinned (OpenSpec.ofChange Rows.fnExactLeastLiftedSpec) :=
  OpenClaim.holds_of_wide 6 Try.f6 rfl rfl rfl rfl rfl rfl rfl ⟨rfl, rfl, rfl, rfl, rfl⟩ rfl rfl rfl rfl rfl (by as_aux_lemma => kernel_rfl) Try.func6 facts
    (of_decide_eq_true (by as_aux_lemma => kernel_rfl)) (by unfold Func.isWrapper; first | (rw [if_pos (by decide +kernel)]; kernel_rfl) | (rw [if_neg (by decide +kernel)]; exact ⟨rfl, rfl⟩))
    (fun os started H enc _ => lifted os started H enc)
theorem proved : Rows.FnExactLeastLiftedSaid := over
end Go.Proofs.Ytfbgldkdlmipoaa.fnExactLeastLifted
namespace Go.Proofs.Ytfbgldkdlmipoaa
theorem fnExactLeastLifted_holds : Rows.FnExactLeastLiftedSaid := fnExactLeastLifted.proved
end Go.Proofs.Ytfbgldkdlmipoaa
