/- Climbs in chunks: slices.Max, slices.Chunk, climbs. -/
import Derived.Test.YtjcmdihadblodaaChunkP
import Derived.Test.YtjcmdihadblodaaRowI
import Derived.RangeFuncNested
import Derived.RangeFuncBound
import Derived.RangeFuncCalls
import Derived.RangeFuncLeaves
import Derived.RangeFuncFrom
import Derived.Shelf.Abstract
import Derived.Shelf.RegionOpen
import Derived.OwnWalkIn
import Derived.TacticsInMore
import Derived.LoopNIn
import Derived.LoopIn
import Derived.Sort.QuietIn
namespace Go.Proofs.Ytjcmdihadblodaa
open Go.RowKit Go.Shelf
set_option linter.unusedSimpArgs false
set_option linter.unusedVariables false

attribute [local go_sem] Oper.semAt_some
set_option maxRecDepth 100000 in
theorem c_max (A : Option Addr) (c : Nat) (l : List Int) (h0 : 0 < l.length) (hlen : l.length ≤ 1048576) (hB : ∀ x ∈ l, 0 ≤ x ∧ x ≤ 1000000) (w : World) (hA : SlI w A l) :
    Calls Try.prog 61 #[.slice A l.length c] w fun e w' => e = .returned (.int .i64 (maxA 0 l)) ∧ w = w' := by
  have hd0 : decide ((l.length : Int) < 1) = false := decide_eq_false (by omega)
  have hl0 : (0 : Int) < (l.length : Int) := by omega
  have HA := hid hA
  have HB := hid hB
  obtain ⟨b, off, rfl, r1, c0⟩ := hA 0 _ (List.getElem?_eq_getElem h0)
  rw [Nat.add_zero] at c0
  obtain ⟨x0, hx0⟩ : ∃ x, x = l[0] := ⟨_, rfl⟩
  rw [← hx0] at c0
  have HX0 := hid hx0
  clear hA hB hx0
  go_enter Try.func61, Try.ntmps61
  go_wp2_with fail
  go_loop [3, 4] (fun m i => ∃ k : Nat, 1 ≤ k ∧ k ≤ l.length ∧ i = .int .i64 k ∧ m = .int .i64 (maxA 0 (l.take k))) (fun _ i => l.length - (intOf i).toNat)
  case atStart =>
    have e : l.take 1 = [l[0]] := by cases l with | nil => simp at h0 | cons a l => simp
    refine ⟨1, by omega, by omega, rfl, ?_⟩
    rw [e, ← HX0.out, maxA_cons, maxA_nil]
    have := HB.out x0 (by rw [HX0.out]; exact List.getElem_mem h0)
    congr 1
    split <;> omega
  case round =>
    obtain ⟨k, hk1, hk, rfl, rfl⟩ := hrel
    by_cases hkl : k < l.length
    · have hd : decide ((k : Int) < (l.length : Int)) = true := decide_eq_true (by omega)
      have hkI : (k : Int) < (l.length : Int) := by omega
      have hk0 : (0 : Int) ≤ (k : Int) := by omega
      have hp := List.getElem?_eq_getElem hkl
      have hm : maxA 0 (l.take (k + 1)) = if maxA 0 (l.take k) > l[k] then maxA 0 (l.take k) else l[k] := by rw [List.take_succ_eq_append_getElem hkl, maxA_snoc]
      obtain ⟨t, ht⟩ : ∃ t, t = l[k] := ⟨_, rfl⟩
      rw [← ht] at hp hm
      obtain ⟨b', off', e, r1', c1⟩ := HA.out k _ hp
      obtain ⟨rfl, rfl⟩ : b = b' ∧ off = off' := by simpa using e
      obtain ⟨m0, hm0⟩ : ∃ m, m = maxA 0 (l.take k) := ⟨_, rfl⟩
      rw [← hm0] at hm ⊢
      have HM := hid hm
      clear hp hm ht hm0 e c0 HX0
      go_wp2_with fail
      exact ⟨⟨k + 1, by omega, by omega, by go_num, congrArg (Value.int .i64) (by rw [HM.out]; split <;> split <;> omega)⟩, by simp [intOf]; omega⟩
    · obtain rfl : k = l.length := by omega
      have hd : decide ((l.length : Int) < (l.length : Int)) = false := decide_eq_false (by omega)
      rw [List.take_length]
      go_wp2_with fail
      go_ret
      exact ⟨rfl, rfl⟩
theorem below_drewN (B : Nat) (W : World) (q : Nat) : Below B W (W.drewN q) := by
  induction q generalizing W with
  | zero => exact Below.refl _ _
  | succ q ih => first | exact ((Below.refl _ W).drew).trans (ih W.drew) | exact (ih W).drew
/-- Nothing below n but block a is turned. -/
def KeepB (a n : Nat) (W W' : World) : Prop := ∀ b, b < n → b ≠ a → W'.heap[b]? = W.heap[b]?
theorem KeepB.refl (a n : Nat) (W : World) : KeepB a n W W := fun _ _ _ => rfl
theorem KeepB.trans {a n : Nat} {A B C : World} (h : KeepB a n A B) (h2 : KeepB a n B C) : KeepB a n A C := fun b hb hne => (h2 b hb hne).trans (h b hb hne)
theorem KeepB.cell {a n : Nat} {W W' : World} (h : KeepB a n W W') {p : Addr} (hb : p.block < n) (hne : p.block ≠ a) : W'.cell? p = W.cell? p := World.cell?_of_block (h _ hb hne)
theorem KeepB.setCell {a n : Nat} (W : World) (j : Nat) (v : Value) : KeepB a n W (W.setCell ⟨a, j, none⟩ v) := fun b _ hne => heap_setCell_other W ⟨a, j, none⟩ b v hne
theorem KeepB.drew {a n : Nat} {W W' : World} (h : KeepB a n W W') : KeepB a n W W'.drew := h
theorem KeepB.drewN {a n : Nat} (W : World) (q : Nat) : KeepB a n W (W.drewN q) := fun b hb _ => (below_drewN (b + 1) W q).block b (by omega)
theorem KeepB.putObj {a n : Nat} (W : World) (l : Nat) (o' : Obj) (h : n ≤ l) : KeepB a n W (W.putObj l o') := fun b hb _ => by
  unfold World.putObj
  simp only
  first | exact Array.getElem?_setIfInBounds_ne (by omega) | (rw [Array.getElem?_modify]; rw [if_neg (by omega)]) | (simp [Array.getElem?_set]; omega)
/-- What has come when k rounds are over. -/
theorem range_snoc (k : Nat) : List.range (k + 1) = List.range k ++ [k] := List.range_succ
/-- Chunk j, as a value. -/
def chunkV (b off n k j : Nat) : Value := .slice (some ⟨b, off + min j (chunkN n k - 1) * k, none⟩) (min k (n - min j (chunkN n k - 1) * k)) (min k (n - min j (chunkN n k - 1) * k))
theorem chunkV_lt {b off n k j : Nat} (h : j < chunkN n k) : chunkV b off n k j = .slice (some ⟨b, off + j * k, none⟩) (min k (n - j * k)) (min k (n - j * k)) := by
  unfold chunkV; rw [Nat.min_eq_left (by omega : j ≤ chunkN n k - 1)]
set_option maxRecDepth 100000 in
set_option maxHeartbeats 2000000 in
theorem chunk1_in (F : Fence) (n : Nat) (hf : F.fn 76) (hro : F.round = none) (hn : 1 ≤ n) (l Bs Bk a0 n₀ b off len cap k : Nat) (hk : 1 ≤ k ∧ k ≤ 1000) (hlen : len ≤ 1048576) (hBs : Bs < n₀ ∧ Bs ≠ a0) (hBk : Bk < n₀ ∧ Bk ≠ a0) (J Jx : List Nat → World → Prop)
    (hY : ∀ pre x W, J pre W → pre.length < chunkN len k → YieldAt F (n - 1) Try.prog l #[chunkV b off len k x] W fun e W' =>
      (e = .returned (.bool true) ∧ J (pre ++ [x]) W' ∧ KeepB a0 n₀ W W') ∨ (e = .returned (.bool false) ∧ Jx (pre ++ [x]) W'))
    (W : World) (hcs : W.cell? ⟨Bs, 0, none⟩ = some (.slice (some ⟨b, off, none⟩) len cap)) (hck : W.cell? ⟨Bk, 0, none⟩ = some (.int .i64 k)) (hcap : len ≤ cap) (hcm : cap ≤ 9223372036854775807) (hJd : ∀ pre W q, J pre W → J pre (W.drewN q)) (h0 : J [] W) :
    CallsIn F n Try.prog 76 #[.func (.yield l) #[] #[], .pointer (some ⟨Bs, 0, none⟩), .pointer (some ⟨Bk, 0, none⟩)] W fun e W' => (∃ v, e = .returned v) ∧
      ((∃ ys, ys = List.range (chunkN len k) ∧ J ys W') ∨ (∃ pre, True ∧ Jx pre W')) := by
  refine callsIn_of_wp Try.func76 rfl hf ?_ hro
  simp only [Try.ntmps76, List.size_toArray, List.length_cons, List.length_nil, Nat.reduceAdd, Nat.reduceSub, Array.replicate_succ, Array.replicate_zero, List.push_toArray, List.append_toArray, List.nil_append, List.cons_append]
  gi_wp2
  gi_loopw [4] (fun i wr => ∃ j : Nat, j ≤ chunkN len k ∧ i = .int .i64 ((j * k : Nat) : Int) ∧ J (List.range j) wr ∧ KeepB a0 n₀ W wr) (fun i _ => len + 2000 - (intOf i).toNat)
  case atStart => exact ⟨0, Nat.zero_le _, by simp, h0, KeepB.refl _ _ _⟩
  case round =>
    obtain ⟨j, hj, rfl, hJs, hnx⟩ := hrel
    have HJ := hid hJs
    have HN := hid hnx
    have cs' := (hnx.cell (p := ⟨Bs, 0, none⟩) hBs.1 hBs.2).trans hcs
    have ck' := (hnx.cell (p := ⟨Bk, 0, none⟩) hBk.1 hBk.2).trans hck
    clear hJs hnx
    by_cases hjl : j < chunkN len k
    · have hlt := (chunkN_lt (n := len) (by omega : 0 < k) j).1 hjl
      have HV := hid (chunkV_lt (b := b) (off := off) hjl)
      obtain ⟨i, hi⟩ : ∃ i, i = j * k := ⟨_, rfl⟩
      rw [← hi] at hlt ⊢
      have HI := hid hi
      have i0 : (0 : Int) ≤ (i : Int) := by omega
      have i1 : (i : Int) ≤ (len : Int) := by omega
      have i2 : (i : Int) < (len : Int) := by omega
      have i3 : i < cap := by omega
      have hd : decide ((i : Int) < (len : Int)) = true := decide_eq_true (by omega)
      have hdn : decide (i < len) = true := decide_eq_true (by omega)
      have HYY := hid hY
      have HJD := hid hJd
      have hjN : Hid (j + 1 ≤ chunkN len k) := hjl
      have HL : Hid ((List.range j).length < chunkN len k) := by rw [List.length_range]; exact hjl
      clear hi hj hY hcs hck hJd hjl
      by_cases hm : len - i < k
      · have em : min k (len - i) = len - i := by omega
        have e1 : ((i : Int) + ((len - i : Nat) : Int)).toNat - i = len - i := by omega
        have e2 : (i : Int) + ((len - i : Nat) : Int) ≤ (cap : Int) := by omega
        have e3 : (0 : Int) ≤ ((len - i : Nat) : Int) := by omega
        have HE := hid em
        clear em
        gi_wp2
        refine wpIn_region_quiet_lit hro (by kernel_rfl) (by kernel_rfl) ?_
        repeat (gi_big_quiet_step (fail))
        refine wpQuietIn_nil ?_
        rintro _ ⟨nq, rfl⟩
        obtain ⟨fn, tmps, assign, body, hy, hR⟩ := HYY.out _ j (wr.drewN nq) (HJD.out _ _ nq HJ.out) HL.out
        rw [HV.out, ← HI.out, HE.out] at hy
        have HR := hid hR
        clear hR
        gi_wp2
        refine HR.out.mono ?_
        rintro e W3 (⟨rfl, hJ3, hk3⟩ | ⟨rfl, hJx3⟩)
        · have HN3 := hid (HN.out.trans ((KeepB.drewN wr nq).trans hk3))
          have ck3 := (hk3.cell (p := ⟨Bk, 0, none⟩) hBk.1 hBk.2).trans (show (wr.drewN nq).cell? ⟨Bk, 0, none⟩ = _ from ck')
          have HJ3 := hid hJ3
          clear hk3 hJ3 HYY HR hy
          gi_wp2
          exact ⟨⟨j + 1, hjN.out, congrArg (Value.int .i64) (by rw [HI.out, Nat.succ_mul]; omega), by rw [range_snoc]; exact HJ3.out, HN3.out⟩, by simp [intOf]; omega⟩
        · gi_wp2
          refine bodyPost_ret (results_none rfl _ _ _) rfl ?_
          exact ⟨⟨_, rfl⟩, .inr ⟨_, trivial, hJx3⟩⟩
      · have em : min k (len - i) = k := by omega
        have e1 : ((i : Int) + (k : Int)).toNat - i = k := by omega
        have e2 : (i : Int) + (k : Int) ≤ (cap : Int) := by omega
        have e3 : (0 : Int) ≤ (k : Int) := by omega
        have HE := hid em
        clear em
        gi_wp2
        refine wpIn_region_quiet_lit hro (by kernel_rfl) (by kernel_rfl) ?_
        repeat (gi_big_quiet_step (fail))
        refine wpQuietIn_nil ?_
        rintro _ ⟨nq, rfl⟩
        obtain ⟨fn, tmps, assign, body, hy, hR⟩ := HYY.out _ j (wr.drewN nq) (HJD.out _ _ nq HJ.out) HL.out
        rw [HV.out, ← HI.out, HE.out] at hy
        have HR := hid hR
        clear hR
        gi_wp2
        refine HR.out.mono ?_
        rintro e W3 (⟨rfl, hJ3, hk3⟩ | ⟨rfl, hJx3⟩)
        · have HN3 := hid (HN.out.trans ((KeepB.drewN wr nq).trans hk3))
          have ck3 := (hk3.cell (p := ⟨Bk, 0, none⟩) hBk.1 hBk.2).trans (show (wr.drewN nq).cell? ⟨Bk, 0, none⟩ = _ from ck')
          have HJ3 := hid hJ3
          clear hk3 hJ3 HYY HR hy
          gi_wp2
          exact ⟨⟨j + 1, hjN.out, congrArg (Value.int .i64) (by rw [HI.out, Nat.succ_mul]; omega), by rw [range_snoc]; exact HJ3.out, HN3.out⟩, by simp [intOf]; omega⟩
        · gi_wp2
          refine bodyPost_ret (results_none rfl _ _ _) rfl ?_
          exact ⟨⟨_, rfl⟩, .inr ⟨_, trivial, hJx3⟩⟩
    · have hjN : j = chunkN len k := by omega
      have hge : ¬ j * k < len := fun h => hjl ((chunkN_lt (n := len) (by omega : 0 < k) j).2 h)
      have HE := hid hjN
      obtain ⟨i, hi⟩ : ∃ i, i = j * k := ⟨_, rfl⟩
      rw [← hi] at hge ⊢
      have hd : decide ((i : Int) < (len : Int)) = false := decide_eq_false (by omega)
      have hdn : decide (i < len) = false := decide_eq_false (by omega)
      clear hi hj hY hcs hck hJd hjl hjN
      gi_wp2
      go_end0
      exact ⟨⟨_, rfl⟩, .inl ⟨_, rfl, by rw [← HE.out]; exact HJ.out⟩⟩
set_option maxRecDepth 100000 in
set_option maxHeartbeats 1000000 in
theorem chunk1_nil_in (F : Fence) (n : Nat) (hf : F.fn 76) (hro : F.round = none) (l Bs : Nat) (A : Option Addr) (cap : Nat) (J : List Nat → World → Prop) (W : World) (v2 : Value) (hcs : W.cell? ⟨Bs, 0, none⟩ = some (.slice A 0 cap)) (h0 : J [] W) :
    CallsIn F n Try.prog 76 #[.func (.yield l) #[] #[], .pointer (some ⟨Bs, 0, none⟩), v2] W fun e W' => (∃ v, e = .returned v) ∧ J [] W' := by
  refine callsIn_of_wp Try.func76 rfl hf ?_ hro
  simp only [Try.ntmps76, List.size_toArray, List.length_cons, List.length_nil, Nat.reduceAdd, Nat.reduceSub, Array.replicate_succ, Array.replicate_zero, List.push_toArray, List.append_toArray, List.nil_append, List.cons_append]
  gi_wp2
  gi_loopw [4] (fun i wr => i = .int .i64 0 ∧ J [] wr ∧ wr.cell? ⟨Bs, 0, none⟩ = some (.slice A 0 cap)) (fun _ _ => 0)
  case atStart => exact ⟨rfl, h0, hcs⟩
  case round =>
    obtain ⟨rfl, hJs, hc⟩ := hrel
    gi_wp2
    go_end0
    exact ⟨⟨_, rfl⟩, hJs⟩
theorem drewN_grown (W : World) (q : Nat) : W.grownBy (W.drewN q) none := by
  have h := below_drewN W.heap.size W q
  exact ⟨h.os, h.tape, h.output, h.size, fun k hk _ => h.block k hk⟩
theorem chunk_stops (F : Fence) (n : Nat) (hf : F.fn 76) (hro : F.round = none) (hn : 1 ≤ n) (Bs Bk a0 : Nat) (A : Option Addr) (cap k : Nat) (b off : Nat) (zs : List Int) (hk : 1 ≤ k ∧ k ≤ 1000) (hlen : zs.length ≤ 1048576) (hcap : zs.length ≤ cap) (hcm : cap ≤ 9223372036854775807) (w : World)
    (hBs : Bs < w.heap.size ∧ Bs ≠ a0) (hBk : Bk < w.heap.size ∧ Bk ≠ a0) (hcs : w.cell? ⟨Bs, 0, none⟩ = some (.slice A zs.length cap)) (hck : w.cell? ⟨Bk, 0, none⟩ = some (.int .i64 k)) (hA : zs ≠ [] → A = some ⟨b, off, none⟩) :
    SeqStopsK F n Try.prog 76 #[.pointer (some ⟨Bs, 0, none⟩), .pointer (some ⟨Bk, 0, none⟩)] (fun j => #[chunkV b off zs.length k j]) (KeepB a0 w.heap.size) (fun ys => ys = List.range (chunkN zs.length k)) (fun _ => True) (chunkN zs.length k) w := fun l J Jx W hW hJ _ hY h0 => by
  have hcs' := (hW.cell (p := ⟨Bs, 0, none⟩) hBs.1).trans hcs
  have hck' := (hW.cell (p := ⟨Bk, 0, none⟩) hBk.1).trans hck
  by_cases hz : zs = []
  · subst hz
    refine (chunk1_nil_in F n hf hro l Bs A cap J W _ hcs' h0).mono fun e W' ⟨he, hj⟩ => ⟨he, .inl ⟨[], ?_, hj⟩⟩
    have : chunkN 0 k = 0 := by unfold chunkN; exact Nat.div_eq_of_lt (by omega)
    simp [this]
  · obtain rfl := hA hz
    have h := chunk1_in F n hf hro hn l Bs Bk a0 w.heap.size b off zs.length cap k hk hlen hBs hBk J Jx hY W hcs' hck' hcap hcm (fun pre W' q hj => hJ pre W' _ none hj (drewN_grown W' q) (fun r e => by cases e)) h0
    exact h
set_option maxHeartbeats 1000000 in
theorem chunk_in (F : Fence) (n : Nat) (hf : F.fn 60) (hro : F.round = none) (A : Option Addr) (len cap k : Nat) (hk : 1 ≤ k ∧ k ≤ 1000) (w : World) :
    CallsIn F n Try.prog 60 #[.slice A len cap, .int .i64 k] w fun e w' => e = .returned (.func (.func 76) #[] #[.pointer (some ⟨w.heap.size, 0, none⟩), .pointer (some ⟨w.heap.size + 1, 0, none⟩)]) ∧ w' = (w.alloc (.cells #[.slice A len cap] 22)).alloc (.cells #[.int .i64 k] 3) := by
  have hd : decide ((k : Int) < 1) = false := decide_eq_false (by omega)
  refine callsIn_of_wp Try.func60 rfl hf ?_ hro
  simp only [Try.ntmps60, List.size_toArray, List.length_cons, List.length_nil, Nat.reduceAdd, Nat.reduceSub, Array.replicate_succ, Array.replicate_zero, List.push_toArray, List.append_toArray, List.nil_append, List.cons_append]
  gi_wp2
  go_ret
  exact ⟨rfl, rfl⟩
end Go.Proofs.Ytjcmdihadblodaa
