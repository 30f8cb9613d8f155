/- All places of a roof, ordered. -/
import Derived.Test.YtecobdnpbkojmaaSl
import Derived.Laws.AppendOwn
import Derived.WalkSmall
import Derived.Deep.AppendLies
namespace Go.Proofs.Ytecobdnpbkojmaa
open Go.RowKit
set_option linter.unusedSimpArgs false
set_option linter.unusedVariables false

/-- The places of the courses below i, and k of course i, in a roof W tiles wide. -/
def allUp (W i k : Nat) : List (Int × Int) := (List.range i).flatMap (fun (c : Nat) => (List.range W).map fun (t : Nat) => ((c : Int), (t : Int))) ++ (List.range k).map fun (t : Nat) => ((i : Int), (t : Int))
theorem allUp_step (W i k : Nat) : allUp W i k ++ [((i : Int), (k : Int))] = allUp W i (k + 1) := by
  simp [allUp, List.range_succ]
theorem allUp_row (W i : Nat) : allUp W i W = allUp W (i + 1) 0 := by
  simp [allUp, List.range_succ]
theorem allUp_len (W i k : Nat) : (allUp W i k).length = i * W + k := by
  simp only [allUp, List.length_append, List.length_map, List.length_range]
  congr 1
  induction i with
  | zero => simp
  | succ i ih => rw [List.range_succ, List.flatMap_append, List.length_append, ih]; simp; rw [Nat.succ_mul]
theorem cell_eq' {W : World} {b j : Nat} {cs : Array Value} {T : TypeId} {fr : Nat × Nat} {k : IntKind} {x y : Int} (h : W.heap[b]? = some (.cells cs T fr)) (hv : cs[j]? = some (.int k x)) (e : x = y) : W.cell? ⟨b, j, none⟩ = some (.int k y) := e ▸ cell_block h hv
theorem Try.infoPlace : (Try.prog.info? 43).map (fun i => (i.zero, i.size, i.bytes)) = some (some (.agg #[.int .i8 0, .int .i8 0]), 2, 2) := by kernel_rfl
set_option maxHeartbeats 1600000 in
set_option maxRecDepth 100000 in
theorem c_l01All (r : Rf) (hr : r.Ok) (hv : validB r = true) (b : Nat) (w : World) (hb : w.heap[b]? = some (.cells (rcells r) 27 (0,0))) :
    Calls Try.prog 43 #[.pointer (some ⟨b,0,none⟩)] w fun e w' => ∃ v, e = .returned v ∧ Below w.heap.size w w' ∧ w'.ownsRow w.heap.size 43 2 v (allUp r.w.toNat r.h.toNat 0).length (pcells (allUp r.w.toNat r.h.toNat 0)) := by
  obtain ⟨i0, hi, hz0, hz1, hz2⟩ := info_parts Try.infoPlace
  have vh := valid_head hv
  obtain ⟨W, hW⟩ := Int.eq_ofNat_of_zero_le (by omega : 0 ≤ r.w)
  obtain ⟨H, hH⟩ := Int.eq_ofNat_of_zero_le (by omega : 0 ≤ r.h)
  have W8 : W ≤ 8 := by omega
  have H8 : H ≤ 8 := by omega
  have HR := hid hb
  have c0 := cell_eq' hb (rc0 r) hW
  have c1 := cell_eq' hb (rc1 r) hH
  rw [hW, hH, Int.toNat_natCast, Int.toNat_natCast]
  clear hW hH vh hb
  go_enter Try.func43, Try.ntmps43
  go_wp2_with fail
  go_loopw [3, 4] (fun v i wr => ∃ n : Nat, n ≤ H ∧ i = .int .i8 n ∧ Hid (Below w.heap.size w wr) ∧ Hid (wr.ownsRow w.heap.size 43 2 v (allUp W n 0).length (pcells (allUp W n 0)))) (fun _ i _ => H - (intOf i).toNat)
  case atStart => exact ⟨0, by omega, rfl, (Below.refl _ w).alloc (Nat.le_refl _) _, World.ownsRow_made w #[] 0 (Nat.le_refl _) (by decide) rfl⟩
  case round =>
    obtain ⟨n, hn, rfl, hb, hO⟩ := hrel
    have c0w := (hb.out.cell (p := ⟨b, 0, none⟩) (block_lt HR.out)).trans c0
    have c1w := (hb.out.cell (p := ⟨b, 1, none⟩) (block_lt HR.out)).trans c1
    by_cases hnH : n < H
    · have hd : decide ((n : Int) < (H : Int)) = true := decide_eq_true (by omega)
      clear c0w
      go_wp2_with fail
      clear c1w
      go_loopw [3, 5] (fun v i wr => ∃ k : Nat, k ≤ W ∧ i = .int .i8 k ∧ Hid (Below w.heap.size w wr) ∧ Hid (wr.ownsRow w.heap.size 43 2 v (allUp W n k).length (pcells (allUp W n k)))) (fun _ i _ => W - (intOf i).toNat)
      case atStart => exact ⟨0, by omega, rfl, hb, hO⟩
      case round =>
        obtain ⟨k, hk, rfl, hb, hO⟩ := hrel
        have c0w := (hb.out.cell (p := ⟨b, 0, none⟩) (block_lt HR.out)).trans c0
        by_cases hkW : k < W
        · have hd2 : decide ((k : Int) < (W : Int)) = true := decide_eq_true (by omega)
          have hlen : (allUp W n k).length ≤ 72 := by
            rw [allUp_len]
            have := Nat.mul_le_mul (Nat.le_of_lt (Nat.lt_of_lt_of_le hnH H8)) W8
            omega
          have hst := allUp_step W n k
          go_wp2_with ((with_reducible refine gate (N := 28) rfl ?_); refine wpList_append_own _ rfl (.tmp 23) (.tmp 27) 37 rfl w.heap.size 43 i0 (.agg #[.int .i8 0, .int .i8 0]) 2 2 Try.underlying37 hi hz0 hz1 hz2 rfl (by decide) _ _ _ rfl (hO.out.alloc _) ⟨wr.heap.size, 0, none⟩ 1 1 [.int .i8 n, .int .i8 k] rfl rfl (cell_two_new wr _ _ _) (by simp [Value.oneCell']) (Nat.le_trans (Nat.add_le_add_right hlen 1) (by decide)) (by omega) (Nat.le_trans hb.out.size (by simp)) ?_; intro v' w1 hown1 hgrow _)
          refine ⟨⟨k + 1, by omega, by go_num, (hb.out.alloc hb.out.size _).grown hgrow (by have := hb.out.size; simp; omega) (fun k hk => (hO.out.lt k hk).1), ?_⟩, by simp [intOf]; omega⟩
          show World.ownsRow _ _ _ _ _ _ _
          rw [← hst, List.length_append, pcells_snoc]; exact hown1
        · obtain rfl : k = W := by omega
          have hd2 : decide ((k : Int) < (k : Int)) = false := decide_eq_false (by omega)
          rw [allUp_row] at hO
          go_wp2_with fail
          exact ⟨⟨n + 1, by omega, by go_num, hb, hO⟩, by simp [intOf]; omega⟩
    · obtain rfl : n = H := by omega
      have hd : decide ((n : Int) < (n : Int)) = false := decide_eq_false (by omega)
      clear c0w
      go_wp2_with fail
      go_ret
      exact ⟨_, rfl, hb.out, hO.out⟩
theorem OwP.grown {lo hi : Nat} {w w' : World} {row : Option Nat} {v : Value} {l : List (Int × Int)} (h : OwP lo hi w v l) (hg : w.grownBy w' row) (hne : ∀ g, row = some g → g < lo ∨ hi ≤ g) : OwP lo hi w' v l := by
  obtain ⟨A, c, rfl, h⟩ := h
  refine ⟨A, c, rfl, fun hl => ?_⟩
  obtain ⟨b, cs, h1, h2, h3, h4, h5⟩ := h hl
  refine ⟨b, cs, h1, h2, h3, ?_, h5⟩
  rw [hg.block b (block_lt h4) (fun e => by have := hne b e.symm; omega)]
  exact h4
theorem owns_below {w w' : World} {base : Nat} {e : TypeId} {size : Nat} {v : Value} {n : Nat} {xs : List Value} (h : w.ownsRow base e size v n xs) (hb : Below w.heap.size w w') : w'.ownsRow base e size v n xs :=
  h.kept (row := none) ⟨hb.os, hb.tape, hb.output, hb.size, fun k hk _ => hb.block k hk⟩ (Classical.em _)
theorem allUp_mem {W H : Nat} {p : Int × Int} (h : p ∈ allUp W H 0) : (0 ≤ p.1 ∧ p.1 < H) ∧ (0 ≤ p.2 ∧ p.2 < W) := by
  simp only [allUp, List.range_zero, List.map_nil, List.append_nil, List.mem_flatMap, List.mem_map, List.mem_range] at h
  obtain ⟨c, hc, t, ht, rfl⟩ := h
  dsimp only; omega
/-- The places of all tiles of a kind. -/
def tilesL (r : Rf) (n : Int) (l : List (Int × Int)) : List (Int × Int) := l.filter fun p => decide (r.at p.1.toNat p.2.toNat = n)
theorem tilesL_yes {r : Rf} {n : Int} {l : List (Int × Int)} {j : Nat} {p : Int × Int} (hp : l[j]? = some p) (h : r.at p.1.toNat p.2.toNat = n) : tilesL r n (l.take (j + 1)) = tilesL r n (l.take j) ++ [p] := by
  obtain ⟨hj, rfl⟩ := List.getElem?_eq_some_iff.1 hp
  unfold tilesL
  rw [List.take_succ_eq_append_getElem hj, List.filter_append]
  congr 1
  simp [h]
theorem tilesL_no {r : Rf} {n : Int} {l : List (Int × Int)} {j : Nat} {p : Int × Int} (hp : l[j]? = some p) (h : ¬ r.at p.1.toNat p.2.toNat = n) : tilesL r n (l.take (j + 1)) = tilesL r n (l.take j) := by
  obtain ⟨hj, rfl⟩ := List.getElem?_eq_some_iff.1 hp
  unfold tilesL
  rw [List.take_succ_eq_append_getElem hj, List.filter_append]
  have e : List.filter (fun p : Int × Int => decide (r.at p.1.toNat p.2.toNat = n)) [l[j]] = [] := by simp [h]
  rw [e, List.append_nil]
set_option maxHeartbeats 1600000 in
set_option maxRecDepth 100000 in
theorem c_l01Tiles (r : Rf) (hr : r.Ok) (hv : validB r = true) (b : Nat) (n : Int) (w : World) (hb : w.heap[b]? = some (.cells (rcells r) 27 (0,0))) :
    Calls Try.prog 39 #[.pointer (some ⟨b,0,none⟩), .int .i64 n] w fun e w' => ∃ v, e = .returned v ∧ Below w.heap.size w w' ∧ w'.ownsRow w.heap.size 43 2 v (tilesL r n (allUp r.w.toNat r.h.toNat 0)).length (pcells (tilesL r n (allUp r.w.toNat r.h.toNat 0))) := by
  obtain ⟨i0, hi, hz0, hz1, hz2⟩ := info_parts Try.infoPlace
  have vh := valid_head hv
  have HR := hid hb
  have HV := hid hv
  have hlb := block_lt hb
  have hmem := hid (fun p (hp : p ∈ allUp r.w.toNat r.h.toNat 0) => allUp_mem hp)
  have hlen : (allUp r.w.toNat r.h.toNat 0).length ≤ 64 := by
    rw [allUp_len]
    have := Nat.mul_le_mul (by omega : r.h.toNat ≤ 8) (by omega : r.w.toNat ≤ 8)
    omega
  obtain ⟨L, hL⟩ : ∃ L, L = allUp r.w.toNat r.h.toNat 0 := ⟨_, rfl⟩
  have HL := hid hL
  rw [← hL] at hlen hmem ⊢
  have HB8 : Hid (r.w ≤ 8 ∧ r.h ≤ 8) := ⟨by omega, by omega⟩
  clear hL hv hb vh
  go_enter Try.func39, Try.ntmps39
  go_wp2_with (go_at_call 43; ((with_reducible refine (c_l01All r hr HV.out b _ (block_alloc HR.out _)).mono ?_); rintro e w1 ⟨va, rfl, hb1, ho1⟩))
  rw [← HL.out] at ho1
  have HO1 : Hid (OwP (w.heap.size + 1) w1.heap.size w1 va L) := by have := OwP.of_owns ho1; simp at this; exact this
  have hs1 : w.heap.size + 1 ≤ w1.heap.size := by have := hb1.size; simpa using this
  have HB1 : Hid (Below w.heap.size w w1) := ((Below.refl _ w).alloc (Nat.le_refl _) _).trans (hb1.mono (by simp))
  have HOut : Hid (w1.ownsRow w.heap.size 43 2 (.slice (some ⟨w.heap.size, 0, none⟩) 0 0) 0 []) := by
    refine ⟨by simp, .inr ⟨w.heap.size, 0, #[], rfl, Nat.le_refl _, ?_, Nat.le_refl _, by decide, rfl, by simp⟩⟩
    exact block_below hb1 (block_new1 w _ rfl) (by simp)
  obtain ⟨A, c, hva, _⟩ := HO1.out
  subst hva
  clear ho1 hb1
  go_loopw [5, 7] (fun v i wr => ∃ j : Nat, j ≤ L.length ∧ i = .int .i64 j ∧ Hid (Below w.heap.size w wr) ∧ Hid (w1.heap.size ≤ wr.heap.size) ∧ Hid (wr.ownsRow w.heap.size 43 2 v (tilesL r n (L.take j)).length (pcells (tilesL r n (L.take j)))) ∧ Hid (OwP (w.heap.size + 1) w1.heap.size wr (.slice A L.length c) L) ∧ Hid (v.ownBlock = some w.heap.size ∨ ∃ g, v.ownBlock = some g ∧ w1.heap.size ≤ g)) (fun _ i _ => L.length - (intOf i).toNat)
  case atStart => exact ⟨0, by omega, rfl, HB1, Nat.le_refl _, HOut, HO1, .inl rfl⟩
  case round =>
    obtain ⟨j, hj, rfl, hb, hsz, hO, hA, hloc⟩ := hrel
    have hRw := hid (block_below hb.out HR.out hlb)
    by_cases hjl : j < L.length
    · have hd : decide ((j : Int) < (L.length : Int)) = true := decide_eq_true (by omega)
      have hp := List.getElem?_eq_getElem hjl
      obtain ⟨⟨p1, p2⟩, hpp⟩ : ∃ p, p = L[j] := ⟨_, rfl⟩
      rw [← hpp] at hp
      have hm := hmem.out (p1, p2) (by rw [hpp]; exact List.getElem_mem hjl)
      obtain ⟨ab, c1, e1, r1, r2, q1, q2, q3⟩ := hA.out.cells hp
      obtain ⟨rfl, rfl⟩ : A = some ⟨ab, 0, none⟩ ∧ c = c1 := by simpa using e1
      dsimp only at q2 q3 hm
      have HM : Hid ((0 ≤ p1 ∧ p1 ≤ 7) ∧ (0 ≤ p2 ∧ p2 ≤ 7)) := by
        have := HB8.out
        exact ⟨by omega, by omega⟩
      have hat := hr.at p1.toNat p2.toNat
      have hlt : (tilesL r n (L.take j)).length ≤ 64 := Nat.le_trans (List.length_filter_le _ _) (by rw [List.length_take]; omega)
      by_cases hkind : r.at p1.toNat p2.toNat = n
      · have hde : decide (r.at p1.toNat p2.toNat = n) = true := decide_eq_true hkind
        have HY := hid (tilesL_yes hp hkind)
        clear hp hpp e1 hm
        go_wp2_with (first
          | (go_at_call 45; ((with_reducible refine (c_l01At r hr b p1 p2 HM.out.1 HM.out.2 _ hRw.out).mono ?_); rintro e w2 ⟨rfl, hb2⟩); (have q2' := (hb2.cell (p := ⟨ab, j * 2, none⟩) q1).trans q2); (have q3' := (hb2.cell (p := ⟨ab, j * 2 + 1, none⟩) q1).trans q3))
          | ((with_reducible refine gate (N := 31) rfl ?_); refine wpList_append_lies _ rfl (.tmp 25) (.tmp 30) 37 rfl w.heap.size 43 i0 (.agg #[.int .i8 0, .int .i8 0]) 2 2 Try.underlying37 hi hz0 hz1 hz2 rfl (by decide) _ _ _ rfl ((owns_below hO.out hb2).alloc _) ⟨w2.heap.size, 0, none⟩ 1 1 [.int .i8 p1, .int .i8 p2] rfl rfl (cell_two_new w2 _ _ _) (by simp [Value.oneCell']) (by decide) (Nat.le_trans (Nat.add_le_add_right hlt 1) (by decide)) (by omega) (Nat.le_trans hb.out.size (Nat.le_trans hb2.size (by simp))) (w2.heap.size + 1) (by simp) ?_; intro g cap w3 hown3 hg3 hl3 hlt3))
        have ho2 := owns_below hO.out hb2
        have b2 := hb.out.trans (hb2.mono hb.out.size)
        have hsz2 : w1.heap.size ≤ w2.heap.size := Nat.le_trans hsz.out hb2.size
        refine ⟨⟨j + 1, by omega, by go_num, (b2.alloc b2.size _).grown hg3 (by have := b2.size; simp; omega) (fun k hk => (ho2.lt k hk).1), Nat.le_trans hsz2 (Nat.le_trans (by simp) hg3.size), ?_, ?_, ?_⟩, by simp [intOf]; omega⟩
        · show World.ownsRow _ _ _ _ _ _ _
          rw [HY.out, List.length_append, pcells_snoc]; exact hown3
        · refine OwP.grown (OwP.below (B := w2.heap.size) (hA.out.below hb2 hsz.out) ((Below.refl _ w2).alloc (Nat.le_refl _) _) hsz2) hg3 fun g' hg' => ?_
          rcases hloc.out with h1 | ⟨g1, h1, h2⟩
          · have e := Option.some.inj (h1.symm.trans hg'); left; omega
          · have e := Option.some.inj (h1.symm.trans hg'); right; omega
        · rcases hl3 with h3 | h3
          · rcases hloc.out with h1 | ⟨g1, h1, h2⟩
            · have e := Option.some.inj (h1.symm.trans h3); left; rw [e]; rfl
            · have e := Option.some.inj (h1.symm.trans h3); right; exact ⟨g, rfl, by omega⟩
          · right; exact ⟨g, rfl, by omega⟩
      · have hde : decide (r.at p1.toNat p2.toNat = n) = false := decide_eq_false hkind
        have HY := hid (tilesL_no hp hkind)
        clear hp hpp e1 hm
        go_wp2_with (go_at_call 45; ((with_reducible refine (c_l01At r hr b p1 p2 HM.out.1 HM.out.2 _ hRw.out).mono ?_); rintro e w2 ⟨rfl, hb2⟩))
        refine ⟨⟨j + 1, by omega, by go_num, hb.out.trans (hb2.mono hb.out.size), Nat.le_trans hsz.out hb2.size, ?_, hA.out.below hb2 hsz.out, hloc⟩, by simp [intOf]; omega⟩
        show World.ownsRow _ _ _ _ _ _ _
        rw [HY.out]; exact owns_below hO.out hb2
    · obtain rfl : j = L.length := by omega
      have hd : decide ((L.length : Int) < (L.length : Int)) = false := decide_eq_false (by omega)
      rw [List.take_length] at hO
      go_wp2_with fail
      go_ret
      exact ⟨_, rfl, hb.out, hO.out⟩
end Go.Proofs.Ytecobdnpbkojmaa
