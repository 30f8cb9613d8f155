/- All pieces of a shape: the program's and the reference's. -/
import Derived.Test.YtgbihaliiogboaaRowG
import Derived.Test.YtgbihaliiogboaaConcat
import Derived.Test.YtgbihaliiogboaaPcIn
namespace Go.Proofs.Ytgbihaliiogboaa
open Go.RowKit
set_option linter.unusedSimpArgs false
set_option linter.unusedVariables false

theorem Try.infoSlC : (Try.prog.info? 26).map (fun i => (i.zero, i.size, i.bytes)) = some (some (.slice none 0 0), 1, 24) := by kernel_rfl
/-- A function value that makes a slice of pieces of each number of a list, in all worlds above a world. -/
def TurnsIC (g : Nat) (fst cap : Array Value) (f : Int → List (Int × Int)) (l : List Int) (w : World) : Prop :=
  ∀ (W : World) (p : Int), p ∈ l → Below w.heap.size w W → Calls Try.prog g (fst ++ #[.int .i64 p] ++ cap) W fun e w' => ∃ v, e = .returned v ∧ Below W.heap.size W w' ∧ w'.ownsRow W.heap.size 64 2 v (f p).length (ccells (f p))
def cellsOfC (L : List (List (Int × Int))) : List (Nat × List Value) := L.map fun l => (l.length, ccells l)
theorem rowsC_of {B : Nat} {w : World} {v : Value} {n : Nat} {vs : List Value} {L : List (List (Int × Int))} (h : w.ownsRow B 26 1 v n vs) (hr : RowsG B 64 2 w v vs (cellsOfC L)) : ∃ A c, v = .slice A n c ∧ n = L.length ∧ RowsC w A L := by
  obtain ⟨A, c, rfl⟩ := owns_slc h
  have hn : n = L.length := by have h1 := h.1; have h2 := hr.len; simp [cellsOfC] at h2; omega
  refine ⟨A, c, rfl, hn, fun j l hj => ?_⟩
  have hjl := (List.getElem?_eq_some_iff.1 hj).1
  have hjv : j < vs.length := by have := h.1; omega
  have hv := List.getElem?_eq_getElem hjv
  obtain ⟨g, c', e, _, h1, h2, _⟩ := owns_cell h hv
  obtain ⟨rfl, _, _⟩ := Value.slice.inj e
  have hx : (cellsOfC L)[j]? = some (l.length, ccells l) := by unfold cellsOfC; rw [List.getElem?_map, hj]; rfl
  have hrow := (hr.row j _ _ hv hx).1
  obtain ⟨A', c2, e2⟩ := owns_slc hrow
  rw [e2] at h2 hrow
  exact ⟨g, 0, A', c2, rfl, h1, by rw [Nat.zero_add]; exact h2, (OwC.of_owns hrow).pairs⟩
set_option maxHeartbeats 1600000 in
set_option maxRecDepth 100000 in
theorem c_eachIC (g : Nat) (fst cap : Array Value) (eg : ∀ args w, (callFunc g args).run Try.prog w = .ok (.enter g args) w) (f : Int → List (Int × Int)) (A : Option Addr) (c : Nat) (l : List Int) (hlen : l.length ≤ 1000000) (w : World) (hA : SlI w A l) (hf : TurnsIC g fst cap f l w) :
    Calls Try.prog 63 #[.slice A l.length c, .func (.func g) fst cap] w fun e w' => ∃ A' c', e = .returned (.slice A' l.length c') ∧ Below w.heap.size w w' ∧ RowsC w' A' (l.map f) := by
  obtain ⟨i0, hi, hz0, hz1, hz2⟩ := info_parts Try.infoSlC
  have HF := hid hf; clear hf
  have HA := hid hA; clear hA
  go_enter Try.func63, Try.ntmps63
  go_wp2_with fail
  go_loopw [5, 10] (fun v i wr => ∃ (k : Nat) (vs : List Value), k ≤ l.length ∧ i = .int .i64 k ∧ Hid (Below w.heap.size w wr) ∧ Hid (wr.ownsRow w.heap.size 26 1 v k vs) ∧ Hid (RowsG w.heap.size 64 2 wr v vs (cellsOfC ((l.take k).map f)))) (fun _ i _ => l.length - (intOf i).toNat)
  case atStart => exact ⟨0, [], by omega, rfl, Below.refl _ _, World.ownsRow_nil _ _ _ _, RowsG.nil _ _ _ _ _⟩
  case round =>
    obtain ⟨k, vs, hk, rfl, hb, hO, hR⟩ := hrel
    by_cases hkl : k < l.length
    · have hd : decide ((k : Int) < (l.length : Int)) = true := decide_eq_true (by omega)
      have hkI : (k : Int) < (l.length : Int) := by omega
      have hk0 : (0 : Int) ≤ (k : Int) := by omega
      have hp := List.getElem?_eq_getElem hkl
      obtain ⟨p1, hn⟩ : ∃ n, n = l[k] := ⟨_, rfl⟩
      rw [← hn] at hp
      obtain ⟨b, off, rfl, r1, r2⟩ := HA.out.below hb.out (Nat.le_refl _) k _ hp
      have HC := hid (HF.out wr p1 (by rw [hn]; exact List.getElem_mem hkl) hb.out)
      have HY : Hid (cellsOfC ((l.take (k + 1)).map f) = cellsOfC ((l.take k).map f) ++ [((f p1).length, ccells (f p1))]) := by
        show _ = _
        rw [List.take_succ_eq_append_getElem hkl, List.map_append, ← hn]; simp [cellsOfC]
      have HLE : Hid (k ≤ 1100000) := Nat.le_trans hk (Nat.le_trans hlen (by decide))
      clear hp hn
      go_wp2_with (first
        | (go_at_fn g; refine HC.out.mono ?_; rintro e w2 ⟨v2, rfl, hb2, ho2⟩; obtain ⟨A2, c2, rfl⟩ := owns_slc ho2; have HB2 := hid (hb.out.trans (hb2.mono hb.out.size)); have HO2 := hid (owns_below2 hO.out hb2 (Nat.le_refl _)); have HR2 := hid (hR.out.below hb2 (Nat.le_refl _)); have HO3 := hid ho2; have HS2 := hid HB2.out.size; have HOne := hid (owns_one ho2); clear hb2 ho2)
        | ((with_reducible refine gate (N := 19) rfl ?_); (refine wpList_append_row rfl (.tmp 14) (.tmp 18) 91 rfl w.heap.size 26 i0 (.slice none 0 0) 1 24 Try.underlying91 hi hz0 hz1 hz2 rfl (by decide) (by decide) _ k vs rfl HO2.out #[.slice A2 (f p1).length c2] rfl (by simp; exact HOne.out) _ rfl HLE.out HS2.out rfl _ ?_; intro v' w3 hown hg)))
      have hR3 := (HR2.out.snoc (H := wr.heap.size) (x := ((f p1).length, ccells (f p1))) (HO3.out.mono hb.out.size) (fun g hg => (HO3.out.lt g hg).1) (fun j u g hu hg => (hR.out.lt hu g hg).2) (fun g hg => (hO.out.lt g hg).2)).grew hg
      refine ⟨⟨k + 1, vs ++ [Value.slice A2 (f p1).length c2], by omega, by go_num, HB2.out.trans (hg.below w.heap.size (fun g hg => (HO2.out.lt g hg).1) HS2.out), hown, ?_⟩, by simp [intOf]; omega⟩
      show RowsG _ _ _ _ _ _ _
      rw [HY.out]
      exact hR3
    · obtain rfl : k = l.length := by omega
      have hd : decide ((l.length : Int) < (l.length : Int)) = false := decide_eq_false (by omega)
      rw [List.take_length] at hR
      obtain ⟨A', c', rfl, hn, hrc⟩ := rowsC_of hO.out hR.out
      have HRC := hid hrc
      clear hn hrc
      go_wp2_with fail
      go_ret
      exact ⟨_, _, rfl, hb.out, HRC.out⟩
def coursesP (s : Int) (l : List (Int × Int)) : List (List (Int × Int)) := (upL l.length).map fun n => courseP s l n.toNat
def piecesL (s : Int) (l : List (Int × Int)) : List (Int × Int) := (coursesP s l).flatten
theorem coursesP_len (s : Int) (l : List (Int × Int)) : (coursesP s l).length = l.length := by unfold coursesP; rw [List.length_map, upL_len]
theorem coursesP_get (s : Int) (l : List (Int × Int)) (k : Nat) (hk : k < (coursesP s l).length) : (coursesP s l)[k] = courseP s l k := by
  simp [coursesP, upL]
theorem courseP_len {s : Int} {l : List (Int × Int)} (h : ∀ p ∈ l, 0 ≤ p.1 ∧ p.1 < p.2 ∧ p.2 ≤ 200) {i : Nat} (hi : i < l.length) : (courseP s l i).length ≤ 30 := by
  have h3 := h _ (List.getElem_mem hi)
  unfold courseP
  have e : l.getD i (0, 0) = l[i] := getD_of (List.getElem?_eq_getElem hi)
  rw [e]
  have := laidP_len l[i].1 l[i].2 (beginB s i) (laidN l[i].2 (beginB s i))
  have := laidN_le h3.2.2 (beginB_04 s i).1
  omega
theorem flat_b {α : Type} {L : List (List α)} {m : Nat} (h : ∀ x ∈ L, x.length ≤ m) : L.flatten.length ≤ m * L.length := by
  induction L with
  | nil => simp
  | cons x L ih =>
    have h1 := h x (by simp)
    have h2 := ih fun y hy => h y (by simp [hy])
    rw [List.flatten_cons, List.length_append, List.length_cons, Nat.mul_succ]
    omega
theorem piecesL_len {s : Int} {l : List (Int × Int)} (h : ∀ p ∈ l, 0 ≤ p.1 ∧ p.1 < p.2 ∧ p.2 ≤ 200) : (piecesL s l).length ≤ 30 * l.length := by
  have := flat_b (L := coursesP s l) (m := 30) fun x hx => by
    obtain ⟨j, hj, rfl⟩ := List.getElem_of_mem hx
    rw [coursesP_get]
    exact courseP_len h (by rw [coursesP_len] at hj; exact hj)
  rw [coursesP_len] at this
  exact this
set_option maxRecDepth 100000 in
theorem c_piecesClo (s : Int) (hs : 0 ≤ s ∧ s ≤ 1) (A : Option Addr) (c : Nat) (l : List (Int × Int)) (hB : ∀ p ∈ l, 0 ≤ p.1 ∧ p.1 < p.2 ∧ p.2 ≤ 200) (i : Nat) (hi : i < l.length) (hlen : l.length ≤ 1048576) (bs : Nat) (w : World) (hx : w.heap[bs]? = some (.cells #[.int .u8 s, .slice A l.length c] 31 (0, 0))) (hA : PairsAt .i16 .i16 w A l) :
    Calls Try.prog 65 #[.int .i64 i, .pointer (some ⟨bs, 0, none⟩)] w fun e w' => ∃ v, e = .returned v ∧ Below w.heap.size w w' ∧ w'.ownsRow w.heap.size 64 2 v (courseP s l i).length (ccells (courseP s l i)) := by
  have HC := hid (c_laidC s hs A c l hB i hi hlen w hA)
  have HX := hid hx
  have k0 := cell_block HX.out (j := 0) rfl
  have k1 := cell_block HX.out (j := 1) rfl
  clear hA hB hx
  go_enter Try.func65, Try.ntmps65
  go_wp2_with (go_at_call 37; ((with_reducible refine HC.out.mono ?_); rintro e w1 ⟨v, rfl, hb1, ho1⟩))
  go_ret
  exact ⟨_, rfl, hb1, ho1⟩
set_option maxHeartbeats 1600000 in
set_option maxRecDepth 100000 in
theorem c_pieces (s : Int) (hs : 0 ≤ s ∧ s ≤ 1) (A : Option Addr) (c : Nat) (l : List (Int × Int)) (hB : ∀ p ∈ l, 0 ≤ p.1 ∧ p.1 < p.2 ∧ p.2 ≤ 200) (hlen : l.length ≤ 12) (w : World) (hA : PairsAt .i16 .i16 w A l) :
    Calls Try.prog 42 #[.agg #[.int .u8 s, .slice A l.length c]] w fun e w' => ∃ v, e = .returned v ∧ Below w.heap.size w w' ∧ w'.ownsRow w.heap.size 64 2 v (piecesL s l).length (ccells (piecesL s l)) := by
  have B0 : Below w.heap.size w (w.alloc (.cells #[.int .u8 s, .slice A l.length c] 31)) := (Below.refl _ w).alloc (Nat.le_refl _) _
  have HX := hid (block_new1 w (.cells #[.int .u8 s, .slice A l.length c] 31) rfl)
  have HA := hid (hA.below B0 (Nat.le_refl _))
  have HU := hid (c_upTo l.length (by omega))
  have hlen3 : l.length ≤ 1048576 := by omega
  have HE : ∀ (W : World) (A1 : Option Addr) (c1 : Nat), Below w.heap.size w W → W.heap[w.heap.size]? = some (.cells #[.int .u8 s, .slice A l.length c] 31 (0, 0)) → PairsAt .i16 .i16 W A l → SlI W A1 (upL l.length) →
      Hid (Calls Try.prog 63 #[.slice A1 l.length c1, .func (.func 65) #[] #[.pointer (some ⟨w.heap.size, 0, none⟩)]] W fun e w' => ∃ A' c', e = .returned (.slice A' l.length c') ∧ Below W.heap.size W w' ∧ RowsC w' A' (coursesP s l)) := by
    intro W A1 c1 hb hx ha hs1
    have h := c_eachIC 65 #[] #[.pointer (some ⟨w.heap.size, 0, none⟩)] (enters_of Try.func65 (by kernel_rfl) rfl) (fun n => courseP s l n.toNat) A1 c1 (upL l.length) (by rw [upL_len]; omega) W hs1 (fun W2 n hn hb2 => by
      obtain ⟨i, hi, rfl⟩ := List.mem_map.1 hn
      have h9 := c_piecesClo s hs A c l hB i (List.mem_range.1 hi) hlen3 _ W2 (block_below hb2 hx (block_lt hx)) (ha.below hb2 (Nat.le_refl _))
      simpa using h9)
    rw [upL_len] at h
    exact h
  have HM : ∀ (A1 : Option Addr) (c1 : Nat) (w1 : World), RowsC w1 A1 (coursesP s l) → Hid (Calls Try.prog 62 #[.slice A1 l.length c1] w1 fun e w' => ∃ v, e = .returned v ∧ Below w1.heap.size w1 w' ∧ w'.ownsRow w1.heap.size 64 2 v (piecesL s l).length (ccells (piecesL s l))) := by
    intro A1 c1 w1 h1
    have h := c_concatC A1 c1 (coursesP s l) (by rw [coursesP_len]; omega) (by have := piecesL_len (s := s) hB; unfold piecesL at this; omega) w1 h1
    rw [coursesP_len] at h
    exact h
  clear hA hB
  go_enter Try.func42, Try.ntmps42
  go_wp2_with (first
    | (go_at_call 64; ((with_reducible refine (HU.out _).mono ?_); rintro e w1 ⟨v, rfl, hb1, ho1⟩); obtain ⟨A1, c1, rfl, hs1⟩ := sli_ownI ho1; rw [upL_len]; have HX := hid (block_below hb1 HX.out (block_lt HX.out)); have HA := hid (HA.out.below hb1 (Nat.le_refl _)); have HS := hid hs1; have HB1 := hid (B0.trans (hb1.mono (by simp))); clear hb1 ho1 hs1)
    | (go_at_call 63; ((with_reducible refine (HE _ _ _ HB1.out HX.out HA.out HS.out).out.mono ?_); rintro e w2 ⟨A2, c2, rfl, hb2, hr2⟩); have HR2 := hid hr2; have HB2 := hid (HB1.out.trans (hb2.mono HB1.out.size)); clear hb2 hr2)
    | (go_at_call 62; ((with_reducible refine (HM _ _ _ HR2.out).out.mono ?_); rintro e w3 ⟨v3, rfl, hb3, ho3⟩)))
  go_ret
  exact ⟨_, rfl, HB2.out.trans (hb3.mono HB2.out.size), ho3.mono HB2.out.size⟩
def allPc (s : Int) (l : List (Int × Int)) : List (Int × Int) := if shOk s l = true then piecesL s l else []
theorem allPc_len (s : Int) (l : List (Int × Int)) : (allPc s l).length ≤ 1048576 := by
  unfold allPc
  split
  · rename_i h
    have h1 := shOk_all h
    have := piecesL_len (s := s) h1.1
    have := h1.2.2.1
    omega
  · simp
set_option maxRecDepth 100000 in
theorem c_AllPieces (s : Int) (A : Option Addr) (c : Nat) (l : List (Int × Int)) (bs0 : 0 ≤ s ∧ s ≤ 255) (hlen : l.length ≤ 1048576) (w : World) (hA : PairsAt .i16 .i16 w A l) :
    Calls Try.prog 18 #[.agg #[.int .u8 s, .slice A l.length c]] w (RetC w (allPc s l) (unitsC s l)) := by
  have B0 : Below w.heap.size w (w.alloc (.cells #[.int .u8 s, .slice A l.length c] 31)) := (Below.refl _ w).alloc (Nat.le_refl _) _
  have HX := hid (block_new1 w (.cells #[.int .u8 s, .slice A l.length c] 31) rfl)
  have HV := hid (c_ValidShape s A c l hlen _ (hA.below B0 (Nat.le_refl _)))
  unfold allPc unitsC
  cases hg : shOk s l with
  | false =>
    rw [hg] at HV
    have hA := hid hA
    clear hg
    go_enter Try.func18, Try.ntmps18
    go_wp2_with (go_at_call 35; ((with_reducible refine HV.out.mono ?_); rintro e w1 ⟨rfl, hb1⟩))
    go_ret2
    exact ⟨_, rfl, B0.trans (hb1.mono (by simp)), World.ownsRow_nil _ _ _ _⟩
  | true =>
    rw [hg] at HV
    have HU := fun w' h => hid (c_pieces s ⟨bs0.1, (shOk_all hg).2.2.2⟩ A c l (shOk_all hg).1 (shOk_all hg).2.2.1 w' h)
    have HA := hid (hA.below B0 (Nat.le_refl _))
    clear hg hA
    go_enter Try.func18, Try.ntmps18
    go_wp2_with (first
      | (go_at_call 35; ((with_reducible refine HV.out.mono ?_); rintro e w1 ⟨rfl, hb1⟩); have HX := hid (block_below hb1 HX.out (by simp)); have HA := hid (HA.out.below hb1 (Nat.le_refl _)); have HB1 := hid (B0.trans (hb1.mono (by simp))); have k0 := cell_block HX.out (j := 0) rfl; have k1 := cell_block HX.out (j := 1) rfl; clear hb1)
      | (go_at_call 42; ((with_reducible refine (HU _ HA.out).out.mono ?_); rintro e w2 ⟨v, rfl, hb2, ho2⟩)))
    go_ret2
    exact ⟨_, rfl, HB1.out.trans (hb2.mono HB1.out.size), ho2.mono HB1.out.size⟩
set_option maxHeartbeats 1600000 in
set_option maxRecDepth 100000 in
theorem c_l05All (s : Int) (hs : 0 ≤ s ∧ s ≤ 1) (A : Option Addr) (c : Nat) (l : List (Int × Int)) (hB : ∀ p ∈ l, 0 ≤ p.1 ∧ p.1 < p.2 ∧ p.2 ≤ 200) (hlen : l.length ≤ 12) (bs : Nat) (w : World) (hx : w.heap[bs]? = some (.cells #[.int .u8 s, .slice A l.length c] 31 (0, 0))) (hA : PairsAt .i16 .i16 w A l) :
    Calls Try.prog 41 #[.pointer (some ⟨bs, 0, none⟩)] w fun e w' => ∃ v, e = .returned v ∧ Below w.heap.size w w' ∧ w'.ownsRow w.heap.size 64 2 v (piecesL s l).length (ccells (piecesL s l)) := by
  obtain ⟨i0, hi, hz0, hz1, hz2⟩ := toPiece_parts
  have HX := hid hx
  have HA := hid hA
  have HBl := hid hB
  have HU := fun (i : Nat) (hi : i < l.length) w' h1 h2 => hid (c_l05CourseC s hs A c l hB i hi (by omega) bs w' h1 h2)
  clear hx hA hB
  go_enter Try.func41, Try.ntmps41
  go_wp2_with fail
  go_loopw [3, 4] (fun v i wr => ∃ k : Nat, k ≤ l.length ∧ i = .int .i64 k ∧ Hid (Below w.heap.size w wr) ∧ Hid (wr.ownsRow w.heap.size 64 2 v ((coursesP s l).take k).flatten.length (ccells ((coursesP s l).take k).flatten))) (fun _ i _ => l.length - (intOf i).toNat)
  case atStart => exact ⟨0, by omega, rfl, (Below.refl _ w).alloc (Nat.le_refl _) _, World.ownsRow_made w #[] 0 (Nat.le_refl _) (by decide) rfl⟩
  case round =>
    obtain ⟨k, hk, rfl, hb, hO⟩ := hrel
    have HXw := hid (block_below hb.out HX.out (block_lt HX.out))
    have m0 := cell_block HXw.out (j := 0) rfl
    have m1 := cell_block HXw.out (j := 1) rfl
    by_cases hkl : k < l.length
    · have hd : decide ((k : Int) < (l.length : Int)) = true := decide_eq_true (by omega)
      have HC := hid (HU k hkl wr HXw.out (HA.out.below hb.out (Nat.le_refl _))).out
      have hkc : k < (coursesP s l).length := by rw [coursesP_len]; exact hkl
      have hfs := flat_succ (coursesP s l) k hkc
      rw [coursesP_get] at hfs
      have HFS := hid hfs
      have hle := flat_le (coursesP s l) (k + 1)
      have hpl := piecesL_len (s := s) HBl.out
      rw [hfs, List.length_append] at hle
      unfold piecesL at hpl
      have HFL : Hid (((coursesP s l).take k).flatten.length + (courseP s l k).length ≤ 2200000) := by show _ ≤ _; omega
      clear hfs hle hpl hkc
      go_wp2_with (first
        | (go_at_call 33; ((with_reducible refine HC.out.mono ?_); rintro e w2 ⟨v2, rfl, hb2, ho2⟩); obtain ⟨A2, c2, rfl⟩ := owns_slc ho2; have HP2 := hid (OwC.of_owns ho2).pairs; have HO2 := hid (owns_below2 hO.out hb2 (Nat.le_refl _)); have HB2 := hid (hb.out.trans (hb2.mono hb.out.size)); have HS2 := hid HB2.out.size; clear hb2 ho2)
        | ((with_reducible refine gate (N := 25) rfl ?_); (refine wpList_append_many rfl (.tmp 23) (.tmp 24) 26 rfl w.heap.size 64 i0 (.agg #[.int .i8 0, .int .i8 0]) 2 2 Try.underlying26 hi hz0 hz1 hz2 rfl (by decide) (by decide) _ _ _ HO2.out rfl A2 (courseP s l k).length c2 (ccells (courseP s l k)) (ccells_len _) (fun j u hu => src_of HP2.out j u hu) (ccells_one _) rfl HFL.out HS2.out ?_; intro v' w3 hown hg)))
      refine ⟨⟨k + 1, by omega, by go_num, HB2.out.trans (hg.below w.heap.size (fun g hg' => (HO2.out.lt g hg').1) HS2.out), ?_⟩, by simp [intOf]; omega⟩
      show World.ownsRow _ _ _ _ _ _ _
      rw [HFS.out, List.length_append, ccells_app]
      exact hown
    · obtain rfl : k = l.length := by omega
      have hd : decide ((l.length : Int) < (l.length : Int)) = false := decide_eq_false (by omega)
      have ht : (coursesP s l).take l.length = coursesP s l := List.take_of_length_le (by rw [coursesP_len]; exact Nat.le_refl _)
      rw [ht] at hO
      go_wp2_with fail
      go_ret
      exact ⟨_, rfl, hb.out, hO.out⟩
set_option maxRecDepth 100000 in
theorem c_sAllPieces (s : Int) (A : Option Addr) (c : Nat) (l : List (Int × Int)) (bs0 : 0 ≤ s ∧ s ≤ 255) (hlen : l.length ≤ 1048576) (w : World) (hA : PairsAt .i16 .i16 w A l) :
    Calls Try.prog 17 #[.agg #[.int .u8 s, .slice A l.length c]] w (RetC w (allPc s l) (unitsC s l)) := by
  have B0 : Below w.heap.size w (w.alloc (.cells #[.int .u8 s, .slice A l.length c] 31)) := (Below.refl _ w).alloc (Nat.le_refl _) _
  have HX := hid (block_new1 w (.cells #[.int .u8 s, .slice A l.length c] 31) rfl)
  have HV := hid (c_l05Ok s A c l hlen w.heap.size _ HX.out (hA.below B0 (Nat.le_refl _)))
  unfold allPc unitsC
  cases hg : shOk s l with
  | false =>
    rw [hg] at HV
    have hA := hid hA
    clear hg
    go_enter Try.func17, Try.ntmps17
    go_wp2_with (go_at_call 31; ((with_reducible refine HV.out.mono ?_); rintro e w1 ⟨rfl, hb1⟩))
    go_ret2
    have b1 := B0.trans (hb1.mono (by simp))
    exact ⟨_, rfl, b1.alloc b1.size _, World.ownsRow_made w1 #[] 0 b1.size (by decide) rfl⟩
  | true =>
    rw [hg] at HV
    have HU := fun w' h1 h2 => hid (c_l05All s ⟨bs0.1, (shOk_all hg).2.2.2⟩ A c l (shOk_all hg).1 (shOk_all hg).2.2.1 w.heap.size w' h1 h2)
    have HA := hid (hA.below B0 (Nat.le_refl _))
    clear hg hA
    go_enter Try.func17, Try.ntmps17
    go_wp2_with (first
      | (go_at_call 31; ((with_reducible refine HV.out.mono ?_); rintro e w1 ⟨rfl, hb1⟩); have HX := hid (block_below hb1 HX.out (by simp)); have HA := hid (HA.out.below hb1 (Nat.le_refl _)); have HB1 := hid (B0.trans (hb1.mono (by simp))); clear hb1)
      | (go_at_call 41; ((with_reducible refine (HU _ HX.out HA.out).out.mono ?_); rintro e w2 ⟨v, rfl, hb2, ho2⟩)))
    go_ret2
    exact ⟨_, rfl, HB1.out.trans (hb2.mono HB1.out.size), ho2.mono HB1.out.size⟩
end Go.Proofs.Ytgbihaliiogboaa
