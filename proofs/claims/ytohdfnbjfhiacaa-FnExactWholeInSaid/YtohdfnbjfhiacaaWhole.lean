/- How many tiles of a shape are laid whole: the program's and the reference's. -/
import Derived.Test.YtohdfnbjfhiacaaLaid
import Derived.Test.YtohdfnbjfhiacaaEachII
namespace Go.Proofs.Ytohdfnbjfhiacaa
open Go.RowKit
set_option linter.unusedSimpArgs false
set_option linter.unusedVariables false

theorem Try.infoInt : (Try.prog.info? 3).map (fun i => (i.zero, i.size, i.bytes)) = some (some (.int .i64 0), 1, 8) := by kernel_rfl
/-- The numbers below n. -/
def upL (n : Nat) : List Int := (List.range n).map fun i : Nat => (i : Int)
theorem upL_len (n : Nat) : (upL n).length = n := by simp [upL]
theorem upL_succ (n : Nat) : upL (n + 1) = upL n ++ [(n : Int)] := by simp [upL, List.range_succ]
theorem sli_ownI {w : World} {base : Nat} {v : Value} {l : List Int} (h : w.ownsRow base 3 1 v l.length (icells l)) : ∃ A c, v = .slice A l.length c ∧ SlI w A l := by
  rcases h.2 with ⟨rfl, hn⟩ | ⟨g, cap, cur, rfl, hb, hg, hc, hm, hs, ht⟩
  · exact ⟨none, 0, by rw [hn], fun j n hj => by have := List.eq_nil_of_length_eq_zero hn; subst this; simp at hj⟩
  · refine ⟨_, cap, rfl, fun j n hj => ⟨g, 0, rfl, block_lt hg, ?_⟩⟩
    have hjl := (List.getElem?_eq_some_iff.1 hj).1
    have hp : (icells l)[j]? = some (.int .i64 n) := by unfold icells; rw [List.getElem?_map, hj]; rfl
    rw [← ht, List.getElem?_take, if_pos (by omega)] at hp
    rw [Nat.zero_add]
    exact cell_block hg (by simpa using hp)
set_option maxHeartbeats 800000 in
set_option maxRecDepth 100000 in
theorem c_upTo (n : Nat) (hn : n ≤ 1000000) (w : World) :
    Calls Try.prog 56 #[.int .i64 n] w fun e w' => ∃ v, e = .returned v ∧ Below w.heap.size w w' ∧ w'.ownsRow w.heap.size 3 1 v (upL n).length (icells (upL n)) := by
  obtain ⟨i0, hi, hz0, hz1, hz2⟩ := info_parts Try.infoInt
  go_enter Try.func56, Try.ntmps56
  go_wp2_with fail
  go_loopw [3, 6] (fun v i wr => ∃ k : Nat, k ≤ n ∧ i = .int .i64 k ∧ Hid (Below w.heap.size w wr) ∧ Hid (wr.ownsRow w.heap.size 3 1 v (upL k).length (icells (upL k)))) (fun _ i _ => n - (intOf i).toNat)
  case atStart => exact ⟨0, by omega, rfl, Below.refl _ _, World.ownsRow_nil _ _ _ _⟩
  case round =>
    obtain ⟨k, hk, rfl, hb, hO⟩ := hrel
    by_cases hkl : k < n
    · have hd : decide ((k : Int) < (n : Int)) = true := decide_eq_true (by omega)
      have HLE : Hid ((upL k).length ≤ 1000000) := by rw [upL_len]; exact Nat.le_trans hk hn
      have HBS := hid hb.out.size
      have HY := hid (upL_succ k)
      go_wp2_with ((with_reducible refine gate (N := 12) rfl ?_); refine wpList_append_own _ rfl (.tmp 9) (.tmp 11) 77 rfl w.heap.size 3 i0 (.int .i64 0) 1 8 Try.underlying77 hi hz0 hz1 hz2 rfl (by decide) _ _ _ rfl (hO.out.alloc _) ⟨wr.heap.size, 0, none⟩ 1 1 [.int .i64 k] rfl rfl (cell_one_new' wr _ _) (by simp [Value.oneCell']) (Nat.le_trans (Nat.add_le_add_right HLE.out 1) (by decide)) (by have := HLE.out; omega) (Nat.le_trans HBS.out (by simp)) ?_; intro v' w3 hown3 hgrow _)
      refine ⟨⟨k + 1, by omega, by go_num, (hb.out.alloc HBS.out _).grown hgrow (by have := HBS.out; simp; omega) (fun k hk => (hO.out.lt k hk).1), ?_⟩, by simp [intOf]; omega⟩
      show World.ownsRow _ _ _ _ _ _ _
      rw [HY.out, List.length_append]
      unfold icells
      rw [List.map_append]; exact hown3
    · obtain rfl : k = n := by omega
      have hd : decide ((k : Int) < (k : Int)) = false := decide_eq_false (by omega)
      go_wp2_with fail
      go_ret
      exact ⟨_, rfl, hb.out, hO.out⟩
/-- How many tiles of course i are laid whole, and its pieces. -/
def courseW (s : Int) (l : List (Int × Int)) (i : Nat) : Int := laidW (l.getD i (0, 0)).1 (l.getD i (0, 0)).2 (beginB s i) (laidN (l.getD i (0, 0)).2 (beginB s i))
def courseP (s : Int) (l : List (Int × Int)) (i : Nat) : List (Int × Int) := laidP (l.getD i (0, 0)).1 (l.getD i (0, 0)).2 (beginB s i) (laidN (l.getD i (0, 0)).2 (beginB s i))
theorem getD_of {l : List (Int × Int)} {i : Nat} {p : Int × Int} (h : l[i]? = some p) : l.getD i (0, 0) = p := by rw [List.getD_eq_getElem?_getD, h]; rfl
theorem courseW_of {s : Int} {l : List (Int × Int)} {i : Nat} {L R : Int} (h : l[i]? = some (L, R)) : laidW L R (beginB s i) (laidN R (beginB s i)) = courseW s l i := by unfold courseW; rw [getD_of h]
theorem courseP_of {s : Int} {l : List (Int × Int)} {i : Nat} {L R : Int} (h : l[i]? = some (L, R)) : laidP L R (beginB s i) (laidN R (beginB s i)) = courseP s l i := by unfold courseP; rw [getD_of h]
theorem laidN_le {R B : Int} (hR : R ≤ 200) (hB : 0 ≤ B) : laidN R B ≤ 30 := by unfold laidN; omega
theorem courseW_b {s : Int} {l : List (Int × Int)} {i : Nat} (h : ∀ p ∈ l, 0 ≤ p.1 ∧ p.1 < p.2 ∧ p.2 ≤ 200) (hi : i < l.length) : 0 ≤ courseW s l i ∧ courseW s l i ≤ 30 := by
  have h1 := h _ (List.getElem_mem hi)
  have e : l.getD i (0, 0) = l[i] := getD_of (List.getElem?_eq_getElem hi)
  unfold courseW
  rw [e]
  have := laidW_le l[i].1 l[i].2 (beginB s i) (laidN l[i].2 (beginB s i))
  have := laidN_le h1.2.2 (beginB_04 s i).1
  omega
theorem courseW_bs (s : Int) {l : List (Int × Int)} (h : ∀ p ∈ l, 0 ≤ p.1 ∧ p.1 < p.2 ∧ p.2 ≤ 200) : ∀ n ∈ (upL l.length).map (fun n => courseW s l n.toNat), 0 ≤ n ∧ n ≤ 1000000 := by
  intro n hn
  obtain ⟨p, hp, hpn⟩ := List.mem_map.1 hn
  obtain ⟨i, hi, hpi⟩ := List.mem_map.1 hp
  subst hpi
  rw [Int.toNat_natCast] at hpn
  have h1 := courseW_b (s := s) h (List.mem_range.1 hi)
  rw [hpn] at h1
  omega
def courseWs (s : Int) (l : List (Int × Int)) : List Int := (upL l.length).map fun n => courseW s l n.toNat
theorem courseWs_len (s : Int) (l : List (Int × Int)) : (courseWs s l).length = l.length := by unfold courseWs; rw [List.length_map, upL_len]
def wholeL (s : Int) (l : List (Int × Int)) : Int := (courseWs s l).sum
theorem c_sumW (s : Int) (l : List (Int × Int)) (hB : ∀ p ∈ l, 0 ≤ p.1 ∧ p.1 < p.2 ∧ p.2 ≤ 200) (hlen : l.length ≤ 1048576) (A1 : Option Addr) (c1 : Nat) (w1 : World) (hs1 : SlI w1 A1 (courseWs s l)) : Calls Try.prog 49 #[.slice A1 l.length c1] w1 fun e w' => e = .returned (.int .i64 (wholeL s l)) ∧ w1 = w' := by
  have h1 := c_sumI A1 c1 (courseWs s l) (by rw [courseWs_len]; exact hlen) (courseW_bs s hB) w1 hs1
  rw [courseWs_len] at h1
  exact h1
/-- What 'laid' returns of a course that is there. -/
def RetLaid (w : World) (s : Int) (l : List (Int × Int)) (i : Nat) (e : Ending) (w' : World) : Prop := ∃ v, e = .returned (.tuple #[.int .i64 (courseW s l i), v]) ∧ Below w.heap.size w w' ∧ w'.ownsRow w.heap.size 75 2 v (courseP s l i).length (ccells (courseP s l i))
theorem c_laidC (s : Int) (hs : 0 ≤ s ∧ s ≤ 1) (A : Option Addr) (c : Nat) (l : List (Int × Int)) (hB : ∀ p ∈ l, 0 ≤ p.1 ∧ p.1 < p.2 ∧ p.2 ≤ 200) (i : Nat) (hi : i < l.length) (hlen : l.length ≤ 1048576) (w : World) (hA : PairsAt .i16 .i16 w A l) :
    Calls Try.prog 58 #[.agg #[.int .u8 s, .slice A l.length c], .int .i64 i] w (RetLaid w s l i) := by
  have h1 := List.getElem?_eq_getElem hi
  have h2 := hB _ (List.getElem_mem hi)
  obtain ⟨⟨L, R⟩, hn⟩ : ∃ n, n = l[i] := ⟨_, rfl⟩
  rw [← hn] at h1 h2
  have := c_laid s hs A c l i L R h1 h2 hlen w hA
  rw [courseW_of h1, courseP_of h1] at this
  exact this
theorem c_l05CourseC (s : Int) (hs : 0 ≤ s ∧ s ≤ 1) (A : Option Addr) (c : Nat) (l : List (Int × Int)) (hB : ∀ p ∈ l, 0 ≤ p.1 ∧ p.1 < p.2 ∧ p.2 ≤ 200) (i : Nat) (hi : i < l.length) (hlen : l.length ≤ 1048576) (bs : Nat) (w : World) (hx : w.heap[bs]? = some (.cells #[.int .u8 s, .slice A l.length c] 29 (0, 0))) (hA : PairsAt .i16 .i16 w A l) :
    Calls Try.prog 44 #[.pointer (some ⟨bs, 0, none⟩), .int .i64 i] w (RetLaid w s l i) := by
  have h1 := List.getElem?_eq_getElem hi
  have h2 := hB _ (List.getElem_mem hi)
  obtain ⟨⟨L, R⟩, hn⟩ : ∃ n, n = l[i] := ⟨_, rfl⟩
  rw [← hn] at h1 h2
  have := c_l05Course s hs A c l i L R h1 h2 hlen bs w hx hA
  rw [courseW_of h1, courseP_of h1] at this
  exact this
set_option maxRecDepth 100000 in
theorem c_wholeClo (s : Int) (hs : 0 ≤ s ∧ s ≤ 1) (A : Option Addr) (c : Nat) (l : List (Int × Int)) (hB : ∀ p ∈ l, 0 ≤ p.1 ∧ p.1 < p.2 ∧ p.2 ≤ 200) (i : Nat) (hi : i < l.length) (hlen : l.length ≤ 1048576) (bs : Nat) (w : World) (hx : w.heap[bs]? = some (.cells #[.int .u8 s, .slice A l.length c] 29 (0, 0))) (hA : PairsAt .i16 .i16 w A l) :
    Calls Try.prog 57 #[.int .i64 i, .pointer (some ⟨bs, 0, none⟩)] w fun e w' => e = .returned (.int .i64 (courseW s l i)) ∧ Below w.heap.size w w' := by
  have HC := hid (c_laidC s hs A c l hB i hi hlen w hA)
  have HX := hid hx
  have k0 := cell_block HX.out (j := 0) rfl
  have k1 := cell_block HX.out (j := 1) rfl
  clear hA hB hx
  go_enter Try.func57, Try.ntmps57
  go_wp2_with (go_at_call 58; ((with_reducible refine HC.out.mono ?_); rintro e w1 ⟨v, rfl, hb1, ho1⟩))
  go_ret
  exact ⟨rfl, hb1⟩
set_option maxHeartbeats 1600000 in
set_option maxRecDepth 100000 in
theorem c_whole (s : Int) (hs : 0 ≤ s ∧ s ≤ 1) (A : Option Addr) (c : Nat) (l : List (Int × Int)) (hB : ∀ p ∈ l, 0 ≤ p.1 ∧ p.1 < p.2 ∧ p.2 ≤ 200) (hlen : l.length ≤ 1000000) (w : World) (hA : PairsAt .i16 .i16 w A l) :
    Calls Try.prog 45 #[.agg #[.int .u8 s, .slice A l.length c]] w fun e w' => e = .returned (.int .i64 (wholeL s l)) ∧ Below w.heap.size w w' := by
  have B0 : Below w.heap.size w (w.alloc (.cells #[.int .u8 s, .slice A l.length c] 29)) := (Below.refl _ w).alloc (Nat.le_refl _) _
  have HX := hid (block_new1 w (.cells #[.int .u8 s, .slice A l.length c] 29) rfl)
  have HA := hid (hA.below B0 (Nat.le_refl _))
  have HU := hid (c_upTo l.length hlen)
  have hlen3 : l.length ≤ 1048576 := by omega
  have HE : ∀ (W : World) (A1 : Option Addr) (c1 : Nat), Below w.heap.size w W → W.heap[w.heap.size]? = some (.cells #[.int .u8 s, .slice A l.length c] 29 (0, 0)) → PairsAt .i16 .i16 W A l → SlI W A1 (upL l.length) →
      Hid (Calls Try.prog 55 #[.slice A1 l.length c1, .func (.func 57) #[] #[.pointer (some ⟨w.heap.size, 0, none⟩)]] W fun e w' => ∃ v, e = .returned v ∧ Below W.heap.size W w' ∧ w'.ownsRow W.heap.size 2 1 v (courseWs s l).length (icells (courseWs s l))) := by
    intro W A1 c1 hb hx ha hs1
    have h := c_eachII 57 #[] #[.pointer (some ⟨w.heap.size, 0, none⟩)] (enters_of Try.func57 (by kernel_rfl) rfl) (fun n => courseW s l n.toNat) A1 c1 (upL l.length) (by rw [upL_len]; exact hlen) W hs1 (fun W2 n hn hb2 => by
      obtain ⟨i, hi, rfl⟩ := List.mem_map.1 hn
      have h9 := c_wholeClo s hs A c l hB i (List.mem_range.1 hi) hlen3 _ W2 (block_below hb2 hx (block_lt hx)) (ha.below hb2 (Nat.le_refl _))
      simpa using h9)
    rw [upL_len] at h
    exact h
  have HM : ∀ (A1 : Option Addr) (c1 : Nat) (w1 : World), SlI w1 A1 (courseWs s l) → Hid (Calls Try.prog 49 #[.slice A1 l.length c1] w1 fun e w' => e = .returned (.int .i64 (wholeL s l)) ∧ w1 = w') := fun A1 c1 w1 hs1 => c_sumW s l hB hlen3 A1 c1 w1 hs1
  clear hA hB
  go_enter Try.func45, Try.ntmps45
  go_wp2_with (first
    | (go_at_call 56; ((with_reducible refine (HU.out _).mono ?_); rintro e w1 ⟨v, rfl, hb1, ho1⟩); obtain ⟨A1, c1, rfl, hs1⟩ := sli_ownI ho1; rw [upL_len]; have HX := hid (block_below hb1 HX.out (block_lt HX.out)); have HA := hid (HA.out.below hb1 (Nat.le_refl _)); have HS := hid hs1; have HB1 := hid (B0.trans (hb1.mono (by simp))); clear hb1 ho1 hs1)
    | (go_at_call 55; ((with_reducible refine (HE _ _ _ HB1.out HX.out HA.out HS.out).out.mono ?_); rintro e w2 ⟨v, rfl, hb2, ho2⟩); obtain ⟨A2, c2, rfl, hs2⟩ := sli_own ho2; rw [courseWs_len]; have HS2 := hid hs2; have HB2 := hid (HB1.out.trans (hb2.mono HB1.out.size)); clear hb2 ho2 hs2)
    | (go_at_call 49; ((with_reducible refine (HM _ _ _ HS2.out).out.mono ?_); rintro e w3 ⟨rfl, rfl⟩)))
  go_ret
  exact ⟨rfl, HB2.out⟩
def wholeN (s : Int) (l : List (Int × Int)) : Int := if shOk s l = true then wholeL s l else 0
set_option maxRecDepth 100000 in
theorem c_WholeIn (s : Int) (A : Option Addr) (c : Nat) (l : List (Int × Int)) (bs0 : 0 ≤ s ∧ s ≤ 255) (hlen : l.length ≤ 1048576) (w : World) (hA : PairsAt .i16 .i16 w A l) :
    Calls Try.prog 26 #[.agg #[.int .u8 s, .slice A l.length c]] w (Ret2 w (wholeN s l) (unitsC s l)) := by
  have B0 : Below w.heap.size w (w.alloc (.cells #[.int .u8 s, .slice A l.length c] 29)) := (Below.refl _ w).alloc (Nat.le_refl _) _
  have HX := hid (block_new1 w (.cells #[.int .u8 s, .slice A l.length c] 29) rfl)
  have HV := hid (c_ValidShape s A c l hlen _ (hA.below B0 (Nat.le_refl _)))
  unfold wholeN unitsC
  cases hg : shOk s l with
  | false =>
    rw [hg] at HV
    have hA := hid hA
    clear hg
    go_enter Try.func26, Try.ntmps26
    go_wp2_with (go_at_call 12; ((with_reducible refine HV.out.mono ?_); rintro e w1 ⟨rfl, hb1⟩))
    go_ret2
    exact ⟨rfl, B0.trans (hb1.mono (by simp))⟩
  | true =>
    rw [hg] at HV
    have HU := fun w' h => hid (c_whole s ⟨bs0.1, (shOk_all hg).2.2.2⟩ A c l (shOk_all hg).1 (by have := (shOk_all hg).2.2.1; omega) w' h)
    have HA := hid (hA.below B0 (Nat.le_refl _))
    clear hg hA
    go_enter Try.func26, Try.ntmps26
    go_wp2_with (first
      | (go_at_call 12; ((with_reducible refine HV.out.mono ?_); rintro e w1 ⟨rfl, hb1⟩); have HX := hid (block_below hb1 HX.out (by simp)); have HA := hid (HA.out.below hb1 (Nat.le_refl _)); have HB1 := hid hb1; have k0 := cell_block HX.out (j := 0) rfl; have k1 := cell_block HX.out (j := 1) rfl; clear hb1)
      | (go_at_call 45; ((with_reducible refine (HU _ HA.out).out.mono ?_); rintro e w2 ⟨rfl, hb2⟩)))
    go_ret2
    have b1 := B0.trans (HB1.out.mono (by simp))
    exact ⟨rfl, b1.trans (hb2.mono b1.size)⟩
theorem wholeK (s : Int) (l : List (Int × Int)) (k : Nat) (hk : k < l.length) : ((courseWs s l).take (k + 1)).sum = ((courseWs s l).take k).sum + courseW s l k := by
  rw [sum_take_succ _ k (by rw [courseWs_len]; exact hk)]
  congr 1
  simp [courseWs, upL]
theorem wholeK_b (s : Int) (l : List (Int × Int)) (hB : ∀ p ∈ l, 0 ≤ p.1 ∧ p.1 < p.2 ∧ p.2 ≤ 200) (k : Nat) : 0 ≤ ((courseWs s l).take k).sum ∧ ((courseWs s l).take k).sum ≤ 1000000 * k := by
  have h := sum_le ((courseWs s l).take k) 1000000 (by decide) fun n hn => courseW_bs s hB n (List.mem_of_mem_take hn)
  have h2 : ((courseWs s l).take k).length ≤ k := by rw [List.length_take]; omega
  omega
set_option maxHeartbeats 800000 in
set_option maxRecDepth 100000 in
theorem c_sWholeIn (s : Int) (A : Option Addr) (c : Nat) (l : List (Int × Int)) (bs0 : 0 ≤ s ∧ s ≤ 255) (hlen : l.length ≤ 1048576) (w : World) (hA : PairsAt .i16 .i16 w A l) :
    Calls Try.prog 25 #[.agg #[.int .u8 s, .slice A l.length c]] w (Ret2 w (wholeN s l) (unitsC s l)) := by
  have B0 : Below w.heap.size w (w.alloc (.cells #[.int .u8 s, .slice A l.length c] 29)) := (Below.refl _ w).alloc (Nat.le_refl _) _
  have HX := hid (block_new1 w (.cells #[.int .u8 s, .slice A l.length c] 29) rfl)
  have HV := hid (c_l05Ok s A c l hlen w.heap.size _ HX.out (hA.below B0 (Nat.le_refl _)))
  unfold wholeN unitsC
  cases hg : shOk s l with
  | false =>
    rw [hg] at HV
    have hA := hid hA
    clear hg
    go_enter Try.func25, Try.ntmps25
    go_wp2_with (go_at_call 28; ((with_reducible refine HV.out.mono ?_); rintro e w1 ⟨rfl, hb1⟩))
    go_ret2
    exact ⟨rfl, B0.trans (hb1.mono (by simp))⟩
  | true =>
    rw [hg] at HV
    have HB := hid (shOk_all hg).1
    have HU := fun (i : Nat) (hi : i < l.length) w' h1 h2 => hid (c_l05CourseC s ⟨bs0.1, (shOk_all hg).2.2.2⟩ A c l (shOk_all hg).1 i hi hlen w.heap.size w' h1 h2)
    have HA := hid (hA.below B0 (Nat.le_refl _))
    clear hg hA
    go_enter Try.func25, Try.ntmps25
    go_wp2_with (go_at_call 28; ((with_reducible refine HV.out.mono ?_); rintro e w1 ⟨rfl, hb1⟩); have HX := hid (block_below hb1 HX.out (by simp)); have HA := hid (HA.out.below hb1 (Nat.le_refl _)); have HB1 := hid (B0.trans (hb1.mono (by simp))); clear hb1)
    have HW1 := hid (block_lt HX.out)
    go_loopw [4, 5] (fun q i wr => ∃ k : Nat, k ≤ l.length ∧ i = .int .i64 k ∧ q = .int .i64 ((courseWs s l).take k).sum ∧ Hid (Below w1.heap.size w1 wr)) (fun _ i _ => l.length - (intOf i).toNat)
    case atStart => exact ⟨0, by omega, rfl, by simp, Below.refl _ _⟩
    case round =>
      obtain ⟨k, hk, rfl, rfl, hb⟩ := hrel
      have HXw := hid (block_below hb.out HX.out HW1.out)
      have HAw := hid (HA.out.below hb.out (Nat.le_refl _))
      have m0 := cell_block HXw.out (j := 0) rfl
      have m1 := cell_block HXw.out (j := 1) rfl
      by_cases hkl : k < l.length
      · have hd : decide ((k : Int) < (l.length : Int)) = true := decide_eq_true (by omega)
        have h1 := wholeK_b s l HB.out k
        have h2 := courseW_b (s := s) HB.out hkl
        have HS := hid (wholeK s l k hkl)
        have HC := hid (HU k hkl wr HXw.out HAw.out).out
        obtain ⟨q, hq⟩ : ∃ q, q = ((courseWs s l).take k).sum := ⟨_, rfl⟩
        obtain ⟨n, hn⟩ : ∃ n, n = courseW s l k := ⟨_, rfl⟩
        have HC : Hid (∀ K, (∀ e w', (∃ v, e = .returned (.tuple #[.int .i64 n, v]) ∧ Below wr.heap.size wr w') → K e w') → Calls Try.prog 44 #[.pointer (some ⟨w.heap.size, 0, none⟩), .int .i64 k] wr K) := by
          intro K hK
          refine HC.out.mono fun e w' h => hK e w' ?_
          obtain ⟨v, he, hb, _⟩ := h
          exact ⟨v, by rw [hn]; exact he, hb⟩
        rw [← hq] at h1 HS ⊢
        rw [← hn] at h2 HS
        clear hq hn
        have h3 : 0 ≤ q + n ∧ q + n ≤ 2000000000000 := by omega
        go_wp2_with (go_at_call 44; ((with_reducible refine HC.out _ ?_); rintro e w2 ⟨v, rfl, hb2⟩))
        exact ⟨⟨k + 1, by omega, by go_num, congrArg (Value.int .i64) HS.out.symm, hb.out.trans (hb2.mono hb.out.size)⟩, by simp [intOf]; omega⟩
      · obtain rfl : k = l.length := by omega
        have hd : decide ((l.length : Int) < (l.length : Int)) = false := decide_eq_false (by omega)
        have HZ : Hid (((courseWs s l).take l.length).sum = wholeL s l) := by show _ = _; unfold wholeL; rw [List.take_of_length_le (by rw [courseWs_len]; exact Nat.le_refl _)]
        rw [HZ.out]
        go_wp2_with fail
        go_ret2
        exact ⟨rfl, HB1.out.trans (hb.out.mono HB1.out.size)⟩
end Go.Proofs.Ytohdfnbjfhiacaa
