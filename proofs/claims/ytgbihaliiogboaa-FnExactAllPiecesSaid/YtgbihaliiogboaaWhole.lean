/- How many tiles of a shape are laid whole: the program's and the reference's. -/
import Derived.Test.YtgbihaliiogboaaLaid
import Derived.Test.YtgbihaliiogboaaEachII
namespace Go.Proofs.Ytgbihaliiogboaa
open Go.RowKit
set_option linter.unusedSimpArgs false
set_option linter.unusedVariables false

theorem Try.infoInt : (Try.prog.info? 3).map (fun i => (i.zero, i.size, i.bytes)) = some (some (.int .i64 0), 1, 8) := by kernel_rfl
/-- The numbers below n. -/
def upL (n : Nat) : List Int := (List.range n).map fun i : Nat => (i : Int)
theorem upL_len (n : Nat) : (upL n).length = n := by simp [upL]
theorem upL_succ (n : Nat) : upL (n + 1) = upL n ++ [(n : Int)] := by simp [upL, List.range_succ]
theorem sli_ownI {w : World} {base : Nat} {v : Value} {l : List Int} (h : w.ownsRow base 3 1 v l.length (icells l)) : ∃ A c, v = .slice A l.length c ∧ SlI w A l := by
  rcases h.2 with ⟨rfl, hn⟩ | ⟨g, cap, cur, rfl, hb, hg, hc, hm, hs, ht⟩
  · exact ⟨none, 0, by rw [hn], fun j n hj => by have := List.eq_nil_of_length_eq_zero hn; subst this; simp at hj⟩
  · refine ⟨_, cap, rfl, fun j n hj => ⟨g, 0, rfl, block_lt hg, ?_⟩⟩
    have hjl := (List.getElem?_eq_some_iff.1 hj).1
    have hp : (icells l)[j]? = some (.int .i64 n) := by unfold icells; rw [List.getElem?_map, hj]; rfl
    rw [← ht, List.getElem?_take, if_pos (by omega)] at hp
    rw [Nat.zero_add]
    exact cell_block hg (by simpa using hp)
set_option maxHeartbeats 800000 in
set_option maxRecDepth 100000 in
theorem c_upTo (n : Nat) (hn : n ≤ 1000000) (w : World) :
    Calls Try.prog 64 #[.int .i64 n] w fun e w' => ∃ v, e = .returned v ∧ Below w.heap.size w w' ∧ w'.ownsRow w.heap.size 3 1 v (upL n).length (icells (upL n)) := by
  obtain ⟨i0, hi, hz0, hz1, hz2⟩ := info_parts Try.infoInt
  go_enter Try.func64, Try.ntmps64
  go_wp2_with fail
  go_loopw [3, 6] (fun v i wr => ∃ k : Nat, k ≤ n ∧ i = .int .i64 k ∧ Hid (Below w.heap.size w wr) ∧ Hid (wr.ownsRow w.heap.size 3 1 v (upL k).length (icells (upL k)))) (fun _ i _ => n - (intOf i).toNat)
  case atStart => exact ⟨0, by omega, rfl, Below.refl _ _, World.ownsRow_nil _ _ _ _⟩
  case round =>
    obtain ⟨k, hk, rfl, hb, hO⟩ := hrel
    by_cases hkl : k < n
    · have hd : decide ((k : Int) < (n : Int)) = true := decide_eq_true (by omega)
      have HLE : Hid ((upL k).length ≤ 1000000) := by rw [upL_len]; exact Nat.le_trans hk hn
      have HBS := hid hb.out.size
      have HY := hid (upL_succ k)
      go_wp2_with ((with_reducible refine gate (N := 12) rfl ?_); refine wpList_append_own _ rfl (.tmp 9) (.tmp 11) 93 rfl w.heap.size 3 i0 (.int .i64 0) 1 8 Try.underlying93 hi hz0 hz1 hz2 rfl (by decide) _ _ _ rfl (hO.out.alloc _) ⟨wr.heap.size, 0, none⟩ 1 1 [.int .i64 k] rfl rfl (cell_one_new' wr _ _) (by simp [Value.oneCell']) (Nat.le_trans (Nat.add_le_add_right HLE.out 1) (by decide)) (by have := HLE.out; omega) (Nat.le_trans HBS.out (by simp)) ?_; intro v' w3 hown3 hgrow _)
      refine ⟨⟨k + 1, by omega, by go_num, (hb.out.alloc HBS.out _).grown hgrow (by have := HBS.out; simp; omega) (fun k hk => (hO.out.lt k hk).1), ?_⟩, by simp [intOf]; omega⟩
      show World.ownsRow _ _ _ _ _ _ _
      rw [HY.out, List.length_append]
      unfold icells
      rw [List.map_append]; exact hown3
    · obtain rfl : k = n := by omega
      have hd : decide ((k : Int) < (k : Int)) = false := decide_eq_false (by omega)
      go_wp2_with fail
      go_ret
      exact ⟨_, rfl, hb.out, hO.out⟩
/-- How many tiles of course i are laid whole, and its pieces. -/
def courseW (s : Int) (l : List (Int × Int)) (i : Nat) : Int := laidW (l.getD i (0, 0)).1 (l.getD i (0, 0)).2 (beginB s i) (laidN (l.getD i (0, 0)).2 (beginB s i))
def courseP (s : Int) (l : List (Int × Int)) (i : Nat) : List (Int × Int) := laidP (l.getD i (0, 0)).1 (l.getD i (0, 0)).2 (beginB s i) (laidN (l.getD i (0, 0)).2 (beginB s i))
theorem getD_of {l : List (Int × Int)} {i : Nat} {p : Int × Int} (h : l[i]? = some p) : l.getD i (0, 0) = p := by rw [List.getD_eq_getElem?_getD, h]; rfl
theorem courseW_of {s : Int} {l : List (Int × Int)} {i : Nat} {L R : Int} (h : l[i]? = some (L, R)) : laidW L R (beginB s i) (laidN R (beginB s i)) = courseW s l i := by unfold courseW; rw [getD_of h]
theorem courseP_of {s : Int} {l : List (Int × Int)} {i : Nat} {L R : Int} (h : l[i]? = some (L, R)) : laidP L R (beginB s i) (laidN R (beginB s i)) = courseP s l i := by unfold courseP; rw [getD_of h]
theorem laidN_le {R B : Int} (hR : R ≤ 200) (hB : 0 ≤ B) : laidN R B ≤ 30 := by unfold laidN; omega
theorem courseW_b {s : Int} {l : List (Int × Int)} {i : Nat} (h : ∀ p ∈ l, 0 ≤ p.1 ∧ p.1 < p.2 ∧ p.2 ≤ 200) (hi : i < l.length) : 0 ≤ courseW s l i ∧ courseW s l i ≤ 30 := by
  have h1 := h _ (List.getElem_mem hi)
  have e : l.getD i (0, 0) = l[i] := getD_of (List.getElem?_eq_getElem hi)
  unfold courseW
  rw [e]
  have := laidW_le l[i].1 l[i].2 (beginB s i) (laidN l[i].2 (beginB s i))
  have := laidN_le h1.2.2 (beginB_04 s i).1
  omega
theorem courseW_bs (s : Int) {l : List (Int × Int)} (h : ∀ p ∈ l, 0 ≤ p.1 ∧ p.1 < p.2 ∧ p.2 ≤ 200) : ∀ n ∈ (upL l.length).map (fun n => courseW s l n.toNat), 0 ≤ n ∧ n ≤ 1000000 := by
  intro n hn
  obtain ⟨p, hp, hpn⟩ := List.mem_map.1 hn
  obtain ⟨i, hi, hpi⟩ := List.mem_map.1 hp
  subst hpi
  rw [Int.toNat_natCast] at hpn
  have h1 := courseW_b (s := s) h (List.mem_range.1 hi)
  rw [hpn] at h1
  omega
def courseWs (s : Int) (l : List (Int × Int)) : List Int := (upL l.length).map fun n => courseW s l n.toNat
theorem courseWs_len (s : Int) (l : List (Int × Int)) : (courseWs s l).length = l.length := by unfold courseWs; rw [List.length_map, upL_len]
def wholeL (s : Int) (l : List (Int × Int)) : Int := (courseWs s l).sum
/-- What 'laid' returns of a course that is there. -/
def RetLaid (w : World) (s : Int) (l : List (Int × Int)) (i : Nat) (e : Ending) (w' : World) : Prop := ∃ v, e = .returned (.tuple #[.int .i64 (courseW s l i), v]) ∧ Below w.heap.size w w' ∧ w'.ownsRow w.heap.size 64 2 v (courseP s l i).length (ccells (courseP s l i))
theorem c_laidC (s : Int) (hs : 0 ≤ s ∧ s ≤ 1) (A : Option Addr) (c : Nat) (l : List (Int × Int)) (hB : ∀ p ∈ l, 0 ≤ p.1 ∧ p.1 < p.2 ∧ p.2 ≤ 200) (i : Nat) (hi : i < l.length) (hlen : l.length ≤ 1048576) (w : World) (hA : PairsAt .i16 .i16 w A l) :
    Calls Try.prog 37 #[.agg #[.int .u8 s, .slice A l.length c], .int .i64 i] w (RetLaid w s l i) := by
  have h1 := List.getElem?_eq_getElem hi
  have h2 := hB _ (List.getElem_mem hi)
  obtain ⟨⟨L, R⟩, hn⟩ : ∃ n, n = l[i] := ⟨_, rfl⟩
  rw [← hn] at h1 h2
  have := c_laid s hs A c l i L R h1 h2 hlen w hA
  rw [courseW_of h1, courseP_of h1] at this
  exact this
theorem c_l05CourseC (s : Int) (hs : 0 ≤ s ∧ s ≤ 1) (A : Option Addr) (c : Nat) (l : List (Int × Int)) (hB : ∀ p ∈ l, 0 ≤ p.1 ∧ p.1 < p.2 ∧ p.2 ≤ 200) (i : Nat) (hi : i < l.length) (hlen : l.length ≤ 1048576) (bs : Nat) (w : World) (hx : w.heap[bs]? = some (.cells #[.int .u8 s, .slice A l.length c] 31 (0, 0))) (hA : PairsAt .i16 .i16 w A l) :
    Calls Try.prog 33 #[.pointer (some ⟨bs, 0, none⟩), .int .i64 i] w (RetLaid w s l i) := by
  have h1 := List.getElem?_eq_getElem hi
  have h2 := hB _ (List.getElem_mem hi)
  obtain ⟨⟨L, R⟩, hn⟩ : ∃ n, n = l[i] := ⟨_, rfl⟩
  rw [← hn] at h1 h2
  have := c_l05Course s hs A c l i L R h1 h2 hlen bs w hx hA
  rw [courseW_of h1, courseP_of h1] at this
  exact this
def wholeN (s : Int) (l : List (Int × Int)) : Int := if shOk s l = true then wholeL s l else 0
theorem wholeK (s : Int) (l : List (Int × Int)) (k : Nat) (hk : k < l.length) : ((courseWs s l).take (k + 1)).sum = ((courseWs s l).take k).sum + courseW s l k := by
  rw [sum_take_succ _ k (by rw [courseWs_len]; exact hk)]
  congr 1
  simp [courseWs, upL]
theorem wholeK_b (s : Int) (l : List (Int × Int)) (hB : ∀ p ∈ l, 0 ≤ p.1 ∧ p.1 < p.2 ∧ p.2 ≤ 200) (k : Nat) : 0 ≤ ((courseWs s l).take k).sum ∧ ((courseWs s l).take k).sum ≤ 1000000 * k := by
  have h := sum_le ((courseWs s l).take k) 1000000 (by decide) fun n hn => courseW_bs s hB n (List.mem_of_mem_take hn)
  have h2 : ((courseWs s l).take k).length ≤ k := by rw [List.length_take]; omega
  omega
end Go.Proofs.Ytgbihaliiogboaa
