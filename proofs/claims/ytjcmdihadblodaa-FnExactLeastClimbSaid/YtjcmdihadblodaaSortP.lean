/- l04Sorted: places sorted by insertion. -/
import Derived.Test.YtjcmdihadblodaaRowQ
import Derived.Sort.LotA
namespace Go.Proofs.Ytjcmdihadblodaa
open Go.RowKit
set_option linter.unusedSimpArgs false
set_option linter.unusedVariables false

def sortP (l : List (Int × Int)) : List (Int × Int) := (Sort.insertionSort lessP l.toArray 0 l.length).toList
theorem swp_list {α : Type} [Inhabited α] (L : List α) (i j : Nat) (x y : α) (hi : L[i]? = some x) (hj : L[j]? = some y) : (Sort.swp L.toArray i j) = ((L.set i y).set j x).toArray := by
  have h1 : L.toArray[i]! = x := by simp [hi]
  have h2 : L.toArray[j]! = y := by simp [hj]
  unfold Sort.swp
  rw [h1, h2]
  simp
theorem insInner_no {D : List (Int × Int)} {j : Nat} {x y : Int × Int} (hx : D[j + 1]? = some x) (hy : D[j]? = some y) (h : lessP x y = false) : Sort.insInner lessP 0 (j + 1) D.toArray = D.toArray := by
  rw [Sort.insInner]
  have h1 : D.toArray[j + 1]! = x := by simp [hx]
  have h2 : D.toArray[j]! = y := by simp [hy]
  rw [h1, h2, h]
  simp
theorem insInner_yes {D : List (Int × Int)} {j : Nat} {x y : Int × Int} (hx : D[j + 1]? = some x) (hy : D[j]? = some y) (h : lessP x y = true) : Sort.insInner lessP 0 (j + 1) D.toArray = Sort.insInner lessP 0 j ((D.set (j + 1) y).set j x).toArray := by
  rw [Sort.insInner]
  have h1 : D.toArray[j + 1]! = x := by simp [hx]
  have h2 : D.toArray[j]! = y := by simp [hy]
  rw [h1, h2, h, swp_list D (j + 1) j x y hx hy]
  simp
set_option maxHeartbeats 3200000 in
set_option maxRecDepth 100000 in
theorem c_l04Sorted (A : Option Addr) (c : Nat) (l : List (Int × Int)) (hlen : l.length ≤ 1000) (w : World) (hA : PairsAt .i8 .i8 w A l) :
    Calls Try.prog 39 #[.slice A l.length c] w fun e w' => ∃ v, e = .returned v ∧ Below w.heap.size w w' ∧ RowQ w.heap.size w' v (sortP l) := by
  have hF : Sort.insOuter lessP 0 l.length 1 l.toArray = (sortP l).toArray := by unfold sortP Sort.insertionSort; simp
  obtain ⟨F, hFe⟩ : ∃ F, F = sortP l := ⟨_, rfl⟩
  rw [← hFe] at hF ⊢
  have HF := hid hF
  obtain ⟨n, hn⟩ : ∃ n, n = l.length := ⟨_, rfl⟩
  have HNL := hid hn
  have B0 : Below w.heap.size w (w.alloc (.cells #[] 58)) := (Below.refl _ w).alloc (Nat.le_refl _) _
  have HA := hid (hA.below B0 (Nat.le_refl _))
  have HM := hid (RowQ.made (B := w.heap.size) (w := w) (Nat.le_refl _))
  have HB0 := hid B0
  have hn1000 : n ≤ 1000 := by omega
  clear hA hF hFe B0 hn
  go_enter Try.func39, Try.ntmps39
  go_wp2_with ((with_reducible refine gate (N := 9) rfl ?_); (refine wp_appQ rfl (.tmp 7) (.tmp 8) rfl w.heap.size _ [] l HM.out rfl A c HA.out rfl (by simp; omega) HB0.out.size ?_; intro v' w2 hown hg; have HB2 := hid (HB0.out.trans (HM.out.belowG hg HB0.out.size)); rw [List.nil_append] at hown; obtain ⟨A', c', rfl⟩ := hown.slc; have HO2 := hid hown; have HCap := hid hown.cap; clear hown hg))
  rw [← HNL.out]
  rw [← HNL.out] at HO2 HCap HF
  go_loopw [4] (fun i wr => ∃ (i' : Nat) (L : List (Int × Int)), 1 ≤ i' ∧ i' ≤ n + 1 ∧ i = .int .i64 i' ∧ L.length = n ∧ Hid (Below w.heap.size w wr) ∧ Hid (RowQ w.heap.size wr (.slice A' n c') L) ∧ Hid (Sort.insOuter lessP 0 n i' L.toArray = F.toArray)) (fun i _ => n + 1 - (intOf i).toNat)
  case atStart => exact ⟨1, l, by omega, by omega, rfl, HNL.out.symm, HB2.out, HO2.out, HF.out⟩
  case round =>
    obtain ⟨i, L, hi1, hi2, rfl, hL, hb, hO, hI⟩ := hrel
    have HL := hid hL
    clear hL
    by_cases hil : i < n
    · have hd : decide ((i : Int) < (n : Int)) = true := decide_eq_true (by omega)
      rw [Sort.insOuter, if_pos hil] at hI
      go_wp2_with fail
      go_loopw [5, 6] (fun k x6 wr => ∃ (k' : Nat) (D : List (Int × Int)), k' ≤ i ∧ k = .int .i64 k' ∧ Hid (D.length = n) ∧ Hid (Below w.heap.size w wr) ∧ Hid (RowQ w.heap.size wr (.slice A' n c') D) ∧ Hid (Sort.insOuter lessP 0 n (i + 1) (Sort.insInner lessP 0 k' D.toArray) = F.toArray)) (fun k _ _ => (intOf k).toNat)
      case atStart => exact ⟨i, L, Nat.le_refl _, rfl, HL.out, hb.out, hO.out, hI.out⟩
      case round =>
        clear hb hO hI HL
        obtain ⟨k, D, hk, rfl, hD, hb, hO, hI⟩ := hrel
        rcases k with _ | j
        · have hk0 : decide ((0 : Int) > 0) = false := rfl
          rw [Sort.insInner] at hI
          go_wp2_with fail
          refine wp_region_ext wr.heap.size (by kernel_rfl) (by kernel_rfl) ?_
          repeat (go_big_quiet_step (fail))
          refine wpQuiet_nil ?_
          intro x
          go_wp2_with fail
          refine ⟨⟨i + 1, D, by omega, by omega, by go_num, hD.out, hb.out.trans (x.below.mono hb.out.size), hO.out.below x.below (Nat.le_refl _), hI.out⟩, by simp [intOf]; omega⟩
        · have hjn : j + 1 < D.length := by have := hD.out; omega
          obtain ⟨⟨x1, x2⟩, hx⟩ : ∃ x, D[j + 1]? = some x := ⟨_, List.getElem?_eq_getElem hjn⟩
          obtain ⟨⟨y1, y2⟩, hy⟩ : ∃ y, D[j]? = some y := ⟨_, List.getElem?_eq_getElem (by omega)⟩
          obtain ⟨g, cg, eg, p1, p2, p3, p4, p5, p6⟩ := hO.out.cell hx
          obtain ⟨g', cg', eg', q1, q2, q3, q4, q5, q6⟩ := hO.out.cell hy
          obtain ⟨rfl, rfl⟩ : g = g' ∧ cg = cg' := by rw [eg] at eg'; simpa using eg'
          obtain ⟨rfl, rfl⟩ : A' = some ⟨g, 0, none⟩ ∧ cg = c' := by simp at eg; exact ⟨eg.1, eg.2.2.symm⟩
          clear eg eg'
          have hcap := HCap.out
          have s1 : (j : Int) + 1 > 0 := by omega
          have hkpos : decide ((j : Int) + 1 > 0) = true := decide_eq_true s1
          have s2 : (0 : Int) ≤ (j : Int) := by omega
          have s3 : j + 1 + 1 ≤ cg := by have := hD.out; omega
          have s4 : j + 1 ≤ cg := by omega
          obtain ⟨bl, hbl⟩ : ∃ bl, lessP (x1, x2) (y1, y2) = bl := ⟨_, rfl⟩
          have HL3 : Hid (∀ (c1 c2 : Nat) (x : Ext wr.heap.size wr), Calls Try.prog 62 #[.slice (some ⟨g, (j + 1) * 2, none⟩) 1 c1, .slice (some ⟨g, j * 2, none⟩) 1 c2] x.out fun e w' => e = .returned (.bool bl) ∧ Below x.out.heap.size x.out w') := fun c1 c2 x => by
            rw [← hbl]
            exact c_l03Less1 x1 x2 y1 y2 g _ g _ c1 c2 x.out ((x.below.cell (p := ⟨g, _, none⟩) p2).trans p3) ((x.below.cell (p := ⟨g, _, none⟩) p2).trans p4) ((x.below.cell (p := ⟨g, _, none⟩) p2).trans q3) ((x.below.cell (p := ⟨g, _, none⟩) p2).trans q4) (Nat.lt_of_lt_of_le p2 x.below.size) (Nat.lt_of_lt_of_le p2 x.below.size)
          have HBL := hid hbl
          have HX := hid hx
          have HY := hid hy
          clear hx hy hbl hcap hjn
          cases bl
          · go_wp2_with fail
            refine wp_region_ext wr.heap.size (by kernel_rfl) (by kernel_rfl) ?_
            repeat (go_big_quiet_step ((go_at_call 62; with_reducible exact Calls.ext (Nat.le_refl _) (HL3.out _ _ _))))
            refine wpQuiet_nil ?_
            intro x
            rw [Hid, insInner_no HX.out HY.out HBL.out] at hI
            go_wp2_with fail
            refine ⟨⟨i + 1, D, by omega, by omega, by go_num, hD.out, hb.out.trans (x.below.mono hb.out.size), hO.out.below x.below (Nat.le_refl _), hI⟩, by simp [intOf]; omega⟩
          · go_wp2_with fail
            refine wp_region_ext wr.heap.size (by kernel_rfl) (by kernel_rfl) ?_
            repeat (go_big_quiet_step ((go_at_call 62; with_reducible exact Calls.ext (Nat.le_refl _) (HL3.out _ _ _))))
            refine wpQuiet_nil ?_
            intro x
            rw [Hid, insInner_yes HX.out HY.out HBL.out] at hI
            have HI := hid hI
            have HOx := hid (hO.out.below x.below (Nat.le_refl _))
            have HBx := hid (hb.out.trans (x.below.mono hb.out.size))
            have P3 := (x.below.cell (p := ⟨g, _, none⟩) p2).trans p3
            have P4 := (x.below.cell (p := ⟨g, _, none⟩) p2).trans p4
            have Q3 := (x.below.cell (p := ⟨g, _, none⟩) p2).trans q3
            have Q4 := (x.below.cell (p := ⟨g, _, none⟩) p2).trans q4
            have P5 := (x.below.frozen (p := ⟨g, _, none⟩) p2).trans p5
            have P6 := (x.below.frozen (p := ⟨g, _, none⟩) p2).trans p6
            have Q5 := (x.below.frozen (p := ⟨g, _, none⟩) p2).trans q5
            have Q6 := (x.below.frozen (p := ⟨g, _, none⟩) p2).trans q6
            have hg : g < x.out.heap.size := Nat.lt_of_lt_of_le p2 x.below.size
            obtain ⟨X, hXX⟩ : ∃ X, X = x.out := ⟨_, rfl⟩
            rw [← hXX] at HOx HBx P3 P4 Q3 Q4 P5 P6 Q5 Q6 hg ⊢
            have hgne : g ≠ X.heap.size := by omega
            clear hXX p2 p3 p4 p5 p6 q2 q3 q4 q5 q6 hO hb hI
            go_wp2_with fail
            have hDl : D.length = n := hD.out
            have hR := (HOx.out.set2 (k := j + 1) (by omega) y1 y2).set2 (k := j) (by rw [List.length_set]; omega) x1 x2
            have hBl := (((HBx.out.setCell (p := ⟨g, (j + 1) * 2, none⟩) p1 (.int .i8 y1)).setCell (p := ⟨g, (j + 1) * 2 + 1, none⟩) p1 (.int .i8 y2)).setCell (p := ⟨g, j * 2, none⟩) p1 (.int .i8 x1)).setCell (p := ⟨g, j * 2 + 1, none⟩) p1 (.int .i8 x2)
            refine ⟨⟨j, (D.set (j + 1) (y1, y2)).set j (x1, x2), by omega, rfl, by rw [Hid, List.length_set, List.length_set]; exact hDl, hBl.alloc hBl.size _, hR.alloc _, HI.out⟩, by simp [intOf]⟩
    · have hd : decide ((i : Int) < (n : Int)) = false := decide_eq_false (by omega)
      rw [Sort.insOuter, if_neg hil] at hI
      go_wp2_with fail
      go_ret
      obtain rfl : L = F := by have := congrArg Array.toList hI.out; simpa using this
      exact ⟨_, rfl, hb.out, hO.out⟩
end Go.Proofs.Ytjcmdihadblodaa
