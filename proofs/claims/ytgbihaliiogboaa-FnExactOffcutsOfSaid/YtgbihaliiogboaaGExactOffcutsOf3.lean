/- Texts of the claim FnExactOffcutsOf, part 3 of 5. -/
import Derived.Test.YtgbihaliiogboaaGExactOffcutsOf2
import Derived.BigRegion
import Derived.Shelf.Abstract
/- A stable sort by insertion and merging in place: exchanges and rotations of a row of numbers. -/
namespace Go.Proofs.Ytgbihaliiogboaa
open Go.RowKit
set_option linter.unusedSimpArgs false
set_option linter.unusedVariables false

def cellsF (f : Nat → Int) (n : Nat) : List Value := (List.range n).map fun k => .int .i64 (f k)
theorem cellsF_len (f : Nat → Int) (n : Nat) : (cellsF f n).length = n := by simp [cellsF]
theorem cellsF_get (f : Nat → Int) {n k : Nat} (h : k < n) : (cellsF f n)[k]? = some (.int .i64 (f k)) := by
  unfold cellsF
  rw [List.getElem?_map, List.getElem?_range h]; rfl
theorem cellsF_congr {f f' : Nat → Int} {n : Nat} (h : ∀ k, k < n → f k = f' k) : cellsF f n = cellsF f' n := by
  unfold cellsF
  refine List.map_congr_left fun k hk => ?_
  rw [h k (List.mem_range.1 hk)]
theorem cellsF_set (f : Nat → Int) {n k : Nat} (h : k < n) (v : Int) : (cellsF f n).set k (.int .i64 v) = cellsF (fun y => if y = k then v else f y) n := by
  apply List.ext_getElem?
  intro y
  rw [List.getElem?_set]
  by_cases e : k = y
  · subst e; rw [if_pos rfl, cellsF_len, if_pos h, cellsF_get _ h, if_pos rfl]
  · rw [if_neg e]
    by_cases hy : y < n
    · rw [cellsF_get _ hy, cellsF_get _ hy, if_neg (fun e' => e e'.symm)]
    · rw [List.getElem?_eq_none (by rw [cellsF_len]; omega), List.getElem?_eq_none (by rw [cellsF_len]; omega)]
/-- The block g starts with n numbers. -/
def IntB (B : Nat) (w : World) (g n c : Nat) (f : Nat → Int) : Prop := w.ownsRow B 3 1 (.slice (some ⟨g, 0, none⟩) n c) n (cellsF f n)
theorem IntB.lt {B : Nat} {w : World} {g n c : Nat} {f : Nat → Int} (h : IntB B w g n c f) : B ≤ g ∧ g < w.heap.size := World.ownsRow.lt h g rfl
theorem IntB.cell {B : Nat} {w : World} {g n c : Nat} {f : Nat → Int} (h : IntB B w g n c f) {k : Nat} (hk : k < n) : w.cell? ⟨g, k, none⟩ = some (.int .i64 (f k)) ∧ w.frozen? ⟨g, k, none⟩ = false := by
  obtain ⟨g', c', e, _, _, h1, h2⟩ := owns_cell h (cellsF_get f hk)
  obtain ⟨rfl, _⟩ : g = g' ∧ c = c' := by simpa using e
  exact ⟨h1, h2⟩
theorem IntB.set {B : Nat} {w : World} {g n c : Nat} {f : Nat → Int} (h : IntB B w g n c f) {k : Nat} (hk : k < n) (v : Int) : IntB B (w.setCell ⟨g, k, none⟩ (.int .i64 v)) g n c (fun y => if y = k then v else f y) := by
  have := owns_set h (g := g) rfl k (by omega) (.int .i64 v)
  rw [cellsF_set f hk v] at this
  exact this
theorem IntB.sw2 {B : Nat} {w : World} {g n c : Nat} {f : Nat → Int} (h : IntB B w g n c f) {i j : Nat} (hi : i < n) (hj : j < n) : IntB B ((w.setCell ⟨g, i, none⟩ (.int .i64 (f j))).setCell ⟨g, j, none⟩ (.int .i64 (f i))) g n c (sw2 i j f) :=
  (h.set hi (f j)).set hj (f i)
theorem IntB.below {B B' : Nat} {w w' : World} {g n c : Nat} {f : Nat → Int} (h : IntB B w g n c f) (hb : Below B' w w') (hB : w.heap.size ≤ B') : IntB B w' g n c f := owns_below2 h hb hB
theorem IntB.congr {B : Nat} {w : World} {g n c : Nat} {f f' : Nat → Int} (h : IntB B w g n c f) (he : ∀ k, k < n → f k = f' k) : IntB B w g n c f' := by
  unfold IntB at h ⊢
  rw [← cellsF_congr he]; exact h
theorem IntB.drew {B : Nat} {w : World} {g n c : Nat} {f : Nat → Int} (h : IntB B w g n c f) : IntB B w.drew g n c f := h.below ((Below.refl w.heap.size w).drew) (Nat.le_refl _)
theorem butt_sw2 (w : World) (g i j : Nat) (u v : Value) : Butt g w ((w.setCell ⟨g, i, none⟩ u).setCell ⟨g, j, none⟩ v).drew := ((Butt.set g w i u).trans (Butt.set g _ j v)).trans (Butt.of ((Below.refl _ _).drew))
theorem setcell_cell {w : World} {g i j : Nat} {u v : Value} (h : w.cell? ⟨g, j, none⟩ = some v) (hne : i ≠ j) : (w.setCell ⟨g, i, none⟩ u).cell? ⟨g, j, none⟩ = some v := by
  exact (World.cell?_setCell_other _ _ (a := ⟨g, i, none⟩) (b := ⟨g, j, none⟩) (fun e => hne (congrArg Addr.off e))).trans h
set_option maxRecDepth 100000 in
theorem c_swapRange (B g n c a b k : Nat) (hab : a + k ≤ b) (hb : b + k ≤ n) (hn : n ≤ 1000) (fv : Value) (f : Nat → Int) (w : World) (h : IntB B w g n c f) :
    Calls Try.prog 97 #[.slice (some ⟨g, 0, none⟩) n c, .int .i64 a, .int .i64 b, .int .i64 k, fv] w fun e w' => e = .returned (.tuple #[]) ∧ Butt g w w' ∧ IntB B w' g n c (swpF a b k f) := by
  have H := hid h
  have HZ : Hid (IntB B w g n c (swpF a b 0 f)) := by rw [swpF_zero]; exact H.out
  clear h H
  go_enter Try.func97, Try.ntmps97
  go_wp2_with fail
  go_loopw [10] (fun v wr => ∃ i : Nat, i ≤ k ∧ v = .int .i64 i ∧ Hid (Butt g w wr) ∧ Hid (IntB B wr g n c (swpF a b i f))) (fun v _ => k - (intOf v).toNat)
  case atStart => exact ⟨0, by omega, rfl, Butt.refl _ _, HZ.out⟩
  case round =>
    clear HZ
    obtain ⟨wo, rfl⟩ : ∃ W, W = wr := ⟨_, rfl⟩
    obtain ⟨i, hi, rfl, hb1, hr⟩ := hrel
    by_cases hlt : i < k
    · have hd : decide ((i : Int) < (k : Int)) = true := decide_eq_true (by omega)
      obtain ⟨x, hx⟩ : ∃ x, x = a + i := ⟨_, rfl⟩
      obtain ⟨y, hy⟩ : ∃ y, y = b + i := ⟨_, rfl⟩
      have e1 : IntKind.i64.wrap ((a : Int) + (i : Int)) = (x : Int) := by rw [IntWalk.i64_in _ (by omega)]; omega
      have e2 : IntKind.i64.wrap ((b : Int) + (i : Int)) = (y : Int) := by rw [IntWalk.i64_in _ (by omega)]; omega
      have x0 : (0 : Int) ≤ (x : Int) := by omega
      have x1 : (x : Int) < (n : Int) := by omega
      have y0 : (0 : Int) ≤ (y : Int) := by omega
      have y1 : (y : Int) < (n : Int) := by omega
      obtain ⟨c1, z1⟩ := hr.out.cell (k := x) (by omega)
      obtain ⟨c2, z2⟩ := hr.out.cell (k := y) (by omega)
      have HN := hid ((hr.out.sw2 (i := x) (j := y) (by omega) (by omega)).drew)
      obtain ⟨vx, hvx⟩ : ∃ v, v = swpF a b i f x := ⟨_, rfl⟩
      obtain ⟨vy, hvy⟩ : ∃ v, v = swpF a b i f y := ⟨_, rfl⟩
      rw [← hvx] at c1 HN
      rw [← hvy] at c2 HN
      have c3 : (wo.setCell ⟨g, x, none⟩ (.int .i64 vy)).cell? ⟨g, y, none⟩ = some (.int .i64 vy) := setcell_cell c2 (by omega)
      rw [hx, hy, swpF_succ (by omega)] at HN
      rw [← hx, ← hy] at HN
      have HLT := hid hlt
      have hi1 : (i : Int) ≤ 1000 := by omega
      clear hvx hvy hx hy hab hb hn hlt
      go_wp2_with fail
      go_big_region
      go_wp2_with fail
      refine ⟨⟨i + 1, by have := HLT.out; omega, by go_num, hb1.out.trans (butt_sw2 _ _ _ _ _ _), HN.out⟩, by have := HLT.out; simp [intOf]; omega⟩
    · obtain rfl : i = k := by omega
      have hd : decide ((i : Int) < (i : Int)) = false := decide_eq_false (by omega)
      go_wp2_with fail
      go_end0
      exact ⟨rfl, hb1.out, hr.out⟩
end Go.Proofs.Ytgbihaliiogboaa

/- A stable sort by insertion and merging in place: the insertion. -/
namespace Go.Proofs.Ytgbihaliiogboaa
open Go.RowKit
set_option linter.unusedSimpArgs false
set_option linter.unusedVariables false
/-- The function value compares the numbers below n by cz, as long as nothing ahead of block g is turned. -/
def CmpK (fn : Nat) (fst cap : Array Value) (cz : Int → Int → Int) (n g : Nat) (w0 : World) : Prop :=
  ∀ (W : World) (x y : Int), (0 ≤ x ∧ x < n) → (0 ≤ y ∧ y < n) → Below g w0 W → Calls Try.prog fn (fst ++ (#[.int .i64 x, .int .i64 y] ++ cap)) W fun e w' => e = .returned (.int .i64 (cz x y)) ∧ Below W.heap.size W w'
/-- What sorting a part leaves. -/
def SrtRet (B g n c a b : Nat) (ρ : Int → Int) (f : Nat → Int) (w : World) (e : Ending) (w' : World) : Prop := e = .returned (.tuple #[]) ∧ ∃ f', Butt g w w' ∧ IntB B w' g n c f' ∧ Same a b f f' ∧ Asc ρ a b f'
theorem butt_below {g B : Nat} {w0 w w' : World} (h : Below g w0 w) (hb : Butt g w w') (hg : g ≤ w.heap.size) : Below g w0 w' := h.trans (hb.below (Nat.le_refl _) hg)
theorem rotF_one (i : Nat) (f : Nat → Int) : rotF i i (i + 1) f = f := by
  funext k
  unfold rotF
  by_cases h : i ≤ k ∧ k < i + (i + 1 - i)
  · rw [if_pos h]; congr 1; omega
  · rw [if_neg h, if_neg (by omega)]
set_option maxHeartbeats 1600000 in
set_option maxRecDepth 100000 in
theorem c_insSort (B g n c : Nat) (hn : n ≤ 1000) (fn : Nat) (fst cap : Array Value) (eg : ∀ args w, (callFunc fn args).run Try.prog w = .ok (.enter fn args) w) (cz : Int → Int → Int) (ρ : Int → Int) (w0 : World) (hcmp : CmpK fn fst cap cz n g w0)
    (hlt : ∀ x y : Int, 0 ≤ y → y < x → x < n → (cz x y < 0 ∧ ρ x < ρ y) ∨ (¬ cz x y < 0 ∧ ρ y < ρ x)) (a b : Nat) (hab : a ≤ b) (hb : b ≤ n) (f : Nat → Int) (hf : ∀ k, a ≤ k → k < b → f k = (k : Int)) (w : World) (hw : Below g w0 w) (h : IntB B w g n c f) :
    Calls Try.prog 94 #[.slice (some ⟨g, 0, none⟩) n c, .int .i64 a, .int .i64 b, .func (.func fn) fst cap] w (SrtRet B g n c a b ρ f w) := by
  have H := hid h
  have HW := hid hw
  have HC := hid hcmp
  have HL := hid hlt
  have HF := hid hf
  have HN : Hid (a ≤ b ∧ b ≤ n ∧ n ≤ 1000) := ⟨hab, hb, hn⟩
  have e1 : IntKind.i64.wrap ((a : Int) + 1) = ((a + 1 : Nat) : Int) := by rw [IntWalk.i64_in _ (by omega)]; omega
  obtain ⟨a1, ha1⟩ : ∃ x, x = a + 1 := ⟨_, rfl⟩
  rw [← ha1] at e1
  have HA1 := hid ha1
  clear h hw hcmp hlt hf ha1 hab hb hn
  go_enter Try.func94, Try.ntmps94
  go_wp2_with fail
  go_loopw [8] (fun v wr => ∃ (i : Nat) (f' : Nat → Int), v = .int .i64 i ∧ Hid (a + 1 ≤ i ∧ (i ≤ b ∨ i = a + 1)) ∧ Hid (Butt g w wr) ∧ Hid (IntB B wr g n c f') ∧ Hid (Same a i f f') ∧ Hid (Asc ρ a i f')) (fun v _ => b - (intOf v).toNat)
  case atStart => exact ⟨a1, f, rfl, by have := HA1.out; exact ⟨by omega, .inr this⟩, Butt.refl _ _, H.out, Same.refl _ _ _, Asc.one _ _ _ _ (by have := HA1.out; omega)⟩
  case round =>
    clear e1
    obtain ⟨wo, rfl⟩ : ∃ W, W = wr := ⟨_, rfl⟩
    obtain ⟨i, f', rfl, hi, hb1, hr, hs, ha⟩ := hrel
    obtain ⟨i1, i2⟩ := hi.out
    have hN := HN.out
    have hgw := hid (hr.out.lt).2
    have HWo := hid (butt_below (B := B) HW.out hb1.out (Nat.le_of_lt H.out.lt.2))
    by_cases hib : i < b
    · have d1 : decide ((i : Int) < (b : Int)) = true := decide_eq_true (by omega)
      have d2 : decide (i < b) = true := decide_eq_true hib
      have HIB := hid hib
      have hib1 : (i : Int) ≤ 1000 := by omega
      have hfi : Hid (f' i = (i : Int)) := by show _ = _; rw [hs.out.out i (by omega)]; exact HF.out i (by omega) hib
      clear i1 i2 hN hib
      go_wp2_with fail
      go_loopw [9] (fun v wr => ∃ j : Nat, v = .int .i64 j ∧ Hid (a ≤ j ∧ j ≤ i) ∧ Hid (Butt g wo wr) ∧ Hid (IntB B wr g n c (rotF j i (i + 1) f')) ∧ Hid (∀ k, j ≤ k → k < i → ρ (f' i) < ρ (f' k))) (fun v _ => (intOf v).toNat)
      case atStart => exact ⟨i, rfl, ⟨by have := hi.out; omega, Nat.le_refl _⟩, Butt.refl _ _, by rw [rotF_one]; exact hr.out, fun k h1 h2 => by omega⟩
      case round =>
        obtain ⟨wm, rfl⟩ : ∃ W, W = wr := ⟨_, rfl⟩
        obtain ⟨j, rfl, hj, hbm, hrm, hal⟩ := hrel
        obtain ⟨j1, j2⟩ := hj.out
        have hN := HN.out
        have hIB := HIB.out
        have hii := hi.out
        have hdone : (j = a ∨ ρ (f' (j - 1)) < ρ (f' i)) → Hid (Same a (i + 1) f (rotF j i (i + 1) f') ∧ Asc ρ a (i + 1) (rotF j i (i + 1) f')) := fun hd =>
          ⟨(hs.out.mono (Nat.le_refl _) (Nat.le_succ _)).trans ((Same.rot j2 (Nat.le_succ _) f').mono j1 (Nat.le_refl _)),
           one_last j1 j2 ha.out (fun k k1 k2 => by
            rcases hd with hd | hd
            · omega
            · by_cases e : k = j - 1
              · rw [e]; exact hd
              · exact Int.lt_trans (ha.out k (j - 1) k1 (by omega) (by omega)) hd) hal.out⟩
        by_cases hja : j = a
        · subst hja
          have HD := hdone (.inl rfl)
          have d3 : decide ((j : Int) > (j : Int)) = false := decide_eq_false (by omega)
          have d4 : decide (j < j) = false := decide_eq_false (by omega)
          clear hdone j1 j2 hN hIB hii
          go_wp2_with fail
          refine wp_region_ext wm.heap.size (by kernel_rfl) (by kernel_rfl) ?_
          repeat (go_big_quiet_step (fail))
          refine wpQuiet_nil ?_
          intro xx
          go_wp2_with fail
          refine ⟨⟨i + 1, _, by go_num, ⟨by have := hi.out.1; omega, .inl (by have := HIB.out; omega)⟩, (hb1.out.trans hbm.out).trans (Butt.of (xx.below.mono (Nat.le_refl _))), hrm.out.below xx.below (Nat.le_refl _), HD.out.1, HD.out.2⟩, by have := HIB.out; simp [intOf]; omega⟩
        · have d3 : decide ((j : Int) > (a : Int)) = true := decide_eq_true (by omega)
          have d4 : decide (a < j) = true := decide_eq_true (by omega)
          obtain ⟨c1, z1⟩ := hrm.out.cell (k := j) (by omega)
          obtain ⟨c2, z2⟩ := hrm.out.cell (k := j - 1) (by omega)
          rw [rot_b f' (Nat.le_refl j) (by omega), show j - j + i = i by omega, hfi.out] at c1
          rw [rot_a (a := 0) f' (show j - 1 < j by omega)] at c2
          have e3 : IntKind.i64.wrap ((j : Int) - 1) = ((j - 1 : Nat) : Int) := by rw [IntWalk.i64_in _ (by omega)]; omega
          obtain ⟨yv, hyv⟩ : ∃ y, y = f' (j - 1) := ⟨_, rfl⟩
          have hyr : 0 ≤ yv ∧ yv < (i : Int) := by
            obtain ⟨k, k1, k2, e⟩ := hs.out.to (j - 1) (by omega) (by omega)
            rw [hyv, e, HF.out k k1 (by omega)]; omega
          have hc := HL.out (i : Int) yv hyr.1 hyr.2 (by omega)
          have HCC := fun W h => hid (HC.out W (i : Int) yv ⟨by omega, by omega⟩ ⟨hyr.1, by omega⟩ h)
          have HWm := hid (butt_below (B := B) HWo.out hbm.out (Nat.le_of_lt hgw.out))
          have HSW : ∀ W, IntB B W g n c (rotF j i (i + 1) f') → Hid (IntB B ((W.setCell ⟨g, j, none⟩ (.int .i64 yv)).setCell ⟨g, j - 1, none⟩ (.int .i64 (i : Int))).drew g n c (rotF (j - 1) i (i + 1) f')) := fun W hW => by
            have hsw := (hW.sw2 (i := j) (j := j - 1) (by omega) (by omega)).drew
            have hrd := rot_down (m := i) (k := j) (by omega) j2 f'
            rw [rot_b f' (Nat.le_refl j) (by omega), show j - j + i = i by omega, hfi.out, rot_a (a := 0) f' (show j - 1 < j by omega), hrd, ← hyv] at hsw
            exact hsw
          rw [← hyv] at c2 hdone
          have hgm := hid (hrm.out.lt).2
          have hg2 : g < wm.heap.size := hgm.out
          have hAl2 : cz (i : Int) yv < 0 → ρ (i : Int) < ρ yv → Hid (∀ k, j - 1 ≤ k → k < i → ρ (f' i) < ρ (f' k)) := fun _ h k k1 k2 => by
            by_cases e : k = j - 1
            · rw [e, hfi.out, ← hyv]; exact h
            · exact hal.out k (by omega) k2
          have HJ : Hid (a ≤ j - 1 ∧ j - 1 ≤ i ∧ j - 1 < j) := ⟨by omega, by omega, by omega⟩
          obtain ⟨j3, hj3⟩ : ∃ x, x = j - 1 := ⟨_, rfl⟩
          rw [← hj3] at c2 z2 e3 HSW hAl2 HJ
          obtain ⟨z, hz⟩ : ∃ z, z = cz (i : Int) yv := ⟨_, rfl⟩
          rw [← hz] at hc HCC hAl2
          have x0 : (0 : Int) ≤ (j : Int) := by omega
          have x1 : (j : Int) < (n : Int) := by omega
          have y0 : (0 : Int) ≤ (j3 : Int) := by omega
          have y1 : (j3 : Int) < (n : Int) := by omega
          have hne : Hid (j ≠ j3) := by show _ ≠ _; omega
          rcases hc with ⟨hz0, hρ⟩ | ⟨hz0, hρ⟩
          · have d5 : decide (z < 0) = true := decide_eq_true hz0
            have HAL := hAl2 hz0 hρ
            have c3 : ∀ xx : Ext wm.heap.size wm, (xx.out.setCell ⟨g, j, none⟩ (.int .i64 yv)).cell? ⟨g, j3, none⟩ = some (.int .i64 yv) := fun xx => setcell_cell ((xx.below.cell (p := ⟨g, j3, none⟩) hgm.out).trans c2) hne.out
            have HC3 := hid c3
            have C1 := hid c1
            have C2 := hid c2
            have Z1 := hid z1
            have Z2 := hid z2
            clear hdone hAl2 hz hz0 hρ hj3 hyv hyr j1 j2 hN hIB hii hja c3
            go_wp2_with fail
            refine wp_region_ext wm.heap.size (by kernel_rfl) (by kernel_rfl) ?_
            repeat (go_big_quiet_step ((go_at_fn fn; refine Calls.ext (Nat.le_refl _) (HCC _ ?_).out; exact HWm.out.trans ((Ext.below _).mono (Nat.le_of_lt hgm.out)))))
            refine wpQuiet_nil ?_
            intro xx
            clear c1 c2 z1 z2
            have b1 := (xx.below.cell (p := ⟨g, j, none⟩) hgm.out).trans C1.out
            have b2 := (xx.below.cell (p := ⟨g, j3, none⟩) hgm.out).trans C2.out
            have b3 := HC3.out xx
            have b4 := (xx.below.frozen (p := ⟨g, j, none⟩) hgm.out).trans Z1.out
            have b5 := (xx.below.frozen (p := ⟨g, j3, none⟩) hgm.out).trans Z2.out
            have HX := hid xx.below
            obtain ⟨W5, hW5⟩ : ∃ W, W = xx.out := ⟨_, rfl⟩
            rw [← hW5] at b1 b2 b3 b4 b5 HX ⊢
            have HR5 := HSW W5 (hrm.out.below HX.out (Nat.le_refl _))
            clear hW5
            go_wp2_with fail
            go_big_region
            go_wp2_with fail
            refine ⟨⟨j3, rfl, ⟨HJ.out.1, HJ.out.2.1⟩, (hbm.out.trans (Butt.of HX.out)).trans (butt_sw2 _ _ _ _ _ _), HR5.out, HAL.out⟩, by have := HJ.out; simp [intOf]; omega⟩
          · have d5 : decide (z < 0) = false := decide_eq_false (by omega)
            have HD := hdone (.inr (by rw [hfi.out]; exact hρ))
            clear hdone hAl2 hz hz0 hρ hj3 hyv hyr j1 j2 hN hIB hii hja
            go_wp2_with fail
            refine wp_region_ext wm.heap.size (by kernel_rfl) (by kernel_rfl) ?_
            repeat (go_big_quiet_step ((go_at_fn fn; refine Calls.ext (Nat.le_refl _) (HCC _ ?_).out; exact HWm.out.trans ((Ext.below _).mono (Nat.le_of_lt hgm.out)))))
            refine wpQuiet_nil ?_
            intro xx
            go_wp2_with fail
            refine ⟨⟨i + 1, _, by go_num, ⟨by have := hi.out.1; omega, .inl (by have := HIB.out; omega)⟩, (hb1.out.trans hbm.out).trans (Butt.of (xx.below.mono (Nat.le_refl _))), hrm.out.below xx.below (Nat.le_refl _), HD.out.1, HD.out.2⟩, by have := HIB.out; simp [intOf]; omega⟩
    · have d1 : decide ((i : Int) < (b : Int)) = false := decide_eq_false (by omega)
      have d2 : decide (i < b) = false := decide_eq_false hib
      have HFin : Hid (Same a b f f' ∧ Asc ρ a b f') := by
        rcases i2 with h | h
        · obtain rfl : i = b := by omega
          exact ⟨hs.out, ha.out⟩
        · by_cases e : a = b
          · subst e
            refine ⟨⟨fun k hk => ?_, fun k k1 k2 => by omega, fun k k1 k2 => by omega⟩, Asc.one _ _ _ _ (by omega)⟩
            by_cases hk2 : a ≤ k ∧ k < i
            · obtain rfl : k = a := by omega
              obtain ⟨j, j1, j2, e⟩ := hs.out.to k hk2.1 hk2.2
              obtain rfl : j = k := by omega
              exact e
            · exact hs.out.out k hk2
          · obtain rfl : i = b := by omega
            exact ⟨hs.out, ha.out⟩
      clear i1 i2 hN hib
      go_wp2_with fail
      go_end0
      exact ⟨rfl, f', hb1.out, hr.out, HFin.out.1, HFin.out.2⟩
end Go.Proofs.Ytgbihaliiogboaa

/- A stable sort by insertion and merging in place: the rotation. -/
namespace Go.Proofs.Ytgbihaliiogboaa
open Go.RowKit
set_option linter.unusedSimpArgs false
set_option linter.unusedVariables false
set_option maxRecDepth 100000 in
theorem c_rotate (B g n c a m b : Nat) (ham : a < m) (hmb : m < b) (hb : b ≤ n) (hn : n ≤ 1000) (fv : Value) (f : Nat → Int) (w : World) (h : IntB B w g n c f) :
    Calls Try.prog 96 #[.slice (some ⟨g, 0, none⟩) n c, .int .i64 a, .int .i64 m, .int .i64 b, fv] w fun e w' => e = .returned (.tuple #[]) ∧ Butt g w w' ∧ IntB B w' g n c (rotF a m b f) := by
  have H := hid h
  have e1 : IntKind.i64.wrap ((m : Int) - (a : Int)) = ((m - a : Nat) : Int) := by rw [IntWalk.i64_in _ (by omega)]; omega
  have e2 : IntKind.i64.wrap ((b : Int) - (m : Int)) = ((b - m : Nat) : Int) := by rw [IntWalk.i64_in _ (by omega)]; omega
  obtain ⟨i0, hi0⟩ : ∃ i, i = m - a := ⟨_, rfl⟩
  obtain ⟨j0, hj0⟩ : ∃ i, i = b - m := ⟨_, rfl⟩
  rw [← hi0] at e1
  rw [← hj0] at e2
  have HIJ : Hid (1 ≤ i0 ∧ i0 ≤ m ∧ 1 ≤ j0 ∧ m + j0 ≤ n ∧ m - i0 = a ∧ m + j0 = b) := ⟨by omega, by omega, by omega, by omega, by omega, by omega⟩
  have HN := hid hn
  have HMN : Hid (m ≤ n) := by show _ ≤ _; omega
  clear h hi0 hj0 ham hmb hb hn
  go_enter Try.func96, Try.ntmps96
  go_wp2_with fail
  go_loopw [10, 11] (fun u v wr => ∃ (i j : Nat) (hh : Nat → Int), u = .int .i64 i ∧ v = .int .i64 j ∧ Hid (1 ≤ i ∧ i ≤ m ∧ 1 ≤ j ∧ m + j ≤ n) ∧ Hid (Butt g w wr) ∧ Hid (IntB B wr g n c hh) ∧ Hid (rotF (m - i) m (m + j) hh = rotF a m b f)) (fun u v _ => (intOf u).toNat + (intOf v).toNat)
  case atStart => exact ⟨i0, j0, f, rfl, rfl, ⟨HIJ.out.1, HIJ.out.2.1, HIJ.out.2.2.1, HIJ.out.2.2.2.1⟩, Butt.refl _ _, H.out, by rw [HIJ.out.2.2.2.2.1, HIJ.out.2.2.2.2.2]; rfl⟩
  case round =>
    clear e1 e2
    obtain ⟨wo, rfl⟩ : ∃ W, W = wr := ⟨_, rfl⟩
    obtain ⟨i, j, hh, rfl, rfl, hij, hb1, hr, he⟩ := hrel
    obtain ⟨q1, q2, q3, q4⟩ := hij.out
    have hn := HN.out
    have hmn := HMN.out
    have m1 : (m : Int) ≤ 1000 := by omega
    rcases Nat.lt_trichotomy i j with hlt | hlt | hlt
    · have d1 : ((i : Int) != (j : Int)) = true := by rw [bne_iff_ne]; omega
      have d2 : ((i : Int) == (j : Int)) = false := by rw [beq_eq_false_iff_ne]; omega
      have d3 : decide ((i : Int) > (j : Int)) = false := decide_eq_false (by omega)
      have d5 : decide (j < i) = false := decide_eq_false (by omega)
      have w1 : IntKind.i64.wrap ((m : Int) - (i : Int)) = ((m - i : Nat) : Int) := by rw [IntWalk.i64_in _ (by omega)]; omega
      have w2 : IntKind.i64.wrap ((m : Int) + (j : Int)) = (m : Int) + (j : Int) := IntWalk.i64_in _ (by omega)
      have w3 : IntKind.i64.wrap ((m : Int) + (j : Int) - (i : Int)) = ((m + j - i : Nat) : Int) := by rw [IntWalk.i64_in _ (by omega)]; omega
      have w4 : IntKind.i64.wrap ((j : Int) - (i : Int)) = ((j - i : Nat) : Int) := by rw [IntWalk.i64_in _ (by omega)]; omega
      have HS := hid (c_swapRange B g n c (m - i) (m + j - i) i (by omega) (by omega) hn fv hh wo hr.out)
      have HE := hid (rot_lt hlt q2 hh)
      have HQ : Hid (1 ≤ i ∧ i ≤ m ∧ 1 ≤ j - i ∧ m + (j - i) ≤ n) := ⟨q1, q2, by omega, by omega⟩
      obtain ⟨s1, hs1⟩ : ∃ s, s = m - i := ⟨_, rfl⟩
      obtain ⟨s2, hs2⟩ : ∃ s, s = m + j - i := ⟨_, rfl⟩
      obtain ⟨s3, hs3⟩ : ∃ s, s = j - i := ⟨_, rfl⟩
      rw [← hs1] at w1 HS HE
      rw [← hs2] at w3 HS HE
      rw [← hs3] at w4 HQ HE
      have HM : Hid (s3 < j) := by show _ < _; omega
      have HS1 := hid hs1
      clear hs1 hs2 hs3 hlt q1 q2 q3 q4 hn hmn
      go_wp2_with (go_at_call 97; ((with_reducible refine HS.out.mono ?_); rintro e w5 ⟨rfl, hb5, hr5⟩); have HB5 := hid hb5; have HR5 := hid hr5; clear hb5 hr5)
      refine ⟨⟨i, s3, _, rfl, rfl, HQ.out, hb1.out.trans HB5.out, HR5.out, ?_⟩, by have := HM.out; simp [intOf]; omega⟩
      show _ = _
      rw [← HS1.out, HE.out, HS1.out]; exact he.out
    · subst hlt
      have d1 : ((i : Int) != (i : Int)) = false := by simp
      have w1 : IntKind.i64.wrap ((m : Int) - (i : Int)) = ((m - i : Nat) : Int) := by rw [IntWalk.i64_in _ (by omega)]; omega
      have HS := hid (c_swapRange B g n c (m - i) m i (by omega) q4 hn fv hh wo hr.out)
      have hs := HS.out
      rw [rot_eq q2, he.out] at hs
      have HS := hid hs
      obtain ⟨s1, hs1⟩ : ∃ s, s = m - i := ⟨_, rfl⟩
      rw [← hs1] at w1 HS
      clear hs1 q1 q2 q3 q4 hn hmn hs he
      go_wp2_with (go_at_call 97; ((with_reducible refine HS.out.mono ?_); rintro e w5 ⟨rfl, hb5, hr5⟩); have HB5 := hid hb5; have HR5 := hid hr5; clear hb5 hr5)
      go_end0
      exact ⟨rfl, hb1.out.trans HB5.out, HR5.out⟩
    · have d1 : ((i : Int) != (j : Int)) = true := by rw [bne_iff_ne]; omega
      have d2 : ((i : Int) == (j : Int)) = false := by rw [beq_eq_false_iff_ne]; omega
      have d3 : decide ((i : Int) > (j : Int)) = true := decide_eq_true (by omega)
      have d5 : decide (j < i) = true := decide_eq_true (by omega)
      have w1 : IntKind.i64.wrap ((m : Int) - (i : Int)) = ((m - i : Nat) : Int) := by rw [IntWalk.i64_in _ (by omega)]; omega
      have w4 : IntKind.i64.wrap ((i : Int) - (j : Int)) = ((i - j : Nat) : Int) := by rw [IntWalk.i64_in _ (by omega)]; omega
      have HS := hid (c_swapRange B g n c (m - i) m j (by omega) (by omega) hn fv hh wo hr.out)
      have HE := hid (rot_gt hlt q2 hh)
      have HQ : Hid (1 ≤ i - j ∧ i - j ≤ m ∧ 1 ≤ j ∧ m + j ≤ n) := ⟨by omega, by omega, by omega, by omega⟩
      obtain ⟨s1, hs1⟩ : ∃ s, s = m - i := ⟨_, rfl⟩
      obtain ⟨s3, hs3⟩ : ∃ s, s = i - j := ⟨_, rfl⟩
      rw [← hs1] at w1 HS HE
      rw [← hs3] at w4 HQ HE
      have HM : Hid (s3 < i) := by show _ < _; omega
      have HS1 := hid hs1
      clear hs1 hs3 hlt q1 q2 q3 q4 hn hmn
      go_wp2_with (go_at_call 97; ((with_reducible refine HS.out.mono ?_); rintro e w5 ⟨rfl, hb5, hr5⟩); have HB5 := hid hb5; have HR5 := hid hr5; clear hb5 hr5)
      refine ⟨⟨s3, j, _, rfl, rfl, HQ.out, hb1.out.trans HB5.out, HR5.out, ?_⟩, by have := HM.out; simp [intOf]; omega⟩
      show _ = _
      rw [HE.out, HS1.out]; exact he.out
end Go.Proofs.Ytgbihaliiogboaa

/- A stable sort by insertion and merging in place: the merge, one number against many. -/
namespace Go.Proofs.Ytgbihaliiogboaa
open Go.RowKit
set_option linter.unusedSimpArgs false
set_option linter.unusedVariables false
/-- What of the two parts is compared: the second one's number first. -/
structure CmpOk (cz : Int → Int → Int) (ρ : Int → Int) (lo hi : Int → Prop) (n : Nat) : Prop where
  lt : ∀ x y, lo x → hi y → (cz y x < 0 ∧ ρ y < ρ x) ∨ (¬ cz y x < 0 ∧ ρ x < ρ y)
  rlo : ∀ x, lo x → 0 ≤ x ∧ x < n
  rhi : ∀ x, hi x → 0 ≤ x ∧ x < n
set_option maxHeartbeats 3200000 in
set_option maxRecDepth 100000 in
theorem c_symA (B g n c : Nat) (hn : n ≤ 1000) (fn : Nat) (fst cap : Array Value) (eg : ∀ args w, (callFunc fn args).run Try.prog w = .ok (.enter fn args) w) (cz : Int → Int → Int) (ρ : Int → Int) (lo hi : Int → Prop) (w0 : World) (hcmp : CmpK fn fst cap cz n g w0) (hok : CmpOk cz ρ lo hi n)
    (a b : Nat) (hab : a + 1 < b) (hb : b ≤ n) (f : Nat → Int) (s2 : Asc ρ (a + 1) b f) (l1 : lo (f a)) (l2 : AllF hi (a + 1) b f) (w : World) (hw : Below g w0 w) (h : IntB B w g n c f) :
    Calls Try.prog 95 #[.slice (some ⟨g, 0, none⟩) n c, .int .i64 a, .int .i64 ((a + 1 : Nat) : Int), .int .i64 b, .func (.func fn) fst cap] w (SrtRet B g n c a b ρ f w) := by
  have H := hid h
  have HW := hid hw
  have HC := hid hcmp
  have HK := hid hok
  have S2 := hid s2
  have L1 := hid l1
  have L2 := hid l2
  have HN : Hid (a + 1 < b ∧ b ≤ n ∧ n ≤ 1000) := ⟨hab, hb, hn⟩
  obtain ⟨m, hm⟩ : ∃ x, x = a + 1 := ⟨_, rfl⟩
  have e1 : IntKind.i64.wrap ((m : Int) - (a : Int)) = 1 := by rw [IntWalk.i64_in _ (by omega)]; omega
  rw [← hm]
  have HM := hid hm
  clear h hw hcmp hok s2 l1 l2 hab hb hn hm
  go_enter Try.func95, Try.ntmps95
  go_wp2_with fail
  go_loopw [10, 11] (fun u v wr => ∃ (i j : Nat), u = .int .i64 i ∧ v = .int .i64 j ∧ Hid (m ≤ i ∧ i ≤ j ∧ j ≤ b) ∧ Hid (Butt g w wr) ∧ Hid (IntB B wr g n c f) ∧ Hid (∀ k, m ≤ k → k < i → ρ (f k) < ρ (f a)) ∧ Hid (∀ k, j ≤ k → k < b → ρ (f a) < ρ (f k))) (fun u v _ => (intOf v).toNat - (intOf u).toNat)
  case atStart => exact ⟨m, b, rfl, rfl, ⟨Nat.le_refl _, by have := HN.out; have := HM.out; omega, Nat.le_refl _⟩, Butt.refl _ _, H.out, fun k h1 h2 => by omega, fun k h1 h2 => by omega⟩
  case round =>
    clear e1
    obtain ⟨wo, rfl⟩ : ∃ W, W = wr := ⟨_, rfl⟩
    obtain ⟨i, j, rfl, rfl, hij, hb1, hr, hi1, hj1⟩ := hrel
    obtain ⟨q1, q2, q3⟩ := hij.out
    have hN := HN.out
    have hM := HM.out
    by_cases hlt : i < j
    · have d1 : decide ((i : Int) < (j : Int)) = true := decide_eq_true (by omega)
      have d2 : decide (i < j) = true := decide_eq_true hlt
      have w1 : IntKind.i64.wrap ((i : Int) + (j : Int)) = (i : Int) + (j : Int) := IntWalk.i64_in _ (by omega)
      have i1 : (i : Int) ≤ 1000 := by omega
      have j1 : (j : Int) ≤ 1000 := by omega
      obtain ⟨h, hh⟩ : ∃ h, h = (i + j) / 2 := ⟨_, rfl⟩
      have eh : ((i : Int) + (j : Int)) / 2 = (h : Int) := by omega
      have h0 : (0 : Int) ≤ (h : Int) := by omega
      have h1 : (h : Int) < (n : Int) := by omega
      have a0 : (0 : Int) ≤ (a : Int) := by omega
      have a1 : (a : Int) < (n : Int) := by omega
      have HH : Hid (i ≤ h ∧ h < j) := ⟨by omega, by omega⟩
      have hhi := L2.out h (by omega) (by omega)
      have hc := HK.out.lt (f a) (f h) L1.out hhi
      have HCC := fun W hW => hid (HC.out W (f h) (f a) (HK.out.rhi _ hhi) (HK.out.rlo _ L1.out) hW)
      obtain ⟨c1, z1⟩ := hr.out.cell (k := h) (by omega)
      obtain ⟨c2, z2⟩ := hr.out.cell (k := a) (by omega)
      have hgm := hid (hr.out.lt).2
      have hg2 : g < wo.heap.size := hgm.out
      have HWm := hid (butt_below (B := B) HW.out hb1.out (Nat.le_of_lt H.out.lt.2))
      have HYes : ρ (f h) < ρ (f a) → Hid (∀ k, m ≤ k → k < h + 1 → ρ (f k) < ρ (f a)) := fun hρ k k1 k2 => by
        by_cases e : k = h
        · rw [e]; exact hρ
        · exact Int.lt_trans (S2.out k h (by omega) (by omega) (by omega)) hρ
      have HNo : ρ (f a) < ρ (f h) → Hid (∀ k, h ≤ k → k < b → ρ (f a) < ρ (f k)) := fun hρ k k1 k2 => by
        by_cases e : h = k
        · rw [← e]; exact hρ
        · exact Int.lt_trans hρ (S2.out h k (by omega) (by omega) k2)
      obtain ⟨z, hz⟩ : ∃ z, z = cz (f h) (f a) := ⟨_, rfl⟩
      rw [← hz] at hc HCC
      obtain ⟨vh, hvh⟩ : ∃ v, v = f h := ⟨_, rfl⟩
      obtain ⟨va, hva⟩ : ∃ v, v = f a := ⟨_, rfl⟩
      rw [← hvh] at c1 HCC
      rw [← hva] at c2 HCC
      have h1b : (h : Int) ≤ 1000 := by omega
      rcases hc with ⟨hz0, hρ⟩ | ⟨hz0, hρ⟩
      · have d5 : decide (z < 0) = true := decide_eq_true hz0
        have HYN := HYes hρ
        clear HYes HNo hz hz0 hρ hvh hva hhi q1 q2 q3 hN hM hlt hh
        go_wp2_with fail
        refine wp_region_ext wo.heap.size (by kernel_rfl) (by kernel_rfl) ?_
        repeat (go_big_quiet_step ((go_at_fn fn; refine Calls.ext (Nat.le_refl _) (HCC _ ?_).out; exact HWm.out.trans ((Ext.below _).mono (Nat.le_of_lt hgm.out)))))
        refine wpQuiet_nil ?_
        intro xx
        go_wp2_with fail
        refine ⟨⟨h + 1, j, by go_num, rfl, ⟨by have := hij.out; have := HH.out; omega, by have := HH.out; omega, hij.out.2.2⟩, hb1.out.trans (Butt.of xx.below), hr.out.below xx.below (Nat.le_refl _), HYN.out, hj1.out⟩, by have := HH.out; simp [intOf]; omega⟩
      · have d5 : decide (z < 0) = false := decide_eq_false hz0
        have HYN := HNo hρ
        clear HYes HNo hz hz0 hρ hvh hva hhi q1 q2 q3 hN hM hlt hh
        go_wp2_with fail
        refine wp_region_ext wo.heap.size (by kernel_rfl) (by kernel_rfl) ?_
        repeat (go_big_quiet_step ((go_at_fn fn; refine Calls.ext (Nat.le_refl _) (HCC _ ?_).out; exact HWm.out.trans ((Ext.below _).mono (Nat.le_of_lt hgm.out)))))
        refine wpQuiet_nil ?_
        intro xx
        go_wp2_with fail
        refine ⟨⟨i, h, rfl, rfl, ⟨hij.out.1, HH.out.1, by have := hij.out; have := HH.out; omega⟩, hb1.out.trans (Butt.of xx.below), hr.out.below xx.below (Nat.le_refl _), hi1.out, HYN.out⟩, by have := HH.out; simp [intOf]; omega⟩
    · have hji : j = i := by omega
      subst hji
      have d1 : decide ((j : Int) < (j : Int)) = false := decide_eq_false (by omega)
      have d2 : decide (j < j) = false := decide_eq_false (by omega)
      have e3 : IntKind.i64.wrap ((j : Int) - 1) = ((j - 1 : Nat) : Int) := by rw [IntWalk.i64_in _ (by omega)]; omega
      obtain ⟨j1, hj1'⟩ : ∃ x, x = j - 1 := ⟨_, rfl⟩
      rw [← hj1'] at e3
      have HJ : Hid (j = j1 + 1 ∧ a ≤ j1) := ⟨by omega, by omega⟩
      have HQ := hid q3
      clear q1 q2 q3 hN hM hlt hj1'
      go_wp2_with fail
      go_loopw [13] (fun v wr => ∃ k : Nat, v = .int .i64 k ∧ Hid (a ≤ k ∧ k ≤ j1) ∧ Hid (Butt g w wr) ∧ Hid (IntB B wr g n c (rotF a (a + 1) (k + 1) f))) (fun v _ => j1 - (intOf v).toNat)
      case atStart => exact ⟨a, rfl, ⟨Nat.le_refl _, HJ.out.2⟩, hb1.out, by rw [rotF_self _ _ _ (Nat.le_succ a)]; exact hr.out⟩
      case round =>
        obtain ⟨wm, rfl⟩ : ∃ W, W = wr := ⟨_, rfl⟩
        obtain ⟨k, rfl, hk, hbm, hrm⟩ := hrel
        obtain ⟨k1, k2⟩ := hk.out
        have hN := HN.out
        have hJ := HJ.out
        have hQ := HQ.out
        by_cases hkl : k < j1
        · have d3 : decide ((k : Int) < (j1 : Int)) = true := decide_eq_true (by omega)
          have d4 : decide (k < j1) = true := decide_eq_true hkl
          have e4 : IntKind.i64.wrap ((k : Int) + 1) = ((k + 1 : Nat) : Int) := by rw [IntWalk.i64_in _ (by omega)]; omega
          obtain ⟨c1, z1⟩ := hrm.out.cell (k := k) (by omega)
          obtain ⟨c2, z2⟩ := hrm.out.cell (k := k + 1) (by omega)
          have HSW := hid ((hrm.out.sw2 (i := k) (j := k + 1) (by omega) (by omega)).drew)
          rw [rot_up k1 f] at HSW
          obtain ⟨vx, hvx⟩ : ∃ v, v = rotF a (a + 1) (k + 1) f k := ⟨_, rfl⟩
          obtain ⟨vy, hvy⟩ : ∃ v, v = rotF a (a + 1) (k + 1) f (k + 1) := ⟨_, rfl⟩
          rw [← hvx] at c1 HSW
          rw [← hvy] at c2 HSW
          have c3 : (wm.setCell ⟨g, k, none⟩ (.int .i64 vy)).cell? ⟨g, k + 1, none⟩ = some (.int .i64 vy) := setcell_cell c2 (by omega)
          obtain ⟨k', hk'⟩ : ∃ x, x = k + 1 := ⟨_, rfl⟩
          rw [show k + 2 = k' + 1 by omega] at HSW
          rw [← hk'] at c2 z2 e4 HSW c3
          have x0 : (0 : Int) ≤ (k : Int) := by omega
          have x1 : (k : Int) < (n : Int) := by omega
          have y0 : (0 : Int) ≤ (k' : Int) := by omega
          have y1 : (k' : Int) < (n : Int) := by omega
          have HKK : Hid (k' = k + 1 ∧ k < j1) := ⟨hk', hkl⟩
          clear hvx hvy hk' hkl k1 k2 hN hJ hQ
          go_wp2_with fail
          go_big_region
          go_wp2_with fail
          refine ⟨⟨k', rfl, ⟨by have := HKK.out; have := hk.out; omega, by have := HKK.out; omega⟩, hbm.out.trans (butt_sw2 _ _ _ _ _ _), HSW.out⟩, by have := HKK.out; simp [intOf]; omega⟩
        · obtain rfl : k = j1 := by omega
          have d3 : decide ((k : Int) < (k : Int)) = false := decide_eq_false (by omega)
          have d4 : decide (k < k) = false := decide_eq_false (by omega)
          have hM := HM.out
          have hFin : Hid (Same a b f (rotF a (a + 1) j f) ∧ Asc ρ a b (rotF a (a + 1) j f)) :=
            ⟨(Same.rot (Nat.le_succ a) (by have := hij.out; omega) f).mono (Nat.le_refl _) hQ, one_first (by have := hij.out; omega) hQ S2.out (fun k k1 k2 => hi1.out k (by omega) k2) hj1.out⟩
          rw [← hJ.1] at hrm
          clear hkl k1 k2 hN hJ hQ hM
          go_wp2_with fail
          go_end0
          exact ⟨rfl, _, hbm.out, hrm.out, hFin.out.1, hFin.out.2⟩
end Go.Proofs.Ytgbihaliiogboaa

/- A stable sort by insertion and merging in place: the merge, many numbers against one. -/
namespace Go.Proofs.Ytgbihaliiogboaa
open Go.RowKit
set_option linter.unusedSimpArgs false
set_option linter.unusedVariables false
set_option maxHeartbeats 3200000 in
set_option maxRecDepth 100000 in
theorem c_symB (B g n c : Nat) (hn : n ≤ 1000) (fn : Nat) (fst cap : Array Value) (eg : ∀ args w, (callFunc fn args).run Try.prog w = .ok (.enter fn args) w) (cz : Int → Int → Int) (ρ : Int → Int) (lo hi : Int → Prop) (w0 : World) (hcmp : CmpK fn fst cap cz n g w0) (hok : CmpOk cz ρ lo hi n)
    (a m : Nat) (ham : a + 1 < m) (hb : m + 1 ≤ n) (f : Nat → Int) (s1 : Asc ρ a m f) (l1 : AllF lo a m f) (l2 : hi (f m)) (w : World) (hw : Below g w0 w) (h : IntB B w g n c f) :
    Calls Try.prog 95 #[.slice (some ⟨g, 0, none⟩) n c, .int .i64 a, .int .i64 m, .int .i64 ((m + 1 : Nat) : Int), .func (.func fn) fst cap] w (SrtRet B g n c a (m + 1) ρ f w) := by
  have H := hid h
  have HW := hid hw
  have HC := hid hcmp
  have HK := hid hok
  have S1 := hid s1
  have L1 := hid l1
  have L2 := hid l2
  have HN : Hid (a + 1 < m ∧ m + 1 ≤ n ∧ n ≤ 1000) := ⟨ham, hb, hn⟩
  obtain ⟨b, hbb⟩ : ∃ x, x = m + 1 := ⟨_, rfl⟩
  have e1 : IntKind.i64.wrap ((m : Int) - (a : Int)) = ((m - a : Nat) : Int) := by rw [IntWalk.i64_in _ (by omega)]; omega
  have e2 : IntKind.i64.wrap ((b : Int) - (m : Int)) = 1 := by rw [IntWalk.i64_in _ (by omega)]; omega
  obtain ⟨ma, hma⟩ : ∃ x, x = m - a := ⟨_, rfl⟩
  have e3 : ((ma : Int) == 1) = false := by rw [beq_eq_false_iff_ne]; omega
  rw [← hma] at e1
  rw [← hbb]
  have HB := hid hbb
  clear h hw hcmp hok s1 l1 l2 ham hb hn hbb hma
  go_enter Try.func95, Try.ntmps95
  go_wp2_with fail
  go_loopw [14, 15] (fun u v wr => ∃ (i j : Nat), u = .int .i64 i ∧ v = .int .i64 j ∧ Hid (a ≤ i ∧ i ≤ j ∧ j ≤ m) ∧ Hid (Butt g w wr) ∧ Hid (IntB B wr g n c f) ∧ Hid (∀ k, a ≤ k → k < i → ρ (f k) < ρ (f m)) ∧ Hid (∀ k, j ≤ k → k < m → ρ (f m) < ρ (f k))) (fun u v _ => (intOf v).toNat - (intOf u).toNat)
  case atStart => exact ⟨a, m, rfl, rfl, ⟨Nat.le_refl _, by have := HN.out; omega, Nat.le_refl _⟩, Butt.refl _ _, H.out, fun k h1 h2 => by omega, fun k h1 h2 => by omega⟩
  case round =>
    clear e1 e2 e3
    obtain ⟨wo, rfl⟩ : ∃ W, W = wr := ⟨_, rfl⟩
    obtain ⟨i, j, rfl, rfl, hij, hb1, hr, hi1, hj1⟩ := hrel
    obtain ⟨q1, q2, q3⟩ := hij.out
    have hN := HN.out
    have hB := HB.out
    by_cases hlt : i < j
    · have d1 : decide ((i : Int) < (j : Int)) = true := decide_eq_true (by omega)
      have d2 : decide (i < j) = true := decide_eq_true hlt
      have w1 : IntKind.i64.wrap ((i : Int) + (j : Int)) = (i : Int) + (j : Int) := IntWalk.i64_in _ (by omega)
      have i1 : (i : Int) ≤ 1000 := by omega
      have j1 : (j : Int) ≤ 1000 := by omega
      obtain ⟨h, hh⟩ : ∃ h, h = (i + j) / 2 := ⟨_, rfl⟩
      have eh : ((i : Int) + (j : Int)) / 2 = (h : Int) := by omega
      have h0 : (0 : Int) ≤ (h : Int) := by omega
      have h1 : (h : Int) < (n : Int) := by omega
      have a0 : (0 : Int) ≤ (m : Int) := by omega
      have a1 : (m : Int) < (n : Int) := by omega
      have HH : Hid (i ≤ h ∧ h < j) := ⟨by omega, by omega⟩
      have hlo := L1.out h (by omega) (by omega)
      have hc := HK.out.lt (f h) (f m) hlo L2.out
      have HCC := fun W hW => hid (HC.out W (f m) (f h) (HK.out.rhi _ L2.out) (HK.out.rlo _ hlo) hW)
      obtain ⟨c1, z1⟩ := hr.out.cell (k := h) (by omega)
      obtain ⟨c2, z2⟩ := hr.out.cell (k := m) (by omega)
      have hgm := hid (hr.out.lt).2
      have hg2 : g < wo.heap.size := hgm.out
      have HWm := hid (butt_below (B := B) HW.out hb1.out (Nat.le_of_lt H.out.lt.2))
      have HYes : ρ (f h) < ρ (f m) → Hid (∀ k, a ≤ k → k < h + 1 → ρ (f k) < ρ (f m)) := fun hρ k k1 k2 => by
        by_cases e : k = h
        · rw [e]; exact hρ
        · exact Int.lt_trans (S1.out k h (by omega) (by omega) (by omega)) hρ
      have HNo : ρ (f m) < ρ (f h) → Hid (∀ k, h ≤ k → k < m → ρ (f m) < ρ (f k)) := fun hρ k k1 k2 => by
        by_cases e : h = k
        · rw [← e]; exact hρ
        · exact Int.lt_trans hρ (S1.out h k (by omega) (by omega) k2)
      obtain ⟨z, hz⟩ : ∃ z, z = cz (f m) (f h) := ⟨_, rfl⟩
      rw [← hz] at hc HCC
      obtain ⟨vh, hvh⟩ : ∃ v, v = f h := ⟨_, rfl⟩
      obtain ⟨va, hva⟩ : ∃ v, v = f m := ⟨_, rfl⟩
      rw [← hvh] at c1 HCC
      rw [← hva] at c2 HCC
      have h1b : (h : Int) ≤ 1000 := by omega
      rcases hc with ⟨hz0, hρ⟩ | ⟨hz0, hρ⟩
      · have d5 : decide (z < 0) = true := decide_eq_true hz0
        have HYN := HNo hρ
        clear HYes HNo hz hz0 hρ hvh hva hlo q1 q2 q3 hN hB hlt hh
        go_wp2_with fail
        refine wp_region_ext wo.heap.size (by kernel_rfl) (by kernel_rfl) ?_
        repeat (go_big_quiet_step ((go_at_fn fn; refine Calls.ext (Nat.le_refl _) (HCC _ ?_).out; exact HWm.out.trans ((Ext.below _).mono (Nat.le_of_lt hgm.out)))))
        refine wpQuiet_nil ?_
        intro xx
        go_wp2_with fail
        refine ⟨⟨i, h, rfl, rfl, ⟨hij.out.1, HH.out.1, by have := hij.out; have := HH.out; omega⟩, hb1.out.trans (Butt.of xx.below), hr.out.below xx.below (Nat.le_refl _), hi1.out, HYN.out⟩, by have := HH.out; simp [intOf]; omega⟩
      · have d5 : decide (z < 0) = false := decide_eq_false hz0
        have HYN := HYes hρ
        clear HYes HNo hz hz0 hρ hvh hva hlo q1 q2 q3 hN hB hlt hh
        go_wp2_with fail
        refine wp_region_ext wo.heap.size (by kernel_rfl) (by kernel_rfl) ?_
        repeat (go_big_quiet_step ((go_at_fn fn; refine Calls.ext (Nat.le_refl _) (HCC _ ?_).out; exact HWm.out.trans ((Ext.below _).mono (Nat.le_of_lt hgm.out)))))
        refine wpQuiet_nil ?_
        intro xx
        go_wp2_with fail
        refine ⟨⟨h + 1, j, by go_num, rfl, ⟨by have := hij.out; have := HH.out; omega, by have := HH.out; omega, hij.out.2.2⟩, hb1.out.trans (Butt.of xx.below), hr.out.below xx.below (Nat.le_refl _), HYN.out, hj1.out⟩, by have := HH.out; simp [intOf]; omega⟩
    · have hji : j = i := by omega
      subst hji
      have d1 : decide ((j : Int) < (j : Int)) = false := decide_eq_false (by omega)
      have d2 : decide (j < j) = false := decide_eq_false (by omega)
      have HQ := hid q3
      clear q1 q2 q3 hN hB hlt
      go_wp2_with fail
      go_loopw [17] (fun v wr => ∃ k : Nat, v = .int .i64 k ∧ Hid (j ≤ k ∧ k ≤ m) ∧ Hid (Butt g w wr) ∧ Hid (IntB B wr g n c (rotF k m (m + 1) f))) (fun v _ => (intOf v).toNat)
      case atStart => exact ⟨m, rfl, ⟨HQ.out, Nat.le_refl _⟩, hb1.out, by rw [rotF_one]; exact hr.out⟩
      case round =>
        obtain ⟨wm, rfl⟩ : ∃ W, W = wr := ⟨_, rfl⟩
        obtain ⟨k, rfl, hk, hbm, hrm⟩ := hrel
        obtain ⟨k1, k2⟩ := hk.out
        have hN := HN.out
        by_cases hkl : j < k
        · have d3 : decide ((k : Int) > (j : Int)) = true := decide_eq_true (by omega)
          have d4 : decide (j < k) = true := decide_eq_true hkl
          have e4 : IntKind.i64.wrap ((k : Int) - 1) = ((k - 1 : Nat) : Int) := by rw [IntWalk.i64_in _ (by omega)]; omega
          obtain ⟨c1, z1⟩ := hrm.out.cell (k := k) (by omega)
          obtain ⟨c2, z2⟩ := hrm.out.cell (k := k - 1) (by omega)
          have HSW := hid ((hrm.out.sw2 (i := k) (j := k - 1) (by omega) (by omega)).drew)
          rw [rot_down (by omega) k2 f] at HSW
          obtain ⟨vx, hvx⟩ : ∃ v, v = rotF k m (m + 1) f k := ⟨_, rfl⟩
          obtain ⟨vy, hvy⟩ : ∃ v, v = rotF k m (m + 1) f (k - 1) := ⟨_, rfl⟩
          rw [← hvx] at c1 HSW
          rw [← hvy] at c2 HSW
          have c3 : (wm.setCell ⟨g, k, none⟩ (.int .i64 vy)).cell? ⟨g, k - 1, none⟩ = some (.int .i64 vy) := setcell_cell c2 (by omega)
          obtain ⟨k', hk'⟩ : ∃ x, x = k - 1 := ⟨_, rfl⟩
          rw [← hk'] at c2 z2 e4 HSW c3
          have x0 : (0 : Int) ≤ (k : Int) := by omega
          have x1 : (k : Int) < (n : Int) := by omega
          have y0 : (0 : Int) ≤ (k' : Int) := by omega
          have y1 : (k' : Int) < (n : Int) := by omega
          have HKK : Hid (k = k' + 1 ∧ j < k) := ⟨by omega, hkl⟩
          clear hvx hvy hk' hkl k1 k2 hN
          go_wp2_with fail
          go_big_region
          go_wp2_with fail
          refine ⟨⟨k', rfl, ⟨by have := HKK.out; omega, by have := HKK.out; have := hk.out; omega⟩, hbm.out.trans (butt_sw2 _ _ _ _ _ _), HSW.out⟩, by have := HKK.out; simp [intOf]; omega⟩
        · obtain rfl : k = j := by omega
          have d3 : decide ((k : Int) > (k : Int)) = false := decide_eq_false (by omega)
          have d4 : decide (k < k) = false := decide_eq_false (by omega)
          have hFin : Hid (Same a (m + 1) f (rotF k m (m + 1) f) ∧ Asc ρ a (m + 1) (rotF k m (m + 1) f)) :=
            ⟨(Same.rot k2 (Nat.le_succ m) f).mono hij.out.1 (Nat.le_refl _), one_last hij.out.1 k2 S1.out hi1.out hj1.out⟩
          clear hkl k1 k2 hN
          go_wp2_with fail
          go_end0
          exact ⟨rfl, _, hbm.out, hrm.out, by rw [HB.out]; exact hFin.out.1, by rw [HB.out]; exact hFin.out.2⟩
end Go.Proofs.Ytgbihaliiogboaa

/- A stable sort by insertion and merging in place: the merge. -/
namespace Go.Proofs.Ytgbihaliiogboaa
open Go.RowKit
set_option linter.unusedSimpArgs false
set_option linter.unusedVariables false
theorem rotF_left (m e : Nat) (f : Nat → Int) : rotF m m e f = f := by
  funext k
  unfold rotF
  by_cases h : m ≤ k ∧ k < m + (e - m)
  · rw [if_pos h]; congr 1; omega
  · rw [if_neg h, if_neg (by omega)]
theorem merge_fin {ρ : Int → Int} {a mid b : Nat} {f g1 f2 f3 : Nat → Int} (h1 : a ≤ mid) (h2 : mid ≤ b) (s0 : Same a b f g1) (hb : Beneath ρ g1 a mid mid b) (s1 : Same a mid g1 f2) (a1 : Asc ρ a mid f2) (s2 : Same mid b f2 f3) (a2 : Asc ρ mid b f3) :
    Same a b f f3 ∧ Asc ρ a b f3 :=
  ⟨(s0.trans (s1.mono (Nat.le_refl _) h2)).trans (s2.mono h1 (Nat.le_refl _)), (a1.congr (fun k k1 k2 => s2.out k (by omega))).join a2 (hb.same s1 s2)⟩
set_option maxHeartbeats 6400000 in
set_option maxRecDepth 100000 in
theorem c_symC (B g n c : Nat) (hn : n ≤ 1000) (fn : Nat) (fst cap : Array Value) (eg : ∀ args w, (callFunc fn args).run Try.prog w = .ok (.enter fn args) w) (cz : Int → Int → Int) (ρ : Int → Int) (lo hi : Int → Prop) (w0 : World) (hcmp : CmpK fn fst cap cz n g w0) (hok : CmpOk cz ρ lo hi n)
    (a m b : Nat) (ham : a + 1 < m) (hmb : m + 1 < b) (hb : b ≤ n) (f : Nat → Int) (s1 : Asc ρ a m f) (s2 : Asc ρ m b f) (l1 : AllF lo a m f) (l2 : AllF hi m b f) (w : World) (hw : Below g w0 w) (h : IntB B w g n c f)
    (ih : ∀ (a' m' b' : Nat) (f' : Nat → Int) (W : World), b' - a' < b - a → a' < m' → m' < b' → b' ≤ n → Asc ρ a' m' f' → Asc ρ m' b' f' → AllF lo a' m' f' → AllF hi m' b' f' → Below g w0 W → IntB B W g n c f' →
      Calls Try.prog 95 #[.slice (some ⟨g, 0, none⟩) n c, .int .i64 a', .int .i64 m', .int .i64 b', .func (.func fn) fst cap] W (SrtRet B g n c a' b' ρ f' W)) :
    Calls Try.prog 95 #[.slice (some ⟨g, 0, none⟩) n c, .int .i64 a, .int .i64 m, .int .i64 b, .func (.func fn) fst cap] w (SrtRet B g n c a b ρ f w) := by
  have H := hid h
  have HW := hid hw
  have HC := hid hcmp
  have HK := hid hok
  have S1 := hid s1
  have S2 := hid s2
  have L1 := hid l1
  have L2 := hid l2
  have HI := hid ih
  have HN : Hid (a + 1 < m ∧ m + 1 < b ∧ b ≤ n ∧ n ≤ 1000) := ⟨ham, hmb, hb, hn⟩
  obtain ⟨mid, hmid⟩ : ∃ x, x = (a + b) / 2 := ⟨_, rfl⟩
  obtain ⟨s0, r0, hsr⟩ : ∃ s0 r0, (mid < m ∧ s0 = mid + m - b ∧ r0 = mid) ∨ (m ≤ mid ∧ s0 = a ∧ r0 = m) := by
    by_cases hlt : mid < m
    · exact ⟨_, _, .inl ⟨hlt, rfl, rfl⟩⟩
    · exact ⟨_, _, .inr ⟨by omega, rfl, rfl⟩⟩
  have HSR := hid hsr
  have HMID := hid hmid
  have e1 : IntKind.i64.wrap ((m : Int) - (a : Int)) = ((m - a : Nat) : Int) := by rw [IntWalk.i64_in _ (by omega)]; omega
  have e2 : IntKind.i64.wrap ((b : Int) - (m : Int)) = ((b - m : Nat) : Int) := by rw [IntWalk.i64_in _ (by omega)]; omega
  have e3 : IntKind.i64.wrap ((a : Int) + (b : Int)) = (a : Int) + (b : Int) := IntWalk.i64_in _ (by omega)
  have e4 : ((a : Int) + (b : Int)) / 2 = (mid : Int) := by omega
  have e5 : IntKind.i64.wrap ((mid : Int) + (m : Int)) = ((mid + m : Nat) : Int) := by rw [IntWalk.i64_in _ (by omega)]; omega
  have e7 : IntKind.i64.wrap (((mid + m : Nat) : Int) - 1) = ((mid + m - 1 : Nat) : Int) := by rw [IntWalk.i64_in _ (by omega)]; omega
  obtain ⟨ma, hma⟩ : ∃ x, x = m - a := ⟨_, rfl⟩
  obtain ⟨bm, hbm⟩ : ∃ x, x = b - m := ⟨_, rfl⟩
  obtain ⟨nn, hnn⟩ : ∃ x, x = mid + m := ⟨_, rfl⟩
  have f1 : ((ma : Int) == 1) = false := by rw [beq_eq_false_iff_ne]; omega
  have f2 : ((bm : Int) == 1) = false := by rw [beq_eq_false_iff_ne]; omega
  rw [← hma] at e1
  rw [← hbm] at e2
  rw [← hnn] at e5 e7
  obtain ⟨p, hp⟩ : ∃ x, x = nn - 1 := ⟨_, rfl⟩
  rw [← hp] at e7
  have HNN : Hid (nn = mid + m ∧ p = mid + m - 1 ∧ p + 1 = nn) := ⟨hnn, by omega, by omega⟩
  have a1 : (a : Int) ≤ 1000 := by omega
  have m1 : (m : Int) ≤ 1000 := by omega
  have hs0b : s0 ≤ 1000 := by omega
  have b1 : (b : Int) ≤ 1000 := by omega
  have HL0 : Hid (s0 ≤ r0 ∧ a ≤ s0 ∧ r0 ≤ m) := ⟨by omega, by omega, by omega⟩
  have hgt : ((mid < m) ∧ ((nn : Int) - (b : Int)) = (s0 : Int) ∧ r0 = mid) ∨ (¬ mid < m ∧ s0 = a ∧ r0 = m) := by
    rcases hsr with ⟨h1, h2, h3⟩ | ⟨h1, h2, h3⟩
    · exact .inl ⟨h1, by omega, h3⟩
    · exact .inr ⟨by omega, h2, h3⟩
  clear h hw hcmp hok s1 s2 l1 l2 ham hmb hb hn hmid hsr hma hbm hnn hp ih
  rcases hgt with ⟨h1, h2, h3⟩ | ⟨h1, h2, h3⟩
  case' inl =>
    have g1 : decide (mid < m) = true := decide_eq_true h1
    have e6 : IntKind.i64.wrap ((nn : Int) - (b : Int)) = (s0 : Int) := by rw [h2]; exact IntWalk.i64_in _ (by omega)
    have HEQ : Hid (s0 = s0 ∧ mid = r0) := ⟨rfl, h3.symm⟩
    clear h1 h2 h3 hs0b
  case' inr =>
    have g1 : decide (mid < m) = false := decide_eq_false h1
    have e6 : True := trivial
    have HEQ : Hid (a = s0 ∧ m = r0) := ⟨h2.symm, h3.symm⟩
    clear h1 h2 h3 hs0b
  all_goals
    go_enter Try.func95, Try.ntmps95
    go_wp2_with fail
    go_loopw [20, 21] (fun u v wr => ∃ (s r : Nat), u = .int .i64 s ∧ v = .int .i64 r ∧ Hid (s0 ≤ s ∧ s ≤ r ∧ r ≤ r0) ∧ Hid (Butt g w wr) ∧ Hid (IntB B wr g n c f) ∧ Hid (∀ k, s0 ≤ k → k < s → ρ (f k) < ρ (f (mid + m - 1 - k))) ∧ Hid (∀ k, r ≤ k → k < r0 → ρ (f (mid + m - 1 - k)) < ρ (f k))) (fun u v _ => (intOf v).toNat - (intOf u).toNat)
    case atStart => exact ⟨_, _, rfl, rfl, ⟨by have := HEQ.out; omega, by have := HEQ.out; have := HL0.out; omega, by have := HEQ.out; omega⟩, Butt.refl _ _, H.out, fun k h1 h2 => by have := HEQ.out; omega, fun k h1 h2 => by have := HEQ.out; omega⟩
    case round =>
      clear e1 e2 e3 e4 e5 e6 e7 f1 f2 g1
      obtain ⟨wo, rfl⟩ : ∃ W, W = wr := ⟨_, rfl⟩
      obtain ⟨s, r, rfl, rfl, hij, hb1, hr, hi1, hj1⟩ := hrel
      obtain ⟨q1, q2, q3⟩ := hij.out
      have hN := HN.out
      have hL0 := HL0.out
      have hNN := HNN.out
      have hSR := HSR.out
      have hMD := HMID.out
      by_cases hlt : s < r
      · have d2 : decide (s < r) = true := decide_eq_true hlt
        have w1 : IntKind.i64.wrap ((s : Int) + (r : Int)) = (s : Int) + (r : Int) := IntWalk.i64_in _ (by omega)
        have i1 : (s : Int) ≤ 1000 := by omega
        have j1 : (r : Int) ≤ 1000 := by omega
        obtain ⟨h, hh⟩ : ∃ h, h = (s + r) / 2 := ⟨_, rfl⟩
        have eh : ((s : Int) + (r : Int)) / 2 = (h : Int) := by omega
        obtain ⟨q, hq⟩ : ∃ q, q = p - h := ⟨_, rfl⟩
        have ep : IntKind.i64.wrap ((p : Int) - (h : Int)) = (q : Int) := by rw [IntWalk.i64_in _ (by omega)]; omega
        have h0 : (0 : Int) ≤ (h : Int) := by omega
        have h1 : (h : Int) < (n : Int) := by omega
        have a0 : (0 : Int) ≤ (q : Int) := by omega
        have a1' : (q : Int) < (n : Int) := by omega
        have HH : Hid (s ≤ h ∧ h < r) := ⟨by omega, by omega⟩
        have hlo := L1.out h (by omega) (by omega)
        have hhi := L2.out q (by omega) (by omega)
        have hc := HK.out.lt (f h) (f q) hlo hhi
        have HCC := fun W hW => hid (HC.out W (f q) (f h) (HK.out.rhi _ hhi) (HK.out.rlo _ hlo) hW)
        obtain ⟨c1, z1⟩ := hr.out.cell (k := h) (by omega)
        obtain ⟨c2, z2⟩ := hr.out.cell (k := q) (by omega)
        have hgm := hid (hr.out.lt).2
        have hg2 : g < wo.heap.size := hgm.out
        have HWm := hid (butt_below (B := B) HW.out hb1.out (Nat.le_of_lt H.out.lt.2))
        have HYes : ρ (f h) < ρ (f q) → Hid (∀ k, s0 ≤ k → k < h + 1 → ρ (f k) < ρ (f (mid + m - 1 - k))) := fun hρ k k1 k2 => by
          by_cases e : k = h
          · rw [e, show mid + m - 1 - h = q by omega]; exact hρ
          · have := S1.out k h (by omega) (by omega) (by omega)
            have := S2.out q (mid + m - 1 - k) (by omega) (by omega) (by omega)
            omega
        have HNo : ρ (f q) < ρ (f h) → Hid (∀ k, h ≤ k → k < r0 → ρ (f (mid + m - 1 - k)) < ρ (f k)) := fun hρ k k1 k2 => by
          by_cases e : k = h
          · rw [e, show mid + m - 1 - h = q by omega]; exact hρ
          · have := S1.out h k (by omega) (by omega) (by omega)
            have := S2.out (mid + m - 1 - k) q (by omega) (by omega) (by omega)
            omega
        obtain ⟨z, hz⟩ : ∃ z, z = cz (f q) (f h) := ⟨_, rfl⟩
        rw [← hz] at hc HCC
        obtain ⟨vh, hvh⟩ : ∃ v, v = f h := ⟨_, rfl⟩
        obtain ⟨va, hva⟩ : ∃ v, v = f q := ⟨_, rfl⟩
        rw [← hvh] at c1 HCC
        rw [← hva] at c2 HCC
        have h1b : (h : Int) ≤ 1000 := by omega
        rcases hc with ⟨hz0, hρ⟩ | ⟨hz0, hρ⟩
        · have d5 : decide (z < 0) = true := decide_eq_true hz0
          have HYN := HNo hρ
          clear HYes HNo hz hz0 hρ hvh hva hlo hhi q1 q2 q3 hN hL0 hNN hSR hMD hlt hh hq
          go_wp2_with fail
          refine wp_region_ext wo.heap.size (by kernel_rfl) (by kernel_rfl) ?_
          repeat (go_big_quiet_step ((go_at_fn fn; refine Calls.ext (Nat.le_refl _) (HCC _ ?_).out; exact HWm.out.trans ((Ext.below _).mono (Nat.le_of_lt hgm.out)))))
          refine wpQuiet_nil ?_
          intro xx
          go_wp2_with fail
          refine ⟨⟨s, h, rfl, rfl, ⟨hij.out.1, HH.out.1, by have := hij.out; have := HH.out; omega⟩, hb1.out.trans (Butt.of xx.below), hr.out.below xx.below (Nat.le_refl _), hi1.out, HYN.out⟩, by have := HH.out; simp [intOf]; omega⟩
        · have d5 : decide (z < 0) = false := decide_eq_false hz0
          have HYN := HYes hρ
          clear HYes HNo hz hz0 hρ hvh hva hlo hhi q1 q2 q3 hN hL0 hNN hSR hMD hlt hh hq
          go_wp2_with fail
          refine wp_region_ext wo.heap.size (by kernel_rfl) (by kernel_rfl) ?_
          repeat (go_big_quiet_step ((go_at_fn fn; refine Calls.ext (Nat.le_refl _) (HCC _ ?_).out; exact HWm.out.trans ((Ext.below _).mono (Nat.le_of_lt hgm.out)))))
          refine wpQuiet_nil ?_
          intro xx
          go_wp2_with fail
          refine ⟨⟨h + 1, r, by go_num, rfl, ⟨by have := hij.out; have := HH.out; omega, by have := HH.out; omega, hij.out.2.2⟩, hb1.out.trans (Butt.of xx.below), hr.out.below xx.below (Nat.le_refl _), HYN.out, hj1.out⟩, by have := HH.out; simp [intOf]; omega⟩
      · have hsr : r = s := by omega
        subst hsr
        have d2 : decide (r < r) = false := decide_eq_false (by omega)
        obtain ⟨p1, p2, p3, p4, p5, pb1, pb2⟩ := part_ok S1.out S2.out hMD (by omega) (by omega) hSR q1 q3 hi1.out hj1.out
        obtain ⟨e, he⟩ : ∃ e, e = mid + m - r := ⟨_, rfl⟩
        rw [← he] at p3 p4 p5 pb1 pb2
        have w1 : IntKind.i64.wrap ((nn : Int) - (r : Int)) = (e : Int) := by rw [IntWalk.i64_in _ (by omega)]; omega
        obtain ⟨g1, hg1⟩ : ∃ g1, g1 = rotF r m e f := ⟨_, rfl⟩
        have P := rot_parts p1 p2 p3 p4 S1.out S2.out
        have Q := rot_all p1 p2 p3 p4 L1.out L2.out
        have hBen := rot_beneath p1 p2 p3 p4 S1.out S2.out pb1 pb2
        have hSame : Same a b f g1 := by rw [hg1]; exact (Same.rot p2 p3 f).mono p1 p4
        rw [← hg1, p5] at P Q hBen
        have HFIN : Hid (∀ f2 f3, Same a mid g1 f2 → Asc ρ a mid f2 → Same mid b f2 f3 → Asc ρ mid b f3 → Same a b f f3 ∧ Asc ρ a b f3) := fun f2 f3 x1 x2 x3 x4 => merge_fin (by omega) (by omega) hSame hBen x1 x2 x3 x4
        have HRT : r < m → m < e → Hid (Calls Try.prog 96 #[.slice (some ⟨g, 0, none⟩) n c, .int .i64 r, .int .i64 m, .int .i64 e, .func (.func fn) fst cap] wo fun e w' => e = .returned (.tuple #[]) ∧ Butt g wo w' ∧ IntB B w' g n c g1) := fun x1 x2 => by
          rw [hg1]; exact c_rotate B g n c r m e x1 x2 (by omega) hN.2.2.2 _ f wo hr.out
        have HM1 : ∀ W, a < r → r < mid → Below g w0 W → IntB B W g n c g1 → Hid (Calls Try.prog 95 #[.slice (some ⟨g, 0, none⟩) n c, .int .i64 a, .int .i64 r, .int .i64 mid, .func (.func fn) fst cap] W (SrtRet B g n c a mid ρ g1 W)) := fun W x1 x2 x3 x4 =>
          HI.out a r mid g1 W (by omega) x1 x2 (by omega) P.1 P.2.1 Q.1 Q.2.1 x3 x4
        have HM2 : ∀ W f2, mid < e → e < b → Below g w0 W → IntB B W g n c f2 → Same a mid g1 f2 → Hid (Calls Try.prog 95 #[.slice (some ⟨g, 0, none⟩) n c, .int .i64 mid, .int .i64 e, .int .i64 b, .func (.func fn) fst cap] W (SrtRet B g n c mid b ρ f2 W)) := fun W f2 x1 x2 x3 x4 x5 =>
          HI.out mid e b f2 W (by omega) x1 x2 (by omega) (P.2.2.1.congr fun k k1 k2 => x5.out k (by omega)) (P.2.2.2.congr fun k k1 k2 => x5.out k (by omega)) (Q.2.2.1.congr fun k k1 k2 => x5.out k (by omega)) (Q.2.2.2.congr fun k k1 k2 => x5.out k (by omega)) x3 x4
        have HP1 : ¬ (a < r ∧ r < mid) → Hid (Asc ρ a mid g1) := fun hno => by
          by_cases x : a < r
          · obtain rfl : r = mid := by omega
            exact P.1
          · obtain rfl : r = a := by omega
            exact P.2.1
        have HP2 : ¬ (mid < e ∧ e < b) → Hid (∀ f2, Same a mid g1 f2 → Asc ρ mid b f2) := fun hno f2 x5 => by
          refine Asc.congr (f := g1) ?_ fun k k1 k2 => x5.out k (by omega)
          by_cases x : mid < e
          · obtain rfl : e = b := by omega
            exact P.2.2.1
          · obtain rfl : e = mid := by omega
            exact P.2.2.2
        have HR5 : (¬ (r < m ∧ m < e)) → Hid (IntB B wo g n c g1) := fun hno => by
          rw [hg1]
          by_cases x : r < m
          · obtain rfl : e = m := by omega
            rw [rotF_self _ _ _ p2]; exact hr.out
          · obtain rfl : r = m := by omega
            rw [rotF_left]; exact hr.out
        have HW5 := hid (butt_below (B := B) HW.out hb1.out (Nat.le_of_lt H.out.lt.2))
        have HGL := hid (Nat.le_of_lt hr.out.lt.2)
        have HPE : Hid (r + (e - m) = mid ∧ r ≤ m ∧ m ≤ e) := ⟨p5, p2, p3⟩
        have hpe1 : (m < e) = (r < mid) := propext ⟨fun _ => by omega, fun _ => by omega⟩
        have hpe2 : (mid < e) = (r < m) := propext ⟨fun _ => by omega, fun _ => by omega⟩
        have HE1 := hid hpe1
        have HE2 := hid hpe2
        clear hSame hBen P Q pb1 pb2 p1 p2 p3 p4 p5 he hg1 q1 q2 q3 hN hL0 hNN hSR hMD hlt hpe1 hpe2
        by_cases A : r < m
        case' pos => (have dA : decide (r < m) = true := decide_eq_true A; have dA2 : decide (mid < e) = true := decide_eq_true (by rw [HE2.out]; exact A))
        case' neg => (have dA : decide (r < m) = false := decide_eq_false A; have dA2 : decide (mid < e) = false := decide_eq_false (by rw [HE2.out]; exact A))
        all_goals
          by_cases C : m < e
          case' pos => (have dC : decide (m < e) = true := decide_eq_true C; have dC2 : decide (r < mid) = true := decide_eq_true (by rw [← HE1.out]; exact C))
          case' neg => (have dC : decide (m < e) = false := decide_eq_false C; have dC2 : decide (r < mid) = false := decide_eq_false (by rw [← HE1.out]; exact C))
        all_goals
          by_cases D : a < r
          case' pos => have dD : decide (a < r) = true := decide_eq_true D
          case' neg => have dD : decide (a < r) = false := decide_eq_false D
        all_goals
          by_cases E : e < b
          case' pos => have dE : decide (e < b) = true := decide_eq_true E
          case' neg => have dE : decide (e < b) = false := decide_eq_false E
        all_goals
          have HA := hid A
          have HCm := hid C
          have HD := hid D
          have HE := hid E
          clear A C D E
          first | (have HI5 := HR5 (fun hh => HA.out hh.1); have HB5 := hid hb1.out; have HW6 := HW5) | (have HI5 := HR5 (fun hh => HCm.out hh.2); have HB5 := hid hb1.out; have HW6 := HW5) | skip
          first | (have HN1 := HP1 (fun hh => HD.out hh.1)) | (have HN1 := HP1 (fun hh => HCm.out (Eq.mpr HE1.out hh.2))) | skip
          first | (have HN2 := HP2 (fun hh => HA.out (Eq.mp HE2.out hh.1))) | (have HN2 := HP2 (fun hh => HE.out hh.2)) | skip
          clear HR5 HP1 HP2
          go_wp2_with (first
            | (go_at_call 96; ((with_reducible refine (HRT HA.out HCm.out).out.mono ?_); rintro e5 w5 ⟨rfl, hb5, hr5⟩); have HB5 := hid (hb1.out.trans hb5); have HI5 := hid hr5; have HW6 := hid (butt_below (B := B) HW5.out hb5 HGL.out); clear hb5 hr5)
            | (go_at_call 95; ((with_reducible refine (HM1 _ HD.out (Eq.mp HE1.out HCm.out) HW6.out HI5.out).out.mono ?_); rintro e6 w6 ⟨rfl, f2, hb6, hr6, hs6, ha6⟩); have HB6 := hid (HB5.out.trans hb6); have HI6 := hid hr6; have HS6 := hid hs6; have HA6 := hid ha6; have HW7 := hid (butt_below (B := B) HW6.out hb6 (Nat.le_of_lt HI5.out.lt.2)); clear hb6 hr6 hs6 ha6)
            | (go_at_call 95; ((with_reducible refine (HM2 _ _ (Eq.mpr HE2.out HA.out) HE.out HW7.out HI6.out HS6.out).out.mono ?_); rintro e7 w7 ⟨rfl, f3, hb7, hr7, hs7, ha7⟩); have HB7 := hid (HB6.out.trans hb7); have HI7 := hid hr7; have HS7 := hid hs7; have HA7 := hid ha7; clear hb7 hr7 hs7 ha7)
            | (go_at_call 95; ((with_reducible refine (HM2 _ _ (Eq.mpr HE2.out HA.out) HE.out HW6.out HI5.out (Same.refl _ _ _)).out.mono ?_); rintro e7 w7 ⟨rfl, f3, hb7, hr7, hs7, ha7⟩); have HB7 := hid (HB5.out.trans hb7); have HI7 := hid hr7; have HS7 := hid hs7; have HA7 := hid ha7; clear hb7 hr7 hs7 ha7))
          go_end0
          first
            | exact ⟨rfl, _, HB7.out, HI7.out, (HFIN.out _ _ HS6.out HA6.out HS7.out HA7.out).1, (HFIN.out _ _ HS6.out HA6.out HS7.out HA7.out).2⟩
            | exact ⟨rfl, _, HB7.out, HI7.out, (HFIN.out _ _ (Same.refl _ _ _) HN1.out HS7.out HA7.out).1, (HFIN.out _ _ (Same.refl _ _ _) HN1.out HS7.out HA7.out).2⟩
            | exact ⟨rfl, _, HB6.out, HI6.out, (HFIN.out _ _ HS6.out HA6.out (Same.refl _ _ _) (HN2.out _ HS6.out)).1, (HFIN.out _ _ HS6.out HA6.out (Same.refl _ _ _) (HN2.out _ HS6.out)).2⟩
            | exact ⟨rfl, _, HB5.out, HI5.out, (HFIN.out _ _ (Same.refl _ _ _) HN1.out (Same.refl _ _ _) (HN2.out _ (Same.refl _ _ _))).1, (HFIN.out _ _ (Same.refl _ _ _) HN1.out (Same.refl _ _ _) (HN2.out _ (Same.refl _ _ _))).2⟩
end Go.Proofs.Ytgbihaliiogboaa

/- slices.SortStableFunc over at most 30 numbers. -/
namespace Go.Proofs.Ytgbihaliiogboaa
open Go.RowKit
set_option linter.unusedSimpArgs false
set_option linter.unusedVariables false
theorem c_symMerge (B g n c : Nat) (hn : n ≤ 1000) (fn : Nat) (fst cap : Array Value) (eg : ∀ args w, (callFunc fn args).run Try.prog w = .ok (.enter fn args) w) (cz : Int → Int → Int) (ρ : Int → Int) (lo hi : Int → Prop) (w0 : World) (hcmp : CmpK fn fst cap cz n g w0) (hok : CmpOk cz ρ lo hi n) :
    ∀ (N a m b : Nat) (f : Nat → Int) (W : World), b - a ≤ N → a < m → m < b → b ≤ n → Asc ρ a m f → Asc ρ m b f → AllF lo a m f → AllF hi m b f → Below g w0 W → IntB B W g n c f →
      Calls Try.prog 95 #[.slice (some ⟨g, 0, none⟩) n c, .int .i64 a, .int .i64 m, .int .i64 b, .func (.func fn) fst cap] W (SrtRet B g n c a b ρ f W)
  | 0, a, m, b, f, W, h, h1, h2, _, _, _, _, _, _, _ => by omega
  | N + 1, a, m, b, f, W, h, h1, h2, h3, s1, s2, l1, l2, hw, hr => by
    by_cases ha : m = a + 1
    · subst ha
      exact c_symA B g n c hn fn fst cap eg cz ρ lo hi w0 hcmp hok a b h2 h3 f s2 (l1 a (Nat.le_refl _) (Nat.lt_succ_self _)) l2 W hw hr
    · by_cases hb : b = m + 1
      · subst hb
        exact c_symB B g n c hn fn fst cap eg cz ρ lo hi w0 hcmp hok a m (by omega) h3 f s1 l1 (l2 m (Nat.le_refl _) (Nat.lt_succ_self _)) W hw hr
      · exact c_symC B g n c hn fn fst cap eg cz ρ lo hi w0 hcmp hok a m b (by omega) (by omega) h3 f s1 s2 l1 l2 W hw hr
          (fun a' m' b' f' W' k1 k2 k3 k4 k5 k6 k7 k8 k9 k10 => c_symMerge B g n c hn fn fst cap eg cz ρ lo hi w0 hcmp hok N a' m' b' f' W' (by omega) k2 k3 k4 k5 k6 k7 k8 k9 k10)
set_option maxHeartbeats 1600000 in
set_option maxRecDepth 100000 in
theorem c_stable (B g n c : Nat) (hn : n ≤ 30) (fn : Nat) (fst cap : Array Value) (eg : ∀ args w, (callFunc fn args).run Try.prog w = .ok (.enter fn args) w) (cz : Int → Int → Int) (ρ : Int → Int) (w0 : World) (hcmp : CmpK fn fst cap cz n g w0)
    (hlt : ∀ x y : Int, 0 ≤ y → y < x → x < n → (cz x y < 0 ∧ ρ x < ρ y) ∨ (¬ cz x y < 0 ∧ ρ y < ρ x)) (f : Nat → Int) (hf : ∀ k, k < n → f k = (k : Int)) (w : World) (hw : Below g w0 w) (h : IntB B w g n c f) :
    Calls Try.prog 92 #[.slice (some ⟨g, 0, none⟩) n c, .int .i64 n, .func (.func fn) fst cap] w (SrtRet B g n c 0 n ρ f w) := by
  have H := hid h
  have HI := fun (a b : Nat) hab hb f' hf' W hW hr => hid (c_insSort B g n c (by omega) fn fst cap eg cz ρ w0 hcmp hlt a b hab hb f' hf' W hW hr)
  have hok : CmpOk cz ρ (fun x => 0 ≤ x ∧ x < 20) (fun y => 20 ≤ y ∧ y < n) (max n 20) := ⟨fun x y hx hy => hlt y x hx.1 (by omega) hy.2, fun x hx => by omega, fun y hy => by omega⟩
  by_cases h20 : n < 20
  · have H1 := HI 0 n (Nat.zero_le _) (Nat.le_refl _) f (fun k _ hk => hf k hk) w hw h
    have d1 : decide ((20 : Int) ≤ (n : Int)) = false := decide_eq_false (by omega)
    have d2 : decide ((20 : Int) < (n : Int)) = false := decide_eq_false (by omega)
    clear HI hok h20 hn h hw hf hlt hcmp
    go_enter Try.func92, Try.ntmps92
    go_wp2_with fail
    refine wp_loop_rounds 1 ?_
    rw [rounds_succ]
    go_wp2_with (go_at_call 94; ((refine H1.out.mono ?_); rintro e1 w1 ⟨rfl, f1, hb1, hr1, hs1, ha1⟩); have R1 := hid hb1; have R2 := hid hr1; have R3 := hid hs1; have R4 := hid ha1; clear hb1 hr1 hs1 ha1)
    refine wp_loop_rounds 1 ?_
    rw [rounds_succ]
    go_wp2_with fail
    go_end0
    exact ⟨rfl, _, R1.out, R2.out, R3.out, R4.out⟩
  · have hok : CmpOk cz ρ (fun x => 0 ≤ x ∧ x < 20) (fun y => 20 ≤ y ∧ y < n) n := ⟨fun x y hx hy => hlt y x hx.1 (by omega) hy.2, fun x hx => by omega, fun y hy => by omega⟩
    have H1 := HI 0 20 (Nat.zero_le _) (by omega) f (fun k _ hk => hf k (by omega)) w hw h
    have H2 := fun f1 W (hs : Same 0 20 f f1) hW hr => HI 20 n (by omega) (Nat.le_refl _) f1 (fun k k1 k2 => (hs.out k (by omega)).trans (hf k k2)) W hW hr
    have HB0 : Hid (∀ W', Butt g w W' → Below g w0 W') := fun W' hb => butt_below (B := B) hw hb (Nat.le_of_lt h.lt.2)
    have d1 : decide ((20 : Int) ≤ (n : Int)) = true := decide_eq_true (by omega)
    have d3 : decide ((40 : Int) ≤ (n : Int)) = false := decide_eq_false (by omega)
    have d4 : decide ((40 : Int) < (n : Int)) = false := decide_eq_false (by omega)
    by_cases h21 : n = 20
    · have d2 : decide ((20 : Int) < (n : Int)) = false := decide_eq_false (by omega)
      have HN := hid h21
      clear HI hok h20 h21 hn h hw hf hlt hcmp
      go_enter Try.func92, Try.ntmps92
      go_wp2_with fail
      refine wp_loop_rounds 2 ?_
      rw [rounds_succ]
      go_wp2_with (go_at_call 94; ((refine H1.out.mono ?_); rintro e1 w1 ⟨rfl, f1, hb1, hr1, hs1, ha1⟩); have R1 := hid hb1; have R2 := hid hr1; have R3 := hid hs1; have R4 := hid ha1; clear hb1 hr1 hs1 ha1)
      rw [rounds_succ]
      go_wp2_with (go_at_call 94; ((refine (H2 f1 _ R3.out (HB0.out _ R1.out) R2.out).out.mono ?_); rintro e2 w2 ⟨rfl, f2, hb2, hr2, hs2, ha2⟩); have S1 := hid hb2; have S2 := hid hr2; have S3 := hid hs2; have S4 := hid ha2; clear hb2 hr2 hs2 ha2)
      refine wp_loop_rounds 1 ?_
      rw [rounds_succ]
      go_wp2_with fail
      go_end0
      obtain rfl : n = 20 := HN.out
      exact ⟨rfl, _, R1.out.trans S1.out, S2.out, R3.out.trans (S3.out.mono (by omega) (Nat.le_refl _)), R4.out.congr (fun k k1 k2 => S3.out.out k (by omega))⟩
    · have d2 : decide ((20 : Int) < (n : Int)) = true := decide_eq_true (by omega)
      have HN : Hid (20 < n) := by show _ < _; omega
      have HLo : Hid (∀ f1, Same 0 20 f f1 → AllF (fun x => 0 ≤ x ∧ x < 20) 0 20 f1) := fun f1 hs k k1 k2 => by
        obtain ⟨j, j1, j2, e⟩ := hs.to k k1 k2
        rw [e, hf j (by omega)]; omega
      have HHi : Hid (∀ f1 f2, Same 0 20 f f1 → Same 20 n f1 f2 → AllF (fun y => 20 ≤ y ∧ y < n) 20 n f2) := fun f1 f2 hs hs2 k k1 k2 => by
        obtain ⟨j, j1, j2, e⟩ := hs2.to k k1 k2
        rw [e, hs.out j (by omega), hf j j2]; omega
      have HSM := fun f2 W s1 s2 l1 l2 hW hr => hid (c_symMerge B g n c (by omega) fn fst cap eg cz ρ _ _ w0 hcmp hok n 0 20 n f2 W (by omega) (by omega) HN.out (Nat.le_refl _) s1 s2 l1 l2 hW hr)
      clear HI hok h20 h21 hn h hw hf hlt hcmp
      go_enter Try.func92, Try.ntmps92
      go_wp2_with fail
      refine wp_loop_rounds 2 ?_
      rw [rounds_succ]
      go_wp2_with (go_at_call 94; ((refine H1.out.mono ?_); rintro e1 w1 ⟨rfl, f1, hb1, hr1, hs1, ha1⟩); have R1 := hid hb1; have R2 := hid hr1; have R3 := hid hs1; have R4 := hid ha1; clear hb1 hr1 hs1 ha1)
      rw [rounds_succ]
      go_wp2_with (go_at_call 94; ((refine (H2 f1 _ R3.out (HB0.out _ R1.out) R2.out).out.mono ?_); rintro e2 w2 ⟨rfl, f2, hb2, hr2, hs2, ha2⟩); have S1 := hid (R1.out.trans hb2); have S2 := hid hr2; have S3 := hid hs2; have S4 := hid ha2; clear hb2 hr2 hs2 ha2)
      refine wp_loop_rounds 2 ?_
      rw [rounds_succ]
      go_wp2_with fail
      refine wp_loop_rounds 1 ?_
      rw [rounds_succ]
      go_wp2_with (go_at_call 95; ((refine (HSM f2 _ (R4.out.congr fun k k1 k2 => S3.out.out k (by omega)) S4.out ((HLo.out f1 R3.out).congr fun k k1 k2 => S3.out.out k (by omega)) (HHi.out f1 f2 R3.out S3.out) (HB0.out _ S1.out) S2.out).out.mono ?_); rintro e3 w3 ⟨rfl, f3, hb3, hr3, hs3, ha3⟩); have T1 := hid (S1.out.trans hb3); have T2 := hid hr3; have T3 := hid hs3; have T4 := hid ha3; clear hb3 hr3 hs3 ha3)
      rw [rounds_succ]
      go_wp2_with fail
      go_end0
      exact ⟨rfl, _, T1.out, T2.out, ((R3.out.mono (Nat.le_refl _) (Nat.le_of_lt HN.out)).trans (S3.out.mono (by omega) (Nat.le_refl _))).trans T3.out, T4.out⟩
set_option maxRecDepth 100000 in
theorem c_sortStable (B g n c : Nat) (hn : n ≤ 30) (fn : Nat) (fst cap : Array Value) (eg : ∀ args w, (callFunc fn args).run Try.prog w = .ok (.enter fn args) w) (cz : Int → Int → Int) (ρ : Int → Int) (w0 : World) (hcmp : CmpK fn fst cap cz n g w0)
    (hlt : ∀ x y : Int, 0 ≤ y → y < x → x < n → (cz x y < 0 ∧ ρ x < ρ y) ∨ (¬ cz x y < 0 ∧ ρ y < ρ x)) (f : Nat → Int) (hf : ∀ k, k < n → f k = (k : Int)) (w : World) (hw : Below g w0 w) (h : IntB B w g n c f) :
    Calls Try.prog 86 #[.slice (some ⟨g, 0, none⟩) n c, .func (.func fn) fst cap] w (SrtRet B g n c 0 n ρ f w) := by
  have H := hid (c_stable B g n c hn fn fst cap eg cz ρ w0 hcmp hlt f hf w hw h)
  clear hn hcmp hlt hf hw h
  go_enter Try.func86, Try.ntmps86
  go_wp2_with (go_at_call 92; ((with_reducible refine H.out.mono ?_); rintro e1 w1 ⟨rfl, f1, hb1, hr1, hs1, ha1⟩); have R1 := hid hb1; have R2 := hid hr1; have R3 := hid hs1; have R4 := hid ha1; clear hb1 hr1 hs1 ha1)
  go_end0
  exact ⟨rfl, _, R1.out, R2.out, R3.out, R4.out⟩
end Go.Proofs.Ytgbihaliiogboaa

/- Rows of numbers that a call owns. -/
namespace Go.Proofs.Ytgbihaliiogboaa
open Go.RowKit
set_option linter.unusedSimpArgs false
set_option linter.unusedVariables false

/-- The slice v owns the numbers l, in a block from B on. -/
def RowI (B : Nat) (w : World) (v : Value) (l : List Int) : Prop := w.ownsRow B 2 1 v l.length (icells l)
theorem icells_get {l : List Int} {j : Nat} {n : Int} (h : l[j]? = some n) : (icells l)[j]? = some (.int .i64 n) := by unfold icells; rw [List.getElem?_map, h]; rfl
theorem icells_set (l : List Int) (j : Nat) (n : Int) : (icells l).set j (.int .i64 n) = icells (l.set j n) := by unfold icells; rw [List.map_set]
theorem icells_snoc (l : List Int) (n : Int) : icells (l ++ [n]) = icells l ++ [.int .i64 n] := by simp [icells]
theorem RowI.nil (B : Nat) (w : World) : RowI B w (.slice none 0 0) [] := World.ownsRow_nil w B 2 1
theorem RowI.made {B : Nat} {w : World} (hB : B ≤ w.heap.size) : RowI B (w.alloc (.cells #[] 2)) (.slice (some ⟨w.heap.size, 0, none⟩) 0 0) [] := World.ownsRow_made w #[] 0 hB (by decide) rfl
theorem RowI.slc {B : Nat} {w : World} {v : Value} {l : List Int} (h : RowI B w v l) : ∃ A c, v = .slice A l.length c := owns_slc h
theorem RowI.sli {B : Nat} {w : World} {A : Option Addr} {n c : Nat} {l : List Int} (h : RowI B w (.slice A n c) l) : SlI w A l := fun j p hj => by
  obtain ⟨g, c', e, _, h1, h2, _⟩ := owns_cell h (icells_get hj)
  obtain ⟨rfl, _, _⟩ : A = some ⟨g, 0, none⟩ ∧ n = l.length ∧ c = c' := by simpa using e
  exact ⟨g, 0, rfl, h1, by rw [Nat.zero_add]; exact h2⟩
theorem RowI.cell {B : Nat} {w : World} {v : Value} {l : List Int} (h : RowI B w v l) {j : Nat} {n : Int} (hj : l[j]? = some n) :
    ∃ g c, v = .slice (some ⟨g, 0, none⟩) l.length c ∧ B ≤ g ∧ g < w.heap.size ∧ w.cell? ⟨g, j, none⟩ = some (.int .i64 n) ∧ w.frozen? ⟨g, j, none⟩ = false := owns_cell h (icells_get hj)
theorem RowI.set {B : Nat} {w : World} {g n c : Nat} {l : List Int} (h : RowI B w (.slice (some ⟨g, 0, none⟩) n c) l) {j : Nat} (hj : j < l.length) (x : Int) : RowI B (w.setCell ⟨g, j, none⟩ (.int .i64 x)) (.slice (some ⟨g, 0, none⟩) n c) (l.set j x) := by
  have := owns_set h (g := g) rfl j (by omega) (.int .i64 x)
  rw [icells_set] at this
  unfold RowI
  rw [List.length_set]
  exact this
theorem RowI.setO {B : Nat} {w : World} {v : Value} {l : List Int} (h : RowI B w v l) {g : Nat} (hg : v.ownBlock ≠ some g) (j : Nat) (x : Value) : RowI B (w.setCell ⟨g, j, none⟩ x) v l := owns_set_other h hg j x
theorem RowI.below {B B' : Nat} {w w' : World} {v : Value} {l : List Int} (h : RowI B w v l) (hb : Below B' w w') (hB : w.heap.size ≤ B') : RowI B w' v l := owns_below2 h hb hB
theorem RowI.alloc {B : Nat} {w : World} {v : Value} {l : List Int} (h : RowI B w v l) (o : Obj) : RowI B (w.alloc o) v l := World.ownsRow.alloc h o
theorem RowI.mono {B B' : Nat} {w : World} {v : Value} {l : List Int} (h : RowI B w v l) (hB : B' ≤ B) : RowI B' w v l := World.ownsRow.mono h hB
theorem RowI.lt {B : Nat} {w : World} {v : Value} {l : List Int} (h : RowI B w v l) : ∀ g, v.ownBlock = some g → B ≤ g ∧ g < w.heap.size := World.ownsRow.lt h
theorem RowI.grew {B : Nat} {w w' : World} {u v v' : Value} {l : List Int} (h : RowI B w u l) (hg : Grew v v' w w') (ha : Apart u v) : RowI B w' u l := hg.row h ha
theorem RowI.grewA {B : Nat} {w w' : World} {u v v' : Value} {l : List Int} (h : RowI B w u l) (hg : Grew v v' w w') (ha : Apart u v) : Apart u v' := hg.apart h ha
theorem RowI.belowG {B : Nat} {w w' : World} {v v' : Value} {l : List Int} (h : RowI B w v l) (hg : Grew v v' w w') (hB : B ≤ w.heap.size) : Below B w w' := hg.below B (fun g hg => (h.lt g hg).1) hB
/-- One number more. -/
theorem wp_appI {ops : Array Oper} {rest : List Oper} {o : Oper} {a : Act} {W : World} {Q : Exit → Act → World → Prop} (hgd : o.guard = none) (s x : Operand)
    (ho : o.op = .call { callee := .builtin .append, args := #[s, x], argTypes := #[75, 75] })
    (B : Nat) (v : Value) (l : List Int) (n : Int) (hO : RowI B W v l) (hs : a.eval s = v) (H : Nat) (hx : a.eval x = .slice (some ⟨H, 0, none⟩) 1 1) (hn : l.length ≤ 1100000) (hB : B ≤ W.heap.size) (hH : W.heap.size = H)
    (h : ∀ v' w', RowI B w' v' (l ++ [n]) → Grew v v' W w' → wpList Try.prog ops Q rest (a.put o.dst v') w') : wpList Try.prog ops Q (o :: rest) a (W.alloc (.cells #[.int .i64 n] 2)) := by
  obtain ⟨i0, hi, hz0, hz1, hz2⟩ := info_parts Try.infoI64
  refine wpList_append_row hgd s x 75 ho B 2 i0 (.int .i64 0) 1 8 Try.underlying75 hi hz0 hz1 hz2 rfl (by decide) (by decide) v l.length (icells l) hs hO #[.int .i64 n] rfl (by simp [Value.oneCell']) H hx hn hB hH _ ?_
  intro v' w' h1 h2
  refine h v' w' ?_ h2
  unfold RowI
  rw [icells_snoc, List.length_append]
  exact h1
/-- One number more, behind a draw. -/
theorem wp_appID {ops : Array Oper} {rest : List Oper} {o : Oper} {a : Act} {W : World} {Q : Exit → Act → World → Prop} (hgd : o.guard = none) (s x : Operand)
    (ho : o.op = .call { callee := .builtin .append, args := #[s, x], argTypes := #[75, 75] })
    (B : Nat) (v : Value) (l : List Int) (n : Int) (hO : RowI B W v l) (hs : a.eval s = v) (H : Nat) (hx : a.eval x = .slice (some ⟨H, 0, none⟩) 1 1) (hn : l.length ≤ 1100000) (hB : B ≤ W.heap.size) (hH : W.heap.size = H)
    (h : ∀ v' w', RowI B w' v' (l ++ [n]) → Grew v v' W w' → wpList Try.prog ops Q rest (a.put o.dst v') w') : wpList Try.prog ops Q (o :: rest) a (W.alloc (.cells #[.int .i64 n] 2)).drew := by
  obtain ⟨i0, hi, hz0, hz1, hz2⟩ := info_parts Try.infoI64
  refine wpList_append_rowD hgd s x 75 ho B 2 i0 (.int .i64 0) 1 8 Try.underlying75 hi hz0 hz1 hz2 rfl (by decide) (by decide) v l.length (icells l) hs hO #[.int .i64 n] rfl (by simp [Value.oneCell']) H hx hn hB hH _ ?_
  intro v' w' h1 h2
  refine h v' w' ?_ h2
  unfold RowI
  rw [icells_snoc, List.length_append]
  exact h1
end Go.Proofs.Ytgbihaliiogboaa

/- cmp.Compare of numbers, and descending order. -/
namespace Go.Proofs.Ytgbihaliiogboaa
open Go.RowKit
set_option linter.unusedSimpArgs false
set_option linter.unusedVariables false

def cmpZ (x y : Int) : Int := if x < y then -1 else if y < x then 1 else 0
end Go.Proofs.Ytgbihaliiogboaa

/- byWidth, the program's. -/
namespace Go.Proofs.Ytgbihaliiogboaa
open Go.RowKit
set_option linter.unusedSimpArgs false
set_option linter.unusedVariables false
set_option maxRecDepth 100000 in
theorem c_nan8w (x : Int) (w : World) : Calls Try.prog 93 #[.int .i8 x] w fun e w' => e = .returned (.bool false) ∧ w = w' := by
  have hne : (x != x) = false := by simp
  go_enter Try.func93, Try.ntmps93
  go_wp2_with fail
  go_ret
  exact ⟨rfl, rfl⟩
set_option maxRecDepth 100000 in
theorem c_cmp8w (x y : Int) (w : World) : Calls Try.prog 88 #[.int .i8 x, .int .i8 y] w fun e w' => e = .returned (.int .i64 (cmpZ x y)) ∧ w = w' := by
  have h3 : (x < y ∧ cmpZ x y = -1) ∨ (¬ x < y ∧ y < x ∧ cmpZ x y = 1) ∨ (¬ x < y ∧ ¬ y < x ∧ cmpZ x y = 0) := by
    unfold cmpZ
    by_cases h1 : x < y
    · exact .inl ⟨h1, if_pos h1⟩
    · by_cases h2 : y < x
      · exact .inr (.inl ⟨h1, h2, by rw [if_neg h1, if_pos h2]⟩)
      · exact .inr (.inr ⟨h1, h2, by rw [if_neg h1, if_neg h2]⟩)
  rcases h3 with ⟨h1, h2⟩ | ⟨h1, h2, h3⟩ | ⟨h1, h2, h3⟩
  · rw [h2]
    have d1 : decide (x < y) = true := decide_eq_true h1
    clear h1 h2
    go_enter Try.func88, Try.ntmps88
    go_wp2_with (go_at_call 93; ((with_reducible refine (c_nan8w _ _).mono ?_); rintro e w1 ⟨rfl, rfl⟩))
    go_ret
    exact ⟨rfl, rfl⟩
  · rw [h3]
    have d1 : decide (x < y) = false := decide_eq_false h1
    have d2 : decide (x > y) = true := decide_eq_true h2
    clear h1 h2 h3
    go_enter Try.func88, Try.ntmps88
    go_wp2_with (go_at_call 93; ((with_reducible refine (c_nan8w _ _).mono ?_); rintro e w1 ⟨rfl, rfl⟩))
    go_ret
    exact ⟨rfl, rfl⟩
  · rw [h3]
    have d1 : decide (x < y) = false := decide_eq_false h1
    have d2 : decide (x > y) = false := decide_eq_false h2
    clear h1 h2 h3
    go_enter Try.func88, Try.ntmps88
    go_wp2_with (go_at_call 93; ((with_reducible refine (c_nan8w _ _).mono ?_); rintro e w1 ⟨rfl, rfl⟩))
    go_ret
    exact ⟨rfl, rfl⟩
set_option maxRecDepth 100000 in
theorem c_byClo (A : Option Addr) (c : Nat) (l : List (Int × Int)) (hlen : l.length ≤ 1048576) (x y : Nat) (hx : x < l.length) (hy : y < l.length) (bw : Nat) (w : World) (hb : w.heap[bw]? = some (.cells #[.slice A l.length c] 26 (0, 0))) (hA : PairsAt .i8 .i8 w A l) :
    Calls Try.prog 87 #[.int .i64 x, .int .i64 y, .pointer (some ⟨bw, 0, none⟩)] w fun e w' => e = .returned (.int .i64 (cmpZ (wdL l y) (wdL l x))) ∧ Below w.heap.size w w' := by
  have q0 : w.cell? ⟨bw, 0, none⟩ = some (.slice A l.length c) := cell_block hb rfl
  have lb := block_lt hb
  have px := List.getElem?_eq_getElem hx
  have py := List.getElem?_eq_getElem hy
  rw [wdL_get px, wdL_get py]
  obtain ⟨p, hp⟩ : ∃ p, p = l[x] := ⟨_, rfl⟩
  obtain ⟨q, hq⟩ : ∃ p, p = l[y] := ⟨_, rfl⟩
  rw [← hp] at px ⊢
  rw [← hq] at py ⊢
  obtain ⟨b, off, rfl, r1, r2, r3⟩ := hA x p px
  obtain ⟨b', off', e, s1, s2, s3⟩ := hA y q py
  obtain ⟨rfl, rfl⟩ : b = b' ∧ off = off' := by simpa using e
  have x0 : (0 : Int) ≤ (x : Int) := by omega
  have x1 : (x : Int) < (l.length : Int) := by omega
  have y0 : (0 : Int) ≤ (y : Int) := by omega
  have y1 : (y : Int) < (l.length : Int) := by omega
  have x2 : (x : Int) ≤ 1048576 := by omega
  have y2 : (y : Int) ≤ 1048576 := by omega
  clear hb hA px py hp hq e hx hy hlen
  go_enter Try.func87, Try.ntmps87
  go_wp2_with fail
  refine wp_region_ext w.heap.size (by kernel_rfl) (by kernel_rfl) ?_
  repeat (go_big_quiet_step ((go_at_call 88; with_reducible exact Calls.ext_same (c_cmp8w _ _ _))))
  refine wpQuiet_nil ?_
  intro xx
  go_wp2_with fail
  go_ret
  exact ⟨rfl, xx.below⟩
set_option maxRecDepth 100000 in
theorem c_insNil (A : Option Addr) (c : Nat) (fv : Value) (w : World) : Calls Try.prog 94 #[.slice A 0 c, .int .i64 0, .int .i64 0, fv] w fun e w' => e = .returned (.tuple #[]) ∧ w = w' := by
  go_enter Try.func94, Try.ntmps94
  go_wp2_with fail
  refine wp_loop_rounds 1 ?_
  rw [rounds_succ]
  go_wp2_with fail
  go_end0
  exact ⟨rfl, rfl⟩
set_option maxRecDepth 100000 in
theorem c_stableNil (A : Option Addr) (c : Nat) (fv : Value) (w : World) : Calls Try.prog 92 #[.slice A 0 c, .int .i64 0, fv] w fun e w' => e = .returned (.tuple #[]) ∧ w = w' := by
  go_enter Try.func92, Try.ntmps92
  go_wp2_with fail
  refine wp_loop_rounds 1 ?_
  rw [rounds_succ]
  go_wp2_with (go_at_call 94; ((with_reducible refine (c_insNil _ _ _ _).mono ?_); rintro e1 w1 ⟨rfl, rfl⟩))
  refine wp_loop_rounds 1 ?_
  rw [rounds_succ]
  go_wp2_with fail
  go_end0
  exact ⟨rfl, rfl⟩
set_option maxRecDepth 100000 in
theorem c_sortNil (A : Option Addr) (c : Nat) (fv : Value) (w : World) : Calls Try.prog 86 #[.slice A 0 c, fv] w fun e w' => e = .returned (.tuple #[]) ∧ w = w' := by
  go_enter Try.func86, Try.ntmps86
  go_wp2_with (go_at_call 92; ((with_reducible refine (c_stableNil _ _ _ _).mono ?_); rintro e1 w1 ⟨rfl, rfl⟩))
  go_end0
  exact ⟨rfl, rfl⟩
theorem icells_up (n : Nat) : icells (upL n) = cellsF (fun k => (k : Int)) n := by
  unfold icells upL cellsF
  rw [List.map_map]; rfl
theorem cellsF_ic (f : Nat → Int) (n : Nat) : cellsF f n = icells ((List.range n).map f) := by
  unfold icells cellsF
  rw [List.map_map]; rfl
/-- A row of numbers of kind int that a call has made. -/
def RowN (B : Nat) (w : World) (v : Value) (l : List Int) : Prop := w.ownsRow B 3 1 v l.length (icells l)
theorem cmp_order {l : List (Int × Int)} (hn : l.length ≤ 1000) : ∀ x y : Int, 0 ≤ y → y < x → x < l.length → (cmpZ (wdL l y) (wdL l x) < 0 ∧ rkL l x < rkL l y) ∨ (¬ cmpZ (wdL l y) (wdL l x) < 0 ∧ rkL l y < rkL l x) := by
  intro x y h1 h2 h3
  by_cases h : wdL l y < wdL l x
  · exact .inl ⟨by unfold cmpZ; rw [if_pos h]; decide, rk_wide h ⟨by omega, by omega⟩ ⟨h1, by omega⟩⟩
  · refine .inr ⟨?_, ?_⟩
    · unfold cmpZ
      rw [if_neg h]
      split <;> decide
    · unfold rkL; omega
theorem up_int {B : Nat} {w : World} {v : Value} {n : Nat} (h : w.ownsRow B 3 1 v (upL n).length (icells (upL n))) (hn : 0 < n) : ∃ g c, v = .slice (some ⟨g, 0, none⟩) n c ∧ IntB B w g n c (fun k => (k : Int)) := by
  rw [icells_up, upL_len] at h
  obtain ⟨g, c, rfl, _, _, _, _⟩ := owns_cell h (cellsF_get (fun k => (k : Int)) hn)
  exact ⟨g, c, rfl, h⟩
set_option maxHeartbeats 1600000 in
set_option maxRecDepth 100000 in
theorem c_byWidth (A : Option Addr) (c : Nat) (l : List (Int × Int)) (hw : ∀ i : Int, 0 ≤ i → i < l.length → 0 ≤ wdL l i ∧ wdL l i ≤ 8) (hlen : l.length ≤ 30) (w : World) (hA : PairsAt .i8 .i8 w A l) :
    Calls Try.prog 73 #[.slice A l.length c] w fun e w' => ∃ v, e = .returned v ∧ Below w.heap.size w w' ∧ RowN w.heap.size w' v (ordL l) := by
  have HX := hid (block_new1 w (.cells #[.slice A l.length c] 26) rfl)
  have HW : Hid (Below w.heap.size w (w.alloc (.cells #[.slice A l.length c] 26))) := (Below.refl _ w).alloc (Nat.le_refl _) _
  have HU := fun W => hid (c_upTo l.length (by omega) W)
  have HA := hid hA
  have HWd := hid hw
  have HLen := hid hlen
  clear hw hlen
  by_cases h0 : l = []
  · subst h0
    have HO : Hid (ordL ([] : List (Int × Int)) = []) := by show ordL [] = []; decide
    clear hA
    go_enter Try.func73, Try.ntmps73
    go_wp2_with (first
      | (go_at_call 64; ((refine (HU _).out.mono ?_); rintro e1 w1 ⟨v, rfl, hb1, hr1⟩); have HB1 := hid hb1; have HR1 := hid hr1; clear hb1 hr1; obtain ⟨A1, c1, rfl⟩ := owns_slc HR1.out)
      | (go_at_call 86; ((refine (c_sortNil _ _ _ _).mono ?_); rintro e2 w2 ⟨rfl, rfl⟩)))
    go_ret
    refine ⟨_, rfl, HW.out.trans (HB1.out.mono HW.out.size), ?_⟩
    rw [HO.out]
    exact World.ownsRow.mono HR1.out HW.out.size
  · have hpos : 0 < l.length := List.length_pos_iff.2 h0
    have HSrt : ∀ (g c' : Nat) (W : World), Below w.heap.size w W → Below (w.heap.size + 1) (w.alloc (.cells #[.slice A l.length c] 26)) W → IntB (w.heap.size + 1) W g l.length c' (fun k => (k : Int)) →
        Hid (Calls Try.prog 86 #[.slice (some ⟨g, 0, none⟩) l.length c', .func (.func 87) #[] #[.pointer (some ⟨w.heap.size, 0, none⟩)]] W (SrtRet (w.heap.size + 1) g l.length c' 0 l.length (rkL l) (fun k => (k : Int)) W)) := fun g c' W hbW hb1 hI => by
      refine c_sortStable (w.heap.size + 1) g l.length c' HLen.out 87 #[] #[.pointer (some ⟨w.heap.size, 0, none⟩)] (enters_of Try.func87 (by kernel_rfl) rfl) (fun x y => cmpZ (wdL l y) (wdL l x)) (rkL l) W ?_ (cmp_order (Nat.le_trans HLen.out (by decide))) (fun k => (k : Int)) (fun k _ => rfl) W (Below.refl _ _) hI
      intro W2 x y hx hy hb2
      have hg := hI.lt
      have hxx : W2.heap[w.heap.size]? = some (.cells #[.slice A l.length c] 26 (0, 0)) := block_below (hb1.trans (hb2.mono hg.1)) HX.out (Nat.lt_succ_self _)
      have hAA := HA.out.below (hbW.trans (hb2.mono (Nat.le_trans (Nat.le_succ _) hg.1))) (Nat.le_refl _)
      obtain ⟨x', rfl⟩ : ∃ x' : Nat, x = (x' : Int) := ⟨x.toNat, by omega⟩
      obtain ⟨y', rfl⟩ : ∃ y' : Nat, y = (y' : Int) := ⟨y.toNat, by omega⟩
      exact c_byClo A c l (by have := HLen.out; omega) x' y' (by omega) (by omega) _ W2 hxx hAA
    have HFin : Hid (∀ f', Same 0 l.length (fun k => (k : Int)) f' → Asc (rkL l) 0 l.length f' → (List.range l.length).map f' = ordL l) := fun f' h1 h2 => ord_of_sorted (by have := HLen.out; omega) HWd.out (fun k _ => rfl) h1 h2
    have HPos := hid hpos
    have HUL : Hid ((upL l.length).length = l.length) := upL_len _
    have HUC : Hid (icells (upL l.length) = cellsF (fun k => (k : Int)) l.length) := icells_up _
    have HOL : Hid ((ordL l).length = l.length) := ordL_len (by have := HLen.out; omega) HWd.out
    clear hA h0 hpos
    go_enter Try.func73, Try.ntmps73
    go_wp2_with (first
      | (go_at_call 64; ((refine (HU _).out.mono ?_); rintro e1 w1 ⟨v, rfl, hb1, hr1⟩); have HB1 := hid hb1; have HR1 := hid hr1; clear hb1 hr1; obtain ⟨g, c', rfl, hI⟩ := up_int HR1.out HPos.out; have HI := hid hI; clear hI HR1; have HWW := hid (HW.out.trans (HB1.out.mono HW.out.size)); have HSS := hid (HSrt g c' w1 HWW.out (HB1.out.mono (by simp)) (by have := HI.out; simpa using this)).out)
      | (go_at_call 86; ((with_reducible refine HSS.out.mono ?_); rintro e2 w2 ⟨rfl, f', hb2, hr2, hs2, ha2⟩); have HB2 := hid hb2; have HR2 := hid hr2; have HE2 := hid (HFin.out f' hs2 ha2); have HG := hid hr2.lt; clear hb2 hr2 hs2 ha2))
    go_ret
    have hg1 := HI.out.lt
    simp at hg1
    refine ⟨_, rfl, HWW.out.trans (HB2.out.below (by omega) HWW.out.size), ?_⟩
    have hR := HR2.out
    unfold IntB at hR
    rw [cellsF_ic, HE2.out] at hR
    unfold RowN
    rw [HOL.out]
    exact World.ownsRow.mono hR (Nat.le_succ _)
end Go.Proofs.Ytgbihaliiogboaa

/- areAll and IndexFunc over int, at a function value. -/
namespace Go.Proofs.Ytgbihaliiogboaa
open Go.RowKit
set_option linter.unusedSimpArgs false
set_option linter.unusedVariables false

set_option maxRecDepth 100000 in
theorem c_indexFN (g : Nat) (fst cap : Array Value) (eg : ∀ args w, (callFunc g args).run Try.prog w = .ok (.enter g args) w) (f : Int → Bool) (A : Option Addr) (cc : Nat) (l : List Int) (hlen : l.length ≤ 1048576) (w : World) (hA : SlI w A l) (hf : TellsI g fst cap f l w) :
    Calls Try.prog 74 #[.slice A l.length cc, .func (.func g) fst cap] w fun e w' => ∃ n : Int, e = .returned (.int .i64 n) ∧ Below w.heap.size w w' ∧ decide (n ≥ 0) = l.any f ∧ n = idxI f l := by
  have HA := hid hA; clear hA
  have HF := hid hf; clear hf
  go_enter Try.func74, Try.ntmps74
  go_wp2_with fail
  go_loopw [8] (fun i wr => ∃ k : Nat, k ≤ l.length ∧ i = .int .i64 k ∧ Hid (Below w.heap.size w wr) ∧ Hid ((l.take k).any f = false)) (fun i _ => l.length - (intOf i).toNat)
  case atStart => exact ⟨0, by omega, rfl, Below.refl _ _, by simp [Hid]⟩
  case round =>
    obtain ⟨k, hk, rfl, hb, hno⟩ := hrel
    by_cases hkl : k < l.length
    · have hd : decide ((k : Int) < (l.length : Int)) = true := decide_eq_true (by omega)
      have hkI : (k : Int) < (l.length : Int) := by omega
      have hk0 : (0 : Int) ≤ (k : Int) := by omega
      have hp := List.getElem?_eq_getElem hkl
      obtain ⟨p1, hpp⟩ : ∃ p, p = l[k] := ⟨_, rfl⟩
      rw [← hpp] at hp
      have HM : Hid (p1 ∈ l) := by rw [hpp]; exact List.getElem_mem hkl
      have HIX : Hid (f p1 = true → (k : Int) = idxI f l) := fun h => by rw [hpp] at h; exact idxI_at hkl hno.out h
      have HTk : Hid ((l.take (k + 1)).any f = f p1) := by
        show _ = _
        rw [List.take_succ_eq_append_getElem hkl, List.any_append, hno.out, ← hpp]; simp
      obtain ⟨b, off, rfl, r1, r2⟩ := HA.out k _ hp
      have c0 := (hb.out.cell (p := ⟨b, _, none⟩) r1).trans r2
      have HC := hid (HF.out wr p1 HM.out hb.out)
      clear hp hpp r2
      cases hq : f p1 with
      | true =>
        have HQ := hid hq; clear hq
        have hcall := HC.out
        rw [HQ.out] at hcall
        have HC' := hid hcall
        clear hcall HC
        go_wp2_with (go_at_fn g; refine HC'.out.mono ?_; rintro e w2 ⟨rfl, hb2⟩)
        go_ret
        refine ⟨_, rfl, hb.out.trans (hb2.mono hb.out.size), ?_, HIX.out HQ.out⟩
        have h1 : l.any f = true := List.any_eq_true.2 ⟨_, HM.out, HQ.out⟩
        rw [h1]; exact decide_eq_true (by omega)
      | false =>
        have HQ := hid hq; clear hq
        have hcall := HC.out
        rw [HQ.out] at hcall
        have HC' := hid hcall
        clear hcall HC
        go_wp2_with (go_at_fn g; refine HC'.out.mono ?_; rintro e w2 ⟨rfl, hb2⟩)
        exact ⟨⟨k + 1, by omega, by go_num, hb.out.trans (hb2.mono hb.out.size), HTk.out.trans HQ.out⟩, by simp [intOf]; omega⟩
    · obtain rfl : k = l.length := by omega
      have hd : decide ((l.length : Int) < (l.length : Int)) = false := decide_eq_false (by omega)
      rw [List.take_length] at hno
      go_wp2_with fail
      go_ret
      exact ⟨_, rfl, hb.out, by rw [hno.out]; rfl, by unfold idxI; rw [hno.out]; rfl⟩
end Go.Proofs.Ytgbihaliiogboaa

/- Pairs of pieces, the program's: the closure. -/
namespace Go.Proofs.Ytgbihaliiogboaa
open Go.RowKit
set_option linter.unusedSimpArgs false
set_option linter.unusedVariables false
set_option maxHeartbeats 1600000 in
set_option maxRecDepth 100000 in
theorem c_pairClo (A : Option Addr) (c : Nat) (l : List (Int × Int)) (hw : ∀ i : Int, 0 ≤ i → i < l.length → 0 ≤ wdL l i ∧ wdL l i ≤ 8) (hlen : l.length ≤ 1000) (a r : Int) (ha : 0 ≤ a ∧ a < l.length) (hr : 0 ≤ r ∧ r < l.length) (bl bt bm bv n : Nat) (T : List Int) (w : World)
    (hb : w.heap[bl]? = some (.cells #[.slice A l.length c] 26 (0, 0))) (ht : w.heap[bt]? = some (.cells #[.map (some bm)] 102 (0, 0))) (hv : w.heap[bv]? = some (.cells #[.int .i64 a] 3 (0, 0))) (hm : MapB w bm n T) (hA : PairsAt .i8 .i8 w A l) :
    Calls Try.prog 75 #[.int .i64 r, .pointer (some ⟨bl, 0, none⟩), .pointer (some ⟨bt, 0, none⟩), .pointer (some ⟨bv, 0, none⟩)] w fun e w' => e = .returned (.bool (fitB l a T r)) ∧ Below w.heap.size w w' := by
  have q0 : w.cell? ⟨bl, 0, none⟩ = some (.slice A l.length c) := cell_block hb rfl
  have q1 : w.cell? ⟨bt, 0, none⟩ = some (.map (some bm)) := cell_block ht rfl
  have q2 : w.cell? ⟨bv, 0, none⟩ = some (.int .i64 a) := cell_block hv rfl
  have l0 := block_lt hb
  have l1 := block_lt ht
  have l2 := block_lt hv
  have wa := hw a ha.1 ha.2
  have wr := hw r hr.1 hr.2
  obtain ⟨a', rfl⟩ : ∃ a' : Nat, a = (a' : Int) := ⟨a.toNat, by omega⟩
  obtain ⟨r', rfl⟩ : ∃ r' : Nat, r = (r' : Int) := ⟨r.toNat, by omega⟩
  have HLk : ∀ x : Ext w.heap.size w, (Instr.lookup 102 (.map (some bm)) (.int .i64 (r' : Int)) false).run Try.prog x.out = .ok (.bool (decide ((r' : Int) ∈ T))) x.out := fun x => (hm.below x.below hm.lt).lookup _ (by omega)
  have pa := List.getElem?_eq_getElem (show a' < l.length by omega)
  have pr := List.getElem?_eq_getElem (show r' < l.length by omega)
  have ea := wdL_get pa
  have er := wdL_get pr
  have eh := haL_get pr
  obtain ⟨b, off, rfl, r1, r2, r3⟩ := hA a' _ pa
  obtain ⟨b', off', e, s1, s2, s3⟩ := hA r' _ pr
  obtain ⟨rfl, rfl⟩ : b = b' ∧ off = off' := by simpa using e
  rw [← ea] at r3
  rw [← er] at s3
  rw [← eh] at s2
  have x0 : (0 : Int) ≤ (a' : Int) := by omega
  have x1 : (a' : Int) < (l.length : Int) := by omega
  have y0 : (0 : Int) ≤ (r' : Int) := by omega
  have y1 : (r' : Int) < (l.length : Int) := by omega
  have x2 : (a' : Int) ≤ 1000 := by omega
  have y2 : (r' : Int) ≤ 1000 := by omega
  have HF : Hid (fitB l a' T r' = (decide (haL l r' = 1) && (!decide ((r' : Int) ∈ T) && decide (wdL l a' + wdL l r' ≤ 8)))) := rfl
  obtain ⟨va, hva⟩ : ∃ v, v = wdL l a' := ⟨_, rfl⟩
  obtain ⟨vr, hvr⟩ : ∃ v, v = wdL l r' := ⟨_, rfl⟩
  obtain ⟨vh, hvh⟩ : ∃ v, v = haL l r' := ⟨_, rfl⟩
  obtain ⟨tk, htk⟩ : ∃ v, v = decide ((r' : Int) ∈ T) := ⟨_, rfl⟩
  rw [← hva] at r3 wa HF
  rw [← hvr] at s3 wr HF
  rw [← hvh] at s2 HF
  rw [← htk] at HF HLk
  have e8 : IntKind.i8.wrap (va + vr) = va + vr := IntWalk.i8_in _ (by omega)
  clear hb ht hv hm hA hw ha hr hlen pa pr ea er eh e hva hvr hvh htk r2
  by_cases h1 : vh = 1
  · have d1 : (vh == 1) = true := by rw [beq_iff_eq]; exact h1
    have HH : Hid (decide (vh = 1) = true) := decide_eq_true h1
    clear h1
    cases tk with
    | true =>
      go_enter Try.func75, Try.ntmps75
      go_wp2_with fail
      refine wp_region_ext w.heap.size (by kernel_rfl) (by kernel_rfl) ?_
      repeat (go_big_quiet_step (fail))
      refine wpQuiet_nil ?_
      intro xx
      go_wp2_with fail
      go_ret
      refine ⟨ret_bool ?_, xx.below⟩
      rw [HF.out, HH.out]; rfl
    | false =>
      by_cases h3 : va + vr ≤ 8
      · have d3 : decide (va + vr ≤ 8) = true := decide_eq_true h3
        have H3 := hid d3
        clear h3
        go_enter Try.func75, Try.ntmps75
        go_wp2_with fail
        refine wp_region_ext w.heap.size (by kernel_rfl) (by kernel_rfl) ?_
        repeat (go_big_quiet_step (fail))
        refine wpQuiet_nil ?_
        intro xx
        go_wp2_with fail
        go_ret
        refine ⟨ret_bool ?_, xx.below⟩
        rw [HF.out, HH.out, H3.out]; rfl
      · have d3 : decide (va + vr ≤ 8) = false := decide_eq_false h3
        have H3 := hid d3
        clear h3
        go_enter Try.func75, Try.ntmps75
        go_wp2_with fail
        refine wp_region_ext w.heap.size (by kernel_rfl) (by kernel_rfl) ?_
        repeat (go_big_quiet_step (fail))
        refine wpQuiet_nil ?_
        intro xx
        go_wp2_with fail
        go_ret
        refine ⟨ret_bool ?_, xx.below⟩
        rw [HF.out, HH.out, H3.out]; rfl
  · have d1 : (vh == 1) = false := by rw [beq_eq_false_iff_ne]; exact h1
    have HH : Hid (decide (vh = 1) = false) := decide_eq_false h1
    clear h1
    go_enter Try.func75, Try.ntmps75
    go_wp2_with fail
    refine wp_region_ext w.heap.size (by kernel_rfl) (by kernel_rfl) ?_
    repeat (go_big_quiet_step (fail))
    refine wpQuiet_nil ?_
    intro xx
    go_wp2_with fail
    go_ret
    refine ⟨ret_bool ?_, xx.below⟩
    rw [HF.out, HH.out]; rfl
end Go.Proofs.Ytgbihaliiogboaa

/- A region that draws its order: quiet operations, then one call whose result is not foreknown, then quiet operations behind it. -/
namespace Go.Proofs.Ytgbihaliiogboaa
open Go.RowKit
set_option linter.unusedSimpArgs false
set_option linter.unusedVariables false

/-- Each operation ahead of number n is awaited, and each one behind it waits. -/
def wildB (l : List Oper) (n : Nat) : Bool :=
  ((List.range n).all fun i => (List.range (n + 1)).any fun j => decide (i < j) && (match l[j]? with | some o => o.after.toList.any fun e => Region.binds .any e && e.on == i | none => false)) &&
  (List.range l.length).all fun t => decide (t ≤ n) || (match l[t]? with | some o => o.after.toList.any fun e => Region.binds .any e && decide (n ≤ e.on) && decide (e.on < t) | none => true)
theorem wildB_pre {l : List Oper} {n : Nat} (h : wildB l n = true) (i : Nat) (hi : i < n) : ∃ j o, i < j ∧ j ≤ n ∧ l[j]? = some o ∧ ∃ e ∈ o.after, Region.binds .any e = true ∧ e.on = i := by
  unfold wildB at h
  rw [Bool.and_eq_true] at h
  have h1 := List.all_eq_true.1 h.1 i (List.mem_range.2 hi)
  obtain ⟨j, hj, h2⟩ := List.any_eq_true.1 h1
  rw [Bool.and_eq_true] at h2
  obtain ⟨h3, h4⟩ := h2
  cases hl : l[j]? with
  | none => rw [hl] at h4; cases h4
  | some o =>
    rw [hl] at h4
    obtain ⟨e, he, h5⟩ := List.any_eq_true.1 h4
    rw [Bool.and_eq_true] at h5
    exact ⟨j, o, by simpa using h3, by have := List.mem_range.1 hj; omega, hl, e, by simpa using he, h5.1, by simpa using h5.2⟩
theorem wildB_post {l : List Oper} {n : Nat} (h : wildB l n = true) (t : Nat) (o : Oper) (ho : l[t]? = some o) (ht : n < t) : ∃ e ∈ o.after, Region.binds .any e = true ∧ n ≤ e.on ∧ e.on < t := by
  unfold wildB at h
  rw [Bool.and_eq_true] at h
  have h1 := List.all_eq_true.1 h.2 t (List.mem_range.2 (List.getElem?_eq_some_iff.1 ho).1)
  rw [ho] at h1
  simp only [Bool.or_eq_true, decide_eq_true_eq] at h1
  rcases h1 with h1 | h1
  · omega
  · obtain ⟨e, he, h5⟩ := List.any_eq_true.1 h1
    simp only [Bool.and_eq_true, decide_eq_true_eq] at h5
    exact ⟨e, by simpa using he, h5.1.1, h5.1.2, h5.2⟩
theorem act_ext {a b : Act} (hs : a.tmps.size = b.tmps.size) (hd : a.defers = b.defers) (h : ∀ k, a.tmps.getD k undef = b.tmps.getD k undef) : a = b := by
  have ht : a.tmps = b.tmps := by
    apply Array.ext hs
    intro k hk1 hk2
    have := h k
    rwa [Array.getD_eq_getD_getElem?, Array.getD_eq_getD_getElem?, Array.getElem?_eq_getElem hk1, Array.getElem?_eq_getElem hk2] at this
  cases a; cases b; dsimp only at ht hd; subst ht hd; rfl
/-- What one walk in the text's order has shown of an operation: its value stands in the end; what it read stood there, or stands in the end. -/
theorem stepsS_key {P : Program} {ops : Array Oper} {C : World → Prop} {l : List Oper} {vs : List Value} {a aσ : Act} (hst : StepsS P ops C l vs a) (hfin : putsS l vs a = aσ) (hd1 : ∀ (i : Nat) (o : Oper) (d : Nat), l[i]? = some o → o.dst = some d → d < a.tmps.size)
    (hone : ∀ (i : Nat) (o : Oper) (j : Nat) (o' : Oper) (d : Nat), l[i]? = some o → l[j]? = some o' → i ≠ j → o.dst = some d → o'.dst ≠ some d) (i : Nat) (o : Oper) (ho : l[i]? = some o) :
    ∃ v ai, YieldsIn P ops C o v ai ∧ (∀ d, o.dst = some d → v = aσ.tmps.getD d undef) ∧ (∀ t : Nat, (∀ (j : Nat) (o' : Oper), l[j]? = some o' → o'.dst ≠ some t) → ai.tmps.getD t undef = a.tmps.getD t undef) ∧
      (∀ (t j : Nat) (o' : Oper), j < i → l[j]? = some o' → o'.dst = some t → ai.tmps.getD t undef = aσ.tmps.getD t undef) := by
  obtain ⟨v, ai, k1, k2, k3, k4⟩ := stepsS_at _ _ _ _ _ hst ho
  rw [hfin] at k2
  have hdrop : ∀ t : Nat, (∀ (j : Nat) (o' : Oper), i < j → l[j]? = some o' → o'.dst ≠ some t) → ∀ o' ∈ l.drop (i + 1), o'.dst ≠ some t := by
    intro t ht o' hm' hd
    obtain ⟨k, hk, rfl⟩ := List.getElem_of_mem hm'
    have hk2 := List.getElem?_eq_getElem hk
    rw [List.getElem?_drop] at hk2
    exact ht _ _ (by omega) hk2 hd
  refine ⟨v, ai, k1, ?_, ?_, ?_⟩
  · intro d hd
    rw [k2, putsS_other d _ _ _ (hdrop d fun j o' hj hl => hone i o j o' d ho hl (by omega) hd), hd, put_here _ _ _ (by rw [k3]; exact hd1 i o d ho hd)]
  · intro t ht
    exact k4 t fun j o' _ hl hd => ht j o' hl hd
  · intro t j o' hj hl hd
    have hne : ∀ (j' : Nat) (o'' : Oper), l[j']? = some o'' → j' ≠ j → o''.dst ≠ some t := fun j' o'' hl' hne => hone j o' j' o'' t hl hl' (Ne.symm hne) hd
    rw [k2, putsS_other t _ _ _ (hdrop t fun j' o'' hj' hl' => hne j' o'' hl' (by omega)), put_other _ _ _ _ (hne i o ho (by omega))]
set_option maxHeartbeats 1600000 in
theorem wp_region_wild {P : Program} {id : Nat} {Q : Exit → Act → World → Prop} {a0 : Act} {W : World} {l : List Oper} (B n : Nat) (aσ : Act) (oc : Oper) (f : FuncId) (args : Array Value) (R : Value → World → Prop)
    (hm : P.follows .mixedOrders = true) (hback : backB l = true) (hn : lawB l a0.tmps.size = true) (hw : wildB l n = true) (hoc : l[n]? = some oc) (hBW : B ≤ W.heap.size)
    (hpre : wpQuiet P l.toArray (fun w' => ∃ x : Ext B W, w' = x.out) (fun a' => a' = aσ) (l.take n) a0)
    (hent : ∀ w, (execOp aσ.eval oc).run P w = .ok (.enter f args) w)
    (hcall : ∀ x : Ext B W, Calls P f args x.out fun e w' => ∃ v, e = .returned v ∧ R v w')
    (hpost : ∀ v w1, R v w1 → wpQuiet P l.toArray (fun w' => w' = w1) (fun a' => Q .normal a' w1) (l.drop (n + 1)) (aσ.put oc.dst v)) :
    (Code.region id l.toArray true).wp P Q a0 W := by
  have hL := fun i o ho => lawB_of hn i o ho
  have hone : ∀ (i : Nat) (o : Oper) (j : Nat) (o' : Oper) (d : Nat), l[i]? = some o → l[j]? = some o' → i ≠ j → o.dst = some d → o'.dst ≠ some d := fun i o j o' d hi hj hne hd => (hL j o' hj).2.2.2.1 i o hi hne d hd
  have hnl : n < l.length := (List.getElem?_eq_some_iff.1 hoc).1
  have htake : ∀ (i : Nat) (o : Oper), (l.take n)[i]? = some o → l[i]? = some o ∧ i < n := fun i o h => by
    rw [List.getElem?_take] at h
    split at h
    · exact ⟨h, by assumption⟩
    · cases h
  have hdropg : ∀ (i : Nat) (o : Oper), (l.drop (n + 1))[i]? = some o → l[n + 1 + i]? = some o := fun i o h => by rw [List.getElem?_drop] at h; exact h
  obtain ⟨vs0, hst0, hfin0⟩ := stepsS_of _ _ hpre
  have hsize : aσ.tmps.size = a0.tmps.size := by rw [← hfin0, putsS_size]
  have hdef : aσ.defers = a0.defers := by rw [← hfin0, putsS_defers]
  have key0 := fun i o ho => stepsS_key hst0 hfin0 (fun i o d h hd => (hL i o (htake i o h).1).2.2.1 d hd) (fun i o j o' d h h' hne hd => hone i o j o' d (htake i o h).1 (htake j o' h').1 hne hd) i o ho
  have hout0 : ∀ t : Nat, (∀ (i : Nat) (o : Oper), i < n → l[i]? = some o → o.dst ≠ some t) → aσ.tmps.getD t undef = a0.tmps.getD t undef := by
    intro t ht
    rw [← hfin0, putsS_other]
    intro o' hm' hd
    obtain ⟨k, hk, rfl⟩ := List.getElem_of_mem hm'
    have hk2 := htake k _ (List.getElem?_eq_getElem hk)
    exact ht k _ hk2.2 hk2.1 hd
  -- what stands when the call has been made
  let Post : World → Act → Prop := fun w aτ => ∃ v vs, StepsS P l.toArray (fun w' => w' = w) (l.drop (n + 1)) vs (aσ.put oc.dst v) ∧ putsS (l.drop (n + 1)) vs (aσ.put oc.dst v) = aτ ∧ Q .normal aτ w ∧ ∀ d, oc.dst = some d → aτ.tmps.getD d undef = v
  have hPost : ∀ w aτ, Post w aτ → aτ.tmps.size = a0.tmps.size ∧ aτ.defers = a0.defers ∧ (∀ t : Nat, (∀ (i : Nat) (o : Oper), l[i]? = some o → o.dst ≠ some t) → aτ.tmps.getD t undef = a0.tmps.getD t undef) ∧
      (∀ (i : Nat) (o : Oper) (d : Nat), l[i]? = some o → i < n → o.dst = some d → aτ.tmps.getD d undef = aσ.tmps.getD d undef) := by
    rintro w aτ ⟨v, vs, h1, h2, _, _⟩
    have hoth : ∀ t : Nat, (∀ (i : Nat) (o : Oper), n < i → l[i]? = some o → o.dst ≠ some t) → aτ.tmps.getD t undef = (aσ.put oc.dst v).tmps.getD t undef := by
      intro t ht
      rw [← h2, putsS_other]
      intro o' hm' hd
      obtain ⟨k, hk, rfl⟩ := List.getElem_of_mem hm'
      exact ht _ _ (by omega) (hdropg k _ (List.getElem?_eq_getElem hk)) hd
    refine ⟨by rw [← h2, putsS_size, put_size, hsize], by rw [← h2, putsS_defers, put_defers', hdef], fun t ht => ?_, fun i o d hi hin hd => ?_⟩
    · rw [hoth t fun i o _ hi => ht i o hi, put_other _ _ _ _ (ht n oc hoc), hout0 t fun i o _ hi => ht i o hi]
    · rw [hoth d fun j o' hj hj' => hone i o j o' d hi hj' (by omega) hd, put_other _ _ _ _ (hone i o n oc d hi hoc (by omega) hd)]
  have hpre_all : ∀ L : Nat → Bool, (∀ (j : Nat) (oj : Oper), l[j]? = some oj → L j = true → ∀ e ∈ oj.after, Region.binds .any e = true → L e.on = true) → (∀ e ∈ oc.after, Region.binds .any e = true → L e.on = true) → ∀ i, i < n → L i = true := by
    intro L hcl hcn
    have : ∀ d i, n - i = d → i < n → L i = true := by
      intro d
      induction d using Nat.strongRecOn with
      | _ d ih =>
        intro i hd hi
        obtain ⟨j, o, h1, h2, h3, e, he, hb, rfl⟩ := wildB_pre hw i hi
        by_cases hj : j = n
        · subst hj
          rw [hoc] at h3
          obtain rfl := Option.some.inj h3
          exact hcn e he hb
        · exact hcl j o h3 (ih (n - j) (by omega) j rfl (by omega)) e he hb
    exact fun i hi => this _ i rfl hi
  refine wp_region_inv hm hback (fun L a w => a.defers = a0.defers ∧ a.tmps.size = a0.tmps.size ∧ (∀ t : Nat, (∀ (i : Nat) (o : Oper), l[i]? = some o → o.dst ≠ some t) → a.tmps.getD t undef = a0.tmps.getD t undef) ∧
    (∀ (j : Nat) (oj : Oper), l[j]? = some oj → L j = true → ∀ e ∈ oj.after, Region.binds .any e = true → L e.on = true) ∧
    (L n = false → (∃ x : Ext B W, w = x.out) ∧ ∀ (i : Nat) (o : Oper) (d : Nat), l[i]? = some o → L i = true → o.dst = some d → a.tmps.getD d undef = aσ.tmps.getD d undef) ∧
    (L n = true → ∃ aτ, Post w aτ ∧ ∀ (i : Nat) (o : Oper) (d : Nat), l[i]? = some o → L i = true → o.dst = some d → a.tmps.getD d undef = aτ.tmps.getD d undef)) ?_ ?_ ?_
  · intro L hL0
    exact ⟨rfl, rfl, fun _ _ => rfl, fun j oj hj hLj => (by rw [hL0 j (List.getElem?_eq_some_iff.1 hj).1] at hLj; cases hLj), fun _ => ⟨⟨⟨_, (Below.refl B W).drew⟩, rfl⟩, fun i o d hi hLi => (by rw [hL0 i (List.getElem?_eq_some_iff.1 hi).1] at hLi; cases hLi)⟩, fun hLn => (by rw [hL0 n hnl] at hLn; cases hLn)⟩
  · intro L a w i o ho hLi hafter ⟨i1, i2, i3, i4, i5, i6⟩
    obtain ⟨hg, hns, hd1, hd2, heyes⟩ := hL i o ho
    rw [if_pos (by simp [Region.wanted, hg])]
    have hcl : ∀ (j : Nat) (oj : Oper), l[j]? = some oj → plus L i j = true → ∀ e ∈ oj.after, Region.binds .any e = true → plus L i e.on = true := by
      intro j oj hj hLj e he hb
      unfold plus at hLj ⊢
      by_cases hji : j = i
      · subst hji
        rw [ho] at hj
        obtain rfl := Option.some.inj hj
        split
        · rfl
        · exact hafter e he hb
      · rw [if_neg hji] at hLj
        split
        · rfl
        · exact i4 j oj hj hLj e he hb
    rcases Nat.lt_trichotomy i n with hin | hin | hin
    · -- ahead of the call
      have hLn : L n = false := by
        cases hc : L n with
        | false => rfl
        | true => have := hpre_all L i4 (fun e he hb => i4 n oc hoc hc e he hb) i hin; rw [this] at hLi; cases hLi
      obtain ⟨⟨x, hx⟩, i7⟩ := i5 hLn
      have ho' : (l.take n)[i]? = some o := by rw [List.getElem?_take, if_pos hin]; exact ho
      obtain ⟨v, ai, hY, hv, hno, hyes⟩ := key0 i o ho'
      have he : execOp a.eval o = execOp ai.eval o := by
        refine execOp_congr o (fun c b hc => by rw [notSelect, hc] at hns; cases hns) (eval_eyes fun t ht => ?_)
        by_cases hex : ∃ (j : Nat) (o' : Oper), l[j]? = some o' ∧ o'.dst = some t
        · obtain ⟨j, o', hj, hd⟩ := hex
          obtain ⟨hji, e, he, hb, hon⟩ := heyes t ht j o' hj hd
          have hLj : L j = true := hon ▸ hafter e he hb
          rw [hyes t j o' hji (by rw [List.getElem?_take, if_pos (by omega)]; exact hj) hd]
          exact i7 j o' t hj hLj hd
        · have hn' : ∀ (j : Nat) (o' : Oper), l[j]? = some o' → o'.dst ≠ some t := fun j o' hj hd => hex ⟨j, o', hj, hd⟩
          rw [i3 t hn', hno t fun j o' hj => hn' j o' (htake j o' hj).1]
      have hY' := hY.of_same he (by simp [Region.wanted, hg])
      rcases hY' with ⟨_, hq⟩ | ⟨hw0, _⟩
      · refine Oper.wp_of_quiet (C := fun w' => ∃ x : Ext B W, w' = x.out) (K := fun a' => a' = a.put o.dst v) ⟨x, hx⟩ ?_ ⟨v, hq, rfl⟩
        rintro a' w' ⟨z, rfl⟩ rfl
        refine ⟨(put_defers' _ _ _).trans i1, (put_size _ _ _).trans i2, fun t ht => ?_, hcl, fun _ => ⟨⟨z, rfl⟩, fun j o' d hj hLj hd => ?_⟩, fun hLp => ?_⟩
        · rw [put_other _ _ _ _ (ht i o ho)]; exact i3 t ht
        · by_cases hji : j = i
          · subst hji
            rw [ho] at hj
            obtain rfl := Option.some.inj hj
            rw [hd, put_here _ _ _ (by rw [i2]; exact hd1 d hd)]
            exact hv d hd
          · have hLj' : L j = true := by unfold plus at hLj; rwa [if_neg hji] at hLj
            rw [put_other _ _ _ _ (hd2 j o' hj hji d hd)]; exact i7 j o' d hj hLj' hd
        · unfold plus at hLp; rw [if_neg (by omega), hLn] at hLp; cases hLp
      · simp [Region.wanted, hg] at hw0
    · -- the call
      subst hin
      rw [hoc] at ho
      obtain rfl := Option.some.inj ho
      obtain ⟨⟨x, hx⟩, i7⟩ := i5 hLi
      have hall := hpre_all L i4 hafter
      have he : execOp a.eval oc = execOp aσ.eval oc := by
        refine execOp_congr oc (fun c b hc => by rw [notSelect, hc] at hns; cases hns) (eval_eyes fun t ht => ?_)
        by_cases hex : ∃ (j : Nat) (o' : Oper), l[j]? = some o' ∧ o'.dst = some t
        · obtain ⟨j, o', hj, hd⟩ := hex
          obtain ⟨hji, e, he, hb, hon⟩ := heyes t ht j o' hj hd
          exact i7 j o' t hj (hon ▸ hafter e he hb) hd
        · have hn' : ∀ (j : Nat) (o' : Oper), l[j]? = some o' → o'.dst ≠ some t := fun j o' hj hd => hex ⟨j, o', hj, hd⟩
          rw [i3 t hn', hout0 t fun j o' _ hj => hn' j o' hj]
      subst hx
      unfold Oper.wp
      rw [he, hent]
      simp only [Oper.upon]
      refine (hcall x).mono ?_
      rintro e w' ⟨v, rfl, hR⟩
      obtain ⟨vs, hst, hQ⟩ := stepsS_of _ _ (hpost v w' hR)
      have hdv : ∀ d, oc.dst = some d → (putsS (l.drop (i + 1)) vs (aσ.put oc.dst v)).tmps.getD d undef = v := by
        intro d hd
        rw [putsS_other, hd, put_here _ _ _ (by rw [hsize]; exact hd1 d hd)]
        intro o' hm' hd'
        obtain ⟨k, hk, rfl⟩ := List.getElem_of_mem hm'
        exact hone i oc _ _ d hoc (hdropg k _ (List.getElem?_eq_getElem hk)) (by omega) hd hd'
      have hP : Post w' (putsS (l.drop (i + 1)) vs (aσ.put oc.dst v)) := ⟨v, vs, hst, rfl, hQ, hdv⟩
      obtain ⟨_, _, _, p4⟩ := hPost _ _ hP
      refine ⟨(put_defers' _ _ _).trans i1, (put_size _ _ _).trans i2, fun t ht => ?_, hcl, fun hLn => ?_, fun _ => ⟨_, hP, fun j o' d hj hLj hd => ?_⟩⟩
      · rw [put_other _ _ _ _ (ht i oc hoc)]; exact i3 t ht
      · simp [plus] at hLn
      · by_cases hji : j = i
        · subst hji
          rw [hoc] at hj
          obtain rfl := Option.some.inj hj
          rw [hd, put_here _ _ _ (by rw [i2]; exact hd1 d hd), ← hd, hdv d hd]
        · have hLj' : L j = true := by unfold plus at hLj; rwa [if_neg hji] at hLj
          have hjn : j < i := by
            rcases Nat.lt_trichotomy j i with h | h | h
            · exact h
            · exact absurd h hji
            · exfalso
              have : ∀ d t, t = d → i < t → t < l.length → L t = true → False := by
                intro d
                induction d using Nat.strongRecOn with
                | _ d ih =>
                  intro t htd hit htl hLt
                  obtain ⟨e, he', hb, h1, h2⟩ := wildB_post hw t _ (List.getElem?_eq_getElem htl) hit
                  have h3 := i4 t _ (List.getElem?_eq_getElem htl) hLt e he' hb
                  rcases Nat.eq_or_lt_of_le h1 with h4 | h4
                  · rw [← h4, hLi] at h3; cases h3
                  · exact ih e.on (by omega) e.on rfl h4 (by omega) h3
              exact this _ j rfl h (List.getElem?_eq_some_iff.1 hj).1 hLj'
          rw [put_other _ _ _ _ (hd2 j o' hj hji d hd), i7 j o' d hj hLj' hd, p4 j o' d hj hjn hd]
    · -- behind the call
      have hLn : L n = true := by
        obtain ⟨e, he, hb, h1, h2⟩ := wildB_post hw i o ho hin
        have h3 := hafter e he hb
        have : ∀ d t, t = d → n ≤ t → t < l.length → L t = true → L n = true := by
          intro d
          induction d using Nat.strongRecOn with
          | _ d ih =>
            intro t htd hit htl hLt
            rcases Nat.eq_or_lt_of_le hit with h4 | h4
            · rw [h4]; exact hLt
            · obtain ⟨e, he', hb, h1, h2⟩ := wildB_post hw t _ (List.getElem?_eq_getElem htl) h4
              exact ih e.on (by omega) e.on rfl h1 (by omega) (i4 t _ (List.getElem?_eq_getElem htl) hLt e he' hb)
        exact this _ e.on rfl h1 (by have := (List.getElem?_eq_some_iff.1 ho).1; omega) h3
      obtain ⟨aτ, hP, i7⟩ := i6 hLn
      obtain ⟨p1, p2, p3, p4⟩ := hPost _ _ hP
      obtain ⟨v, vs, hst, hfin, hQ, hdv⟩ := hP
      have ho' : (l.drop (n + 1))[i - (n + 1)]? = some o := by rw [List.getElem?_drop]; rw [show n + 1 + (i - (n + 1)) = i by omega]; exact ho
      obtain ⟨u, ai, hY, hv, hno, hyes⟩ := stepsS_key hst hfin (fun j o' d h hd => by rw [put_size, hsize]; exact (hL _ o' (hdropg j o' h)).2.2.1 d hd) (fun j o' k o'' d h h' hne hd => hone _ o' _ o'' d (hdropg j o' h) (hdropg k o'' h') (by omega) hd) _ o ho'
      have he : execOp a.eval o = execOp ai.eval o := by
        refine execOp_congr o (fun c b hc => by rw [notSelect, hc] at hns; cases hns) (eval_eyes fun t ht => ?_)
        by_cases hex : ∃ (j : Nat) (o' : Oper), l[j]? = some o' ∧ o'.dst = some t
        · obtain ⟨j, o', hj, hd⟩ := hex
          obtain ⟨hji, e, he, hb, hon⟩ := heyes t ht j o' hj hd
          have hLj : L j = true := hon ▸ hafter e he hb
          rw [i7 j o' t hj hLj hd]
          by_cases hjn : n < j
          · rw [hyes t (j - (n + 1)) o' (by omega) (by rw [List.getElem?_drop, show n + 1 + (j - (n + 1)) = j by omega]; exact hj) hd]
          · have h9 : ai.tmps.getD t undef = (aσ.put oc.dst v).tmps.getD t undef := hno t fun k o'' hk => hone j o' _ o'' t hj (hdropg k o'' hk) (by omega) hd
            rw [h9]
            rcases Nat.lt_or_ge j n with h10 | h10
            · rw [p4 j o' t hj h10 hd, put_other _ _ _ _ (hone j o' n oc t hj hoc (by omega) hd)]
            · obtain rfl : j = n := by omega
              rw [hoc] at hj
              obtain rfl := Option.some.inj hj
              rw [hdv t hd, hd, put_here _ _ _ (by rw [hsize]; exact (hL j oc hoc).2.2.1 t hd)]
        · have hn' : ∀ (j : Nat) (o' : Oper), l[j]? = some o' → o'.dst ≠ some t := fun j o' hj hd => hex ⟨j, o', hj, hd⟩
          rw [i3 t hn', hno t fun j o' hj => hn' _ o' (hdropg j o' hj), put_other _ _ _ _ (hn' n oc hoc), hout0 t fun j o' _ hj => hn' j o' hj]
      have hY' := hY.of_same he (by simp [Region.wanted, hg])
      rcases hY' with ⟨_, hq⟩ | ⟨hw0, _⟩
      · refine Oper.wp_of_quiet (C := fun w' => w' = w) (K := fun a' => a' = a.put o.dst u) rfl ?_ ⟨u, hq, rfl⟩
        rintro a' w' rfl rfl
        refine ⟨(put_defers' _ _ _).trans i1, (put_size _ _ _).trans i2, fun t ht => ?_, hcl, fun hLp => ?_, fun _ => ⟨aτ, ⟨v, vs, hst, hfin, hQ, hdv⟩, fun j o' d hj hLj hd => ?_⟩⟩
        · rw [put_other _ _ _ _ (ht i o ho)]; exact i3 t ht
        · unfold plus at hLp; rw [if_neg (by omega), hLn] at hLp; cases hLp
        · by_cases hji : j = i
          · subst hji
            rw [ho] at hj
            obtain rfl := Option.some.inj hj
            rw [hd, put_here _ _ _ (by rw [i2]; exact hd1 d hd)]
            exact hv d hd
          · have hLj' : L j = true := by unfold plus at hLj; rwa [if_neg hji] at hLj
            rw [put_other _ _ _ _ (hd2 j o' hj hji d hd)]; exact i7 j o' d hj hLj' hd
      · simp [Region.wanted, hg] at hw0
  · intro L a w hall ⟨i1, i2, i3, i4, i5, i6⟩
    obtain ⟨aτ, hP, i7⟩ := i6 (hall n hnl)
    obtain ⟨p1, p2, p3, p4⟩ := hPost _ _ hP
    obtain ⟨v, vs, hst, hfin, hQ, hdv⟩ := hP
    have : a = aτ := by
      refine act_ext (i2.trans p1.symm) (i1.trans p2.symm) fun k => ?_
      by_cases hex : ∃ (j : Nat) (o' : Oper), l[j]? = some o' ∧ o'.dst = some k
      · obtain ⟨j, o', hj, hd⟩ := hex
        exact i7 j o' k hj (hall j (List.getElem?_eq_some_iff.1 hj).1) hd
      · have hn' : ∀ (j : Nat) (o' : Oper), l[j]? = some o' → o'.dst ≠ some k := fun j o' hj hd => hex ⟨j, o', hj, hd⟩
        rw [i3 k hn', p3 k hn']
    rw [this]; exact hQ
end Go.Proofs.Ytgbihaliiogboaa

/- A region (calls behind too) that draws its order: quiet operations, then one call whose result is not foreknown, then quiet operations behind it. -/
namespace Go.Proofs.Ytgbihaliiogboaa
open Go.RowKit
set_option linter.unusedSimpArgs false
set_option linter.unusedVariables false
set_option maxHeartbeats 1600000 in
theorem wp_region_wildD {P : Program} {id : Nat} {Q : Exit → Act → World → Prop} {a0 : Act} {W : World} {l : List Oper} (B n : Nat) (aσ : Act) (oc : Oper) (f : FuncId) (args : Array Value) (R : Value → World → Prop) (D : World → World → Prop) (hD : ∀ w, D w w)
    (hm : P.follows .mixedOrders = true) (hback : backB l = true) (hn : lawB l a0.tmps.size = true) (hw : wildB l n = true) (hoc : l[n]? = some oc) (hBW : B ≤ W.heap.size)
    (hpre : wpQuiet P l.toArray (fun w' => ∃ x : Ext B W, w' = x.out) (fun a' => a' = aσ) (l.take n) a0)
    (hent : ∀ w, (execOp aσ.eval oc).run P w = .ok (.enter f args) w)
    (hcall : ∀ x : Ext B W, Calls P f args x.out fun e w' => ∃ v, e = .returned v ∧ R v w')
    (hpost : ∀ v w1, R v w1 → wpQuiet P l.toArray (D w1) (fun a' => ∀ w', D w1 w' → Q .normal a' w') (l.drop (n + 1)) (aσ.put oc.dst v)) :
    (Code.region id l.toArray true).wp P Q a0 W := by
  have hL := fun i o ho => lawB_of hn i o ho
  have hone : ∀ (i : Nat) (o : Oper) (j : Nat) (o' : Oper) (d : Nat), l[i]? = some o → l[j]? = some o' → i ≠ j → o.dst = some d → o'.dst ≠ some d := fun i o j o' d hi hj hne hd => (hL j o' hj).2.2.2.1 i o hi hne d hd
  have hnl : n < l.length := (List.getElem?_eq_some_iff.1 hoc).1
  have htake : ∀ (i : Nat) (o : Oper), (l.take n)[i]? = some o → l[i]? = some o ∧ i < n := fun i o h => by
    rw [List.getElem?_take] at h
    split at h
    · exact ⟨h, by assumption⟩
    · cases h
  have hdropg : ∀ (i : Nat) (o : Oper), (l.drop (n + 1))[i]? = some o → l[n + 1 + i]? = some o := fun i o h => by rw [List.getElem?_drop] at h; exact h
  obtain ⟨vs0, hst0, hfin0⟩ := stepsS_of _ _ hpre
  have hsize : aσ.tmps.size = a0.tmps.size := by rw [← hfin0, putsS_size]
  have hdef : aσ.defers = a0.defers := by rw [← hfin0, putsS_defers]
  have key0 := fun i o ho => stepsS_key hst0 hfin0 (fun i o d h hd => (hL i o (htake i o h).1).2.2.1 d hd) (fun i o j o' d h h' hne hd => hone i o j o' d (htake i o h).1 (htake j o' h').1 hne hd) i o ho
  have hout0 : ∀ t : Nat, (∀ (i : Nat) (o : Oper), i < n → l[i]? = some o → o.dst ≠ some t) → aσ.tmps.getD t undef = a0.tmps.getD t undef := by
    intro t ht
    rw [← hfin0, putsS_other]
    intro o' hm' hd
    obtain ⟨k, hk, rfl⟩ := List.getElem_of_mem hm'
    have hk2 := htake k _ (List.getElem?_eq_getElem hk)
    exact ht k _ hk2.2 hk2.1 hd
  -- what stands when the call has been made
  let Post : World → Act → Prop := fun w aτ => ∃ v w0 vs, D w0 w ∧ StepsS P l.toArray (D w0) (l.drop (n + 1)) vs (aσ.put oc.dst v) ∧ putsS (l.drop (n + 1)) vs (aσ.put oc.dst v) = aτ ∧ (∀ w', D w0 w' → Q .normal aτ w') ∧ ∀ d, oc.dst = some d → aτ.tmps.getD d undef = v
  have hPost : ∀ w aτ, Post w aτ → aτ.tmps.size = a0.tmps.size ∧ aτ.defers = a0.defers ∧ (∀ t : Nat, (∀ (i : Nat) (o : Oper), l[i]? = some o → o.dst ≠ some t) → aτ.tmps.getD t undef = a0.tmps.getD t undef) ∧
      (∀ (i : Nat) (o : Oper) (d : Nat), l[i]? = some o → i < n → o.dst = some d → aτ.tmps.getD d undef = aσ.tmps.getD d undef) := by
    rintro w aτ ⟨v, w0, vs, _, h1, h2, _, _⟩
    have hoth : ∀ t : Nat, (∀ (i : Nat) (o : Oper), n < i → l[i]? = some o → o.dst ≠ some t) → aτ.tmps.getD t undef = (aσ.put oc.dst v).tmps.getD t undef := by
      intro t ht
      rw [← h2, putsS_other]
      intro o' hm' hd
      obtain ⟨k, hk, rfl⟩ := List.getElem_of_mem hm'
      exact ht _ _ (by omega) (hdropg k _ (List.getElem?_eq_getElem hk)) hd
    refine ⟨by rw [← h2, putsS_size, put_size, hsize], by rw [← h2, putsS_defers, put_defers', hdef], fun t ht => ?_, fun i o d hi hin hd => ?_⟩
    · rw [hoth t fun i o _ hi => ht i o hi, put_other _ _ _ _ (ht n oc hoc), hout0 t fun i o _ hi => ht i o hi]
    · rw [hoth d fun j o' hj hj' => hone i o j o' d hi hj' (by omega) hd, put_other _ _ _ _ (hone i o n oc d hi hoc (by omega) hd)]
  have hpre_all : ∀ L : Nat → Bool, (∀ (j : Nat) (oj : Oper), l[j]? = some oj → L j = true → ∀ e ∈ oj.after, Region.binds .any e = true → L e.on = true) → (∀ e ∈ oc.after, Region.binds .any e = true → L e.on = true) → ∀ i, i < n → L i = true := by
    intro L hcl hcn
    have : ∀ d i, n - i = d → i < n → L i = true := by
      intro d
      induction d using Nat.strongRecOn with
      | _ d ih =>
        intro i hd hi
        obtain ⟨j, o, h1, h2, h3, e, he, hb, rfl⟩ := wildB_pre hw i hi
        by_cases hj : j = n
        · subst hj
          rw [hoc] at h3
          obtain rfl := Option.some.inj h3
          exact hcn e he hb
        · exact hcl j o h3 (ih (n - j) (by omega) j rfl (by omega)) e he hb
    exact fun i hi => this _ i rfl hi
  refine wp_region_inv hm hback (fun L a w => a.defers = a0.defers ∧ a.tmps.size = a0.tmps.size ∧ (∀ t : Nat, (∀ (i : Nat) (o : Oper), l[i]? = some o → o.dst ≠ some t) → a.tmps.getD t undef = a0.tmps.getD t undef) ∧
    (∀ (j : Nat) (oj : Oper), l[j]? = some oj → L j = true → ∀ e ∈ oj.after, Region.binds .any e = true → L e.on = true) ∧
    (L n = false → (∃ x : Ext B W, w = x.out) ∧ ∀ (i : Nat) (o : Oper) (d : Nat), l[i]? = some o → L i = true → o.dst = some d → a.tmps.getD d undef = aσ.tmps.getD d undef) ∧
    (L n = true → ∃ aτ, Post w aτ ∧ ∀ (i : Nat) (o : Oper) (d : Nat), l[i]? = some o → L i = true → o.dst = some d → a.tmps.getD d undef = aτ.tmps.getD d undef)) ?_ ?_ ?_
  · intro L hL0
    exact ⟨rfl, rfl, fun _ _ => rfl, fun j oj hj hLj => (by rw [hL0 j (List.getElem?_eq_some_iff.1 hj).1] at hLj; cases hLj), fun _ => ⟨⟨⟨_, (Below.refl B W).drew⟩, rfl⟩, fun i o d hi hLi => (by rw [hL0 i (List.getElem?_eq_some_iff.1 hi).1] at hLi; cases hLi)⟩, fun hLn => (by rw [hL0 n hnl] at hLn; cases hLn)⟩
  · intro L a w i o ho hLi hafter ⟨i1, i2, i3, i4, i5, i6⟩
    obtain ⟨hg, hns, hd1, hd2, heyes⟩ := hL i o ho
    rw [if_pos (by simp [Region.wanted, hg])]
    have hcl : ∀ (j : Nat) (oj : Oper), l[j]? = some oj → plus L i j = true → ∀ e ∈ oj.after, Region.binds .any e = true → plus L i e.on = true := by
      intro j oj hj hLj e he hb
      unfold plus at hLj ⊢
      by_cases hji : j = i
      · subst hji
        rw [ho] at hj
        obtain rfl := Option.some.inj hj
        split
        · rfl
        · exact hafter e he hb
      · rw [if_neg hji] at hLj
        split
        · rfl
        · exact i4 j oj hj hLj e he hb
    rcases Nat.lt_trichotomy i n with hin | hin | hin
    · -- ahead of the call
      have hLn : L n = false := by
        cases hc : L n with
        | false => rfl
        | true => have := hpre_all L i4 (fun e he hb => i4 n oc hoc hc e he hb) i hin; rw [this] at hLi; cases hLi
      obtain ⟨⟨x, hx⟩, i7⟩ := i5 hLn
      have ho' : (l.take n)[i]? = some o := by rw [List.getElem?_take, if_pos hin]; exact ho
      obtain ⟨v, ai, hY, hv, hno, hyes⟩ := key0 i o ho'
      have he : execOp a.eval o = execOp ai.eval o := by
        refine execOp_congr o (fun c b hc => by rw [notSelect, hc] at hns; cases hns) (eval_eyes fun t ht => ?_)
        by_cases hex : ∃ (j : Nat) (o' : Oper), l[j]? = some o' ∧ o'.dst = some t
        · obtain ⟨j, o', hj, hd⟩ := hex
          obtain ⟨hji, e, he, hb, hon⟩ := heyes t ht j o' hj hd
          have hLj : L j = true := hon ▸ hafter e he hb
          rw [hyes t j o' hji (by rw [List.getElem?_take, if_pos (by omega)]; exact hj) hd]
          exact i7 j o' t hj hLj hd
        · have hn' : ∀ (j : Nat) (o' : Oper), l[j]? = some o' → o'.dst ≠ some t := fun j o' hj hd => hex ⟨j, o', hj, hd⟩
          rw [i3 t hn', hno t fun j o' hj => hn' j o' (htake j o' hj).1]
      have hY' := hY.of_same he (by simp [Region.wanted, hg])
      rcases hY' with ⟨_, hq⟩ | ⟨hw0, _⟩
      · refine Oper.wp_of_quiet (C := fun w' => ∃ x : Ext B W, w' = x.out) (K := fun a' => a' = a.put o.dst v) ⟨x, hx⟩ ?_ ⟨v, hq, rfl⟩
        rintro a' w' ⟨z, rfl⟩ rfl
        refine ⟨(put_defers' _ _ _).trans i1, (put_size _ _ _).trans i2, fun t ht => ?_, hcl, fun _ => ⟨⟨z, rfl⟩, fun j o' d hj hLj hd => ?_⟩, fun hLp => ?_⟩
        · rw [put_other _ _ _ _ (ht i o ho)]; exact i3 t ht
        · by_cases hji : j = i
          · subst hji
            rw [ho] at hj
            obtain rfl := Option.some.inj hj
            rw [hd, put_here _ _ _ (by rw [i2]; exact hd1 d hd)]
            exact hv d hd
          · have hLj' : L j = true := by unfold plus at hLj; rwa [if_neg hji] at hLj
            rw [put_other _ _ _ _ (hd2 j o' hj hji d hd)]; exact i7 j o' d hj hLj' hd
        · unfold plus at hLp; rw [if_neg (by omega), hLn] at hLp; cases hLp
      · simp [Region.wanted, hg] at hw0
    · -- the call
      subst hin
      rw [hoc] at ho
      obtain rfl := Option.some.inj ho
      obtain ⟨⟨x, hx⟩, i7⟩ := i5 hLi
      have hall := hpre_all L i4 hafter
      have he : execOp a.eval oc = execOp aσ.eval oc := by
        refine execOp_congr oc (fun c b hc => by rw [notSelect, hc] at hns; cases hns) (eval_eyes fun t ht => ?_)
        by_cases hex : ∃ (j : Nat) (o' : Oper), l[j]? = some o' ∧ o'.dst = some t
        · obtain ⟨j, o', hj, hd⟩ := hex
          obtain ⟨hji, e, he, hb, hon⟩ := heyes t ht j o' hj hd
          exact i7 j o' t hj (hon ▸ hafter e he hb) hd
        · have hn' : ∀ (j : Nat) (o' : Oper), l[j]? = some o' → o'.dst ≠ some t := fun j o' hj hd => hex ⟨j, o', hj, hd⟩
          rw [i3 t hn', hout0 t fun j o' _ hj => hn' j o' hj]
      subst hx
      unfold Oper.wp
      rw [he, hent]
      simp only [Oper.upon]
      refine (hcall x).mono ?_
      rintro e w' ⟨v, rfl, hR⟩
      obtain ⟨vs, hst, hQ⟩ := stepsS_of _ _ (hpost v w' hR)
      have hdv : ∀ d, oc.dst = some d → (putsS (l.drop (i + 1)) vs (aσ.put oc.dst v)).tmps.getD d undef = v := by
        intro d hd
        rw [putsS_other, hd, put_here _ _ _ (by rw [hsize]; exact hd1 d hd)]
        intro o' hm' hd'
        obtain ⟨k, hk, rfl⟩ := List.getElem_of_mem hm'
        exact hone i oc _ _ d hoc (hdropg k _ (List.getElem?_eq_getElem hk)) (by omega) hd hd'
      have hP : Post w' (putsS (l.drop (i + 1)) vs (aσ.put oc.dst v)) := ⟨v, w', vs, hD _, hst, rfl, hQ, hdv⟩
      obtain ⟨_, _, _, p4⟩ := hPost _ _ hP
      refine ⟨(put_defers' _ _ _).trans i1, (put_size _ _ _).trans i2, fun t ht => ?_, hcl, fun hLn => ?_, fun _ => ⟨_, hP, fun j o' d hj hLj hd => ?_⟩⟩
      · rw [put_other _ _ _ _ (ht i oc hoc)]; exact i3 t ht
      · simp [plus] at hLn
      · by_cases hji : j = i
        · subst hji
          rw [hoc] at hj
          obtain rfl := Option.some.inj hj
          rw [hd, put_here _ _ _ (by rw [i2]; exact hd1 d hd), ← hd, hdv d hd]
        · have hLj' : L j = true := by unfold plus at hLj; rwa [if_neg hji] at hLj
          have hjn : j < i := by
            rcases Nat.lt_trichotomy j i with h | h | h
            · exact h
            · exact absurd h hji
            · exfalso
              have : ∀ d t, t = d → i < t → t < l.length → L t = true → False := by
                intro d
                induction d using Nat.strongRecOn with
                | _ d ih =>
                  intro t htd hit htl hLt
                  obtain ⟨e, he', hb, h1, h2⟩ := wildB_post hw t _ (List.getElem?_eq_getElem htl) hit
                  have h3 := i4 t _ (List.getElem?_eq_getElem htl) hLt e he' hb
                  rcases Nat.eq_or_lt_of_le h1 with h4 | h4
                  · rw [← h4, hLi] at h3; cases h3
                  · exact ih e.on (by omega) e.on rfl h4 (by omega) h3
              exact this _ j rfl h (List.getElem?_eq_some_iff.1 hj).1 hLj'
          rw [put_other _ _ _ _ (hd2 j o' hj hji d hd), i7 j o' d hj hLj' hd, p4 j o' d hj hjn hd]
    · -- behind the call
      have hLn : L n = true := by
        obtain ⟨e, he, hb, h1, h2⟩ := wildB_post hw i o ho hin
        have h3 := hafter e he hb
        have : ∀ d t, t = d → n ≤ t → t < l.length → L t = true → L n = true := by
          intro d
          induction d using Nat.strongRecOn with
          | _ d ih =>
            intro t htd hit htl hLt
            rcases Nat.eq_or_lt_of_le hit with h4 | h4
            · rw [h4]; exact hLt
            · obtain ⟨e, he', hb, h1, h2⟩ := wildB_post hw t _ (List.getElem?_eq_getElem htl) h4
              exact ih e.on (by omega) e.on rfl h1 (by omega) (i4 t _ (List.getElem?_eq_getElem htl) hLt e he' hb)
        exact this _ e.on rfl h1 (by have := (List.getElem?_eq_some_iff.1 ho).1; omega) h3
      obtain ⟨aτ, hP, i7⟩ := i6 hLn
      obtain ⟨p1, p2, p3, p4⟩ := hPost _ _ hP
      obtain ⟨v, w0, vs, hDw, hst, hfin, hQ, hdv⟩ := hP
      have ho' : (l.drop (n + 1))[i - (n + 1)]? = some o := by rw [List.getElem?_drop]; rw [show n + 1 + (i - (n + 1)) = i by omega]; exact ho
      obtain ⟨u, ai, hY, hv, hno, hyes⟩ := stepsS_key hst hfin (fun j o' d h hd => by rw [put_size, hsize]; exact (hL _ o' (hdropg j o' h)).2.2.1 d hd) (fun j o' k o'' d h h' hne hd => hone _ o' _ o'' d (hdropg j o' h) (hdropg k o'' h') (by omega) hd) _ o ho'
      have he : execOp a.eval o = execOp ai.eval o := by
        refine execOp_congr o (fun c b hc => by rw [notSelect, hc] at hns; cases hns) (eval_eyes fun t ht => ?_)
        by_cases hex : ∃ (j : Nat) (o' : Oper), l[j]? = some o' ∧ o'.dst = some t
        · obtain ⟨j, o', hj, hd⟩ := hex
          obtain ⟨hji, e, he, hb, hon⟩ := heyes t ht j o' hj hd
          have hLj : L j = true := hon ▸ hafter e he hb
          rw [i7 j o' t hj hLj hd]
          by_cases hjn : n < j
          · rw [hyes t (j - (n + 1)) o' (by omega) (by rw [List.getElem?_drop, show n + 1 + (j - (n + 1)) = j by omega]; exact hj) hd]
          · have h9 : ai.tmps.getD t undef = (aσ.put oc.dst v).tmps.getD t undef := hno t fun k o'' hk => hone j o' _ o'' t hj (hdropg k o'' hk) (by omega) hd
            rw [h9]
            rcases Nat.lt_or_ge j n with h10 | h10
            · rw [p4 j o' t hj h10 hd, put_other _ _ _ _ (hone j o' n oc t hj hoc (by omega) hd)]
            · obtain rfl : j = n := by omega
              rw [hoc] at hj
              obtain rfl := Option.some.inj hj
              rw [hdv t hd, hd, put_here _ _ _ (by rw [hsize]; exact (hL j oc hoc).2.2.1 t hd)]
        · have hn' : ∀ (j : Nat) (o' : Oper), l[j]? = some o' → o'.dst ≠ some t := fun j o' hj hd => hex ⟨j, o', hj, hd⟩
          rw [i3 t hn', hno t fun j o' hj => hn' _ o' (hdropg j o' hj), put_other _ _ _ _ (hn' n oc hoc), hout0 t fun j o' _ hj => hn' j o' hj]
      have hY' := hY.of_same he (by simp [Region.wanted, hg])
      rcases hY' with ⟨_, hq⟩ | ⟨hw0, _⟩
      · refine Oper.wp_of_quiet (C := D w0) (K := fun a' => a' = a.put o.dst u) hDw ?_ ⟨u, hq, rfl⟩
        rintro a' w' hDw' rfl
        refine ⟨(put_defers' _ _ _).trans i1, (put_size _ _ _).trans i2, fun t ht => ?_, hcl, fun hLp => ?_, fun _ => ⟨aτ, ⟨v, w0, vs, hDw', hst, hfin, hQ, hdv⟩, fun j o' d hj hLj hd => ?_⟩⟩
        · rw [put_other _ _ _ _ (ht i o ho)]; exact i3 t ht
        · unfold plus at hLp; rw [if_neg (by omega), hLn] at hLp; cases hLp
        · by_cases hji : j = i
          · subst hji
            rw [ho] at hj
            obtain rfl := Option.some.inj hj
            rw [hd, put_here _ _ _ (by rw [i2]; exact hd1 d hd)]
            exact hv d hd
          · have hLj' : L j = true := by unfold plus at hLj; rwa [if_neg hji] at hLj
            rw [put_other _ _ _ _ (hd2 j o' hj hji d hd)]; exact i7 j o' d hj hLj' hd
      · simp [Region.wanted, hg] at hw0
  · intro L a w hall ⟨i1, i2, i3, i4, i5, i6⟩
    obtain ⟨aτ, hP, i7⟩ := i6 (hall n hnl)
    obtain ⟨p1, p2, p3, p4⟩ := hPost _ _ hP
    obtain ⟨v, w0, vs, hDw, hst, hfin, hQ, hdv⟩ := hP
    have : a = aτ := by
      refine act_ext (i2.trans p1.symm) (i1.trans p2.symm) fun k => ?_
      by_cases hex : ∃ (j : Nat) (o' : Oper), l[j]? = some o' ∧ o'.dst = some k
      · obtain ⟨j, o', hj, hd⟩ := hex
        exact i7 j o' k hj (hall j (List.getElem?_eq_some_iff.1 hj).1) hd
      · have hn' : ∀ (j : Nat) (o' : Oper), l[j]? = some o' → o'.dst ≠ some k := fun j o' hj hd => hex ⟨j, o', hj, hd⟩
        rw [i3 k hn', p3 k hn']
    rw [this]; exact hQ _ hDw
/-- The same; what stands behind the call turns nothing below the heap that the call has left. -/
theorem wp_region_wildE {P : Program} {id : Nat} {Q : Exit → Act → World → Prop} {a0 : Act} {W : World} {l : List Oper} (B n : Nat) (aσ : Act) (oc : Oper) (f : FuncId) (args : Array Value) (R : Value → World → Prop)
    (hm : P.follows .mixedOrders = true) (hback : backB l = true) (hn : lawB l a0.tmps.size = true) (hw : wildB l n = true) (hoc : l[n]? = some oc) (hBW : B ≤ W.heap.size)
    (hpre : wpQuiet P l.toArray (fun w' => ∃ x : Ext B W, w' = x.out) (fun a' => a' = aσ) (l.take n) a0)
    (hent : ∀ w, (execOp aσ.eval oc).run P w = .ok (.enter f args) w)
    (hcall : ∀ x : Ext B W, Calls P f args x.out fun e w' => ∃ v, e = .returned v ∧ R v w')
    (hpost : ∀ v w1, R v w1 → wpQuiet P l.toArray (fun w' => ∃ y : Ext w1.heap.size w1, w' = y.out) (fun a' => ∀ w', (∃ y : Ext w1.heap.size w1, w' = y.out) → Q .normal a' w') (l.drop (n + 1)) (aσ.put oc.dst v)) :
    (Code.region id l.toArray true).wp P Q a0 W :=
  wp_region_wildD B n aσ oc f args R (fun w1 w' => ∃ y : Ext w1.heap.size w1, w' = y.out) (fun w => ⟨⟨w, Below.refl _ _⟩, rfl⟩) hm hback hn hw hoc hBW hpre hent hcall hpost
end Go.Proofs.Ytgbihaliiogboaa
