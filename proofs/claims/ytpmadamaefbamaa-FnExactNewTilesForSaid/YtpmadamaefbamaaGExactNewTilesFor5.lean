/- What is proved: FnExactNewTilesFor holds of all arguments; with the texts that lead to it. -/
import Derived.Test.YtpmadamaefbamaaGExactNewTilesFor4
import Derived.Lib.AppendZeros
import Derived.Lib.Walk
import Derived.ChangeOld
/- Pieces that are cut of a stock, the reference's. -/
namespace Go.Proofs.Ytpmadamaefbamaa
open Go.RowKit
set_option linter.unusedSimpArgs false
set_option linter.unusedVariables false
set_option maxHeartbeats 6400000 in
set_option maxRecDepth 100000 in
theorem c_l05Cover (A : Option Addr) (c : Nat) (l : List (Int × Int)) (hw : ∀ i : Int, 0 ≤ i → i < l.length → 0 ≤ wdL l i ∧ wdL l i ≤ 8) (hlen : l.length ≤ 30) (As : Option Addr) (cs : Nat) (s : List (Int × Int)) (hsl : s.length ≤ 30) (w : World) (hA : PairsAt .i8 .i8 w A l) (hS : PairsAt .i8 .i8 w As s) :
    Calls Try.prog 23 #[.slice A l.length c, .slice As s.length cs] w fun e w' => ∃ v, e = .returned v ∧ Below w.heap.size w w' ∧ RowI w.heap.size w' v (covL l s) := by
  have HA := hid hA
  have HS := hid hS
  have HWd := hid hw
  have HLen := hid hlen
  have HSl := hid hsl
  have HOrd := fun W h => hid (c_l05Order A c l hw (Nat.le_trans hlen (by decide)) W h)
  obtain ⟨i0, hi, hz0, hz1, hz2⟩ := info_parts Try.infoI64v
  obtain ⟨j0, ji, jz0, jz1, jz2⟩ := info_parts Try.infoBoolz
  have hLI : (l.length : Int) ≤ 30 := by omega
  have hSI : (s.length : Int) ≤ 30 := by omega
  clear hw hlen hA hS hsl
  go_enter Try.func23, Try.ntmps23
  go_wp2_with (first
    | ((with_reducible refine gate (N := 15) rfl ?_); (refine wpList_make_full _ rfl (.tmp 14) (.tmp 14) 24 rfl w.heap.size 2 i0 (.int .i64 0) 1 Try.underlying24 hi hz0 hz1 .i64 .i64 (l.length : Int) (l.length : Int) l.length rfl rfl rfl rfl (by rw [hz2]; have := HLen.out; omega) (Nat.le_trans HLen.out (by decide)) (Nat.le_refl _) ?_; intro w1 hown1 hg1; have HL1 := hid (block_full hown1 (by simp [size_madeCells])); have HG1 := hid hg1; clear hown1 hg1))
    | ((with_reducible refine gate (N := 18) rfl ?_); (refine wpList_make_full _ rfl (.tmp 17) (.tmp 17) 63 rfl w1.heap.size 4 j0 (.bool false) 1 Try.underlying63 ji jz0 jz1 .i64 .i64 (s.length : Int) (s.length : Int) s.length rfl rfl rfl rfl (by rw [jz2]; have := HSl.out; omega) (Nat.le_trans HSl.out (by decide)) (Nat.le_refl _) ?_; intro w1' hown1' hg1'; have HLb := hid (block_full hown1' (by simp [size_madeCells])); have HGb := hid hg1'; clear hown1' hg1'))
    | (go_at_call 35; ((refine (HOrd w1' (HA.out.below (((Below.refl _ w).grown HG1.out (Nat.le_refl _) (fun k hk => by cases hk)).grown HGb.out HG1.out.size (fun k hk => by cases hk)) (Nat.le_refl _))).out.mono ?_); rintro e2 w2 ⟨v, rfl, hb2, hr2⟩); obtain ⟨Ao, co, rfl⟩ := owns_slc hr2; have HB2 := hid hb2; have HR2 := hid hr2; clear hb2 hr2))
  have hL01 : Below w.heap.size w w1 := (Below.refl _ _).grown HG1.out (Nat.le_refl _) (fun k hk => by cases hk)
  have hL12 : Below w1.heap.size w1 w1' := (Below.refl _ _).grown HGb.out (Nat.le_refl _) (fun k hk => by cases hk)
  have hT1 : w1.heap[w.heap.size]? = some (.cells (arrV (fun _ => 0) l.length) 2 (0, 0)) := by
    have := HL1.out
    rw [Nat.mul_one, show (Value.int .i64 0).cells = #[Value.int .i64 0] from rfl, made_zeroV] at this
    exact this
  have hTb : w1'.heap[w1.heap.size]? = some (.cells (boolsF [] s.length) 4 (0, 0)) := by
    have := HLb.out
    rw [Nat.mul_one, show (Value.bool false).cells = #[Value.bool false] from rfl, made_false] at this
    exact this
  have hlt1 := block_lt hT1
  have hltb := block_lt hTb
  have hs12 := HB2.out.size
  obtain ⟨gt, hgt⟩ : ∃ g, g = w.heap.size := ⟨_, rfl⟩
  obtain ⟨bm, hbm⟩ : ∃ g, g = w1.heap.size := ⟨_, rfl⟩
  have hT2 := block_below HB2.out (block_below hL12 hT1 hlt1) (by have := hL12.size; omega)
  have hM2 := block_below HB2.out hTb hltb
  rw [← hbm] at hM2
  have HM2 := hid hM2
  have HW2 : Hid (Below w.heap.size w w2) := (hL01.trans (hL12.mono (Nat.le_of_lt hlt1))).trans (HB2.out.mono (by have := hL12.size; omega))
  have HO2 : Hid (RowI (bm + 1) w2 (.slice Ao (ordL l).length co) (ordL l)) := HR2.out.mono (by omega)
  rw [← hgt] at hT2 ⊢
  rw [← hbm]
  have HT2 := hid hT2
  have HSz : Hid (gt < bm ∧ bm + 1 ≤ w2.heap.size ∧ gt = w.heap.size) := ⟨by omega, by omega, hgt⟩
  have HOL : Hid ((ordL l).length = l.length) := ordL_len (by have := HLen.out; omega) HWd.out
  have HOM : Hid (∀ x ∈ ordL l, 0 ≤ x ∧ x < l.length) := fun x hx => ordL_mem hx
  have HCL : Hid (∀ O, O = ordL l → icells (covL l s) = (arrV (covSt l s O O.length).1 l.length).toList) := fun O hO => by rw [hO, arrV_toList]; rfl
  obtain ⟨O, hO⟩ : ∃ O, O = ordL l := ⟨_, rfl⟩
  have HOE := hid hO
  rw [← hO] at HO2 HOL HOM ⊢
  have HOlt : Hid (∀ g, (Value.slice Ao O.length co).ownBlock = some g → bm < g) := fun g hg => (World.ownsRow.lt HO2.out g hg).1
  clear hgt hbm hT1 hTb hT2 hM2 hL01 hL12 HL1 HG1 HLb HGb HB2 HR2 HOrd hO hs12 hlt1 hltb
  go_loopw [8] (fun i wr => ∃ j : Nat, j ≤ O.length ∧ i = .int .i64 j ∧ Hid (But2 gt bm w2 wr) ∧ Hid (wr.heap[gt]? = some (.cells (arrV (covSt l s O j).1 l.length) 2 (0, 0))) ∧ Hid (wr.heap[bm]? = some (.cells (boolsF (covSt l s O j).2 s.length) 4 (0, 0)))) (fun i _ => O.length - (intOf i).toNat)
  case atStart => exact ⟨0, by omega, rfl, But2.refl _ _ _, HT2.out, HM2.out⟩
  case round =>
    clear HT2 HM2
    obtain ⟨wo, rfl⟩ : ∃ W, W = wr := ⟨_, rfl⟩
    obtain ⟨j, hj, rfl, hbt, htk, hmp⟩ := hrel
    have hL := HLen.out
    have hOL := HOL.out
    have hS := HSz.out
    have hSl := HSl.out
    have hOr : RowI (bm + 1) wo (.slice Ao O.length co) O := owns_but2 HO2.out hbt.out (fun e => by have := HOlt.out _ e; omega) (fun e => by have := HOlt.out _ e; omega)
    have hBw : Below w.heap.size w wo := ⟨hbt.out.os.trans HW2.out.os, hbt.out.tape.trans HW2.out.tape, hbt.out.output.trans HW2.out.output, Nat.le_trans HW2.out.size hbt.out.size, fun i hi => (hbt.out.block i (by omega) (by omega) (by omega)).trans (HW2.out.block i hi)⟩
    have hAr := HA.out.below hBw (Nat.le_refl _)
    have hSr := HS.out.below hBw (Nat.le_refl _)
    have HBw := hid hBw
    by_cases hjl : j < O.length
    · have d1 : decide ((j : Int) < (O.length : Int)) = true := decide_eq_true (by omega)
      have hjI : (j : Int) < (O.length : Int) := by omega
      have hj0 : (0 : Int) ≤ (j : Int) := by omega
      have hj30 : (j : Int) ≤ 30 := by omega
      have hp := List.getElem?_eq_getElem hjl
      obtain ⟨a, haa⟩ : ∃ a, a = O[j] := ⟨_, rfl⟩
      rw [← haa] at hp
      have hra := HOM.out a (List.mem_of_getElem? hp)
      obtain ⟨go, cg, e, _, hgl, c0, _⟩ := owns_cell hOr (icells_get hp)
      obtain ⟨rfl, rfl⟩ : Ao = some ⟨go, 0, none⟩ ∧ co = cg := by simpa using e
      obtain ⟨i', rfl⟩ : ∃ i' : Nat, a = (i' : Int) := ⟨a.toNat, by omega⟩
      have pa := List.getElem?_eq_getElem (show i' < l.length by omega)
      obtain ⟨⟨p1, p2⟩, hpp⟩ : ∃ p, p = l[i'] := ⟨_, rfl⟩
      rw [← hpp] at pa
      have HSUC := hid (covSt_succ l s hp pa)
      obtain ⟨b, off, e2, r1, r2, r3⟩ := hAr i' _ pa
      dsimp only at r2 r3
      subst e2
      have x0 : (0 : Int) ≤ (i' : Int) := by omega
      have x1 : (i' : Int) < (l.length : Int) := by omega
      have x2 : (i' : Int) ≤ 30 := by omega
      have HJL := hid hjl
      have HRA := hid hra
      have HPJ := hid hp
      have HOrr := hid hOr
      obtain ⟨T, hT⟩ : ∃ T, T = (covSt l s O j).2 := ⟨_, rfl⟩
      obtain ⟨fo, hfo⟩ : ∃ f, f = (covSt l s O j).1 := ⟨_, rfl⟩
      rw [← hT] at hmp HSUC
      rw [← hfo] at htk HSUC
      have hAl : Below wo.heap.size wo (wo.alloc (.cells #[.int .i8 p1, .int .i8 p2] 50)) := (Below.refl _ wo).alloc (Nat.le_refl _) _
      have HPB := hid (block_new1 wo (.cells #[.int .i8 p1, .int .i8 p2] 50) rfl)
      have HSr := hid (hSr.below hAl (Nat.le_refl _))
      have HBA := hid hAl
      clear hp haa hra hOr e hgl hAr hSr hBw pa hpp hjl hT hfo hS hL hOL hSl hAl
      go_wp2_with fail
      clear c0 r2 r3
      obtain ⟨wq0, hwq0⟩ : ∃ W, W = wo.alloc (.cells #[.int .i8 p1, .int .i8 p2] 50) := ⟨_, rfl⟩
      obtain ⟨pb, hpb⟩ : ∃ b, b = wo.heap.size := ⟨_, rfl⟩
      rw [← hpb] at HPB
      rw [← hwq0] at HPB HSr HBA ⊢
      rw [← hpb]
      have HPl : Hid (pb < wq0.heap.size) := block_lt HPB.out
      clear hwq0 hpb
      go_loopw [10, 11] (fun bv i wm => ∃ k : Nat, k ≤ s.length ∧ i = .int .i64 k ∧ bv = .int .i64 (bestN s T (p1, p2) k) ∧ Hid (Below wq0.heap.size wq0 wm)) (fun _ i _ => s.length - (intOf i).toNat)
      case atStart => exact ⟨0, by omega, rfl, rfl, Below.refl _ _⟩
      case round =>
        obtain ⟨wm, rfl⟩ : ∃ W, W = wr := ⟨_, rfl⟩
        obtain ⟨k, hk, rfl, rfl, hbm⟩ := hrel
        have hbb := bestN_b s T (p1, p2) k
        have HBS : Hid (bestN s T (p1, p2) (k + 1) = if bestB s T (p1, p2) (bestN s T (p1, p2) k) k = true then (k : Int) else bestN s T (p1, p2) k) := rfl
        obtain ⟨be, hbe⟩ : ∃ b, b = bestN s T (p1, p2) k := ⟨_, rfl⟩
        rw [← hbe] at hbb HBS ⊢
        have hSl := HSl.out
        have HBom : Hid (Below wo.heap.size wo wm) := HBA.out.trans (hbm.out.mono HBA.out.size)
        by_cases hkl : k < s.length
        · have d2 : decide ((k : Int) < (s.length : Int)) = true := decide_eq_true (by omega)
          have hkI : (k : Int) < (s.length : Int) := by omega
          have hk0 : (0 : Int) ≤ (k : Int) := by omega
          have hk30 : (k : Int) ≤ 30 := by omega
          have hq := List.getElem?_eq_getElem hkl
          obtain ⟨⟨q1, q2⟩, hqq⟩ : ∃ q, q = s[k] := ⟨_, rfl⟩
          rw [← hqq] at hq
          have hwq := wdL_get hq
          have HBB : Hid (bestB s T (p1, p2) be k = (!decide ((k : Int) ∈ T) && (isCutB (p1, p2) (q1, q2) && (decide (be = -1) || decide (q2 < wdL s be))))) := by
            show _ = _
            unfold bestB
            rw [List.getD_eq_getElem?_getD, hq, hwq]; rfl
          have HCT : Hid (isCutB (p1, p2) (q1, q2) = (decide (p2 ≤ q2) && (decide (p1 = 2) || decide (p1 = q1)))) := rfl
          obtain ⟨bs, offs, e3, s1, s2, s3⟩ := HSr.out k _ hq
          dsimp only at s2 s3
          subst e3
          have t2 := (hbm.out.cell (p := ⟨bs, _, none⟩) s1).trans s2
          have t3 := (hbm.out.cell (p := ⟨bs, _, none⟩) s1).trans s3
          have hPm := block_below hbm.out HPB.out HPl.out
          have v1 : wm.cell? ⟨pb, 0, none⟩ = some (.int .i8 p1) := cell_block hPm rfl
          have v2 : wm.cell? ⟨pb, 1, none⟩ = some (.int .i8 p2) := cell_block hPm rfl
          have hMm := block_below HBom.out hmp.out (block_lt hmp.out)
          have v3 : wm.cell? ⟨bm, k, none⟩ = some (.bool (decide ((k : Int) ∈ T))) := cell_block hMm (boolsF_get T (by omega))
          have lb : pb < wm.heap.size := block_lt hPm
          have lm : bm < wm.heap.size := block_lt hMm
          have lbs : bs < wm.heap.size := by have := hbm.out.size; omega
          obtain ⟨tk, htkk⟩ : ∃ v, v = decide ((k : Int) ∈ T) := ⟨_, rfl⟩
          obtain ⟨ct, hct⟩ : ∃ v, v = isCutB (p1, p2) (q1, q2) := ⟨_, rfl⟩
          rw [← htkk] at v3 HBB
          rw [← hct] at HBB HCT
          have HKL := hid hkl
          clear hq hqq hwq s1 s2 s3 hkl hct htkk hPm hMm hSl
          clear hbe
          by_cases h1 : p2 ≤ q2
          · have d5 : decide (q2 ≥ p2) = true := decide_eq_true h1
            have H1 : Hid (decide (p2 ≤ q2) = true) := decide_eq_true h1
            clear h1
            by_cases h3 : p1 = q1
            · have d6 : (q1 == p1) = true := by rw [beq_iff_eq]; exact h3.symm
              have H3 : Hid (decide (p1 = q1) = true) := decide_eq_true h3
              clear h3
              obtain rfl : ct = true := HCT.out.trans (by rw [H1.out, H3.out]; simp)
              cases tk with
              | true =>
                clear hbb
                go_wp2_with fail
                refine wp_region_ext wm.heap.size (by kernel_rfl) (by kernel_rfl) ?_
                repeat (go_big_quiet_step (fail))
                refine wpQuiet_nil ?_
                intro xx
                have HXX := hid (hbm.out.trans (xx.below.mono hbm.out.size))
                have w1 := (xx.below.cell (p := ⟨bs, _, none⟩) lbs).trans t2
                have w2 := (xx.below.cell (p := ⟨bs, _, none⟩) lbs).trans t3
                have w3 := (xx.below.cell (p := ⟨pb, 0, none⟩) lb).trans v1
                have w4 := (xx.below.cell (p := ⟨pb, 1, none⟩) lb).trans v2
                have w5 := (xx.below.cell (p := ⟨bm, k, none⟩) lm).trans v3
                have l5 := Nat.lt_of_lt_of_le lbs xx.below.size
                have l6 := Nat.lt_of_lt_of_le lb xx.below.size
                have l7 := Nat.lt_of_lt_of_le lm xx.below.size
                obtain ⟨Y, hY⟩ : ∃ Y, Y = xx.out := ⟨_, rfl⟩
                rw [← hY] at HXX w1 w2 w3 w4 w5 l5 l6 l7 ⊢
                clear hY xx
                go_wp2_with fail
                refine wp_region_ext Y.heap.size (by kernel_rfl) (by kernel_rfl) ?_
                repeat (go_big_quiet_step (fail))
                refine wpQuiet_nil ?_
                intro yy
                have HYY := hid (HXX.out.trans (yy.below.mono HXX.out.size))
                go_wp2_with fail
                refine ⟨⟨k + 1, by have := HKL.out; omega, by go_num, ?_, HYY.out⟩, by have := HKL.out; simp [intOf]; omega⟩
                rw [HBS.out, HBB.out]
                rfl
              | false =>
                rcases hbb with rfl | ⟨b0, b1⟩
                · skip
                  go_wp2_with fail
                  refine wp_region_ext wm.heap.size (by kernel_rfl) (by kernel_rfl) ?_
                  repeat (go_big_quiet_step (fail))
                  refine wpQuiet_nil ?_
                  intro xx
                  have HXX := hid (hbm.out.trans (xx.below.mono hbm.out.size))
                  have w1 := (xx.below.cell (p := ⟨bs, _, none⟩) lbs).trans t2
                  have w2 := (xx.below.cell (p := ⟨bs, _, none⟩) lbs).trans t3
                  have w3 := (xx.below.cell (p := ⟨pb, 0, none⟩) lb).trans v1
                  have w4 := (xx.below.cell (p := ⟨pb, 1, none⟩) lb).trans v2
                  have w5 := (xx.below.cell (p := ⟨bm, k, none⟩) lm).trans v3
                  have l5 := Nat.lt_of_lt_of_le lbs xx.below.size
                  have l6 := Nat.lt_of_lt_of_le lb xx.below.size
                  have l7 := Nat.lt_of_lt_of_le lm xx.below.size
                  obtain ⟨Y, hY⟩ : ∃ Y, Y = xx.out := ⟨_, rfl⟩
                  rw [← hY] at HXX w1 w2 w3 w4 w5 l5 l6 l7 ⊢
                  clear hY xx
                  go_wp2_with fail
                  refine wp_region_ext Y.heap.size (by kernel_rfl) (by kernel_rfl) ?_
                  repeat (go_big_quiet_step (fail))
                  refine wpQuiet_nil ?_
                  intro yy
                  have HYY := hid (HXX.out.trans (yy.below.mono HXX.out.size))
                  go_wp2_with fail
                  refine ⟨⟨k + 1, by have := HKL.out; omega, by go_num, ?_, HYY.out⟩, by have := HKL.out; simp [intOf]; omega⟩
                  rw [HBS.out, HBB.out]
                  rfl
                · obtain ⟨bn, rfl⟩ : ∃ bn : Nat, be = (bn : Int) := ⟨be.toNat, by omega⟩
                  have hKL := HKL.out
                  have pn := List.getElem?_eq_getElem (show bn < s.length by omega)
                  have hwn := wdL_get pn
                  obtain ⟨bs2, offs2, e4, s4, s5, s6⟩ := HSr.out bn _ pn
                  obtain ⟨rfl, rfl⟩ : bs = bs2 ∧ offs = offs2 := by simpa using e4
                  rw [← hwn] at s6
                  have u3 := (hbm.out.cell (p := ⟨bs, _, none⟩) s4).trans s6
                  obtain ⟨wn, hwnn⟩ : ∃ v, v = wdL s (bn : Int) := ⟨_, rfl⟩
                  rw [← hwnn] at u3 HBB
                  have n1 : decide ((bn : Int) < 0) = false := decide_eq_false (by omega)
                  have n2 : Hid (decide ((bn : Int) = -1) = false) := decide_eq_false (by omega)
                  have y0 : (0 : Int) ≤ (bn : Int) := b0
                  have y1 : (bn : Int) < (s.length : Int) := by omega
                  clear e4 hKL pn hwn s4 s5 s6 hwnn b0 b1
                  by_cases hlt : q2 < wn
                  · have d9 : decide (q2 < wn) = true := decide_eq_true hlt
                    have D9 := hid d9
                    clear hlt
                    go_wp2_with fail
                    refine wp_region_ext wm.heap.size (by kernel_rfl) (by kernel_rfl) ?_
                    repeat (go_big_quiet_step (fail))
                    refine wpQuiet_nil ?_
                    intro xx
                    have HXX := hid (hbm.out.trans (xx.below.mono hbm.out.size))
                    have w1 := (xx.below.cell (p := ⟨bs, _, none⟩) lbs).trans t2
                    have w2 := (xx.below.cell (p := ⟨bs, _, none⟩) lbs).trans t3
                    have w3 := (xx.below.cell (p := ⟨pb, 0, none⟩) lb).trans v1
                    have w4 := (xx.below.cell (p := ⟨pb, 1, none⟩) lb).trans v2
                    have w5 := (xx.below.cell (p := ⟨bm, k, none⟩) lm).trans v3
                    have l5 := Nat.lt_of_lt_of_le lbs xx.below.size
                    have l6 := Nat.lt_of_lt_of_le lb xx.below.size
                    have l7 := Nat.lt_of_lt_of_le lm xx.below.size
                    have w6 := (xx.below.cell (p := ⟨bs, _, none⟩) lbs).trans u3
                    obtain ⟨Y, hY⟩ : ∃ Y, Y = xx.out := ⟨_, rfl⟩
                    rw [← hY] at HXX w1 w2 w3 w4 w5 l5 l6 l7 w6 ⊢
                    clear hY xx
                    go_wp2_with fail
                    refine wp_region_ext Y.heap.size (by kernel_rfl) (by kernel_rfl) ?_
                    repeat (go_big_quiet_step (fail))
                    refine wpQuiet_nil ?_
                    intro yy
                    have HYY := hid (HXX.out.trans (yy.below.mono HXX.out.size))
                    go_wp2_with fail
                    refine ⟨⟨k + 1, by have := HKL.out; omega, by go_num, ?_, HYY.out⟩, by have := HKL.out; simp [intOf]; omega⟩
                    rw [HBS.out, HBB.out]
                    rw [n2.out, D9.out]; rfl
                  · have d9 : decide (q2 < wn) = false := decide_eq_false hlt
                    have D9 := hid d9
                    clear hlt
                    go_wp2_with fail
                    refine wp_region_ext wm.heap.size (by kernel_rfl) (by kernel_rfl) ?_
                    repeat (go_big_quiet_step (fail))
                    refine wpQuiet_nil ?_
                    intro xx
                    have HXX := hid (hbm.out.trans (xx.below.mono hbm.out.size))
                    have w1 := (xx.below.cell (p := ⟨bs, _, none⟩) lbs).trans t2
                    have w2 := (xx.below.cell (p := ⟨bs, _, none⟩) lbs).trans t3
                    have w3 := (xx.below.cell (p := ⟨pb, 0, none⟩) lb).trans v1
                    have w4 := (xx.below.cell (p := ⟨pb, 1, none⟩) lb).trans v2
                    have w5 := (xx.below.cell (p := ⟨bm, k, none⟩) lm).trans v3
                    have l5 := Nat.lt_of_lt_of_le lbs xx.below.size
                    have l6 := Nat.lt_of_lt_of_le lb xx.below.size
                    have l7 := Nat.lt_of_lt_of_le lm xx.below.size
                    have w6 := (xx.below.cell (p := ⟨bs, _, none⟩) lbs).trans u3
                    obtain ⟨Y, hY⟩ : ∃ Y, Y = xx.out := ⟨_, rfl⟩
                    rw [← hY] at HXX w1 w2 w3 w4 w5 l5 l6 l7 w6 ⊢
                    clear hY xx
                    go_wp2_with fail
                    refine wp_region_ext Y.heap.size (by kernel_rfl) (by kernel_rfl) ?_
                    repeat (go_big_quiet_step (fail))
                    refine wpQuiet_nil ?_
                    intro yy
                    have HYY := hid (HXX.out.trans (yy.below.mono HXX.out.size))
                    go_wp2_with fail
                    refine ⟨⟨k + 1, by have := HKL.out; omega, by go_num, ?_, HYY.out⟩, by have := HKL.out; simp [intOf]; omega⟩
                    rw [HBS.out, HBB.out]
                    rw [n2.out, D9.out]; rfl
            · have d6 : (q1 == p1) = false := by rw [beq_eq_false_iff_ne]; exact fun e => h3 e.symm
              have H3 : Hid (decide (p1 = q1) = false) := decide_eq_false h3
              clear h3
              by_cases h2 : p1 = 2
              · have d7 : (p1 == 2) = true := by rw [beq_iff_eq]; exact h2
                have H2 : Hid (decide (p1 = 2) = true) := decide_eq_true h2
                clear h2
                obtain rfl : ct = true := HCT.out.trans (by rw [H1.out, H2.out]; simp)
                cases tk with
                | true =>
                  clear hbb
                  go_wp2_with fail
                  refine wp_region_ext wm.heap.size (by kernel_rfl) (by kernel_rfl) ?_
                  repeat (go_big_quiet_step (fail))
                  refine wpQuiet_nil ?_
                  intro xx
                  have HXX := hid (hbm.out.trans (xx.below.mono hbm.out.size))
                  have w1 := (xx.below.cell (p := ⟨bs, _, none⟩) lbs).trans t2
                  have w2 := (xx.below.cell (p := ⟨bs, _, none⟩) lbs).trans t3
                  have w3 := (xx.below.cell (p := ⟨pb, 0, none⟩) lb).trans v1
                  have w4 := (xx.below.cell (p := ⟨pb, 1, none⟩) lb).trans v2
                  have w5 := (xx.below.cell (p := ⟨bm, k, none⟩) lm).trans v3
                  have l5 := Nat.lt_of_lt_of_le lbs xx.below.size
                  have l6 := Nat.lt_of_lt_of_le lb xx.below.size
                  have l7 := Nat.lt_of_lt_of_le lm xx.below.size
                  obtain ⟨Y, hY⟩ : ∃ Y, Y = xx.out := ⟨_, rfl⟩
                  rw [← hY] at HXX w1 w2 w3 w4 w5 l5 l6 l7 ⊢
                  clear hY xx
                  go_wp2_with fail
                  refine wp_region_ext Y.heap.size (by kernel_rfl) (by kernel_rfl) ?_
                  repeat (go_big_quiet_step (fail))
                  refine wpQuiet_nil ?_
                  intro yy
                  have HYY := hid (HXX.out.trans (yy.below.mono HXX.out.size))
                  go_wp2_with fail
                  refine ⟨⟨k + 1, by have := HKL.out; omega, by go_num, ?_, HYY.out⟩, by have := HKL.out; simp [intOf]; omega⟩
                  rw [HBS.out, HBB.out]
                  rfl
                | false =>
                  rcases hbb with rfl | ⟨b0, b1⟩
                  · skip
                    go_wp2_with fail
                    refine wp_region_ext wm.heap.size (by kernel_rfl) (by kernel_rfl) ?_
                    repeat (go_big_quiet_step (fail))
                    refine wpQuiet_nil ?_
                    intro xx
                    have HXX := hid (hbm.out.trans (xx.below.mono hbm.out.size))
                    have w1 := (xx.below.cell (p := ⟨bs, _, none⟩) lbs).trans t2
                    have w2 := (xx.below.cell (p := ⟨bs, _, none⟩) lbs).trans t3
                    have w3 := (xx.below.cell (p := ⟨pb, 0, none⟩) lb).trans v1
                    have w4 := (xx.below.cell (p := ⟨pb, 1, none⟩) lb).trans v2
                    have w5 := (xx.below.cell (p := ⟨bm, k, none⟩) lm).trans v3
                    have l5 := Nat.lt_of_lt_of_le lbs xx.below.size
                    have l6 := Nat.lt_of_lt_of_le lb xx.below.size
                    have l7 := Nat.lt_of_lt_of_le lm xx.below.size
                    obtain ⟨Y, hY⟩ : ∃ Y, Y = xx.out := ⟨_, rfl⟩
                    rw [← hY] at HXX w1 w2 w3 w4 w5 l5 l6 l7 ⊢
                    clear hY xx
                    go_wp2_with fail
                    refine wp_region_ext Y.heap.size (by kernel_rfl) (by kernel_rfl) ?_
                    repeat (go_big_quiet_step (fail))
                    refine wpQuiet_nil ?_
                    intro yy
                    have HYY := hid (HXX.out.trans (yy.below.mono HXX.out.size))
                    go_wp2_with fail
                    refine ⟨⟨k + 1, by have := HKL.out; omega, by go_num, ?_, HYY.out⟩, by have := HKL.out; simp [intOf]; omega⟩
                    rw [HBS.out, HBB.out]
                    rfl
                  · obtain ⟨bn, rfl⟩ : ∃ bn : Nat, be = (bn : Int) := ⟨be.toNat, by omega⟩
                    have hKL := HKL.out
                    have pn := List.getElem?_eq_getElem (show bn < s.length by omega)
                    have hwn := wdL_get pn
                    obtain ⟨bs2, offs2, e4, s4, s5, s6⟩ := HSr.out bn _ pn
                    obtain ⟨rfl, rfl⟩ : bs = bs2 ∧ offs = offs2 := by simpa using e4
                    rw [← hwn] at s6
                    have u3 := (hbm.out.cell (p := ⟨bs, _, none⟩) s4).trans s6
                    obtain ⟨wn, hwnn⟩ : ∃ v, v = wdL s (bn : Int) := ⟨_, rfl⟩
                    rw [← hwnn] at u3 HBB
                    have n1 : decide ((bn : Int) < 0) = false := decide_eq_false (by omega)
                    have n2 : Hid (decide ((bn : Int) = -1) = false) := decide_eq_false (by omega)
                    have y0 : (0 : Int) ≤ (bn : Int) := b0
                    have y1 : (bn : Int) < (s.length : Int) := by omega
                    clear e4 hKL pn hwn s4 s5 s6 hwnn b0 b1
                    by_cases hlt : q2 < wn
                    · have d9 : decide (q2 < wn) = true := decide_eq_true hlt
                      have D9 := hid d9
                      clear hlt
                      go_wp2_with fail
                      refine wp_region_ext wm.heap.size (by kernel_rfl) (by kernel_rfl) ?_
                      repeat (go_big_quiet_step (fail))
                      refine wpQuiet_nil ?_
                      intro xx
                      have HXX := hid (hbm.out.trans (xx.below.mono hbm.out.size))
                      have w1 := (xx.below.cell (p := ⟨bs, _, none⟩) lbs).trans t2
                      have w2 := (xx.below.cell (p := ⟨bs, _, none⟩) lbs).trans t3
                      have w3 := (xx.below.cell (p := ⟨pb, 0, none⟩) lb).trans v1
                      have w4 := (xx.below.cell (p := ⟨pb, 1, none⟩) lb).trans v2
                      have w5 := (xx.below.cell (p := ⟨bm, k, none⟩) lm).trans v3
                      have l5 := Nat.lt_of_lt_of_le lbs xx.below.size
                      have l6 := Nat.lt_of_lt_of_le lb xx.below.size
                      have l7 := Nat.lt_of_lt_of_le lm xx.below.size
                      have w6 := (xx.below.cell (p := ⟨bs, _, none⟩) lbs).trans u3
                      obtain ⟨Y, hY⟩ : ∃ Y, Y = xx.out := ⟨_, rfl⟩
                      rw [← hY] at HXX w1 w2 w3 w4 w5 l5 l6 l7 w6 ⊢
                      clear hY xx
                      go_wp2_with fail
                      refine wp_region_ext Y.heap.size (by kernel_rfl) (by kernel_rfl) ?_
                      repeat (go_big_quiet_step (fail))
                      refine wpQuiet_nil ?_
                      intro yy
                      have HYY := hid (HXX.out.trans (yy.below.mono HXX.out.size))
                      go_wp2_with fail
                      refine ⟨⟨k + 1, by have := HKL.out; omega, by go_num, ?_, HYY.out⟩, by have := HKL.out; simp [intOf]; omega⟩
                      rw [HBS.out, HBB.out]
                      rw [n2.out, D9.out]; rfl
                    · have d9 : decide (q2 < wn) = false := decide_eq_false hlt
                      have D9 := hid d9
                      clear hlt
                      go_wp2_with fail
                      refine wp_region_ext wm.heap.size (by kernel_rfl) (by kernel_rfl) ?_
                      repeat (go_big_quiet_step (fail))
                      refine wpQuiet_nil ?_
                      intro xx
                      have HXX := hid (hbm.out.trans (xx.below.mono hbm.out.size))
                      have w1 := (xx.below.cell (p := ⟨bs, _, none⟩) lbs).trans t2
                      have w2 := (xx.below.cell (p := ⟨bs, _, none⟩) lbs).trans t3
                      have w3 := (xx.below.cell (p := ⟨pb, 0, none⟩) lb).trans v1
                      have w4 := (xx.below.cell (p := ⟨pb, 1, none⟩) lb).trans v2
                      have w5 := (xx.below.cell (p := ⟨bm, k, none⟩) lm).trans v3
                      have l5 := Nat.lt_of_lt_of_le lbs xx.below.size
                      have l6 := Nat.lt_of_lt_of_le lb xx.below.size
                      have l7 := Nat.lt_of_lt_of_le lm xx.below.size
                      have w6 := (xx.below.cell (p := ⟨bs, _, none⟩) lbs).trans u3
                      obtain ⟨Y, hY⟩ : ∃ Y, Y = xx.out := ⟨_, rfl⟩
                      rw [← hY] at HXX w1 w2 w3 w4 w5 l5 l6 l7 w6 ⊢
                      clear hY xx
                      go_wp2_with fail
                      refine wp_region_ext Y.heap.size (by kernel_rfl) (by kernel_rfl) ?_
                      repeat (go_big_quiet_step (fail))
                      refine wpQuiet_nil ?_
                      intro yy
                      have HYY := hid (HXX.out.trans (yy.below.mono HXX.out.size))
                      go_wp2_with fail
                      refine ⟨⟨k + 1, by have := HKL.out; omega, by go_num, ?_, HYY.out⟩, by have := HKL.out; simp [intOf]; omega⟩
                      rw [HBS.out, HBB.out]
                      rw [n2.out, D9.out]; rfl
              · have d7 : (p1 == 2) = false := by rw [beq_eq_false_iff_ne]; exact h2
                have H2 : Hid (decide (p1 = 2) = false) := decide_eq_false h2
                clear h2
                obtain rfl : ct = false := HCT.out.trans (by rw [H1.out, H2.out, H3.out]; rfl)
                clear hbb
                cases tk with
                | true =>
                  go_wp2_with fail
                  refine wp_region_ext wm.heap.size (by kernel_rfl) (by kernel_rfl) ?_
                  repeat (go_big_quiet_step (fail))
                  refine wpQuiet_nil ?_
                  intro xx
                  have HXX := hid (hbm.out.trans (xx.below.mono hbm.out.size))
                  have w1 := (xx.below.cell (p := ⟨bs, _, none⟩) lbs).trans t2
                  have w2 := (xx.below.cell (p := ⟨bs, _, none⟩) lbs).trans t3
                  have w3 := (xx.below.cell (p := ⟨pb, 0, none⟩) lb).trans v1
                  have w4 := (xx.below.cell (p := ⟨pb, 1, none⟩) lb).trans v2
                  have w5 := (xx.below.cell (p := ⟨bm, k, none⟩) lm).trans v3
                  have l5 := Nat.lt_of_lt_of_le lbs xx.below.size
                  have l6 := Nat.lt_of_lt_of_le lb xx.below.size
                  have l7 := Nat.lt_of_lt_of_le lm xx.below.size
                  obtain ⟨Y, hY⟩ : ∃ Y, Y = xx.out := ⟨_, rfl⟩
                  rw [← hY] at HXX w1 w2 w3 w4 w5 l5 l6 l7 ⊢
                  clear hY xx
                  go_wp2_with fail
                  refine wp_region_ext Y.heap.size (by kernel_rfl) (by kernel_rfl) ?_
                  repeat (go_big_quiet_step (fail))
                  refine wpQuiet_nil ?_
                  intro yy
                  have HYY := hid (HXX.out.trans (yy.below.mono HXX.out.size))
                  go_wp2_with fail
                  refine ⟨⟨k + 1, by have := HKL.out; omega, by go_num, ?_, HYY.out⟩, by have := HKL.out; simp [intOf]; omega⟩
                  rw [HBS.out, HBB.out]
                  rfl
                | false =>
                  go_wp2_with fail
                  refine wp_region_ext wm.heap.size (by kernel_rfl) (by kernel_rfl) ?_
                  repeat (go_big_quiet_step (fail))
                  refine wpQuiet_nil ?_
                  intro xx
                  have HXX := hid (hbm.out.trans (xx.below.mono hbm.out.size))
                  have w1 := (xx.below.cell (p := ⟨bs, _, none⟩) lbs).trans t2
                  have w2 := (xx.below.cell (p := ⟨bs, _, none⟩) lbs).trans t3
                  have w3 := (xx.below.cell (p := ⟨pb, 0, none⟩) lb).trans v1
                  have w4 := (xx.below.cell (p := ⟨pb, 1, none⟩) lb).trans v2
                  have w5 := (xx.below.cell (p := ⟨bm, k, none⟩) lm).trans v3
                  have l5 := Nat.lt_of_lt_of_le lbs xx.below.size
                  have l6 := Nat.lt_of_lt_of_le lb xx.below.size
                  have l7 := Nat.lt_of_lt_of_le lm xx.below.size
                  obtain ⟨Y, hY⟩ : ∃ Y, Y = xx.out := ⟨_, rfl⟩
                  rw [← hY] at HXX w1 w2 w3 w4 w5 l5 l6 l7 ⊢
                  clear hY xx
                  go_wp2_with fail
                  refine wp_region_ext Y.heap.size (by kernel_rfl) (by kernel_rfl) ?_
                  repeat (go_big_quiet_step (fail))
                  refine wpQuiet_nil ?_
                  intro yy
                  have HYY := hid (HXX.out.trans (yy.below.mono HXX.out.size))
                  go_wp2_with fail
                  refine ⟨⟨k + 1, by have := HKL.out; omega, by go_num, ?_, HYY.out⟩, by have := HKL.out; simp [intOf]; omega⟩
                  rw [HBS.out, HBB.out]
                  rfl
          · have d5 : decide (q2 ≥ p2) = false := decide_eq_false h1
            have H1 : Hid (decide (p2 ≤ q2) = false) := decide_eq_false h1
            clear h1
            obtain rfl : ct = false := HCT.out.trans (by rw [H1.out]; rfl)
            clear hbb
            cases tk with
            | true =>
              go_wp2_with fail
              refine wp_region_ext wm.heap.size (by kernel_rfl) (by kernel_rfl) ?_
              repeat (go_big_quiet_step (fail))
              refine wpQuiet_nil ?_
              intro xx
              have HXX := hid (hbm.out.trans (xx.below.mono hbm.out.size))
              have w1 := (xx.below.cell (p := ⟨bs, _, none⟩) lbs).trans t2
              have w2 := (xx.below.cell (p := ⟨bs, _, none⟩) lbs).trans t3
              have w3 := (xx.below.cell (p := ⟨pb, 0, none⟩) lb).trans v1
              have w4 := (xx.below.cell (p := ⟨pb, 1, none⟩) lb).trans v2
              have w5 := (xx.below.cell (p := ⟨bm, k, none⟩) lm).trans v3
              have l5 := Nat.lt_of_lt_of_le lbs xx.below.size
              have l6 := Nat.lt_of_lt_of_le lb xx.below.size
              have l7 := Nat.lt_of_lt_of_le lm xx.below.size
              obtain ⟨Y, hY⟩ : ∃ Y, Y = xx.out := ⟨_, rfl⟩
              rw [← hY] at HXX w1 w2 w3 w4 w5 l5 l6 l7 ⊢
              clear hY xx
              go_wp2_with fail
              refine wp_region_ext Y.heap.size (by kernel_rfl) (by kernel_rfl) ?_
              repeat (go_big_quiet_step (fail))
              refine wpQuiet_nil ?_
              intro yy
              have HYY := hid (HXX.out.trans (yy.below.mono HXX.out.size))
              go_wp2_with fail
              refine ⟨⟨k + 1, by have := HKL.out; omega, by go_num, ?_, HYY.out⟩, by have := HKL.out; simp [intOf]; omega⟩
              rw [HBS.out, HBB.out]
              rfl
            | false =>
              go_wp2_with fail
              refine wp_region_ext wm.heap.size (by kernel_rfl) (by kernel_rfl) ?_
              repeat (go_big_quiet_step (fail))
              refine wpQuiet_nil ?_
              intro xx
              have HXX := hid (hbm.out.trans (xx.below.mono hbm.out.size))
              have w1 := (xx.below.cell (p := ⟨bs, _, none⟩) lbs).trans t2
              have w2 := (xx.below.cell (p := ⟨bs, _, none⟩) lbs).trans t3
              have w3 := (xx.below.cell (p := ⟨pb, 0, none⟩) lb).trans v1
              have w4 := (xx.below.cell (p := ⟨pb, 1, none⟩) lb).trans v2
              have w5 := (xx.below.cell (p := ⟨bm, k, none⟩) lm).trans v3
              have l5 := Nat.lt_of_lt_of_le lbs xx.below.size
              have l6 := Nat.lt_of_lt_of_le lb xx.below.size
              have l7 := Nat.lt_of_lt_of_le lm xx.below.size
              obtain ⟨Y, hY⟩ : ∃ Y, Y = xx.out := ⟨_, rfl⟩
              rw [← hY] at HXX w1 w2 w3 w4 w5 l5 l6 l7 ⊢
              clear hY xx
              go_wp2_with fail
              refine wp_region_ext Y.heap.size (by kernel_rfl) (by kernel_rfl) ?_
              repeat (go_big_quiet_step (fail))
              refine wpQuiet_nil ?_
              intro yy
              have HYY := hid (HXX.out.trans (yy.below.mono HXX.out.size))
              go_wp2_with fail
              refine ⟨⟨k + 1, by have := HKL.out; omega, by go_num, ?_, HYY.out⟩, by have := HKL.out; simp [intOf]; omega⟩
              rw [HBS.out, HBB.out]
              rfl
        · obtain rfl : k = s.length := by omega
          have d2 : decide ((s.length : Int) < (s.length : Int)) = false := decide_eq_false (by omega)
          rw [← hbe] at HSUC
          have hS := HSz.out
          have hra := HRA.out
          have htm := block_below HBom.out htk.out (block_lt htk.out)
          have c5 : wm.cell? ⟨gt, i', none⟩ = some (.int .i64 (fo i')) := cell_block htm (arrV_get fo (by omega))
          have c6 : wm.frozen? ⟨gt, i', none⟩ = false := frozen_of_row _ _ _ _ _ htm
          have hMm := block_below HBom.out hmp.out (block_lt hmp.out)
          obtain ⟨go', cg', e9, _, _, c0, _⟩ := owns_cell (owns_below2 HOrr.out HBom.out (Nat.le_refl _)) (icells_get HPJ.out)
          obtain ⟨rfl, rfl⟩ : go = go' ∧ co = cg' := by simpa using e9
          have hT9 := heap_setCell_same wm gt i' _ _ (.int .i64 be) htm
          rw [arrV_set fo (by omega)] at hT9
          have HT9 := hid hT9
          have HU9 := hid ((hbt.out.below HBom.out (Nat.le_refl _)).set i' (.int .i64 be))
          have HM9 := hid (block_set_other hMm (a := ⟨gt, i', none⟩) (.int .i64 be) (by simp; omega))
          rcases hbb with rfl | ⟨b0, b1⟩
          · rw [if_pos (by rfl)] at HSUC
            clear hT9 hMm htm hS hra hSl hbe HBS e9
            go_wp2_with fail
            refine ⟨⟨j + 1, by have := HJL.out; omega, by go_num, HU9.out, ?_, ?_⟩, by have := HJL.out; simp [intOf]; omega⟩
            · rw [HSUC.out]; exact HT9.out
            · rw [HSUC.out]; exact HM9.out
          · obtain ⟨bn, rfl⟩ : ∃ bn : Nat, be = (bn : Int) := ⟨be.toNat, by omega⟩
            have n1 : decide ((bn : Int) ≥ 0) = true := decide_eq_true (by omega)
            rw [if_neg (by omega)] at HSUC
            have y0 : (0 : Int) ≤ (bn : Int) := b0
            have y1 : (bn : Int) < (s.length : Int) := by omega
            have m5 : (wm.setCell ⟨gt, i', none⟩ (.int .i64 (bn : Int))).cell? ⟨bm, bn, none⟩ = some (.bool (decide ((bn : Int) ∈ T))) := cell_block HM9.out (boolsF_get T (by omega))
            have m6 : (wm.setCell ⟨gt, i', none⟩ (.int .i64 (bn : Int))).frozen? ⟨bm, bn, none⟩ = false := frozen_of_row _ _ _ _ _ HM9.out
            have hMF := heap_setCell_same (wm.setCell ⟨gt, i', none⟩ (.int .i64 (bn : Int))) bm bn _ _ (.bool true) HM9.out
            rw [boolsF_set T (by omega)] at hMF
            have HMF := hid hMF
            have HTF := hid (block_set_other HT9.out (a := ⟨bm, bn, none⟩) (.bool true) (by simp; omega))
            have HUF : Hid (But2 gt bm w2 ((wm.setCell ⟨gt, i', none⟩ (.int .i64 (bn : Int))).setCell ⟨bm, bn, none⟩ (.bool true))) :=
              ⟨HU9.out.os, HU9.out.tape, HU9.out.output, by simpa using HU9.out.size, fun k hk k1 k2 => (heap_setCell_other _ ⟨bm, bn, none⟩ k _ k2).trans (HU9.out.block k hk k1 k2)⟩
            clear hT9 hMm htm hS hra hSl hbe HBS e9 hMF b0 b1
            go_wp2_with fail
            refine ⟨⟨j + 1, by have := HJL.out; omega, by go_num, HUF.out, ?_, ?_⟩, by have := HJL.out; simp [intOf]; omega⟩
            · rw [HSUC.out]; exact HTF.out
            · rw [HSUC.out]; exact HMF.out
    · obtain rfl : j = O.length := by omega
      have d1 : decide ((O.length : Int) < (O.length : Int)) = false := decide_eq_false (by omega)
      clear hL hOL hS hSl hBw hOr hAr hSr
      go_wp2_with fail
      go_ret
      refine ⟨_, rfl, HBw.out, ?_⟩
      have hlen := HLen.out
      have hgt := HSz.out.2.2
      unfold RowI
      rw [covL_len, HCL.out O HOE.out]
      exact ⟨by simp [arrV_size], .inr ⟨gt, l.length, _, rfl, by omega, htk.out, Nat.le_refl _, Nat.le_trans hlen (by decide), by rw [arrV_size]; omega, by rw [Nat.mul_one]; exact List.take_of_length_le (by simp [arrV_size])⟩⟩
end Go.Proofs.Ytpmadamaefbamaa

/- CoverFrom: the program's and the reference's. -/
namespace Go.Proofs.Ytpmadamaefbamaa
open Go.RowKit
set_option linter.unusedSimpArgs false
set_option linter.unusedVariables false
def pc2 (l s : List (Int × Int)) : Int := if (l.all isPc && s.all isPc) = true then (if (decide (l.length ≤ 30) && decide (s.length ≤ 30)) = true then 0 else 3) else 1
theorem pc2_eq (l s : List (Int × Int)) : pcK [l, s] = pc2 l s := by simp only [pcK, pc2, List.all_cons, List.all_nil, Bool.and_true]
theorem pc2_zero {l s : List (Int × Int)} (h : pc2 l s = 0) : pcV l = 0 ∧ pcV s = 0 := by
  unfold pc2 at h
  split at h
  · rename_i h1
    rw [Bool.and_eq_true] at h1
    split at h
    · rename_i h2
      rw [Bool.and_eq_true, decide_eq_true_eq, decide_eq_true_eq] at h2
      unfold pcV
      rw [if_pos h1.1, if_pos h1.2, if_pos h2.1, if_pos h2.2]
      exact ⟨rfl, rfl⟩
    · cases h
  · cases h
/-- What CoverFrom returns. -/
def covV (l s : List (Int × Int)) : List Int := if pc2 l s = 0 then covL l s else []
def RetIK (w : World) (l : List Int) (k : Int) (e : Ending) (w' : World) : Prop := ∃ v, e = .returned (.tuple #[v, .int .i64 k]) ∧ Below w.heap.size w w' ∧ RowI w.heap.size w' v l
/-- The code of two lists, their slices in a slice just built. -/
theorem c_pCode2 (A : Option Addr) (c : Nat) (l : List (Int × Int)) (hlen : l.length ≤ 1048576) (As : Option Addr) (cs : Nat) (s : List (Int × Int)) (hsl : s.length ≤ 1048576) (w : World) (hA : PairsAt .i8 .i8 w A l) (hS : PairsAt .i8 .i8 w As s) :
    Calls Try.prog 25 #[.slice (some ⟨w.heap.size, 0, none⟩) 2 2] (w.alloc (.cells #[.slice A l.length c, .slice As s.length cs] 27)) fun e w' => e = .returned (.int .i64 (pc2 l s)) ∧ Below (w.alloc (.cells #[.slice A l.length c, .slice As s.length cs] 27)).heap.size (w.alloc (.cells #[.slice A l.length c, .slice As s.length cs] 27)) w' := by
  have hb : Below w.heap.size w (w.alloc (.cells #[.slice A l.length c, .slice As s.length cs] 27)) := (Below.refl _ w).alloc (Nat.le_refl _) _
  have := c_piecesCode (some ⟨w.heap.size, 0, none⟩) 2 [.slice A l.length c, .slice As s.length cs] [l, s] (by simp) (w.alloc (.cells #[.slice A l.length c, .slice As s.length cs] 27)) (fun j v hj => by
    match j with
    | 0 => simp at hj; subst hj; exact ⟨_, 0, rfl, by simp, cell_block (block_new1 w _ rfl) rfl⟩
    | 1 => simp at hj; subst hj; exact ⟨_, 0, rfl, by simp, cell_block (block_new1 w _ rfl) rfl⟩
    | j + 2 => simp at hj) ⟨rfl, fun j v l' hj hl => by
    match j with
    | 0 => simp at hj hl; subst hj hl; exact ⟨A, c, rfl, hA.below hb (Nat.le_refl _), hlen⟩
    | 1 => simp at hj hl; subst hj hl; exact ⟨As, cs, rfl, hS.below hb (Nat.le_refl _), hsl⟩
    | j + 2 => simp at hj⟩
  rw [pc2_eq] at this
  exact this
set_option maxRecDepth 100000 in
theorem c_CoverFrom (A : Option Addr) (c : Nat) (l : List (Int × Int)) (hlen : l.length ≤ 1048576) (As : Option Addr) (cs : Nat) (s : List (Int × Int)) (hsl : s.length ≤ 1048576) (w : World) (hA : PairsAt .i8 .i8 w A l) (hS : PairsAt .i8 .i8 w As s) :
    Calls Try.prog 9 #[.slice A l.length c, .slice As s.length cs] w (RetIK w (covV l s) (pc2 l s)) := by
  have HC := hid (c_pCode2 A c l hlen As cs s hsl w hA hS)
  have HA := hid hA
  have HS := hid hS
  have HB0 : Hid (Below w.heap.size w (w.alloc (.cells #[.slice A l.length c, .slice As s.length cs] 27))) := (Below.refl _ w).alloc (Nat.le_refl _) _
  unfold covV
  by_cases h0 : pc2 l s = 0
  · rw [if_pos h0, h0]
    rw [h0] at HC
    have hz := pc2_zero h0
    have HT := fun W h1 h2 => hid (c_cover A c l (pcV_zero hz.1).2 (pcV_zero hz.1).1 As cs s (pcV_zero hz.2).1 W h1 h2)
    clear hA hS h0 hlen hsl hz
    go_enter Try.func9, Try.ntmps9
    go_wp2_with (first
      | (go_at_call 25; ((with_reducible refine HC.out.mono ?_); rintro e1 w1 ⟨rfl, hb1⟩); have HB1 := hid (HB0.out.trans (hb1.mono HB0.out.size)); clear hb1)
      | (go_at_call 26; ((with_reducible refine (HT _ (HA.out.below HB1.out (Nat.le_refl _)) (HS.out.below HB1.out (Nat.le_refl _))).out.mono ?_); rintro e2 w2 ⟨v, rfl, hb2, hr2⟩); have HB2 := hid (HB1.out.trans (hb2.mono HB1.out.size)); have HR2 := hid (hr2.mono HB1.out.size); clear hb2 hr2))
    go_ret2
    exact ⟨_, rfl, HB2.out, HR2.out⟩
  · rw [if_neg h0]
    obtain ⟨k, hkk⟩ : ∃ k, k = pc2 l s := ⟨_, rfl⟩
    rw [← hkk] at HC h0 ⊢
    have hk0 : (k == 0) = false := by rw [beq_eq_false_iff_ne]; exact h0
    have hk1 : (k != 0) = true := by unfold bne; rw [hk0]; rfl
    clear hkk hA hS h0 hlen hsl
    go_enter Try.func9, Try.ntmps9
    go_wp2_with (go_at_call 25; ((with_reducible refine HC.out.mono ?_); rintro e1 w1 ⟨rfl, hb1⟩); have HB1 := hid (HB0.out.trans (hb1.mono HB0.out.size)); clear hb1)
    go_ret2
    exact ⟨_, rfl, HB1.out, RowI.nil _ _⟩
set_option maxRecDepth 100000 in
theorem c_l05Two (A : Option Addr) (c : Nat) (l : List (Int × Int)) (hB : ∀ p ∈ l, (-128 ≤ p.1 ∧ p.1 ≤ 127) ∧ (-128 ≤ p.2 ∧ p.2 ≤ 127)) (hlen : l.length ≤ 1048576) (As : Option Addr) (cs : Nat) (s : List (Int × Int)) (hBs : ∀ p ∈ s, (-128 ≤ p.1 ∧ p.1 ≤ 127) ∧ (-128 ≤ p.2 ∧ p.2 ≤ 127)) (hsl : s.length ≤ 1048576) (w : World) (hA : PairsAt .i8 .i8 w A l) (hS : PairsAt .i8 .i8 w As s) :
    Calls Try.prog 22 #[.slice A l.length c, .slice As s.length cs] w fun e w' => e = .returned (.int .i64 (pc2 l s)) ∧ Below w.heap.size w w' := by
  have H1 := hid (c_l05Pieces A c l hB hlen w hA)
  have HS := hid hS
  have H2 := fun W h => hid (c_l05Pieces As cs s hBs hsl W h)
  have HK : Hid (pc2 l s = if (l.all isPc && s.all isPc) = true then (if (decide (l.length ≤ 30) && decide (s.length ≤ 30)) = true then 0 else 3) else 1) := rfl
  obtain ⟨g1, hg1⟩ : ∃ g, g = l.all isPc := ⟨_, rfl⟩
  obtain ⟨g2, hg2⟩ : ∃ g, g = s.all isPc := ⟨_, rfl⟩
  rw [← hg1] at H1 HK
  rw [← hg2] at H2 HK
  have hl1 := hlen
  have hl2 := hsl
  clear hA hS hB hBs hg1 hg2
  by_cases h1 : l.length ≤ 30
  case' pos => (have d1 : decide ((l.length : Int) > 30) = false := decide_eq_false (by omega); have D1 : Hid (decide (l.length ≤ 30) = true) := decide_eq_true h1)
  case' neg => (have d1 : decide ((l.length : Int) > 30) = true := decide_eq_true (by omega); have D1 : Hid (decide (l.length ≤ 30) = false) := decide_eq_false h1)
  all_goals
    by_cases h2 : s.length ≤ 30
    case' pos => (have d2 : decide ((s.length : Int) > 30) = false := decide_eq_false (by omega); have D2 : Hid (decide (s.length ≤ 30) = true) := decide_eq_true h2)
    case' neg => (have d2 : decide ((s.length : Int) > 30) = true := decide_eq_true (by omega); have D2 : Hid (decide (s.length ≤ 30) = false) := decide_eq_false h2)
  all_goals
    clear h1 h2 hlen hsl hl1 hl2
    cases g1 <;> cases g2
  all_goals
    go_enter Try.func22, Try.ntmps22
    go_wp2_with (first
      | (go_at_call 34; ((with_reducible refine H1.out.mono ?_); rintro e1 w1 ⟨rfl, hb1⟩); have HB1 := hid hb1; clear hb1)
      | (go_at_call 34; ((with_reducible refine (H2 _ (HS.out.below HB1.out (Nat.le_refl _))).out.mono ?_); rintro e2 w2 ⟨rfl, hb2⟩); have HB2 := hid (HB1.out.trans (hb2.mono HB1.out.size)); clear hb2))
    go_ret
    first | exact ⟨by rw [HK.out, D1.out, D2.out]; rfl, HB2.out⟩ | exact ⟨by rw [HK.out, D1.out, D2.out]; rfl, HB1.out⟩
set_option maxRecDepth 100000 in
theorem c_sCoverFrom (A : Option Addr) (c : Nat) (l : List (Int × Int)) (hB : ∀ p ∈ l, (-128 ≤ p.1 ∧ p.1 ≤ 127) ∧ (-128 ≤ p.2 ∧ p.2 ≤ 127)) (hlen : l.length ≤ 1048576) (As : Option Addr) (cs : Nat) (s : List (Int × Int)) (hBs : ∀ p ∈ s, (-128 ≤ p.1 ∧ p.1 ≤ 127) ∧ (-128 ≤ p.2 ∧ p.2 ≤ 127)) (hsl : s.length ≤ 1048576) (w : World) (hA : PairsAt .i8 .i8 w A l) (hS : PairsAt .i8 .i8 w As s) :
    Calls Try.prog 7 #[.slice A l.length c, .slice As s.length cs] w (RetIK w (covV l s) (pc2 l s)) := by
  have HC := hid (c_l05Two A c l hB hlen As cs s hBs hsl w hA hS)
  have HA := hid hA
  have HS := hid hS
  unfold covV
  by_cases h0 : pc2 l s = 0
  · rw [if_pos h0, h0]
    rw [h0] at HC
    have hz := pc2_zero h0
    have HT := fun W h1 h2 => hid (c_l05Cover A c l (pcV_zero hz.1).2 (pcV_zero hz.1).1 As cs s (pcV_zero hz.2).1 W h1 h2)
    clear hA hS h0 hlen hsl hz hB hBs
    go_enter Try.func7, Try.ntmps7
    go_wp2_with (first
      | (go_at_call 22; ((with_reducible refine HC.out.mono ?_); rintro e1 w1 ⟨rfl, hb1⟩); have HB1 := hid hb1; clear hb1)
      | (go_at_call 23; ((with_reducible refine (HT _ (HA.out.below HB1.out (Nat.le_refl _)) (HS.out.below HB1.out (Nat.le_refl _))).out.mono ?_); rintro e2 w2 ⟨v, rfl, hb2, hr2⟩); have HB2 := hid (HB1.out.trans (hb2.mono HB1.out.size)); have HR2 := hid (hr2.mono HB1.out.size); clear hb2 hr2))
    go_ret2
    exact ⟨_, rfl, HB2.out, HR2.out⟩
  · rw [if_neg h0]
    obtain ⟨k, hkk⟩ : ∃ k, k = pc2 l s := ⟨_, rfl⟩
    rw [← hkk] at HC h0 ⊢
    have hk0 : (k == 0) = false := by rw [beq_eq_false_iff_ne]; exact h0
    have hk1 : (k != 0) = true := by unfold bne; rw [hk0]; rfl
    clear hkk hA hS h0 hlen hsl hB hBs
    go_enter Try.func7, Try.ntmps7
    go_wp2_with (go_at_call 22; ((with_reducible refine HC.out.mono ?_); rintro e1 w1 ⟨rfl, hb1⟩); have HB1 := hid hb1; clear hb1)
    go_ret2
    exact ⟨_, rfl, HB1.out.alloc HB1.out.size _, RowI.made HB1.out.size⟩
end Go.Proofs.Ytpmadamaefbamaa

/- slices.Concat over pieces. -/
namespace Go.Proofs.Ytpmadamaefbamaa
open Go.RowKit
set_option linter.unusedSimpArgs false
set_option linter.unusedVariables false

/-- Slices of pieces lie at A, one after another. -/
def RowsC (w : World) (A : Option Addr) (L : List (List (Int × Int))) : Prop := ∀ j l, L[j]? = some l → ∃ b off A' c', A = some ⟨b, off, none⟩ ∧ b < w.heap.size ∧ w.cell? ⟨b, off + j, none⟩ = some (.slice A' l.length c') ∧ PairsAt .i8 .i8 w A' l
theorem RowsC.below {B : Nat} {w w' : World} {A : Option Addr} {L : List (List (Int × Int))} (h : RowsC w A L) (hb : Below B w w') (hB : w.heap.size ≤ B) : RowsC w' A L := fun j l hj => by
  obtain ⟨b, off, A', c', e, h1, h2, h3⟩ := h j l hj
  exact ⟨b, off, A', c', e, Nat.lt_of_lt_of_le h1 hb.size, (hb.cell (p := ⟨b, _, none⟩) (by show b < B; omega)).trans h2, h3.below hb hB⟩
theorem flat_succ {α : Type} (L : List (List α)) (k : Nat) (hk : k < L.length) : (L.take (k + 1)).flatten = (L.take k).flatten ++ L[k] := by
  rw [List.take_succ_eq_append_getElem hk, List.flatten_append]; simp
theorem flat_le {α : Type} (L : List (List α)) (k : Nat) : (L.take k).flatten.length ≤ L.flatten.length := by
  conv => rhs; rw [← List.take_append_drop k L]
  rw [List.flatten_append, List.length_append]; omega
theorem ccells_app (l l' : List (Int × Int)) : ccells (l ++ l') = ccells l ++ ccells l' := by simp [ccells]
theorem ccells_one (l : List (Int × Int)) : ∀ u ∈ ccells l, u.oneCell' = true := by
  intro u hu
  obtain ⟨p, _, h⟩ := List.mem_flatMap.1 hu
  simp at h
  rcases h with rfl | rfl <;> rfl
theorem ccells_inv (l : List (Int × Int)) : ∀ (j : Nat) (u : Value), (ccells l)[j]? = some u → ∃ (i : Nat) (p : Int × Int), l[i]? = some p ∧ ((j = i * 2 ∧ u = .int .i8 p.1) ∨ (j = i * 2 + 1 ∧ u = .int .i8 p.2)) := by
  intro j u hj
  have hl := (List.getElem?_eq_some_iff.1 hj).1
  rw [ccells_len] at hl
  have hi : j / 2 < l.length := by omega
  have hg := ccells_get l (j / 2) _ (List.getElem?_eq_getElem hi)
  refine ⟨j / 2, l[j / 2], List.getElem?_eq_getElem hi, ?_⟩
  rcases Nat.mod_two_eq_zero_or_one j with h | h
  · left
    have e : j = j / 2 * 2 := by omega
    refine ⟨e, ?_⟩
    rw [e] at hj
    exact Option.some.inj (hj.symm.trans (by simpa using hg.1))
  · right
    have e : j = j / 2 * 2 + 1 := by omega
    refine ⟨e, ?_⟩
    have h2 := hg.2
    rw [← e] at h2
    exact Option.some.inj (hj.symm.trans h2)
theorem addr_add (b off j : Nat) : (⟨b, off, none⟩ : Addr).add j = ⟨b, off + j, none⟩ := by unfold Addr.add; split <;> simp_all
theorem src_of {w : World} {A : Option Addr} {l : List (Int × Int)} (h : PairsAt .i8 .i8 w A l) : ∀ j u, (ccells l)[j]? = some u → ∃ ad : Addr, A = some ad ∧ w.cell? (ad.add j) = some u := by
  intro j u hj
  obtain ⟨i, p, hp, h2⟩ := ccells_inv l j u hj
  obtain ⟨b, off, e, _, h3, h4⟩ := h i p hp
  refine ⟨_, e, ?_⟩
  rw [addr_add]
  rcases h2 with ⟨rfl, rfl⟩ | ⟨rfl, rfl⟩
  · exact h3
  · rw [← Nat.add_assoc]; exact h4
end Go.Proofs.Ytpmadamaefbamaa

/- NewTilesFor: the program's and the reference's. -/
namespace Go.Proofs.Ytpmadamaefbamaa
open Go.RowKit
set_option linter.unusedSimpArgs false
set_option linter.unusedVariables false
theorem covSt_ge (l s : List (Int × Int)) (O : List Int) : ∀ (j y : Nat), -1 ≤ (covSt l s O j).1 y
  | 0, y => by simp [covSt]
  | j + 1, y => by
    show -1 ≤ (if y = (O.getD j 0).toNat then bestN s (covSt l s O j).2 (l.getD (O.getD j 0).toNat (0, 0)) s.length else (covSt l s O j).1 y)
    split
    · have := bestN_b s (covSt l s O j).2 (l.getD (O.getD j 0).toNat (0, 0)) s.length
      omega
    · exact covSt_ge l s O j y
theorem covL_ge {l s : List (Int × Int)} {n : Int} (h : n ∈ covL l s) : -1 ≤ n := by
  unfold covL at h
  obtain ⟨y, _, rfl⟩ := List.mem_map.1 h
  exact covSt_ge l s _ _ y
/-- The pieces for which nothing was found, of the first k. -/
def nleft (l : List (Int × Int)) (V : List Int) : Nat → List (Int × Int)
  | 0 => []
  | k + 1 => if V.getD k 0 = -1 then nleft l V k ++ [l.getD k (0, 0)] else nleft l V k
theorem nleft_yes {l : List (Int × Int)} {V : List Int} {k : Nat} {p : Int × Int} (hp : l[k]? = some p) (hn : V[k]? = some (-1)) : nleft l V (k + 1) = nleft l V k ++ [p] := by
  show (if V.getD k 0 = -1 then nleft l V k ++ [l.getD k (0, 0)] else nleft l V k) = _
  rw [List.getD_eq_getElem?_getD, hn, List.getD_eq_getElem?_getD, hp]
  rfl
theorem nleft_no {l : List (Int × Int)} {V : List Int} {k : Nat} {n : Int} (hn : V[k]? = some n) (h : n ≠ -1) : nleft l V (k + 1) = nleft l V k := by
  show (if V.getD k 0 = -1 then nleft l V k ++ [l.getD k (0, 0)] else nleft l V k) = _
  rw [List.getD_eq_getElem?_getD, hn]
  exact if_neg h
theorem nleft_len (l : List (Int × Int)) (V : List Int) : ∀ k, (nleft l V k).length ≤ k
  | 0 => Nat.le_refl _
  | k + 1 => by
    have := nleft_len l V k
    unfold nleft
    split
    · rw [List.length_append]; simp; omega
    · omega
theorem nleft_mem {l : List (Int × Int)} {V : List Int} : ∀ k, k ≤ l.length → ∀ x ∈ nleft l V k, x ∈ l
  | 0, _, x, hx => by cases hx
  | k + 1, hk, x, hx => by
    unfold nleft at hx
    split at hx
    · rcases List.mem_append.1 hx with h | h
      · exact nleft_mem k (by omega) x h
      · rw [List.getD_eq_getElem?_getD, List.getElem?_eq_getElem (by omega)] at h
        simp at h
        rw [h]
        exact List.getElem_mem _
    · exact nleft_mem k (by omega) x hx
theorem pcV_all {l : List (Int × Int)} (h : pcV l = 0) : l.all isPc = true := by
  unfold pcV at h
  split at h
  · assumption
  · cases h
theorem nleft_pc {l : List (Int × Int)} {V : List Int} (h : pcV l = 0) : pcV (nleft l V l.length) = 0 := by
  have h1 : (nleft l V l.length).all isPc = true := List.all_eq_true.2 fun x hx => List.all_eq_true.1 (pcV_all h) x (nleft_mem _ (Nat.le_refl _) x hx)
  have h2 : (nleft l V l.length).length ≤ 30 := Nat.le_trans (nleft_len l V l.length) (pcV_zero h).1
  unfold pcV
  rw [if_pos h1, if_pos h2]
/-- What NewTilesFor returns. -/
def newV (l s : List (Int × Int)) : Int := if pc2 l s = 0 then ((nleft l (covL l s) l.length).length : Int) - (pairL (nleft l (covL l s) l.length)).length else 0
/-- One piece more. -/
theorem wp_app1C {ops : Array Oper} {rest : List Oper} {o : Oper} {a : Act} {W : World} {Q : Exit → Act → World → Prop} (hgd : o.guard = none) (s x : Operand)
    (ho : o.op = .call { callee := .builtin .append, args := #[s, x], argTypes := #[27, 27] })
    (B : Nat) (v : Value) (l : List (Int × Int)) (p1 p2 : Int) (hO : W.ownsRow B 50 2 v l.length (ccells l)) (hs : a.eval s = v) (H : Nat) (hx : a.eval x = .slice (some ⟨H, 0, none⟩) 1 1) (hn : l.length ≤ 1100000) (hB : B ≤ W.heap.size) (hH : W.heap.size = H)
    (h : ∀ v' w', w'.ownsRow B 50 2 v' (l ++ [(p1, p2)]).length (ccells (l ++ [(p1, p2)])) → Grew v v' W w' → wpList Try.prog ops Q rest (a.put o.dst v') w') : wpList Try.prog ops Q (o :: rest) a (W.alloc (.cells #[.int .i8 p1, .int .i8 p2] 50)) := by
  obtain ⟨i0, hi, hz0, hz1, hz2⟩ := toPiece_parts
  refine wpList_append_row hgd s x 27 ho B 50 i0 (.agg #[.int .i8 0, .int .i8 0]) 2 2 Try.underlying27 hi hz0 hz1 hz2 rfl (by decide) (by decide) v l.length (ccells l) hs hO #[.int .i8 p1, .int .i8 p2] rfl (by simp [Value.oneCell']) H hx hn hB hH _ ?_
  intro v' w' h1 h2
  refine h v' w' ?_ h2
  rw [ccells_app, List.length_append]
  exact h1
set_option maxHeartbeats 1600000 in
set_option maxRecDepth 100000 in
theorem c_NewTilesFor (A : Option Addr) (c : Nat) (l : List (Int × Int)) (hlen : l.length ≤ 1048576) (As : Option Addr) (cs : Nat) (s : List (Int × Int)) (hsl : s.length ≤ 1048576) (w : World) (hA : PairsAt .i8 .i8 w A l) (hS : PairsAt .i8 .i8 w As s) :
    Calls Try.prog 16 #[.slice A l.length c, .slice As s.length cs] w fun e w' => e = .returned (.tuple #[.int .i64 (newV l s), .int .i64 (pc2 l s)]) ∧ Below w.heap.size w w' := by
  have HC := hid (c_pCode2 A c l hlen As cs s hsl w hA hS)
  have HB0 : Hid (Below w.heap.size w (w.alloc (.cells #[.slice A l.length c, .slice As s.length cs] 27))) := (Below.refl _ w).alloc (Nat.le_refl _) _
  have HA := hid hA
  have HS := hid hS
  unfold newV
  by_cases h0 : pc2 l s = 0
  · rw [if_pos h0, h0]
    rw [h0] at HC
    have hz := pc2_zero h0
    have HT := fun W h1 h2 => hid (c_cover A c l (pcV_zero hz.1).2 (pcV_zero hz.1).1 As cs s (pcV_zero hz.2).1 W h1 h2)
    have HGe : Hid (∀ n ∈ covL l s, -1 ≤ n) := fun n hn => covL_ge hn
    have HVl : Hid ((covL l s).length = l.length) := covL_len l s
    obtain ⟨V, hV⟩ : ∃ V, V = covL l s := ⟨_, rfl⟩
    rw [← hV] at HT HGe HVl ⊢
    have HZ := fun A' c' W h => hid (c_tilesFor A' c' (nleft l V l.length) (nleft_pc hz.1) W h)
    have hll := (pcV_zero hz.1).1
    have HLn := hid (nleft_len l V)
    have hvl := HVl.out
    clear hA hS h0 hlen hsl hz hV
    go_enter Try.func16, Try.ntmps16
    go_wp2_with (first
      | (go_at_call 25; ((with_reducible refine HC.out.mono ?_); rintro e1 w1 ⟨rfl, hb1⟩); have HB1 := hid (HB0.out.trans (hb1.mono HB0.out.size)); clear hb1)
      | (go_at_call 26; ((with_reducible refine (HT _ (HA.out.below HB1.out (Nat.le_refl _)) (HS.out.below HB1.out (Nat.le_refl _))).out.mono ?_); rintro e2 w2 ⟨v, rfl, hb2, hr2⟩); have HB2 := hid (HB1.out.trans (hb2.mono HB1.out.size)); obtain ⟨A2, c2, rfl⟩ := hr2.slc; have HR2 := hid (hr2.mono HB1.out.size); clear hb2 hr2))
    have HAp : Hid (Apart (.slice A2 V.length c2) (.slice none 0 0)) := fun g h1 h2 => by simp [Value.ownBlock] at h2
    go_loopw [7, 21] (fun v i wr => ∃ k : Nat, k ≤ l.length ∧ i = .int .i64 k ∧ Hid (Below w.heap.size w wr) ∧ Hid (wr.ownsRow w.heap.size 50 2 v (nleft l V k).length (ccells (nleft l V k))) ∧ Hid (RowI w.heap.size wr (.slice A2 V.length c2) V) ∧ Hid (Apart (.slice A2 V.length c2) v)) (fun _ i _ => l.length - (intOf i).toNat)
    case atStart => exact ⟨0, by omega, rfl, HB2.out, World.ownsRow_nil _ _ _ _, HR2.out, HAp.out⟩
    case round =>
      obtain ⟨k, hk, rfl, hb, hO, hR, hap⟩ := hrel
      have HSz := hid hb.out.size
      by_cases hkl : k < l.length
      · have d1 : decide ((k : Int) < (V.length : Int)) = true := decide_eq_true (by omega)
        have k0 : (0 : Int) ≤ (k : Int) := by omega
        have k1 : (k : Int) < (l.length : Int) := by omega
        have kv : (k : Int) < (V.length : Int) := by omega
        have k2 : (k : Int) ≤ 30 := by omega
        have hp := List.getElem?_eq_getElem hkl
        obtain ⟨⟨p1, p2⟩, hpp⟩ : ∃ p, p = l[k] := ⟨_, rfl⟩
        rw [← hpp] at hp
        have hkv : k < V.length := by omega
        have hn := List.getElem?_eq_getElem hkv
        obtain ⟨n, hnn⟩ : ∃ n, n = V[k] := ⟨_, rfl⟩
        rw [← hnn] at hn
        obtain ⟨b, off, rfl, r1, r2, r3⟩ := HA.out k _ hp
        have c1 := (hb.out.cell (p := ⟨b, _, none⟩) r1).trans r2
        have c2' := (hb.out.cell (p := ⟨b, _, none⟩) r1).trans r3
        dsimp only at c1 c2'
        have HYes := hid (fun e : n = -1 => nleft_yes (l := l) (V := V) hp (by rw [hn, e]))
        have HNo := hid (fun e : n ≠ -1 => nleft_no (l := l) hn e)
        obtain ⟨bv, ov, rfl, q1, q2⟩ := hR.out.sli k _ hn
        have hge := HGe.out n (List.mem_of_getElem? hn)
        have HLk := hid (Nat.le_trans (HLn.out k) hk)
        have HKL := hid hkl
        have HLL := hid hll
        clear hp hpp hn hnn r2 r3 hvl hll
        by_cases hn1 : n = -1
        · have HY := hid (HYes.out hn1)
          subst hn1
          have t1 : ((-1 : Int) == -1) = true := rfl
          clear HYes HNo hge
          go_wp2_with ((with_reducible refine gate (N := 34) rfl ?_); (refine wp_app1C rfl (.tmp 28) (.tmp 33) rfl w.heap.size _ (nleft l V k) p1 p2 hO.out rfl wr.heap.size rfl (Nat.le_trans HLk.out (Nat.le_trans HLL.out (by decide))) HSz.out rfl ?_); intro v' w6 hown hg)
          refine ⟨⟨k + 1, by have := HKL.out; omega, by go_num, hb.out.trans (hg.below w.heap.size (fun g hg' => (hO.out.lt g hg').1) HSz.out), by rw [HY.out]; exact hown, hR.out.grew hg hap.out, hR.out.grewA hg hap.out⟩, by have := HKL.out; simp [intOf]; omega⟩
        · have HN := hid (HNo.out hn1)
          have t1 : (n == -1) = false := beq_eq_false_iff_ne.2 hn1
          clear HYes HNo hge hn1
          go_wp2_with fail
          refine ⟨⟨k + 1, by have := HKL.out; omega, by go_num, hb.out, by rw [HN.out]; exact hO.out, hR.out, hap.out⟩, by have := HKL.out; simp [intOf]; omega⟩
      · obtain rfl : k = l.length := by omega
        have d1 : decide ((l.length : Int) < (V.length : Int)) = false := decide_eq_false (by omega)
        obtain ⟨A7, c7, rfl⟩ := owns_slc hO.out
        have HP := hid (OwC.of_owns hO.out).pairs
        go_wp2_with (go_at_call 29; ((with_reducible refine (HZ _ _ _ HP.out).out.mono ?_); rintro e3 w3 ⟨rfl, hb3⟩); have HB3 := hid (hb.out.trans (hb3.mono HSz.out)); clear hb3)
        go_ret2
        exact ⟨rfl, HB3.out⟩
  · rw [if_neg h0]
    obtain ⟨k, hkk⟩ : ∃ k, k = pc2 l s := ⟨_, rfl⟩
    rw [← hkk] at HC h0 ⊢
    have hk0 : (k == 0) = false := by rw [beq_eq_false_iff_ne]; exact h0
    have hk1 : (k != 0) = true := by unfold bne; rw [hk0]; rfl
    clear hkk hA hS h0 hlen hsl
    go_enter Try.func16, Try.ntmps16
    go_wp2_with (go_at_call 25; ((with_reducible refine HC.out.mono ?_); rintro e1 w1 ⟨rfl, hb1⟩); have HB1 := hid (HB0.out.trans (hb1.mono HB0.out.size)); clear hb1)
    go_ret2
    exact ⟨rfl, HB1.out⟩
set_option maxHeartbeats 1600000 in
set_option maxRecDepth 100000 in
theorem c_sNewTilesFor (A : Option Addr) (c : Nat) (l : List (Int × Int)) (hB : ∀ p ∈ l, (-128 ≤ p.1 ∧ p.1 ≤ 127) ∧ (-128 ≤ p.2 ∧ p.2 ≤ 127)) (hlen : l.length ≤ 1048576) (As : Option Addr) (cs : Nat) (s : List (Int × Int)) (hBs : ∀ p ∈ s, (-128 ≤ p.1 ∧ p.1 ≤ 127) ∧ (-128 ≤ p.2 ∧ p.2 ≤ 127)) (hsl : s.length ≤ 1048576) (w : World) (hA : PairsAt .i8 .i8 w A l) (hS : PairsAt .i8 .i8 w As s) :
    Calls Try.prog 15 #[.slice A l.length c, .slice As s.length cs] w fun e w' => e = .returned (.tuple #[.int .i64 (newV l s), .int .i64 (pc2 l s)]) ∧ Below w.heap.size w w' := by
  have HC := hid (c_l05Two A c l hB hlen As cs s hBs hsl w hA hS)
  have HA := hid hA
  have HS := hid hS
  unfold newV
  by_cases h0 : pc2 l s = 0
  · rw [if_pos h0, h0]
    rw [h0] at HC
    have hz := pc2_zero h0
    have HT := fun W h1 h2 => hid (c_l05Cover A c l (pcV_zero hz.1).2 (pcV_zero hz.1).1 As cs s (pcV_zero hz.2).1 W h1 h2)
    have HGe : Hid (∀ n ∈ covL l s, -1 ≤ n) := fun n hn => covL_ge hn
    have HVl : Hid ((covL l s).length = l.length) := covL_len l s
    obtain ⟨V, hV⟩ : ∃ V, V = covL l s := ⟨_, rfl⟩
    rw [← hV] at HT HGe HVl ⊢
    have HZ := fun A' c' W h => hid (c_l05Tiles A' c' (nleft l V l.length) (nleft_pc hz.1) W h)
    have hll := (pcV_zero hz.1).1
    have HLn := hid (nleft_len l V)
    have hvl := HVl.out
    clear hA hS h0 hlen hsl hz hV hB hBs
    go_enter Try.func15, Try.ntmps15
    go_wp2_with (first
      | (go_at_call 22; ((with_reducible refine HC.out.mono ?_); rintro e1 w1 ⟨rfl, hb1⟩); have HB1 := hid hb1; clear hb1; have HBa := hid (HB1.out.alloc HB1.out.size (.cells #[] 50)); have HSz1 := hid HB1.out.size; have HOa := hid (World.ownsRow_made w1 #[] 0 HB1.out.size (by decide) rfl : (w1.alloc (.cells #[] 50)).ownsRow w.heap.size 50 2 (.slice (some ⟨w1.heap.size, 0, none⟩) 0 0) 0 []))
      | (go_at_call 23; ((with_reducible refine (HT _ (HA.out.below HBa.out (Nat.le_refl _)) (HS.out.below HBa.out (Nat.le_refl _))).out.mono ?_); rintro e2 w2 ⟨v, rfl, hb2, hr2⟩); have HB2 := hid (HBa.out.trans (hb2.mono HBa.out.size)); obtain ⟨A2, c2, rfl⟩ := hr2.slc; have HRl := hid hr2.lt; have HR2 := hid (hr2.mono HBa.out.size); have HOb := hid (owns_below2 HOa.out hb2 (Nat.le_refl _)); clear hb2 hr2))
    have HAp : Hid (Apart (.slice A2 V.length c2) (.slice (some ⟨w1.heap.size, 0, none⟩) 0 0)) := fun g h1 h2 => by
      have e1 := (HRl.out g h1).1
      have e2 : w1.heap.size = g := by simpa [Value.ownBlock] using h2
      have e3 : (w1.alloc (.cells #[] 50)).heap.size = w1.heap.size + 1 := by simp
      omega
    clear HRl
    go_loopw [7, 9] (fun v i wr => ∃ k : Nat, k ≤ l.length ∧ i = .int .i64 k ∧ Hid (Below w.heap.size w wr) ∧ Hid (wr.ownsRow w.heap.size 50 2 v (nleft l V k).length (ccells (nleft l V k))) ∧ Hid (RowI w.heap.size wr (.slice A2 V.length c2) V) ∧ Hid (Apart (.slice A2 V.length c2) v)) (fun _ i _ => l.length - (intOf i).toNat)
    case atStart => exact ⟨0, by omega, rfl, HB2.out, HOb.out, HR2.out, HAp.out⟩
    case round =>
      obtain ⟨k, hk, rfl, hb, hO, hR, hap⟩ := hrel
      have HSz := hid hb.out.size
      by_cases hkl : k < l.length
      · have d1 : decide ((k : Int) < (l.length : Int)) = true := decide_eq_true (by omega)
        have k0 : (0 : Int) ≤ (k : Int) := by omega
        have k1 : (k : Int) < (l.length : Int) := by omega
        have kv : (k : Int) < (V.length : Int) := by omega
        have k2 : (k : Int) ≤ 30 := by omega
        have hp := List.getElem?_eq_getElem hkl
        obtain ⟨⟨p1, p2⟩, hpp⟩ : ∃ p, p = l[k] := ⟨_, rfl⟩
        rw [← hpp] at hp
        have hkv : k < V.length := by omega
        have hn := List.getElem?_eq_getElem hkv
        obtain ⟨n, hnn⟩ : ∃ n, n = V[k] := ⟨_, rfl⟩
        rw [← hnn] at hn
        obtain ⟨b, off, rfl, r1, r2, r3⟩ := HA.out k _ hp
        have c1 := (hb.out.cell (p := ⟨b, _, none⟩) r1).trans r2
        have c2' := (hb.out.cell (p := ⟨b, _, none⟩) r1).trans r3
        dsimp only at c1 c2'
        have HYes := hid (fun e : n = -1 => nleft_yes (l := l) (V := V) hp (by rw [hn, e]))
        have HNo := hid (fun e : n ≠ -1 => nleft_no (l := l) hn e)
        obtain ⟨bv, ov, rfl, q1, q2⟩ := hR.out.sli k _ hn
        have hge := HGe.out n (List.mem_of_getElem? hn)
        have HLk := hid (Nat.le_trans (HLn.out k) hk)
        have HKL := hid hkl
        have HLL := hid hll
        clear hp hpp hn hnn r2 r3 hvl hll
        by_cases hn1 : n = -1
        · have HY := hid (HYes.out hn1)
          subst hn1
          have t1 : decide ((-1 : Int) < 0) = true := rfl
          clear HYes HNo hge
          go_wp2_with ((with_reducible refine gate (N := 37) rfl ?_); (refine wp_app1C rfl (.tmp 31) (.tmp 36) rfl w.heap.size _ (nleft l V k) p1 p2 hO.out rfl wr.heap.size rfl (Nat.le_trans HLk.out (Nat.le_trans HLL.out (by decide))) HSz.out rfl ?_); intro v' w6 hown hg)
          refine ⟨⟨k + 1, by have := HKL.out; omega, by go_num, hb.out.trans (hg.below w.heap.size (fun g hg' => (hO.out.lt g hg').1) HSz.out), by rw [HY.out]; exact hown, hR.out.grew hg hap.out, hR.out.grewA hg hap.out⟩, by have := HKL.out; simp [intOf]; omega⟩
        · have HN := hid (HNo.out hn1)
          have t1 : decide (n < 0) = false := decide_eq_false (by omega)
          clear HYes HNo hge hn1
          go_wp2_with fail
          refine ⟨⟨k + 1, by have := HKL.out; omega, by go_num, hb.out, by rw [HN.out]; exact hO.out, hR.out, hap.out⟩, by have := HKL.out; simp [intOf]; omega⟩
      · obtain rfl : k = l.length := by omega
        have d1 : decide ((l.length : Int) < (l.length : Int)) = false := decide_eq_false (by omega)
        obtain ⟨A7, c7, rfl⟩ := owns_slc hO.out
        have HP := hid (OwC.of_owns hO.out).pairs
        go_wp2_with (go_at_call 28; ((with_reducible refine (HZ _ _ _ HP.out).out.mono ?_); rintro e3 w3 ⟨rfl, hb3⟩); have HB3 := hid (hb.out.trans (hb3.mono HSz.out)); clear hb3)
        go_ret2
        exact ⟨rfl, HB3.out⟩
  · rw [if_neg h0]
    obtain ⟨k, hkk⟩ : ∃ k, k = pc2 l s := ⟨_, rfl⟩
    rw [← hkk] at HC h0 ⊢
    have hk0 : (k == 0) = false := by rw [beq_eq_false_iff_ne]; exact h0
    have hk1 : (k != 0) = true := by unfold bne; rw [hk0]; rfl
    clear hkk hA hS h0 hlen hsl hB hBs
    go_enter Try.func15, Try.ntmps15
    go_wp2_with (go_at_call 22; ((with_reducible refine HC.out.mono ?_); rintro e1 w1 ⟨rfl, hb1⟩); have HB1 := hid hb1; clear hb1)
    go_ret2
    exact ⟨rfl, HB1.out⟩
end Go.Proofs.Ytpmadamaefbamaa

/- The walk of FnExactNewTilesFor. -/
namespace Go.Proofs.Ytpmadamaefbamaa
open Go.RowKit
set_option linter.unusedSimpArgs false
set_option linter.unusedVariables false
set_option maxHeartbeats 6400000 in
set_option maxRecDepth 100000 in
theorem w_FnExactNewTilesFor {w : World} (A0 : Option Addr) (c0 : Nat) (l0 : List (Int × Int)) (lc0 : l0.length ≤ c0) (cm0 : c0 ≤ maxLen) (bz0 : ∀ p ∈ l0, (-128 ≤ p.1 ∧ p.1 ≤ 127) ∧ (-128 ≤ p.2 ∧ p.2 ≤ 127)) (rd0 : PairsAt .i8 .i8 w A0 l0) (A1 : Option Addr) (c1 : Nat) (l1 : List (Int × Int)) (lc1 : l1.length ≤ c1) (cm1 : c1 ≤ maxLen) (bz1 : ∀ p ∈ l1, (-128 ≤ p.1 ∧ p.1 ≤ 127) ∧ (-128 ≤ p.2 ∧ p.2 ≤ 127)) (rd1 : PairsAt .i8 .i8 w A1 l1) (_w : World) :
    Calls Try.prog 4 #[.slice A0 l0.length c0, .slice A1 l1.length c1] w fun e w' => e = .returned (.bool true) ∧ Below w.heap.size w w' := by
  unfold maxLen at cm0
  unfold maxLen at cm1
  by_cases hn0 : l0.length ≤ 1048576
  rotate_left
  · -- the law answers true at once
    have HZ0 := hid (c_szPieceS A0 c0 l0.length (by omega) 1048576 (by omega))
    rw [if_neg (by omega)] at HZ0
    have T0 : Hid True := trivial
    clear rd0 bz0 rd1 bz1
    go_enter Try.func4, Try.ntmps4
    go_wp2_with (first
      | (go_at_call 6; clear T0; ((with_reducible refine (HZ0.out _).mono ?_); rintro e w1 ⟨rfl, rfl⟩)))
    go_ret
    exact ⟨rfl, Below.refl _ _⟩
  by_cases hn1 : (l0.length : Int) + (l1.length : Int) ≤ 1048576
  rotate_left
  · -- the law answers true at once
    have HZ0 := hid (c_szPieceS A0 c0 l0.length (by omega) 1048576 (by omega))
    rw [if_pos (by omega)] at HZ0
    obtain ⟨q0, hq0⟩ : ∃ q : Int, q = 1048576 - (l0.length : Int) := ⟨_, rfl⟩
    rw [← hq0] at HZ0
    have hz0 : decide (q0 < 0) = false := decide_eq_false (by omega)
    have T0 : Hid True := trivial
    have HZ1 := hid (c_szPieceS A1 c1 l1.length (by omega) q0 (by omega))
    rw [if_neg (by omega)] at HZ1
    have T1 : Hid True := trivial
    clear hq0
    clear rd0 bz0 rd1 bz1
    clear hn0
    go_enter Try.func4, Try.ntmps4
    go_wp2_with (first
      | (go_at_call 6; clear T0; ((with_reducible refine (HZ0.out _).mono ?_); rintro e w1 ⟨rfl, rfl⟩))
      | (go_at_call 6; clear T1; ((with_reducible refine (HZ1.out _).mono ?_); rintro e w1 ⟨rfl, rfl⟩)))
    go_ret
    exact ⟨rfl, Below.refl _ _⟩
  have hlen0 : l0.length ≤ 1048576 := by omega
  have hlen1 : l1.length ≤ 1048576 := by omega
  obtain ⟨R0, hR0⟩ : ∃ x, x = newV l0 l1 := ⟨_, rfl⟩
  obtain ⟨R1, hR1⟩ : ∃ x, x = pc2 l0 l1 := ⟨_, rfl⟩
  have Hs := fun (A0' : Option Addr) (c0' : Nat)  (A1' : Option Addr) (c1' : Nat)  (w' : World) (h0 : PairsAt .i8 .i8 w' A0' l0) (h1 : PairsAt .i8 .i8 w' A1' l1) => hid (c_sNewTilesFor A0' c0' l0 bz0 hlen0 A1' c1' l1 bz1 hlen1 w' h0 h1)
  rw [← hR0] at Hs
  rw [← hR1] at Hs
  have Hi := fun (A0' : Option Addr) (c0' : Nat)  (A1' : Option Addr) (c1' : Nat)  (w' : World) (h0 : PairsAt .i8 .i8 w' A0' l0) (h1 : PairsAt .i8 .i8 w' A1' l1) => hid (c_NewTilesFor A0' c0' l0 hlen0 A1' c1' l1 hlen1 w' h0 h1)
  rw [← hR0] at Hi
  rw [← hR1] at Hi
  have HT0 := fun (w' : World) h => hid (c_toPieceS A0 c0 l0 hlen0 w' h)
  have HT1 := fun (w' : World) h => hid (c_toPieceS A1 c1 l1 hlen1 w' h)
  have HZ0 := hid (c_szPieceS A0 c0 l0.length (by omega) 1048576 (by omega))
  rw [if_pos (by omega)] at HZ0
  obtain ⟨q0, hq0⟩ : ∃ q : Int, q = 1048576 - (l0.length : Int) := ⟨_, rfl⟩
  rw [← hq0] at HZ0
  have hz0 : decide (q0 < 0) = false := decide_eq_false (by omega)
  have HZ1 := hid (c_szPieceS A1 c1 l1.length (by omega) q0 (by omega))
  rw [if_pos (by omega)] at HZ1
  obtain ⟨q1, hq1⟩ : ∃ q : Int, q = q0 - (l1.length : Int) := ⟨_, rfl⟩
  rw [← hq1] at HZ1
  have hz1 : decide (q1 < 0) = false := decide_eq_false (by omega)
  have hne0 : (R0 != R0) = false := by simp
  have hne1 : (R1 != R1) = false := by simp
  have RD0 := hid rd0
  have LE0 := hid hlen0
  have RD1 := hid rd1
  have LE1 := hid hlen1
  have HW : Hid (Below w.heap.size w w) := Below.refl _ _
  clear rd0 bz0 hn0 hlen0 rd1 bz1 hn1 hlen1 hR0 hR1 hq0 hq1
  have K1 : Hid True := trivial
  have K2 : Hid True := trivial
  have K3 : Hid True := trivial
  have K4 : Hid True := trivial
  have K5 : Hid True := trivial
  have K6 : Hid True := trivial
  have K7 : Hid True := trivial
  have K8 : Hid True := trivial
  have K9 : Hid True := trivial
  have K10 : Hid True := trivial
  have K11 : Hid True := trivial
  have K12 : Hid True := trivial
  go_enter Try.func4, Try.ntmps4
  go_wp2_with (first
    | (go_at_call 6; clear K1; ((with_reducible refine (HZ0.out _).mono ?_); rintro e w1 ⟨rfl, rfl⟩))
    | (go_at_call 6; clear K2; ((with_reducible refine (HZ1.out _).mono ?_); rintro e w1 ⟨rfl, rfl⟩))
    | (go_at_call 8; clear K3; (have HRD := hid (RD0.out.below HW.out (Nat.le_refl _))); ((with_reducible refine (HT0 _ HRD.out).out.mono ?_); rintro e w1 ⟨Ax2, cx2, rfl, hb1, ho1⟩); have HLox2 := hid HW.out.size; replace HW := hid (HW.out.trans (hb1.mono HW.out.size)); have Ox2 := hid ho1; clear hb1 ho1)
    | (go_at_call 8; clear K4; (have HRD := hid (RD1.out.below HW.out (Nat.le_refl _))); ((with_reducible refine (HT1 _ HRD.out).out.mono ?_); rintro e w1 ⟨Ax3, cx3, rfl, hb1, ho1⟩); have Sx2_x3 := hid Ox2.out.2.2; have HLox3 := hid HW.out.size; replace Ox2 := hid (Ox2.out.below hb1); replace HW := hid (HW.out.trans (hb1.mono HW.out.size)); have Ox3 := hid ho1; clear hb1 ho1)
    | (go_at_call 15; clear K5; ((with_reducible refine (Hs _ _ _ _ _ Ox2.out.pairs Ox3.out.pairs).out.mono ?_); rintro e w1 ⟨rfl, hb1⟩); replace Ox2 := hid (Ox2.out.below hb1); replace Ox3 := hid (Ox3.out.below hb1); replace HW := hid (HW.out.trans (hb1.mono HW.out.size)); clear hb1)
    | (go_at_call 8; clear K6; (have HRD := hid (RD0.out.below HW.out (Nat.le_refl _))); ((with_reducible refine (HT0 _ HRD.out).out.mono ?_); rintro e w1 ⟨Ax5, cx5, rfl, hb1, ho1⟩); have Sx2_x5 := hid Ox2.out.2.2; have Sx3_x5 := hid Ox3.out.2.2; have HLox5 := hid HW.out.size; replace Ox2 := hid (Ox2.out.below hb1); replace Ox3 := hid (Ox3.out.below hb1); replace HW := hid (HW.out.trans (hb1.mono HW.out.size)); have Ox5 := hid ho1; clear hb1 ho1)
    | (go_at_call 8; clear K7; (have HRD := hid (RD1.out.below HW.out (Nat.le_refl _))); ((with_reducible refine (HT1 _ HRD.out).out.mono ?_); rintro e w1 ⟨Ax6, cx6, rfl, hb1, ho1⟩); have Sx2_x6 := hid Ox2.out.2.2; have Sx3_x6 := hid Ox3.out.2.2; have Sx5_x6 := hid Ox5.out.2.2; have HLox6 := hid HW.out.size; replace Ox2 := hid (Ox2.out.below hb1); replace Ox3 := hid (Ox3.out.below hb1); replace Ox5 := hid (Ox5.out.below hb1); replace HW := hid (HW.out.trans (hb1.mono HW.out.size)); have Ox6 := hid ho1; clear hb1 ho1)
    | (go_at_call 16; clear K8; ((with_reducible refine (Hi _ _ _ _ _ Ox5.out.pairs Ox6.out.pairs).out.mono ?_); rintro e w1 ⟨rfl, hb1⟩); replace Ox2 := hid (Ox2.out.below hb1); replace Ox3 := hid (Ox3.out.below hb1); replace Ox5 := hid (Ox5.out.below hb1); replace Ox6 := hid (Ox6.out.below hb1); replace HW := hid (HW.out.trans (hb1.mono HW.out.size)); clear hb1)
    | (go_at_call 8; clear K9; (have HRD := hid (RD0.out.below HW.out (Nat.le_refl _))); ((with_reducible refine (HT0 _ HRD.out).out.mono ?_); rintro e w1 ⟨Ax8, cx8, rfl, hb1, ho1⟩); have Sx2_x8 := hid Ox2.out.2.2; have Sx3_x8 := hid Ox3.out.2.2; have Sx5_x8 := hid Ox5.out.2.2; have Sx6_x8 := hid Ox6.out.2.2; have HLox8 := hid HW.out.size; replace Ox2 := hid (Ox2.out.below hb1); replace Ox3 := hid (Ox3.out.below hb1); replace Ox5 := hid (Ox5.out.below hb1); replace Ox6 := hid (Ox6.out.below hb1); replace HW := hid (HW.out.trans (hb1.mono HW.out.size)); have Ox8 := hid ho1; clear hb1 ho1)
    | (go_at_call 11; clear K10; ((with_reducible refine (e_PieceS LE0.out Ox5.out Ox8.out).mono ?_); rintro e w1 ⟨rfl, hb1⟩); replace Ox2 := hid (Ox2.out.below hb1); replace Ox3 := hid (Ox3.out.below hb1); replace Ox5 := hid (Ox5.out.below hb1); replace Ox6 := hid (Ox6.out.below hb1); replace Ox8 := hid (Ox8.out.below hb1); replace HW := hid (HW.out.trans (hb1.mono HW.out.size)); clear hb1)
    | (go_at_call 8; clear K11; (have HRD := hid (RD1.out.below HW.out (Nat.le_refl _))); ((with_reducible refine (HT1 _ HRD.out).out.mono ?_); rintro e w1 ⟨Ax10, cx10, rfl, hb1, ho1⟩); have Sx2_x10 := hid Ox2.out.2.2; have Sx3_x10 := hid Ox3.out.2.2; have Sx5_x10 := hid Ox5.out.2.2; have Sx6_x10 := hid Ox6.out.2.2; have Sx8_x10 := hid Ox8.out.2.2; have HLox10 := hid HW.out.size; replace Ox2 := hid (Ox2.out.below hb1); replace Ox3 := hid (Ox3.out.below hb1); replace Ox5 := hid (Ox5.out.below hb1); replace Ox6 := hid (Ox6.out.below hb1); replace Ox8 := hid (Ox8.out.below hb1); replace HW := hid (HW.out.trans (hb1.mono HW.out.size)); have Ox10 := hid ho1; clear hb1 ho1)
    | (go_at_call 11; clear K12; ((with_reducible refine (e_PieceS LE1.out Ox6.out Ox10.out).mono ?_); rintro e w1 ⟨rfl, hb1⟩); replace Ox2 := hid (Ox2.out.below hb1); replace Ox3 := hid (Ox3.out.below hb1); replace Ox5 := hid (Ox5.out.below hb1); replace Ox6 := hid (Ox6.out.below hb1); replace Ox8 := hid (Ox8.out.below hb1); replace Ox10 := hid (Ox10.out.below hb1); replace HW := hid (HW.out.trans (hb1.mono HW.out.size)); clear hb1))
  go_ret
  exact ⟨rfl, HW.out⟩
end Go.Proofs.Ytpmadamaefbamaa

/- The row of FnExactNewTilesFor: for every input the law returns true, and its arguments read as before. -/
namespace Go.Proofs.Ytpmadamaefbamaa.fnExactNewTilesFor
open Go.ChangeShapes Go.WideShapes Go.ChangeAt Go.RowKit
open Go.ChangeMaps (open_string shut_string)
set_option linter.unusedVariables false
set_option maxRecDepth 100000 in
theorem lifted (os : Os) (started : os.Started) (H : Type) (enc : TypeId × Value → H) :
    ReturnsInHanded {} Try.checked os 4 .any (Rows.fnExactNewTilesForSpec.pre6 enc Try.prog Try.f4 Rows.fnExactNewTilesForRow.domain false) (Rows.fnExactNewTilesForSpec.post enc Try.prog Try.f4 false true false false) := by
  refine returnsInHanded_of_change_sized (C := Try.checked) Try.own started (by kernel_rfl) Try.func4
    (ChangeSpec.witness6 (enc := enc) (C := Try.checked) false ⟨#[], #[.slice none 0 0, .slice none 0 0], []⟩ 8 (by kernel_rfl) (by kernel_rfl) (by kernel_rfl) (by kernel_rfl)) ?_
  intro W base args ds gs before hval0 hW hcnd hsz0 _
  have hsz : (DataW.weightsEach Try.prog (Try.f4.params.toList ++ Rows.fnExactNewTilesForSpec.plain.varTypes Try.prog) (ds ++ gs)).all (· ≤ reachBytes) = true := hsz0
  have hval : ∀ (j : Nat) t v, Try.f4.params[j]? = some t → args[j]? = some v → Value.okWide Try.prog W .any base t v := hval0
  have hW' := hW
  obtain ⟨p, q, hA0, hV, rfl, hfz, hnd⟩ := hW
  have hA : DataW.TrodAll enc Try.prog W 0 (fun _ => true) true Try.f4.params.toList args.toList ds p := hA0
  rw [Try.params4] at hA hval hsz
  obtain ⟨v0, vs0, d0, ds0, p0, q0, hargs, rfl, rfl, h0, r0⟩ := trodAll_cons hA
  obtain ⟨v1, vs1, d1, ds1, p1, q1, rfl, rfl, rfl, h1, r1⟩ := trodAll_cons r0
  obtain ⟨rfl, rfl, rfl⟩ := trodAll_nil r1
  obtain rfl : args = #[v0, v1] := by cases args; simp_all
  obtain ⟨rfl, rfl⟩ := trodVars_none hV
  have h0k := h0
  obtain ⟨A0, c0, zs0, rfl, lc0, cm0, bz0, rd0⟩ := open_pieces (hval 0 _ v0 rfl rfl) h0
  have h1k := h1
  obtain ⟨A1, c1, zs1, rfl, lc1, cm1, bz1, rd1⟩ := open_pieces (hval 1 _ v1 rfl rfl) h1
  clear hA0 hval0 hsz0 hsz
  have hlt := fun x hx => hW'.lt x hx
  try simp only [List.append_nil, List.mem_append] at hlt
  refine (w_FnExactNewTilesFor A0 c0 zs0 lc0 cm0 bz0 rd0 A1 c1 zs1 lc1 cm1 bz1 rd1 W).mono fun e W' ⟨he, bel⟩ => ?_
  subst he
  exact ⟨_, rfl, _, _, _, [], p0 ++ (p1 ++ []), [], hW', trodAll_mk1 (shut_bool Try.underlying4 _), (trodAll_cons_mk (Below.trod Try.laidOut (by kernel_rfl) (of_decide_eq_true (by kernel_rfl)) h0k bel (fun x hx => hlt x (.inl hx))) (trodAll_cons_mk (Below.trod Try.laidOut (by kernel_rfl) (of_decide_eq_true (by kernel_rfl)) h1k bel (fun x hx => hlt x (.inr (hx)))) trodAll_mk0)), rfl, bel.frame _, fun h => by cases h⟩
set_option maxHeartbeats 8000000 in
theorem facts : joinedFacts Try.checked.prog 4 Try.f4 Rows.fnExactNewTilesForSpec Rows.fnExactNewTilesForRow = true := by
  unfold joinedFacts
  repeat (with_reducible refine and_mk ?_ (by as_aux_lemma => kernel_rfl))
  as_aux_lemma => kernel_rfl
set_option maxHeartbeats 8000000 in
theorem over : Rows.fnExactNewTilesForRow.holds Try.pinned (OpenSpec.ofChange Rows.fnExactNewTilesForSpec) :=
  OpenClaim.holds_of_wide 4 Try.f4 rfl rfl rfl rfl rfl rfl rfl ⟨rfl, rfl, rfl, rfl, rfl⟩ rfl rfl rfl rfl rfl (by as_aux_lemma => kernel_rfl) Try.func4 facts
    (of_decide_eq_true (by as_aux_lemma => kernel_rfl)) (by unfold Func.isWrapper; first | (rw [if_pos (by decide +kernel)]; kernel_rfl) | (rw [if_neg (by decide +kernel)]; exact ⟨rfl, rfl⟩))
    (fun os started H enc _ => lifted os started H enc)
theorem proved : Rows.FnExactNewTilesForSaid := over
end Go.Proofs.Ytpmadamaefbamaa.fnExactNewTilesFor
namespace Go.Proofs.Ytpmadamaefbamaa
theorem fnExactNewTilesFor_holds : Rows.FnExactNewTilesForSaid := fnExactNewTilesFor.proved
end Go.Proofs.Ytpmadamaefbamaa
