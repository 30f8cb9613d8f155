/- What is proved: FnExactOffcutsOf holds of all arguments; with the texts that lead to it. -/
import Derived.Test.YtgbihaliiogboaaGExactOffcutsOf4
import Derived.Lib.AppendZeros
import Derived.Lib.Walk
import Derived.ChangeOld
/- Pairs of pieces, the reference's. -/
namespace Go.Proofs.Ytgbihaliiogboaa
open Go.RowKit
set_option linter.unusedSimpArgs false
set_option linter.unusedVariables false
/-- From w to w' nothing is turned but the blocks p and q. -/
structure But2 (p q : Nat) (w w' : World) : Prop where
  os : w'.os = w.os
  tape : w'.tape = w.tape
  output : w'.output = w.output
  size : w.heap.size ≤ w'.heap.size
  block : ∀ k, k < w.heap.size → k ≠ p → k ≠ q → w'.heap[k]? = w.heap[k]?
theorem But2.refl (p q : Nat) (w : World) : But2 p q w w := ⟨rfl, rfl, rfl, Nat.le_refl _, fun _ _ _ _ => rfl⟩
theorem But2.below {p q B : Nat} {a b c : World} (h : But2 p q a b) (k : Below B b c) (hB : b.heap.size ≤ B) : But2 p q a c :=
  ⟨k.os.trans h.os, k.tape.trans h.tape, k.output.trans h.output, Nat.le_trans h.size k.size, fun i hi h1 h2 => (k.block i (by have := h.size; omega)).trans (h.block i hi h1 h2)⟩
theorem But2.set {p q : Nat} {a b : World} (h : But2 p q a b) (j : Nat) (v : Value) : But2 p q a (b.setCell ⟨p, j, none⟩ v) :=
  ⟨h.os, h.tape, h.output, by simpa using h.size, fun k hk h1 h2 => (heap_setCell_other b ⟨p, j, none⟩ k v h1).trans (h.block k hk h1 h2)⟩
theorem But2.at {p q : Nat} {w w' : World} (h : But2 p q w w') {b : Nat} {o : Obj} (hb : w.heap[b]? = some o) (h1 : b ≠ p) (h2 : b ≠ q) : w'.heap[b]? = some o := (h.block b (block_lt hb) h1 h2).trans hb
theorem But2.grew {p q : Nat} {a b c : World} {v v' : Value} (h : But2 p q a b) (hg : Grew v v' b c) (hv : ∀ g, v.ownBlock = some g → g = q ∨ a.heap.size ≤ g) (hB : ∀ B0, (∀ g, v.ownBlock = some g → B0 ≤ g) → B0 ≤ b.heap.size → Below B0 b c) : But2 p q a c := by
  have h0 := hB 0 (fun g _ => Nat.zero_le _) (Nat.zero_le _)
  refine ⟨h0.os.trans h.os, h0.tape.trans h.tape, h0.output.trans h.output, Nat.le_trans h.size h0.size, fun k hk h1 h2 => ?_⟩
  rw [← h.block k hk h1 h2]
  have hkb : k < b.heap.size := Nat.lt_of_lt_of_le hk h.size
  have e : b.heap[k]? = some b.heap[k] := Array.getElem?_eq_getElem hkb
  rw [e]
  exact hg.block k _ e (fun e' => by rcases hv k e' with h3 | h3 <;> omega)
theorem owns_but2 {w w' : World} {B p q : Nat} {e : TypeId} {sz n : Nat} {v : Value} {xs : List Value} (h : w.ownsRow B e sz v n xs) (hb : But2 p q w w') (h1 : v.ownBlock ≠ some p) (h2 : v.ownBlock ≠ some q) : w'.ownsRow B e sz v n xs :=
  owns_keep' h fun g o hg ho => hb.at ho (fun e => h1 (by rw [hg, e])) (fun e => h2 (by rw [hg, e]))
def boolsF (T : List Int) (n : Nat) : Array Value := ((List.range n).map fun i : Nat => Value.bool (decide ((i : Int) ∈ T))).toArray
theorem boolsF_size (T : List Int) (n : Nat) : (boolsF T n).size = n := by simp [boolsF]
theorem boolsF_get (T : List Int) {n i : Nat} (h : i < n) : (boolsF T n)[i]? = some (.bool (decide ((i : Int) ∈ T))) := by
  unfold boolsF
  rw [List.getElem?_toArray, List.getElem?_map, List.getElem?_range h]; rfl
theorem boolsF_set (T : List Int) {n i : Nat} (h : i < n) : (boolsF T n).setIfInBounds i (.bool true) = boolsF (T ++ [(i : Int)]) n := by
  apply Array.ext_getElem?
  intro y
  rw [Array.getElem?_setIfInBounds]
  by_cases hy : y < n
  · rw [boolsF_size, boolsF_get _ hy, boolsF_get _ hy]
    by_cases e : i = y
    · subst e; rw [if_pos rfl, if_pos h]; simp
    · rw [if_neg e]
      have : (y : Int) ≠ (i : Int) := by omega
      simp [this]
  · have h1 : (boolsF T n)[y]? = none := Array.getElem?_eq_none (by rw [boolsF_size]; omega)
    have h2 : (boolsF (T ++ [(i : Int)]) n)[y]? = none := Array.getElem?_eq_none (by rw [boolsF_size]; omega)
    rw [h1, h2, if_neg (by omega)]
theorem made_false (n : Nat) : madeCells #[.bool false] n = boolsF [] n := by
  apply Array.ext_getElem?
  intro y
  by_cases hy : y < n
  · rw [boolsF_get _ hy]
    simp [madeCells, hy, Nat.mod_one]
  · rw [Array.getElem?_eq_none (by rw [size_madeCells]; omega), Array.getElem?_eq_none (by rw [boolsF_size]; omega)]
theorem block_full {W : World} {B g N : Nat} {e : TypeId} {cs : Array Value} (h : W.ownsRow B e 1 (.slice (some ⟨g, 0, none⟩) N N) N cs.toList) (hc : cs.size = N) : W.heap[g]? = some (.cells cs e (0, 0)) := by
  rcases h.2 with ⟨e, _⟩ | ⟨g', cap, cur, e, hb, hheap, hn, hm, hsz, htk⟩
  · cases e
  · obtain ⟨e1, _, rfl⟩ := Value.slice.inj e
    obtain rfl : g = g' := by simpa using e1
    rw [hheap]
    have hl : cur.toList.length = N := by simpa using hsz
    rw [Nat.mul_one, List.take_of_length_le (by omega)] at htk
    rw [Array.toList_inj.1 htk]
/-- One slice more. -/
theorem wp_appS {ops : Array Oper} {rest : List Oper} {o : Oper} {a : Act} {W : World} {Q : Exit → Act → World → Prop} (hgd : o.guard = none) (s x : Operand)
    (ho : o.op = .call { callee := .builtin .append, args := #[s, x], argTypes := #[46, 46] })
    (B : Nat) (v : Value) (n : Nat) (vs : List Value) (hO : W.ownsRow B 75 1 v n vs) (hs : a.eval s = v) (u : Value) (hu : u.oneCell' = true) (H : Nat) (hx : a.eval x = .slice (some ⟨H, 0, none⟩) 1 1) (hn : n ≤ 1100000) (hB : B ≤ W.heap.size) (hH : W.heap.size = H)
    (h : ∀ v' w', w'.ownsRow B 75 1 v' (n + 1) (vs ++ [u]) → Grew v v' W w' → wpList Try.prog ops Q rest (a.put o.dst v') w') : wpList Try.prog ops Q (o :: rest) a (W.alloc (.cells #[u] 75)) := by
  obtain ⟨i0, hi, hz0, hz1, hz2⟩ := info_parts Try.infoSlI
  exact wpList_append_row hgd s x 46 ho B 75 i0 (.slice none 0 0) 1 24 Try.underlying46 hi hz0 hz1 hz2 rfl (by decide) (by decide) v n vs hs hO #[u] rfl (by simp [hu]) H hx hn hB hH _ h
theorem Try.infoBoolz : (Try.prog.info? 4).map (fun i => (i.zero, i.size, i.bytes)) = some (some (.bool false), 1, 1) := by kernel_rfl
set_option maxHeartbeats 3200000 in
set_option maxRecDepth 100000 in
theorem c_l05Pairs (A : Option Addr) (c : Nat) (l : List (Int × Int)) (hw : ∀ i : Int, 0 ≤ i → i < l.length → 0 ≤ wdL l i ∧ wdL l i ≤ 8) (hlen : l.length ≤ 1000) (w : World) (hA : PairsAt .i8 .i8 w A l) :
    Calls Try.prog 48 #[.slice A l.length c] w fun e w' => ∃ v vs, e = .returned v ∧ Below w.heap.size w w' ∧ w'.ownsRow w.heap.size 75 1 v (pairL l).length vs ∧ RowsG w.heap.size 2 1 w' v vs (cellsOfP (pairL l)) := by
  have HA := hid hA
  have HWd := hid hw
  have HLen := hid hlen
  have HOrd := fun W h => hid (c_l05Order A c l hw hlen W h)
  have HB0 : Hid (Below w.heap.size w (w.alloc (.cells #[] 75))) := (Below.refl _ w).alloc (Nat.le_refl _) _
  have HM0 : Hid ((w.alloc (.cells #[] 75)).ownsRow w.heap.size 75 1 (.slice (some ⟨w.heap.size, 0, none⟩) 0 0) 0 []) := World.ownsRow_made w #[] 0 (Nat.le_refl _) (by decide) rfl
  obtain ⟨i0, hi, hz0, hz1, hz2⟩ := info_parts Try.infoBoolz
  have hLI : (l.length : Int) ≤ 1000 := by omega
  clear hw hlen hA
  go_enter Try.func48, Try.ntmps48
  go_wp2_with (first
    | ((with_reducible refine gate (N := 13) rfl ?_); (refine wpList_make_full _ rfl (.tmp 12) (.tmp 12) 77 rfl (w.heap.size + 1) 4 i0 (.bool false) 1 Try.underlying77 hi hz0 hz1 .i64 .i64 (l.length : Int) (l.length : Int) l.length rfl rfl rfl rfl (by rw [hz2]; have := HLen.out; omega) (Nat.le_trans HLen.out (by decide)) (by simp) ?_; intro w1 hown1 hg1; have HL1 := hid (block_full hown1 (by simp [size_madeCells])); have HG1 := hid hg1; clear hown1 hg1))
    | (go_at_call 72; ((refine (HOrd w1 (HA.out.below (HB0.out.trans (((Below.refl _ _).grown HG1.out (Nat.le_refl _) (fun k hk => by cases hk)).mono (by simp))) (Nat.le_refl _))).out.mono ?_); rintro e2 w2 ⟨v, rfl, hb2, hr2⟩); obtain ⟨Ao, co, rfl⟩ := owns_slc hr2; have HB2 := hid hb2; have HR2 := hid hr2; clear hb2 hr2))
  have hL01 : Below (w.heap.size + 1) (w.alloc (.cells #[] 75)) w1 := (Below.refl _ _).grown HG1.out (by simp) (fun k hk => by cases hk)
  have hT1 : w1.heap[w.heap.size + 1]? = some (.cells (boolsF [] l.length) 4 (0, 0)) := by
    have := HL1.out
    rw [Nat.mul_one, show (Value.bool false).cells = #[Value.bool false] from rfl, made_false, World.size_alloc] at this
    exact this
  obtain ⟨gt, hgt⟩ : ∃ g, g = w.heap.size + 1 := ⟨_, rfl⟩
  obtain ⟨b0, hb0⟩ : ∃ g, g = w.heap.size := ⟨_, rfl⟩
  have hT2 := block_below HB2.out hT1 (block_lt hT1)
  have hs12 := HB2.out.size
  have hlt1 := block_lt hT1
  have HN2 : Hid (w2.ownsRow w.heap.size 75 1 (.slice (some ⟨b0, 0, none⟩) 0 0) 0 []) := by
    rw [hb0]
    exact owns_below2 (owns_below2 HM0.out hL01 (by simp)) HB2.out (Nat.le_refl _)
  have HW2 : Hid (Below w.heap.size w w2) := (HB0.out.trans (hL01.mono (Nat.le_succ _))).trans (HB2.out.mono (by omega))
  have HO2 : Hid (RowI (gt + 1) w2 (.slice Ao (ordL l).length co) (ordL l)) := HR2.out.mono (by omega)
  rw [← hgt] at hT2 ⊢
  rw [← hb0]
  have HT2 := hid hT2
  obtain ⟨BS, hBS⟩ : ∃ b, b = w2.heap.size := ⟨_, rfl⟩
  have HSz : Hid (BS = w2.heap.size ∧ gt + 1 ≤ BS ∧ b0 + 1 = gt ∧ b0 = w.heap.size) := ⟨hBS, by omega, by omega, hb0⟩
  have HOL : Hid ((ordL l).length = l.length) := ordL_len (by have := HLen.out; omega) HWd.out
  have HOM : Hid (∀ x ∈ ordL l, 0 ≤ x ∧ x < l.length) := fun x hx => ordL_mem hx
  have HPL : Hid (pairN l (ordL l) (ordL l).length = pairL l) := rfl
  obtain ⟨O, hO⟩ : ∃ O, O = ordL l := ⟨_, rfl⟩
  rw [← hO] at HO2 HOL HOM HPL ⊢
  have HOlt : Hid (∀ g, (Value.slice Ao O.length co).ownBlock = some g → gt < g ∧ g < BS) := fun g hg => by have := World.ownsRow.lt HO2.out g hg; omega
  clear hgt hb0 hT1 hT2 hL01 HL1 HG1 HB2 HR2 HM0 HB0 HOrd hBS hO hs12 hlt1
  have HG0 : Hid (RowsG BS 2 1 w2 (.slice (some ⟨b0, 0, none⟩) 0 0) [] (cellsOfP (pairN l O 0))) := RowsG.nil _ _ _ _ _
  go_loopw [3, 6] (fun vo i wr => ∃ (k : Nat) (vs : List Value), k ≤ O.length ∧ i = .int .i64 k ∧ Hid (But2 gt b0 w2 wr) ∧ Hid (wr.heap[gt]? = some (.cells (boolsF ((pairN l O k).map (·.2)) l.length) 4 (0, 0))) ∧ Hid (wr.ownsRow w.heap.size 75 1 vo (pairN l O k).length vs) ∧ Hid (RowsG BS 2 1 wr vo vs (cellsOfP (pairN l O k))) ∧ Hid (∀ g, vo.ownBlock = some g → g = b0 ∨ BS ≤ g)) (fun _ i _ => O.length - (intOf i).toNat)
  case atStart => exact ⟨0, [], by omega, rfl, But2.refl _ _ _, HT2.out, HN2.out, HG0.out, fun g hg => .inl (by simp [Value.ownBlock] at hg; omega)⟩
  case round =>
    clear HN2 HG0 HT2
    obtain ⟨wo, rfl⟩ : ∃ W, W = wr := ⟨_, rfl⟩
    obtain ⟨k, vs, hk, rfl, hbt, htk, hown, hrows, hvo⟩ := hrel
    obtain ⟨Av, cv, rfl⟩ := owns_slc hown.out
    have hL := HLen.out
    have hOL := HOL.out
    have hS := HSz.out
    have hOr : RowI (gt + 1) wo (.slice Ao O.length co) O := owns_but2 HO2.out hbt.out (fun e => by have := HOlt.out _ e; omega) (fun e => by have := HOlt.out _ e; omega)
    have hBw : Below w.heap.size w wo := ⟨hbt.out.os.trans HW2.out.os, hbt.out.tape.trans HW2.out.tape, hbt.out.output.trans HW2.out.output, Nat.le_trans HW2.out.size hbt.out.size, fun i hi => (hbt.out.block i (by omega) (by omega) (by omega)).trans (HW2.out.block i hi)⟩
    have hAr := HA.out.below hBw (Nat.le_refl _)
    have HBw := hid hBw
    by_cases hkl : k < O.length
    · have d1 : decide ((k : Int) < (O.length : Int)) = true := decide_eq_true (by omega)
      have hkI : (k : Int) < (O.length : Int) := by omega
      have hk0 : (0 : Int) ≤ (k : Int) := by omega
      have hk30 : (k : Int) ≤ 1000 := by omega
      have hp := List.getElem?_eq_getElem hkl
      obtain ⟨a, haa⟩ : ∃ a, a = O[k] := ⟨_, rfl⟩
      rw [← haa] at hp
      have hra := HOM.out a (List.mem_of_getElem? hp)
      have HSUC := hid (pairN_succ (l := l) hp)
      obtain ⟨go, cg, e, _, hgl, c0, _⟩ := owns_cell hOr (icells_get hp)
      obtain ⟨rfl, rfl⟩ : Ao = some ⟨go, 0, none⟩ ∧ co = cg := by simpa using e
      obtain ⟨a', rfl⟩ : ∃ a' : Nat, a = (a' : Int) := ⟨a.toNat, by omega⟩
      have pa := List.getElem?_eq_getElem (show a' < l.length by omega)
      have eh := haL_get pa
      have ew := wdL_get pa
      obtain ⟨b, off, e2, r1, r2, r3⟩ := hAr a' _ pa
      rw [← eh] at r2
      rw [← ew] at r3
      obtain ⟨vh, hvh⟩ : ∃ v, v = haL l a' := ⟨_, rfl⟩
      obtain ⟨vw, hvw⟩ : ∃ v, v = wdL l a' := ⟨_, rfl⟩
      have hwa := HWd.out a' hra.1 hra.2
      rw [← hvh] at r2
      rw [← hvw] at r3 hwa
      subst e2
      have x0 : (0 : Int) ≤ (a' : Int) := by omega
      have x1 : (a' : Int) < (l.length : Int) := by omega
      have x2 : (a' : Int) ≤ 1000 := by omega
      have HKL := hid hkl
      have HVH := hid hvh
      have HVW := hid hvw
      have HRA := hid hra
      have HOr := hid hOr
      have HAr := hid hAr
      clear hp haa hra hOr e hgl hAr hBw pa eh ew hkl hvh hvw hS hL hOL
      by_cases hz : vh = 0
      · have d2 : (vh != 0) = false := by rw [hz]; rfl
        have d3 : (vh == 0) = true := by rw [hz]; rfl
        have HZ : Hid (haL l a' = 0) := by show _ = _; rw [← HVH.out]; exact hz
        obtain ⟨T, hT⟩ : ∃ T, T = (pairN l O k).map (·.2) := ⟨_, rfl⟩
        have HTT := hid hT
        rw [← hT] at htk
        obtain ⟨f, hf⟩ : ∃ f, f = fitB l a' T := ⟨_, rfl⟩
        have HFF := hid hf
        clear hz hT hf
        have HC0 := hid c0
        have R3 := hid r3
        have R1 := hid r1
        go_wp2_with fail
        clear c0 r2 r3
        have hwa2 := hwa
        go_loopw [3, 8] (fun vo i wm => ∃ k2 : Nat, vo = .slice Av (pairN l O k).length cv ∧ k2 ≤ O.length ∧ i = .int .i64 k2 ∧ Hid (Below wo.heap.size wo wm) ∧ Hid ((O.take k2).any f = false)) (fun _ i _ => O.length - (intOf i).toNat)
        case atStart => exact ⟨0, rfl, by omega, rfl, Below.refl _ _, rfl⟩
        case round =>
          obtain ⟨wm, rfl⟩ : ∃ W, W = wr := ⟨_, rfl⟩
          obtain ⟨k2, rfl, hk2, rfl, hbm, hno⟩ := hrel
          have hL := HLen.out
          have hOL := HOL.out
          by_cases hk2l : k2 < O.length
          · have d4 : decide ((k2 : Int) < (O.length : Int)) = true := decide_eq_true (by omega)
            have k2I : (k2 : Int) < (O.length : Int) := by omega
            have k20 : (0 : Int) ≤ (k2 : Int) := by omega
            have k230 : (k2 : Int) ≤ 1000 := by omega
            have hp := List.getElem?_eq_getElem hk2l
            obtain ⟨bb, hbb⟩ : ∃ a, a = O[k2] := ⟨_, rfl⟩
            rw [← hbb] at hp
            have hrb := HOM.out bb (List.mem_of_getElem? hp)
            have HK2 := hid hp
            have HTk : Hid ((O.take (k2 + 1)).any f = f bb) := by
              show _ = _
              rw [List.take_succ_eq_append_getElem hk2l, List.any_append, hno.out, ← hbb]; simp
            obtain ⟨go2, cg2, e3, _, hgl2, c2, _⟩ := owns_cell (owns_below2 HOr.out hbm.out (Nat.le_refl _)) (icells_get hp)
            obtain ⟨rfl, rfl⟩ : go = go2 ∧ co = cg2 := by simpa using e3
            obtain ⟨b', rfl⟩ : ∃ b' : Nat, bb = (b' : Int) := ⟨bb.toNat, by omega⟩
            have pb := List.getElem?_eq_getElem (show b' < l.length by omega)
            have ehb := haL_get pb
            have ewb := wdL_get pb
            obtain ⟨b9, off9, e9, s1, s2, s3⟩ := HAr.out b' _ pb
            obtain ⟨rfl, rfl⟩ : b = b9 ∧ off = off9 := by simpa using e9
            rw [← ehb] at s2
            rw [← ewb] at s3
            have hwb := HWd.out b' hrb.1 hrb.2
            have t2 := (hbm.out.cell (p := ⟨b, _, none⟩) s1).trans s2
            have t3 := (hbm.out.cell (p := ⟨b, _, none⟩) s1).trans s3
            have t4 := (hbm.out.cell (p := ⟨b, _, none⟩) R1.out).trans R3.out
            have htm := block_below hbm.out htk.out (block_lt htk.out)
            have t5 : wm.cell? ⟨gt, b', none⟩ = some (.bool (decide ((b' : Int) ∈ T))) := cell_block htm (boolsF_get T (by omega))
            have t6 : wm.frozen? ⟨gt, b', none⟩ = false := frozen_of_row _ _ _ _ _ htm
            have lgt : gt < wm.heap.size := block_lt htm
            have lb : b < wm.heap.size := Nat.lt_of_lt_of_le s1 hbm.out.size
            have HF : Hid (f b' = (decide (haL l b' = 1) && (!decide ((b' : Int) ∈ T) && decide (vw + wdL l b' ≤ 8)))) := by show _ = _; rw [HFF.out, HVW.out]; rfl
            obtain ⟨qh, hqh⟩ : ∃ v, v = haL l b' := ⟨_, rfl⟩
            obtain ⟨qw, hqw⟩ : ∃ v, v = wdL l b' := ⟨_, rfl⟩
            obtain ⟨tk, htkk⟩ : ∃ v, v = decide ((b' : Int) ∈ T) := ⟨_, rfl⟩
            rw [← hqh] at t2 HF
            rw [← hqw] at t3 HF hwb
            rw [← htkk] at t5 HF
            have y0 : (0 : Int) ≤ (b' : Int) := by omega
            have y1 : (b' : Int) < (l.length : Int) := by omega
            have y2 : (b' : Int) ≤ 1000 := by omega
            have e8 : IntKind.i8.wrap (vw + qw) = vw + qw := IntWalk.i8_in _ (by omega)
            have HTM := hid htm
            have HRB := hid hrb
            have HK2L := hid hk2l
            clear hp hbb hrb e3 hgl2 pb ehb ewb e9 s1 s2 s3 htm hqh hqw htkk hk2l hL hOL
            by_cases h1 : qh = 1
            · have d5 : (qh == 1) = true := by rw [beq_iff_eq]; exact h1
              have HH : Hid (decide (qh = 1) = true) := decide_eq_true h1
              clear h1
              cases tk with
              | true =>
                go_wp2_with fail
                refine wp_region_ext wm.heap.size (by kernel_rfl) (by kernel_rfl) ?_
                repeat (go_big_quiet_step (fail))
                refine wpQuiet_nil ?_
                intro xx
                go_wp2_with fail
                go_roundw
                case rel => exact ⟨k2 + 1, rfl, by have := HK2L.out; omega, by go_num, hbm.out.trans (xx.below.mono hbm.out.size), by rw [HTk.out, HF.out, HH.out]; rfl⟩
                case measure => have := HK2L.out; simp [intOf]; omega
              | false =>
                by_cases h3 : vw + qw ≤ 8
                · have d6 : decide (vw + qw ≤ 8) = true := decide_eq_true h3
                  have HYf : Hid (f b' = true) := by show _ = _; rw [HF.out, HH.out, d6]; rfl
                  clear h3
                  go_wp2_with fail
                  refine wp_region_ext wm.heap.size (by kernel_rfl) (by kernel_rfl) ?_
                  repeat (go_big_quiet_step (fail))
                  refine wpQuiet_nil ?_
                  intro xx
                  have HBY := hid (hbm.out.trans (xx.below.mono hbm.out.size))
                  have HTY := hid (block_below xx.below HTM.out lgt)
                  obtain ⟨Y, hY⟩ : ∃ Y, Y = xx.out := ⟨_, rfl⟩
                  rw [← hY] at HBY HTY ⊢
                  clear hY xx t2 t3 t4 t5 t6
                  have HSS := HSz.out
                  have f5 : Y.cell? ⟨gt, b', none⟩ = some (.bool (decide ((b' : Int) ∈ T))) := cell_block HTY.out (boolsF_get T (by have := HRB.out; omega))
                  have f6 : Y.frozen? ⟨gt, b', none⟩ = false := frozen_of_row _ _ _ _ _ HTY.out
                  have HYes := hid (pairA_some (l := l) (ord := O) (st := pairN l O k) (a := (a' : Int)) (b := (b' : Int)) (k := k2) HZ.out HK2.out (by rw [← HTT.out, ← HFF.out]; exact hno.out) (by rw [← HTT.out, ← HFF.out]; exact HYf.out)).1
                  have hvg : ∀ g, (Value.slice Av (pairN l O k).length cv).ownBlock = some g → g ≠ gt ∧ g < Y.heap.size := fun g hg => ⟨by have := hvo.out g hg; omega, by have := (World.ownsRow.lt hown.out g hg).2; have := HBY.out.size; omega⟩
                  have HVG := hid hvg
                  have hN1 : (Y.setCell ⟨gt, b', none⟩ (.bool true)).ownsRow w.heap.size 75 1 (.slice Av (pairN l O k).length cv) (pairN l O k).length vs := owns_set_other (owns_below2 hown.out HBY.out (Nat.le_refl _)) (fun e => (hvg _ e).1 rfl) b' _
                  have hR1 : RowsG BS 2 1 (Y.setCell ⟨gt, b', none⟩ (.bool true)) (.slice Av (pairN l O k).length cv) vs (cellsOfP (pairN l O k)) := (hrows.out.below HBY.out (Nat.le_refl _)).butt (Butt.set gt Y b' _) (by omega)
                  have hT1 := heap_setCell_same Y gt b' _ _ (.bool true) HTY.out
                  rw [boolsF_set T (by have := HRB.out; omega)] at hT1
                  have hU1 : But2 gt b0 w2 (Y.setCell ⟨gt, b', none⟩ (.bool true)) := (hbt.out.below HBY.out (Nat.le_refl _)).set b' _
                  have HN2 := hid (World.ownsRow.alloc hN1 (.cells #[.int .i64 (a' : Int), .int .i64 (b' : Int)] 2))
                  have hAl : Below (Y.setCell ⟨gt, b', none⟩ (.bool true)).heap.size (Y.setCell ⟨gt, b', none⟩ (.bool true)) ((Y.setCell ⟨gt, b', none⟩ (.bool true)).alloc (.cells #[.int .i64 (a' : Int), .int .i64 (b' : Int)] 2)) := (Below.refl _ _).alloc (Nat.le_refl _) _
                  have HR2 := hid (hR1.below hAl (Nat.le_refl _))
                  have HT2 := hid (block_alloc hT1 (.cells #[.int .i64 (a' : Int), .int .i64 (b' : Int)] 2))
                  have HU2 := hid (hU1.below hAl (Nat.le_refl _))
                  have HP2 := hid (block_new1 (Y.setCell ⟨gt, b', none⟩ (.bool true)) (.cells #[.int .i64 (a' : Int), .int .i64 (b' : Int)] 2) (n := Y.heap.size) (by simp))
                  have HSY : Hid (BS ≤ Y.heap.size ∧ w.heap.size ≤ Y.heap.size ∧ wo.heap.size ≤ Y.heap.size) := ⟨by have := HBY.out.size; have := hbt.out.size; omega, by have := HBY.out.size; have := hbt.out.size; omega, HBY.out.size⟩
                  have HPNl : Hid ((pairN l O k).length ≤ 1100000) := by have := pairN_len l O k; have := HKL.out; have := HOL.out; have := HLen.out; show _ ≤ _; omega
                  have lgY : gt < Y.heap.size := block_lt HTY.out
                  clear HSS hvg hN1 hR1 hT1 hU1 hAl lgt lb
                  go_wp2_with ((with_reducible refine gate (N := 77) rfl ?_); (refine wp_appS rfl (.tmp 72) (.tmp 76) rfl w.heap.size _ _ vs HN2.out rfl (.slice (some ⟨Y.heap.size, 0, none⟩) 2 2) rfl (Y.heap.size + 1) rfl HPNl.out (by have := HSY.out; simp; omega) (by simp) ?_); intro v' w6 hown6 hg6; obtain ⟨A6, c6, rfl⟩ := owns_slc hown6; have HO6 := hid hown6; have HG6 := hid hg6; clear hown6 hg6)
                  have hP6 := HG6.out.block _ _ HP2.out (fun e => by have := (HVG.out _ e).2; omega)
                  have hT6 := HG6.out.block _ _ HT2.out (fun e => (HVG.out _ e).1 rfl)
                  refine ⟨⟨k + 1, vs ++ [.slice (some ⟨Y.heap.size, 0, none⟩) 2 2], by have := HKL.out; omega, by go_num, HU2.out.grew HG6.out (fun g hg => by have := hvo.out g hg; have := HSz.out; omega) HG6.out.below, ?_, ?_, ?_, fun g hg => ?_⟩, by have := HKL.out; simp [intOf]; omega⟩
                  · rw [HSUC.out, HYes.out, List.map_append, ← HTT.out]; exact hT6
                  · rw [HSUC.out, HYes.out, List.length_append]; exact HO6.out
                  · rw [HSUC.out, HYes.out]
                    have hsn := RowsG.snocA (x := (2, [.int .i64 (a' : Int), .int .i64 (b' : Int)])) (HR2.out.grew HG6.out) (pair_row hP6 HSY.out.1) (fun j u hu g' h1 h2' => by
                      have h3 := (hrows.out.lt hu g' h1).2
                      have e1 : Y.heap.size = g' := by simpa [Value.ownBlock] using h2'
                      have := HSY.out
                      omega) (fun g' h1 h2' => by
                      have e1 : Y.heap.size = g' := by simpa [Value.ownBlock] using h1
                      rcases HG6.out.own g' h2' with h7 | h7
                      · have := (HVG.out g' h7).2; omega
                      · simp at h7; omega)
                    have hcells : cellsOfP (pairN l O k) ++ [(2, [Value.int .i64 (a' : Int), Value.int .i64 (b' : Int)])] = cellsOfP (pairN l O k ++ [((a' : Int), (b' : Int))]) := by simp [cellsOfP]
                    rw [hcells] at hsn
                    exact hsn
                  · rcases HG6.out.own g hg with h7 | h7
                    · exact hvo.out g h7
                    · right; simp at h7; have := HSY.out; omega
                · have d6 : decide (vw + qw ≤ 8) = false := decide_eq_false h3
                  have H6 := hid d6
                  clear h3
                  go_wp2_with fail
                  refine wp_region_ext wm.heap.size (by kernel_rfl) (by kernel_rfl) ?_
                  repeat (go_big_quiet_step (fail))
                  refine wpQuiet_nil ?_
                  intro xx
                  go_wp2_with fail
                  go_roundw
                  case rel => exact ⟨k2 + 1, rfl, by have := HK2L.out; omega, by go_num, hbm.out.trans (xx.below.mono hbm.out.size), by rw [HTk.out, HF.out, HH.out, H6.out]; rfl⟩
                  case measure => have := HK2L.out; simp [intOf]; omega
            · have d5 : (qh == 1) = false := by rw [beq_eq_false_iff_ne]; exact h1
              have HH : Hid (decide (qh = 1) = false) := decide_eq_false h1
              clear h1
              go_wp2_with fail
              refine wp_region_ext wm.heap.size (by kernel_rfl) (by kernel_rfl) ?_
              repeat (go_big_quiet_step (fail))
              refine wpQuiet_nil ?_
              intro xx
              go_wp2_with fail
              go_roundw
              case rel => exact ⟨k2 + 1, rfl, by have := HK2L.out; omega, by go_num, hbm.out.trans (xx.below.mono hbm.out.size), by rw [HTk.out, HF.out, HH.out]; rfl⟩
              case measure => have := HK2L.out; simp [intOf]; omega
          · obtain rfl : k2 = O.length := by omega
            have d4 : decide ((O.length : Int) < (O.length : Int)) = false := decide_eq_false (by omega)
            have HNone := hid (pairA_none (l := l) (ord := O) (st := pairN l O k) (a := (a' : Int)) (by rw [← HTT.out, ← HFF.out, ← List.take_length (l := O)]; exact hno.out))
            clear hL hOL
            go_wp2_with fail
            refine ⟨⟨k + 1, vs, by have := HKL.out; omega, by go_num, hbt.out.below hbm.out (Nat.le_refl _), ?_, ?_, ?_, hvo.out⟩, by have := HKL.out; simp [intOf]; omega⟩
            · rw [HSUC.out, HNone.out, ← HTT.out]; exact block_below hbm.out htk.out (block_lt htk.out)
            · rw [HSUC.out, HNone.out]; exact owns_below2 hown.out hbm.out (Nat.le_refl _)
            · rw [HSUC.out, HNone.out]; exact hrows.out.below hbm.out (Nat.le_refl _)
      · have d2 : (vh != 0) = true := by rw [bne_iff_ne]; exact hz
        have d3 : (vh == 0) = false := by rw [beq_eq_false_iff_ne]; exact hz
        have HNo := hid (pairA_no (l := l) (ord := O) (st := pairN l O k) (a := (a' : Int)) (by rw [← HVH.out]; exact hz))
        clear hz
        go_wp2_with fail
        refine ⟨⟨k + 1, vs, by have := HKL.out; omega, by go_num, hbt.out, ?_, ?_, ?_, hvo.out⟩, by have := HKL.out; simp [intOf]; omega⟩
        · rw [HSUC.out, HNo.out]; exact htk.out
        · rw [HSUC.out, HNo.out]; exact hown.out
        · rw [HSUC.out, HNo.out]; exact hrows.out
    · obtain rfl : k = O.length := by omega
      have d1 : decide ((O.length : Int) < (O.length : Int)) = false := decide_eq_false (by omega)
      have HBB : Hid (w.heap.size ≤ BS) := by show _ ≤ _; omega
      clear hL hOL hS hBw
      go_wp2_with fail
      go_ret
      refine ⟨_, vs, rfl, HBw.out, ?_, ?_⟩
      · rw [← HPL.out]; exact hown.out
      · rw [← HPL.out]; exact hrows.out.base HBB.out
end Go.Proofs.Ytgbihaliiogboaa

/- How many tiles are needed for pieces: the program's and the reference's. -/
namespace Go.Proofs.Ytgbihaliiogboaa
open Go.RowKit
set_option linter.unusedSimpArgs false
set_option linter.unusedVariables false
def pcV (l : List (Int × Int)) : Int := if l.all isPc = true then (if l.length ≤ 30 then 0 else 3) else 1
theorem pcV_eq (l : List (Int × Int)) : pcK [l] = pcV l := by simp only [pcK, pcV, List.all_cons, List.all_nil, Bool.and_true, decide_eq_true_eq]
theorem pcV_zero {l : List (Int × Int)} (h : pcV l = 0) : l.length ≤ 30 ∧ ∀ i : Int, 0 ≤ i → i < l.length → 0 ≤ wdL l i ∧ wdL l i ≤ 8 := by
  unfold pcV at h
  by_cases h1 : l.all isPc = true
  · rw [if_pos h1] at h
    by_cases h2 : l.length ≤ 30
    · refine ⟨h2, fun i i0 i1 => ?_⟩
      obtain ⟨k, rfl⟩ : ∃ k : Nat, i = (k : Int) := ⟨i.toNat, by omega⟩
      have hk : k < l.length := by omega
      have hp := List.getElem?_eq_getElem hk
      rw [wdL_get hp]
      have := List.all_eq_true.1 h1 l[k] (List.getElem_mem hk)
      unfold isPc inB at this
      simp only [Bool.and_eq_true, decide_eq_true_eq] at this
      omega
    · rw [if_neg h2] at h; cases h
  · rw [if_neg h1] at h; cases h
theorem pcV_cases (l : List (Int × Int)) : pcV l = 0 ∨ pcV l = 1 ∨ pcV l = 3 := by
  unfold pcV
  split
  · split
    · exact .inl rfl
    · exact .inr (.inr rfl)
  · exact .inr (.inl rfl)
set_option maxRecDepth 100000 in
theorem c_l05Pieces (A : Option Addr) (c : Nat) (l : List (Int × Int)) (hB : ∀ p ∈ l, (-128 ≤ p.1 ∧ p.1 ≤ 127) ∧ (-128 ≤ p.2 ∧ p.2 ≤ 127)) (hlen : l.length ≤ 1048576) (w : World) (hA : PairsAt .i8 .i8 w A l) :
    Calls Try.prog 66 #[.slice A l.length c] w fun e w' => e = .returned (.bool (l.all isPc)) ∧ Below w.heap.size w w' := by
  have HA := hid hA
  have HBd := hid hB
  have hL := hlen
  clear hA hB hlen
  go_enter Try.func66, Try.ntmps66
  go_wp2_with fail
  go_loopw [3] (fun i wr => ∃ k : Nat, k ≤ l.length ∧ i = .int .i64 k ∧ Hid (Below w.heap.size w wr) ∧ Hid ((l.take k).all isPc = true)) (fun i _ => l.length - (intOf i).toNat)
  case atStart => exact ⟨0, by omega, rfl, Below.refl _ _, rfl⟩
  case round =>
    obtain ⟨k, hk, rfl, hb, hal⟩ := hrel
    by_cases hkl : k < l.length
    · have d1 : decide ((k : Int) < (l.length : Int)) = true := decide_eq_true (by omega)
      have k0 : (0 : Int) ≤ (k : Int) := by omega
      have k1 : (k : Int) < (l.length : Int) := by omega
      have k2 : (k : Int) ≤ 1048576 := by omega
      have hp := List.getElem?_eq_getElem hkl
      obtain ⟨⟨p1, p2⟩, hpp⟩ : ∃ p, p = l[k] := ⟨_, rfl⟩
      have HTk : Hid ((l.take (k + 1)).all isPc = isPc (p1, p2)) := by
        show _ = _
        rw [List.take_succ_eq_append_getElem hkl, List.all_append, hal.out, ← hpp]; simp
      rw [← hpp] at hp
      have hpb := HBd.out _ (List.mem_of_getElem? hp)
      dsimp only at hpb
      have HNo : Hid (isPc (p1, p2) = false → l.all isPc = false) := fun h => by
        rw [Bool.eq_false_iff]
        intro h2
        rw [List.all_eq_true.1 h2 _ (List.mem_of_getElem? hp)] at h
        cases h
      obtain ⟨b, off, rfl, r1, r2, r3⟩ := HA.out k _ hp
      have c1 := (hb.out.cell (p := ⟨b, _, none⟩) r1).trans r2
      have c2 := (hb.out.cell (p := ⟨b, _, none⟩) r1).trans r3
      dsimp only at c1 c2
      have e1 : IntKind.i64.wrap p1 = p1 := IntWalk.i64_in _ (by omega)
      have e2 : IntKind.i64.wrap p2 = p2 := IntWalk.i64_in _ (by omega)
      have HF : Hid (isPc (p1, p2) = (inB p1 0 2 && inB p2 1 7)) := rfl
      obtain ⟨g1, hg1⟩ : ∃ g, inB p1 0 2 = g := ⟨_, rfl⟩
      obtain ⟨g2, hg2⟩ : ∃ g, inB p2 1 7 = g := ⟨_, rfl⟩
      have H1 := hid hg1
      have H2 := hid hg2
      rw [hg1, hg2] at HF
      have HKL := hid hkl
      clear hp hpp r2 r3 hg1 hg2 hkl
      cases g1 with
      | false =>
        go_wp2_with (go_at_call 32; ((with_reducible refine (c_l00In p1 0 2 _ _ H1.out).mono ?_); rintro e1 w1 ⟨rfl, rfl⟩))
        go_ret
        exact ⟨ret_bool (HNo.out HF.out).symm, hb.out⟩
      | true =>
        cases g2 with
        | false =>
          go_wp2_with (first
            | (go_at_call 32; ((with_reducible refine (c_l00In p1 0 2 _ _ H1.out).mono ?_); rintro e1 w1 ⟨rfl, rfl⟩))
            | (go_at_call 32; ((with_reducible refine (c_l00In p2 1 7 _ _ H2.out).mono ?_); rintro e1 w1 ⟨rfl, rfl⟩)))
          go_ret
          exact ⟨ret_bool (HNo.out HF.out).symm, hb.out⟩
        | true =>
          go_wp2_with (first
            | (go_at_call 32; ((with_reducible refine (c_l00In p1 0 2 _ _ H1.out).mono ?_); rintro e1 w1 ⟨rfl, rfl⟩))
            | (go_at_call 32; ((with_reducible refine (c_l00In p2 1 7 _ _ H2.out).mono ?_); rintro e1 w1 ⟨rfl, rfl⟩)))
          refine ⟨⟨k + 1, by have := HKL.out; omega, by go_num, hb.out, HTk.out.trans HF.out⟩, by have := HKL.out; simp [intOf]; omega⟩
    · obtain rfl : k = l.length := by omega
      have d1 : decide ((l.length : Int) < (l.length : Int)) = false := decide_eq_false (by omega)
      rw [List.take_length] at hal
      go_wp2_with fail
      go_ret
      exact ⟨ret_bool hal.out.symm, hb.out⟩
set_option maxRecDepth 100000 in
theorem c_l05Asked (A : Option Addr) (c : Nat) (l : List (Int × Int)) (hB : ∀ p ∈ l, (-128 ≤ p.1 ∧ p.1 ≤ 127) ∧ (-128 ≤ p.2 ∧ p.2 ≤ 127)) (hlen : l.length ≤ 1048576) (w : World) (hA : PairsAt .i8 .i8 w A l) :
    Calls Try.prog 43 #[.slice A l.length c] w fun e w' => e = .returned (.int .i64 (pcV l)) ∧ Below w.heap.size w w' := by
  have HC := hid (c_l05Pieces A c l hB hlen w hA)
  have HK : Hid (pcV l = if l.all isPc = true then (if l.length ≤ 30 then 0 else 3) else 1) := rfl
  obtain ⟨g1, hg1⟩ : ∃ g, g = l.all isPc := ⟨_, rfl⟩
  rw [← hg1] at HC HK
  clear hA hB hg1
  cases g1 with
  | false =>
    go_enter Try.func43, Try.ntmps43
    go_wp2_with (go_at_call 66; ((with_reducible refine HC.out.mono ?_); rintro e1 w1 ⟨rfl, hb1⟩))
    go_ret
    exact ⟨by rw [HK.out]; rfl, hb1⟩
  | true =>
    by_cases h : l.length ≤ 30
    · have d1 : decide ((l.length : Int) > 30) = false := decide_eq_false (by omega)
      have HD := hid h
      clear h
      go_enter Try.func43, Try.ntmps43
      go_wp2_with (go_at_call 66; ((with_reducible refine HC.out.mono ?_); rintro e1 w1 ⟨rfl, hb1⟩))
      go_ret
      exact ⟨by rw [HK.out, if_pos trivial, if_pos HD.out]; rfl, hb1⟩
    · have d1 : decide ((l.length : Int) > 30) = true := decide_eq_true (by omega)
      have HD := hid h
      clear h
      go_enter Try.func43, Try.ntmps43
      go_wp2_with (go_at_call 66; ((with_reducible refine HC.out.mono ?_); rintro e1 w1 ⟨rfl, hb1⟩))
      go_ret
      exact ⟨by rw [HK.out, if_pos trivial, if_neg HD.out]; rfl, hb1⟩
def tilV (l : List (Int × Int)) : Int := if pcV l = 0 then (l.length : Int) - (pairL l).length else 0
theorem pairL_len {l : List (Int × Int)} (h : pcV l = 0) : (pairL l).length ≤ l.length := by
  have h1 := pairN_len l (ordL l) (ordL l).length
  rw [ordL_len (by have := (pcV_zero h).1; omega) (pcV_zero h).2] at h1
  unfold pairL
  rw [ordL_len (by have := (pcV_zero h).1; omega) (pcV_zero h).2]
  exact h1
/-- The code of one list, its slice in a slice just built. -/
theorem c_pCode1 (A : Option Addr) (c : Nat) (l : List (Int × Int)) (hlen : l.length ≤ 1048576) (w : World) (hA : PairsAt .i8 .i8 w A l) :
    Calls Try.prog 46 #[.slice (some ⟨w.heap.size, 0, none⟩) 1 1] (w.alloc (.cells #[.slice A l.length c] 26)) fun e w' => e = .returned (.int .i64 (pcV l)) ∧ Below (w.alloc (.cells #[.slice A l.length c] 26)).heap.size (w.alloc (.cells #[.slice A l.length c] 26)) w' := by
  have hb : Below w.heap.size w (w.alloc (.cells #[.slice A l.length c] 26)) := (Below.refl _ w).alloc (Nat.le_refl _) _
  have := c_piecesCode (some ⟨w.heap.size, 0, none⟩) 1 [.slice A l.length c] [l] (by simp) (w.alloc (.cells #[.slice A l.length c] 26)) (fun j v hj => by
    cases j with
    | zero => simp at hj; subst hj; exact ⟨_, 0, rfl, by simp, cell_block (block_new1 w _ rfl) rfl⟩
    | succ j => simp at hj) ⟨rfl, fun j v l' hj hl => by
    cases j with
    | zero => simp at hj hl; subst hj hl; exact ⟨A, c, rfl, hA.below hb (Nat.le_refl _), hlen⟩
    | succ j => simp at hj⟩
  rw [pcV_eq] at this
  exact this
set_option maxRecDepth 100000 in
theorem c_tilesFor (A : Option Addr) (c : Nat) (l : List (Int × Int)) (h0 : pcV l = 0) (w : World) (hA : PairsAt .i8 .i8 w A l) :
    Calls Try.prog 47 #[.slice A l.length c] w fun e w' => e = .returned (.int .i64 ((l.length : Int) - (pairL l).length)) ∧ Below w.heap.size w w' := by
  have HC := hid (c_pairs A c l (pcV_zero h0).2 (pcV_zero h0).1 w hA)
  have h1 := pairL_len h0
  have h2 := (pcV_zero h0).1
  have e1 : IntKind.i64.wrap ((l.length : Int) - ((pairL l).length : Int)) = (l.length : Int) - ((pairL l).length : Int) := IntWalk.i64_in _ (by omega)
  clear hA h0 h1 h2
  go_enter Try.func47, Try.ntmps47
  go_wp2_with (go_at_call 49; ((with_reducible refine HC.out.mono ?_); rintro e1 w1 ⟨v, vs, rfl, hb1, hr1, _⟩); obtain ⟨A1, c1, rfl⟩ := owns_slc hr1; have HB1 := hid hb1; clear hb1 hr1)
  go_ret
  exact ⟨rfl, HB1.out⟩
set_option maxRecDepth 100000 in
theorem c_l05Tiles (A : Option Addr) (c : Nat) (l : List (Int × Int)) (h0 : pcV l = 0) (w : World) (hA : PairsAt .i8 .i8 w A l) :
    Calls Try.prog 44 #[.slice A l.length c] w fun e w' => e = .returned (.int .i64 ((l.length : Int) - (pairL l).length)) ∧ Below w.heap.size w w' := by
  have HC := hid (c_l05Pairs A c l (pcV_zero h0).2 (by have := (pcV_zero h0).1; omega) w hA)
  have h1 := pairL_len h0
  have h2 := (pcV_zero h0).1
  have e1 : IntKind.i64.wrap ((l.length : Int) - ((pairL l).length : Int)) = (l.length : Int) - ((pairL l).length : Int) := IntWalk.i64_in _ (by omega)
  clear hA h0 h1 h2
  go_enter Try.func44, Try.ntmps44
  go_wp2_with (go_at_call 48; ((with_reducible refine HC.out.mono ?_); rintro e1 w1 ⟨v, vs, rfl, hb1, hr1, _⟩); obtain ⟨A1, c1, rfl⟩ := owns_slc hr1; have HB1 := hid hb1; clear hb1 hr1)
  go_ret
  exact ⟨rfl, HB1.out⟩
set_option maxRecDepth 100000 in
theorem c_TilesFor (A : Option Addr) (c : Nat) (l : List (Int × Int)) (hlen : l.length ≤ 1048576) (w : World) (hA : PairsAt .i8 .i8 w A l) :
    Calls Try.prog 22 #[.slice A l.length c] w fun e w' => e = .returned (.tuple #[.int .i64 (tilV l), .int .i64 (pcV l)]) ∧ Below w.heap.size w w' := by
  have HC := hid (c_pCode1 A c l hlen w hA)
  have HA := hid hA
  have HB0 : Hid (Below w.heap.size w (w.alloc (.cells #[.slice A l.length c] 26))) := (Below.refl _ w).alloc (Nat.le_refl _) _
  unfold tilV
  by_cases h0 : pcV l = 0
  · rw [if_pos h0, h0]
    rw [h0] at HC
    have HT := fun W h => hid (c_tilesFor A c l h0 W h)
    clear hA h0 hlen
    go_enter Try.func22, Try.ntmps22
    go_wp2_with (first
      | (go_at_call 46; ((with_reducible refine HC.out.mono ?_); rintro e1 w1 ⟨rfl, hb1⟩); have HB1 := hid (HB0.out.trans (hb1.mono HB0.out.size)); clear hb1)
      | (go_at_call 47; ((with_reducible refine (HT _ (HA.out.below HB1.out (Nat.le_refl _))).out.mono ?_); rintro e2 w2 ⟨rfl, hb2⟩); have HB2 := hid (HB1.out.trans (hb2.mono HB1.out.size)); clear hb2))
    go_ret2
    exact ⟨rfl, HB2.out⟩
  · rw [if_neg h0]
    obtain ⟨k, hkk⟩ : ∃ k, k = pcV l := ⟨_, rfl⟩
    rw [← hkk] at HC h0 ⊢
    have hk0 : (k == 0) = false := by rw [beq_eq_false_iff_ne]; exact h0
    have hk1 : (k != 0) = true := by unfold bne; rw [hk0]; rfl
    clear hkk hA h0 hlen
    go_enter Try.func22, Try.ntmps22
    go_wp2_with (go_at_call 46; ((with_reducible refine HC.out.mono ?_); rintro e1 w1 ⟨rfl, hb1⟩); have HB1 := hid (HB0.out.trans (hb1.mono HB0.out.size)); clear hb1)
    go_ret2
    exact ⟨rfl, HB1.out⟩
set_option maxRecDepth 100000 in
theorem c_sTilesFor (A : Option Addr) (c : Nat) (l : List (Int × Int)) (hB : ∀ p ∈ l, (-128 ≤ p.1 ∧ p.1 ≤ 127) ∧ (-128 ≤ p.2 ∧ p.2 ≤ 127)) (hlen : l.length ≤ 1048576) (w : World) (hA : PairsAt .i8 .i8 w A l) :
    Calls Try.prog 20 #[.slice A l.length c] w fun e w' => e = .returned (.tuple #[.int .i64 (tilV l), .int .i64 (pcV l)]) ∧ Below w.heap.size w w' := by
  have HC := hid (c_l05Asked A c l hB hlen w hA)
  have HA := hid hA
  unfold tilV
  by_cases h0 : pcV l = 0
  · rw [if_pos h0, h0]
    rw [h0] at HC
    have HT := fun W h => hid (c_l05Tiles A c l h0 W h)
    clear hA h0 hlen hB
    go_enter Try.func20, Try.ntmps20
    go_wp2_with (first
      | (go_at_call 43; ((with_reducible refine HC.out.mono ?_); rintro e1 w1 ⟨rfl, hb1⟩); have HB1 := hid hb1; clear hb1)
      | (go_at_call 44; ((with_reducible refine (HT _ (HA.out.below HB1.out (Nat.le_refl _))).out.mono ?_); rintro e2 w2 ⟨rfl, hb2⟩); have HB2 := hid (HB1.out.trans (hb2.mono HB1.out.size)); clear hb2))
    go_ret2
    exact ⟨rfl, HB2.out⟩
  · rw [if_neg h0]
    obtain ⟨k, hkk⟩ : ∃ k, k = pcV l := ⟨_, rfl⟩
    rw [← hkk] at HC h0 ⊢
    have hk0 : (k == 0) = false := by rw [beq_eq_false_iff_ne]; exact h0
    have hk1 : (k != 0) = true := by unfold bne; rw [hk0]; rfl
    clear hkk hA h0 hlen hB
    go_enter Try.func20, Try.ntmps20
    go_wp2_with (go_at_call 43; ((with_reducible refine HC.out.mono ?_); rintro e1 w1 ⟨rfl, hb1⟩); have HB1 := hid hb1; clear hb1)
    go_ret2
    exact ⟨rfl, HB1.out⟩
end Go.Proofs.Ytgbihaliiogboaa

/- Slices of numbers: copied out of the law's arguments, marked. -/
namespace Go.Proofs.Ytgbihaliiogboaa
open Go.RowKit
set_option linter.unusedSimpArgs false
set_option linter.unusedVariables false

theorem OwI.sli {lo hi : Nat} {w : World} {A : Option Addr} {n c : Nat} {l : List Int} (h : OwI lo hi w (.slice A n c) l) : SlI w A l := fun j p hj => by
  obtain ⟨b, c', e, _, _, h1, h2, _⟩ := h.cells hj
  obtain ⟨rfl, _, _⟩ : A = some ⟨b, 0, none⟩ ∧ n = l.length ∧ c = c' := by simpa using e
  exact ⟨b, 0, rfl, h1, by rw [Nat.zero_add]; exact h2⟩
theorem OwJ.sli {lo hi : Nat} {w : World} {A : Option Addr} {n c : Nat} {l : List Int} (h : OwJ lo hi w (.slice A n c) l) : SlI w A l := h.1.sli
theorem OwJ.alloc {lo hi : Nat} {w : World} {v : Value} {l : List Int} (h : OwJ lo hi w v l) (o : Obj) : OwJ lo hi (w.alloc o) v l := h.below ((Below.refl _ w).alloc (Nat.le_refl _) o)
theorem OwJ.lo {lo lo' hi : Nat} {w : World} {v : Value} {l : List Int} (h : OwJ lo hi w v l) (hl : lo' ≤ lo) : OwJ lo' hi w v l := by
  obtain ⟨⟨A, c, rfl, h⟩, h2, h3⟩ := h
  exact ⟨⟨A, c, rfl, fun hl => by obtain ⟨b, cs, h1, h2, h3, h4⟩ := h hl; exact ⟨b, cs, h1, by omega, by omega, h4⟩⟩, by omega, h3⟩
theorem OwJ.outS {lo hi lo' hi' : Nat} {w w' : World} {v : Value} {l : List Int} (h : OwJ lo hi w v l) (hO : OutS lo' hi' w w') (hd : hi ≤ lo' ∨ hi' ≤ lo) : OwJ lo hi w' v l := by
  obtain ⟨⟨A, c, rfl, h⟩, h2, h3⟩ := h
  refine ⟨⟨A, c, rfl, fun hl => ?_⟩, h2, Nat.le_trans h3 hO.size⟩
  obtain ⟨b, cs, r1, r2, r3, r4, r5⟩ := h hl
  exact ⟨b, cs, r1, r2, r3, hO.keep r4 (by omega), r5⟩
theorem OwI.hi {lo hi lo' hi' : Nat} {w : World} {v : Value} {l : List Int} (h : OwI lo hi w v l) (hl : lo' ≤ lo) (hh : hi ≤ hi') : OwI lo' hi' w v l := by
  obtain ⟨A, c, rfl, h⟩ := h
  exact ⟨A, c, rfl, fun hl => by obtain ⟨b, cs, h1, h2, h3, h4⟩ := h hl; exact ⟨b, cs, h1, by omega, by omega, h4⟩⟩
theorem SlI.belowB {B : Nat} {w w' : World} {A : Option Addr} {l : List Int} (h : SlI w A l) (hb : Below B w w') (hB : w.heap.size ≤ B) : SlI w' A l := h.below hb hB
theorem e_Int64S {lo hi lo' hi' : Nat} {v v' : Value} {l : List Int} (hlen : l.length ≤ 1048576) {w : World} (h : OwJ lo hi w v l) (h' : OwJ lo' hi' w v' l) :
    Calls Try.prog 50 #[v, v'] w fun e w' => e = .returned (.bool true) ∧ Below w.heap.size w w' :=
  c_eqInt64S lo hi lo' hi' v v' l (Nat.le_trans hlen (by decide)) w h.1 h'.1 h.2.2 h'.2.2
set_option maxRecDepth 100000 in
theorem m_Int64S {lo hi : Nat} {v : Value} {l : List Int} {m : Int} (hm : 0 ≤ m ∧ m ≤ 1000000000) (hlen : l.length ≤ 1048576) {w : World} (h : OwJ lo hi w v l) :
    Calls Try.prog 51 #[v, .int .i64 m] w fun e w' => e = .returned (.int .i64 (m + l.length)) ∧ Below lo w w' ∧ OutS lo hi w w' ∧ OwJ lo hi w' v (mkI l m l.length) := by
  have h2 := h.2
  have h0 := h.1
  obtain ⟨⟨A, c, rfl, _⟩, _, _⟩ := h
  go_enter Try.func51, Try.ntmps51
  go_wp2_with fail
  go_loopw [1, 5] (fun q i wr => ∃ k : Nat, k ≤ l.length ∧ i = .int .i64 k ∧ q = .int .i64 (m + k) ∧ Hid (Below lo w wr) ∧ Hid (OutS lo hi w wr) ∧ Hid (OwI lo hi wr (.slice A l.length c) (mkI l m k))) (fun _ i _ => l.length - (intOf i).toNat)
  case atStart => exact ⟨0, by omega, rfl, by simp, Below.refl _ _, OutS.refl _ _ _, by rw [mkI_zero]; exact h0⟩
  case round =>
    obtain ⟨k, hk, rfl, rfl, hb, hOut, hO⟩ := hrel
    by_cases hkl : k < l.length
    · have hd : decide ((k : Int) < (l.length : Int)) = true := decide_eq_true (by omega)
      have hkI : (k : Int) < (l.length : Int) := by omega
      have hk0 : (0 : Int) ≤ (k : Int) := by omega
      have hkl' : k < (mkI l m k).length := by rw [mkI_len]; exact hkl
      have hp := List.getElem?_eq_getElem hkl'
      obtain ⟨p, hpp⟩ : ∃ p, p = (mkI l m k)[k] := ⟨_, rfl⟩
      rw [← hpp] at hp
      obtain ⟨b, c1, e1, r1, r9, q1, q2, f2⟩ := hO.out.cells hp
      obtain ⟨rfl, _, rfl⟩ : A = some ⟨b, 0, none⟩ ∧ l.length = (mkI l m k).length ∧ c = c1 := by simpa using e1
      have HP : Hid (OwI lo hi (wr.setCell ⟨b, k, none⟩ (.int .i64 (m + k))) (.slice (some ⟨b, 0, none⟩) l.length c) (mkI l m (k + 1))) := by
        have := hO.out
        rw [← mkI_len l m k] at this
        have := OwI.put this hkl' (m + k)
        rw [mkI_step l m k hkl, mkI_len] at this
        exact this
      clear hp hpp e1 h0 hkl'
      go_wp2_with fail
      exact ⟨⟨k + 1, by omega, by go_num, congrArg (Value.int .i64) (by omega), Below.setCell hb.out (p := ⟨b, k, none⟩) r1 _, OutS.setCell hOut.out (a := ⟨b, k, none⟩) _ r1 r9, HP.out⟩, by simp [intOf]; omega⟩
    · obtain rfl : k = l.length := by omega
      have hd : decide ((l.length : Int) < (l.length : Int)) = false := decide_eq_false (by omega)
      go_wp2_with fail
      go_ret
      exact ⟨rfl, hb.out, hOut.out, hO.out, h2.1, Nat.le_trans h2.2 hOut.out.size⟩
set_option maxRecDepth 100000 in
theorem h_Int64S {lo hi : Nat} {v : Value} {l : List Int} {m : Int} (hm : 0 ≤ m ∧ m ≤ 1000000000) (hlen : l.length ≤ 1048576) {w : World} (h : OwJ lo hi w v (mkI l m l.length)) :
    Calls Try.prog 52 #[v, .int .i64 m] w fun e w' => e = .returned (.int .i64 (m + l.length)) ∧ Below w.heap.size w w' := by
  have h0 := hid h.1
  obtain ⟨⟨A, c, rfl, _⟩, _, _⟩ := h
  rw [mkI_len] at h0 ⊢
  go_enter Try.func52, Try.ntmps52
  go_wp2_with fail
  go_loop [1, 5] (fun q i => ∃ k : Nat, k ≤ l.length ∧ i = .int .i64 k ∧ q = .int .i64 (m + k)) (fun _ i => l.length - (intOf i).toNat)
  case atStart => exact ⟨0, by omega, rfl, by simp⟩
  case round =>
    obtain ⟨k, hk, rfl, rfl⟩ := hrel
    by_cases hkl : k < l.length
    · have hd : decide ((k : Int) < (l.length : Int)) = true := decide_eq_true (by omega)
      have hkI : (k : Int) < (l.length : Int) := by omega
      have hk0 : (0 : Int) ≤ (k : Int) := by omega
      have hp : (mkI l m l.length)[k]? = some (m + k) := by rw [mkI_get, if_pos hkl, if_pos hkl]
      obtain ⟨b, c1, e1, r1, _, q1, q2, _⟩ := h0.out.cells hp
      obtain ⟨rfl, _⟩ : A = some ⟨b, 0, none⟩ ∧ c = c1 := by simpa [mkI_len] using e1
      have hne : (m + (k : Int) != m + (k : Int)) = false := by simp
      clear hp e1
      go_wp2_with fail
      exact ⟨⟨k + 1, by omega, by go_num, congrArg (Value.int .i64) (by omega)⟩, by simp [intOf]; omega⟩
    · obtain rfl : k = l.length := by omega
      have hd : decide ((l.length : Int) < (l.length : Int)) = false := decide_eq_false (by omega)
      go_wp2_with fail
      go_ret
      exact ⟨rfl, Below.refl _ _⟩
end Go.Proofs.Ytgbihaliiogboaa

/- Slices of slices of int64: the laws compare, mark and read them. -/
namespace Go.Proofs.Ytgbihaliiogboaa
open Go.RowKit
set_option linter.unusedSimpArgs false
set_option linter.unusedVariables false

def totI (ls : List (List Int)) : Nat := (ls.map List.length).sum
theorem totI_take (ls : List (List Int)) {k : Nat} {l : List Int} (h : ls[k]? = some l) : totI (ls.take (k + 1)) = totI (ls.take k) + l.length := by
  obtain ⟨hk, rfl⟩ := List.getElem?_eq_some_iff.1 h
  unfold totI
  rw [List.take_succ_eq_append_getElem hk, List.map_append, List.sum_append]
  simp
theorem totI_take_le (ls : List (List Int)) (k : Nat) : totI (ls.take k) ≤ totI ls := by
  conv => rhs; rw [← List.take_append_drop k ls]
  unfold totI
  rw [List.map_append, List.sum_append]
  omega
theorem totI_get {ls : List (List Int)} {k : Nat} {l : List Int} (h : ls[k]? = some l) : l.length ≤ totI ls := by
  have := totI_take ls h
  have := totI_take_le ls (k + 1)
  omega
/-- The first k lists marked, from m on. -/
def mkII (ls : List (List Int)) (m : Int) (k : Nat) : List (List Int) := (List.range ls.length).map fun j => if j < k then mkI (ls.getD j []) (m + ((totI (ls.take j) : Nat) : Int)) (ls.getD j []).length else ls.getD j []
theorem mkII_len (ls : List (List Int)) (m : Int) (k : Nat) : (mkII ls m k).length = ls.length := by simp [mkII]
theorem mkII_get (ls : List (List Int)) (m : Int) (k j : Nat) : (mkII ls m k)[j]? = (ls[j]?).map fun l => if j < k then mkI l (m + ((totI (ls.take j) : Nat) : Int)) l.length else l := by
  unfold mkII
  rw [List.getElem?_map]
  by_cases hj : j < ls.length
  · rw [List.getElem?_range hj, List.getElem?_eq_getElem hj]
    simp only [Option.map_some, List.getD_eq_getElem?_getD, List.getElem?_eq_getElem hj, Option.getD_some]
  · rw [List.getElem?_eq_none (by simpa using hj), List.getElem?_eq_none (by omega)]; rfl
theorem mkII_zero (ls : List (List Int)) (m : Int) : mkII ls m 0 = ls := by
  apply List.ext_getElem?
  intro j
  rw [mkII_get]
  cases ls[j]? <;> simp
theorem mkII_step (ls : List (List Int)) (m : Int) {k : Nat} {l : List Int} (h : ls[k]? = some l) : (mkII ls m k).set k (mkI l (m + ((totI (ls.take k) : Nat) : Int)) l.length) = mkII ls m (k + 1) := by
  apply List.ext_getElem?
  intro j
  have hk := (List.getElem?_eq_some_iff.1 h).1
  rw [List.getElem?_set, mkII_get, mkII_get, mkII_len]
  by_cases e : k = j
  · subst e
    rw [if_pos rfl, if_pos hk, h]
    simp
  · rw [if_neg e]
    cases ls[j]? with
    | none => rfl
    | some x =>
      simp only [Option.map_some]
      by_cases h2 : j < k
      · rw [if_pos h2, if_pos (by omega)]
      · rw [if_neg h2, if_neg (by omega)]
/-- A slice of slices: row j lies in block g j, no two in the same, none in the outer slice's. -/
structure IIs (lo hi : Nat) (w : World) (A : Option Addr) (g c : Nat → Nat) (ls : List (List Int)) : Prop where
  out : ∀ j l, ls[j]? = some l → ∃ b cs, A = some ⟨b, 0, none⟩ ∧ lo ≤ b ∧ b < hi ∧ (∀ k, k < ls.length → b ≠ g k) ∧ w.heap[b]? = some (.cells cs 75 (0, 0)) ∧ cs[j]? = some (Value.slice (some ⟨g j, 0, none⟩) l.length (c j))
  row : ∀ j l, ls[j]? = some l → lo ≤ g j ∧ g j < hi ∧ OwJ (g j) (g j + 1) w (.slice (some ⟨g j, 0, none⟩) l.length (c j)) l
  sep : ∀ i j, i < ls.length → j < ls.length → i ≠ j → g i ≠ g j
theorem IIs.below {lo hi B : Nat} {w w' : World} {A : Option Addr} {g c : Nat → Nat} {ls : List (List Int)} (h : IIs lo hi w A g c ls) (hb : Below B w w') (hB : hi ≤ B) : IIs lo hi w' A g c ls :=
  ⟨fun j l hj => by obtain ⟨b, cs, h1, h2, h3, h4, h5, h6⟩ := h.out j l hj; exact ⟨b, cs, h1, h2, h3, h4, block_below hb h5 (by omega), h6⟩,
   fun j l hj => by obtain ⟨h1, h2, h3⟩ := h.row j l hj; exact ⟨h1, h2, h3.below' hb (by omega) hb.size⟩, h.sep⟩
theorem IIs.outS {lo hi lo' hi' : Nat} {w w' : World} {A : Option Addr} {g c : Nat → Nat} {ls : List (List Int)} (h : IIs lo hi w A g c ls) (hO : OutS lo' hi' w w') (hd : hi ≤ lo' ∨ hi' ≤ lo) : IIs lo hi w' A g c ls :=
  ⟨fun j l hj => by obtain ⟨b, cs, h1, h2, h3, h4, h5, h6⟩ := h.out j l hj; exact ⟨b, cs, h1, h2, h3, h4, hO.keep h5 (by omega), h6⟩,
   fun j l hj => by obtain ⟨h1, h2, h3⟩ := h.row j l hj; exact ⟨h1, h2, h3.outS hO (by omega)⟩, h.sep⟩
theorem IIs.put {lo hi : Nat} {w w' : World} {A : Option Addr} {g c : Nat → Nat} {ls : List (List Int)} (h : IIs lo hi w A g c ls) {k : Nat} {l l' : List Int} (hk : ls[k]? = some l) (hO : OutS (g k) (g k + 1) w w')
    (hl : l'.length = l.length) (hn : OwJ (g k) (g k + 1) w' (.slice (some ⟨g k, 0, none⟩) l.length (c k)) l') : IIs lo hi w' A g c (ls.set k l') := by
  have hkl := (List.getElem?_eq_some_iff.1 hk).1
  have len : (ls.set k l').length = ls.length := List.length_set
  have key : ∀ j x, (ls.set k l')[j]? = some x → (j = k ∧ x = l') ∨ (j ≠ k ∧ ls[j]? = some x) := by
    intro j x hj
    rw [List.getElem?_set] at hj
    by_cases e : k = j
    · subst e
      rw [if_pos rfl, if_pos hkl] at hj
      exact .inl ⟨rfl, (Option.some.inj hj).symm⟩
    · rw [if_neg e] at hj
      exact .inr ⟨fun e' => e e'.symm, hj⟩
  refine ⟨?_, ?_, fun i j => by rw [len]; exact h.sep i j⟩
  · intro j x hj
    rw [len]
    rcases key j x hj with ⟨rfl, rfl⟩ | ⟨hne, h0⟩
    · obtain ⟨b, cs, h1, h2, h3, h4, h5, h6⟩ := h.out _ _ hk
      exact ⟨b, cs, h1, h2, h3, h4, hO.keep h5 (by have := h4 _ hkl; omega), by rw [hl]; exact h6⟩
    · obtain ⟨b, cs, h1, h2, h3, h4, h5, h6⟩ := h.out _ _ h0
      exact ⟨b, cs, h1, h2, h3, h4, hO.keep h5 (by have := h4 _ hkl; omega), h6⟩
  · intro j x hj
    rcases key j x hj with ⟨rfl, rfl⟩ | ⟨hne, h0⟩
    · obtain ⟨h1, h2, h3⟩ := h.row _ _ hk
      exact ⟨h1, h2, by rw [hl]; exact hn⟩
    · obtain ⟨h1, h2, h3⟩ := h.row _ _ h0
      exact ⟨h1, h2, h3.outS hO (by have := h.sep j k (List.getElem?_eq_some_iff.1 h0).1 hkl hne; omega)⟩
def OwII (lo hi : Nat) (w : World) (v : Value) (ls : List (List Int)) : Prop := (∃ A n g c, v = .slice A ls.length n ∧ IIs lo hi w A g c ls) ∧ lo ≤ hi ∧ hi ≤ w.heap.size
theorem OwII.below {lo hi : Nat} {w w' : World} {v : Value} {ls : List (List Int)} (h : OwII lo hi w v ls) (hb : Below w.heap.size w w') : OwII lo hi w' v ls := by
  obtain ⟨⟨A, n, g, c, rfl, h1⟩, h2, h3⟩ := h
  exact ⟨⟨A, n, g, c, rfl, h1.below hb h3⟩, h2, Nat.le_trans h3 hb.size⟩
theorem OwII.outS {lo hi lo' hi' : Nat} {w w' : World} {v : Value} {ls : List (List Int)} (h : OwII lo hi w v ls) (hO : OutS lo' hi' w w') (hd : hi ≤ lo' ∨ hi' ≤ lo) : OwII lo hi w' v ls := by
  obtain ⟨⟨A, n, g, c, rfl, h1⟩, h2, h3⟩ := h
  exact ⟨⟨A, n, g, c, rfl, h1.outS hO hd⟩, h2, Nat.le_trans h3 hO.size⟩
/-- What a call that makes such a slice returns. -/
def RetII (w : World) (ls : List (List Int)) (k : Int) (e : Ending) (w' : World) : Prop := ∃ v, e = .returned (.tuple #[v, .int .i64 k]) ∧ Below w.heap.size w w' ∧ OwII w.heap.size w'.heap.size w' v ls
theorem OwII.of {w w' : World} {v : Value} {ls : List (List Int)} (h : OwII w.heap.size w'.heap.size w' v ls) (hb : Below w.heap.size w w') : OwII w.heap.size w'.heap.size w' v ls := h
theorem owii_slc {lo hi : Nat} {w : World} {v : Value} {ls : List (List Int)} (h : OwII lo hi w v ls) : ∃ A c, v = .slice A ls.length c := by
  obtain ⟨⟨A, n, g, c, rfl, h1⟩, h2, h3⟩ := h
  exact ⟨_, _, rfl⟩
theorem OutS.wide {lo hi lo' hi' : Nat} {w w' : World} (h : OutS lo hi w w') (h1 : lo' ≤ lo) (h2 : hi ≤ hi') : OutS lo' hi' w w' := ⟨h.size, fun b hb hr => h.block b hb (by omega)⟩
theorem OutS.of_below {B lo hi : Nat} {w w' : World} (h : Below B w w') (hB : w.heap.size ≤ B) : OutS lo hi w w' := ⟨h.size, fun b hb _ => h.block b (by omega)⟩
end Go.Proofs.Ytgbihaliiogboaa

/- Slices of slices of int64, out of rows of rows. -/
namespace Go.Proofs.Ytgbihaliiogboaa
open Go.RowKit
set_option linter.unusedSimpArgs false
set_option linter.unusedVariables false

def cellsOfI (L : List (List Int)) : List (Nat × List Value) := L.map fun l => (l.length, icells l)
theorem cellsOfI_snoc (L : List (List Int)) (l : List Int) : cellsOfI (L ++ [l]) = cellsOfI L ++ [(l.length, icells l)] := by simp [cellsOfI]
def blkOf : Value → Nat
  | .slice (some a) _ _ => a.block
  | _ => 0
def capOf : Value → Nat
  | .slice _ _ c => c
  | _ => 0
theorem OwII.of_rows {B lo : Nat} {w : World} {v : Value} {vs : List Value} {ls : List (List Int)} (hne : ∀ l ∈ ls, l ≠ []) (ho : w.ownsRow B 75 1 v ls.length vs) (hr : RowsG B 2 1 w v vs (cellsOfI ls)) (hl : lo ≤ B) (hs : lo ≤ w.heap.size) : OwII lo w.heap.size w v ls := by
  obtain ⟨A, n, rfl⟩ := owns_slc ho
  have key : ∀ (j : Nat) (l : List Int), ls[j]? = some l → ∃ (x : Value) (g c : Nat), vs[j]? = some x ∧ x = .slice (some ⟨g, 0, none⟩) l.length c ∧ B ≤ g ∧ g < w.heap.size ∧ OwJ g (g + 1) w x l ∧ Apart x (.slice A ls.length n) := by
    intro j l hj
    have hjl := (List.getElem?_eq_some_iff.1 hj).1
    have hjv : j < vs.length := by have := ho.1; omega
    have hv := List.getElem?_eq_getElem hjv
    have hx : (cellsOfI ls)[j]? = some (l.length, icells l) := by unfold cellsOfI; rw [List.getElem?_map, hj]; rfl
    have hrow := hr.row j _ _ hv hx
    have hP := OwI.of_owns hrow.1
    obtain ⟨A', c', e, h⟩ := hP
    obtain ⟨b, cs, rfl, h1, h2, h3, h4, h5⟩ := h (hne l (List.mem_of_getElem? hj))
    refine ⟨_, b, c', hv, e, h1, h2, ⟨⟨_, c', e, fun _ => ⟨b, cs, rfl, Nat.le_refl _, by omega, h3, h4, h5⟩⟩, by omega, by omega⟩, hrow.2⟩
  refine ⟨⟨A, n, fun j => blkOf (vs.getD j undef), fun j => capOf (vs.getD j undef), rfl, ?_, ?_, ?_⟩, hs, Nat.le_refl _⟩
  · intro j l hj
    obtain ⟨x, g, c, hv, rfl, hB, hg, hq, hap⟩ := key j l hj
    have hjl := (List.getElem?_eq_some_iff.1 hj).1
    have e : vs.getD j undef = .slice (some ⟨g, 0, none⟩) l.length c := by rw [List.getD_eq_getElem?_getD, hv]; rfl
    rcases ho.2 with ⟨hn, h0⟩ | ⟨g', cap, cur, e', hb, hheap, hcap, hmax, hsz, htk⟩
    · omega
    · obtain ⟨rfl, _, rfl⟩ := Value.slice.inj e'
      refine ⟨g', cur, rfl, by omega, block_lt hheap, ?_, hheap, ?_⟩
      · intro k hk
        obtain ⟨y, gy, cy, hvy, rfl, hBy, _, _, hapy⟩ := key k _ (List.getElem?_eq_getElem hk)
        have e2 : vs.getD k undef = .slice (some ⟨gy, 0, none⟩) (ls[k]).length cy := by rw [List.getD_eq_getElem?_getD, hvy]; rfl
        intro hE
        show False
        rw [e2] at hE
        exact hapy gy rfl (by rw [hE]; rfl)
      · rw [e]
        show cur[j]? = some (Value.slice (some ⟨g, 0, none⟩) l.length c)
        rw [← hv, ← htk, List.getElem?_take, if_pos (by omega), Array.getElem?_toList]
  · intro j l hj
    obtain ⟨x, g, c, hv, rfl, hB, hg, hq, hap⟩ := key j l hj
    have e : vs.getD j undef = .slice (some ⟨g, 0, none⟩) l.length c := by rw [List.getD_eq_getElem?_getD, hv]; rfl
    rw [e]
    exact ⟨by show lo ≤ g; omega, hg, hq⟩
  · intro i j hi hj hij
    obtain ⟨x, g, c, hv, rfl, _⟩ := key i _ (List.getElem?_eq_getElem hi)
    obtain ⟨y, gy, cy, hvy, rfl, _⟩ := key j _ (List.getElem?_eq_getElem hj)
    have e : vs.getD i undef = .slice (some ⟨g, 0, none⟩) (ls[i]).length c := by rw [List.getD_eq_getElem?_getD, hv]; rfl
    have e2 : vs.getD j undef = .slice (some ⟨gy, 0, none⟩) (ls[j]).length cy := by rw [List.getD_eq_getElem?_getD, hvy]; rfl
    rw [e, e2]
    intro hE
    exact hr.sep i j _ _ hij hv hvy g rfl (by rw [show g = gy from hE]; rfl)
theorem OwII.nil {lo : Nat} {w : World} {A : Option Addr} {c : Nat} (h : lo ≤ w.heap.size) : OwII lo w.heap.size w (.slice A 0 c) [] :=
  ⟨⟨A, c, fun _ => 0, fun _ => 0, rfl, fun j l hj => by simp at hj, fun j l hj => by simp at hj, fun i j hi => by simp at hi⟩, h, Nat.le_refl _⟩
end Go.Proofs.Ytgbihaliiogboaa

/- PairPieces: the program's and the reference's. -/
namespace Go.Proofs.Ytgbihaliiogboaa
open Go.RowKit
set_option linter.unusedSimpArgs false
set_option linter.unusedVariables false
def pairsI (l : List (Int × Int)) : List (List Int) := (pairL l).map fun p => [p.1, p.2]
theorem pairsI_cells (l : List (Int × Int)) : cellsOfP (pairL l) = cellsOfI (pairsI l) := by
  unfold cellsOfP cellsOfI pairsI
  rw [List.map_map]
  rfl
theorem pairsI_len (l : List (Int × Int)) : (pairsI l).length = (pairL l).length := by simp [pairsI]
theorem pairsI_ne (l : List (Int × Int)) : ∀ x ∈ pairsI l, x ≠ [] := by
  intro x hx
  unfold pairsI at hx
  obtain ⟨p, _, rfl⟩ := List.mem_map.1 hx
  simp
theorem totI_pairs : ∀ ps : List (Int × Int), totI (ps.map fun p => [p.1, p.2]) = 2 * ps.length
  | [] => rfl
  | p :: ps => by
    have := totI_pairs ps
    unfold totI at this ⊢
    simp only [List.map_cons, List.sum_cons, List.length_cons, List.length_nil, this]
    omega
theorem OwII.of_pairs {w w' : World} {v : Value} {vs : List Value} {l : List (Int × Int)} (ho : w'.ownsRow w.heap.size 75 1 v (pairL l).length vs) (hr : RowsG w.heap.size 2 1 w' v vs (cellsOfP (pairL l))) (hs : w.heap.size ≤ w'.heap.size) {B : Nat} (hB : B ≤ w.heap.size) : OwII B w'.heap.size w' v (pairsI l) := by
  rw [pairsI_cells] at hr
  rw [← pairsI_len] at ho
  exact OwII.of_rows (pairsI_ne l) ho hr hB (Nat.le_trans hB hs)
/-- What PairPieces returns. -/
def pairsV (l : List (Int × Int)) : List (List Int) := if pcV l = 0 then pairsI l else []
theorem pairsV_len (l : List (Int × Int)) : (pairsV l).length ≤ 1048576 ∧ totI (pairsV l) ≤ 1048576 := by
  unfold pairsV
  split
  · rename_i h
    have h1 := pairL_len h
    have h2 := (pcV_zero h).1
    rw [pairsI_len]
    unfold pairsI
    rw [totI_pairs]
    omega
  · simp [totI]
set_option maxRecDepth 100000 in
theorem c_PairPieces (A : Option Addr) (c : Nat) (l : List (Int × Int)) (hlen : l.length ≤ 1048576) (w : World) (hA : PairsAt .i8 .i8 w A l) :
    Calls Try.prog 24 #[.slice A l.length c] w (RetII w (pairsV l) (pcV l)) := by
  have HC := hid (c_pCode1 A c l hlen w hA)
  have HA := hid hA
  have HB0 : Hid (Below w.heap.size w (w.alloc (.cells #[.slice A l.length c] 26))) := (Below.refl _ w).alloc (Nat.le_refl _) _
  unfold pairsV
  by_cases h0 : pcV l = 0
  · rw [if_pos h0, h0]
    rw [h0] at HC
    have HT := fun W h => hid (c_pairs A c l (pcV_zero h0).2 (pcV_zero h0).1 W h)
    clear hA h0 hlen
    go_enter Try.func24, Try.ntmps24
    go_wp2_with (first
      | (go_at_call 46; ((with_reducible refine HC.out.mono ?_); rintro e1 w1 ⟨rfl, hb1⟩); have HB1 := hid (HB0.out.trans (hb1.mono HB0.out.size)); clear hb1)
      | (go_at_call 49; ((with_reducible refine (HT _ (HA.out.below HB1.out (Nat.le_refl _))).out.mono ?_); rintro e2 w2 ⟨v, vs, rfl, hb2, hr2, hg2⟩); have HB2 := hid (HB1.out.trans (hb2.mono HB1.out.size)); have HO2 := hid (OwII.of_pairs hr2 hg2 hb2.size HB1.out.size); clear hb2 hr2 hg2))
    go_ret2
    exact ⟨_, rfl, HB2.out, HO2.out⟩
  · rw [if_neg h0]
    obtain ⟨k, hkk⟩ : ∃ k, k = pcV l := ⟨_, rfl⟩
    rw [← hkk] at HC h0 ⊢
    have hk0 : (k == 0) = false := by rw [beq_eq_false_iff_ne]; exact h0
    have hk1 : (k != 0) = true := by unfold bne; rw [hk0]; rfl
    clear hkk hA h0 hlen
    go_enter Try.func24, Try.ntmps24
    go_wp2_with (go_at_call 46; ((with_reducible refine HC.out.mono ?_); rintro e1 w1 ⟨rfl, hb1⟩); have HB1 := hid (HB0.out.trans (hb1.mono HB0.out.size)); clear hb1)
    go_ret2
    exact ⟨_, rfl, HB1.out, OwII.nil HB1.out.size⟩
set_option maxRecDepth 100000 in
theorem c_sPairPieces (A : Option Addr) (c : Nat) (l : List (Int × Int)) (hB : ∀ p ∈ l, (-128 ≤ p.1 ∧ p.1 ≤ 127) ∧ (-128 ≤ p.2 ∧ p.2 ≤ 127)) (hlen : l.length ≤ 1048576) (w : World) (hA : PairsAt .i8 .i8 w A l) :
    Calls Try.prog 23 #[.slice A l.length c] w (RetII w (pairsV l) (pcV l)) := by
  have HC := hid (c_l05Asked A c l hB hlen w hA)
  have HA := hid hA
  unfold pairsV
  by_cases h0 : pcV l = 0
  · rw [if_pos h0, h0]
    rw [h0] at HC
    have HT := fun W h => hid (c_l05Pairs A c l (pcV_zero h0).2 (by have := (pcV_zero h0).1; omega) W h)
    clear hA h0 hlen hB
    go_enter Try.func23, Try.ntmps23
    go_wp2_with (first
      | (go_at_call 43; ((with_reducible refine HC.out.mono ?_); rintro e1 w1 ⟨rfl, hb1⟩); have HB1 := hid hb1; clear hb1)
      | (go_at_call 48; ((with_reducible refine (HT _ (HA.out.below HB1.out (Nat.le_refl _))).out.mono ?_); rintro e2 w2 ⟨v, vs, rfl, hb2, hr2, hg2⟩); have HB2 := hid (HB1.out.trans (hb2.mono HB1.out.size)); have HO2 := hid (OwII.of_pairs hr2 hg2 hb2.size HB1.out.size); clear hb2 hr2 hg2))
    go_ret2
    exact ⟨_, rfl, HB2.out, HO2.out⟩
  · rw [if_neg h0]
    obtain ⟨k, hkk⟩ : ∃ k, k = pcV l := ⟨_, rfl⟩
    rw [← hkk] at HC h0 ⊢
    have hk0 : (k == 0) = false := by rw [beq_eq_false_iff_ne]; exact h0
    have hk1 : (k != 0) = true := by unfold bne; rw [hk0]; rfl
    clear hkk hA h0 hlen hB
    go_enter Try.func23, Try.ntmps23
    go_wp2_with (go_at_call 43; ((with_reducible refine HC.out.mono ?_); rintro e1 w1 ⟨rfl, hb1⟩); have HB1 := hid hb1; clear hb1)
    go_ret2
    exact ⟨_, rfl, HB1.out.alloc HB1.out.size _, OwII.nil (HB1.out.alloc HB1.out.size _).size⟩
end Go.Proofs.Ytgbihaliiogboaa

/- slices.Concat over pieces. -/
namespace Go.Proofs.Ytgbihaliiogboaa
open Go.RowKit
set_option linter.unusedSimpArgs false
set_option linter.unusedVariables false

/-- Slices of pieces lie at A, one after another. -/
def RowsC (w : World) (A : Option Addr) (L : List (List (Int × Int))) : Prop := ∀ j l, L[j]? = some l → ∃ b off A' c', A = some ⟨b, off, none⟩ ∧ b < w.heap.size ∧ w.cell? ⟨b, off + j, none⟩ = some (.slice A' l.length c') ∧ PairsAt .i8 .i8 w A' l
theorem RowsC.below {B : Nat} {w w' : World} {A : Option Addr} {L : List (List (Int × Int))} (h : RowsC w A L) (hb : Below B w w') (hB : w.heap.size ≤ B) : RowsC w' A L := fun j l hj => by
  obtain ⟨b, off, A', c', e, h1, h2, h3⟩ := h j l hj
  exact ⟨b, off, A', c', e, Nat.lt_of_lt_of_le h1 hb.size, (hb.cell (p := ⟨b, _, none⟩) (by show b < B; omega)).trans h2, h3.below hb hB⟩
theorem flat_succ {α : Type} (L : List (List α)) (k : Nat) (hk : k < L.length) : (L.take (k + 1)).flatten = (L.take k).flatten ++ L[k] := by
  rw [List.take_succ_eq_append_getElem hk, List.flatten_append]; simp
theorem flat_le {α : Type} (L : List (List α)) (k : Nat) : (L.take k).flatten.length ≤ L.flatten.length := by
  conv => rhs; rw [← List.take_append_drop k L]
  rw [List.flatten_append, List.length_append]; omega
theorem ccells_app (l l' : List (Int × Int)) : ccells (l ++ l') = ccells l ++ ccells l' := by simp [ccells]
theorem ccells_one (l : List (Int × Int)) : ∀ u ∈ ccells l, u.oneCell' = true := by
  intro u hu
  obtain ⟨p, _, h⟩ := List.mem_flatMap.1 hu
  simp at h
  rcases h with rfl | rfl <;> rfl
theorem ccells_inv (l : List (Int × Int)) : ∀ (j : Nat) (u : Value), (ccells l)[j]? = some u → ∃ (i : Nat) (p : Int × Int), l[i]? = some p ∧ ((j = i * 2 ∧ u = .int .i8 p.1) ∨ (j = i * 2 + 1 ∧ u = .int .i8 p.2)) := by
  intro j u hj
  have hl := (List.getElem?_eq_some_iff.1 hj).1
  rw [ccells_len] at hl
  have hi : j / 2 < l.length := by omega
  have hg := ccells_get l (j / 2) _ (List.getElem?_eq_getElem hi)
  refine ⟨j / 2, l[j / 2], List.getElem?_eq_getElem hi, ?_⟩
  rcases Nat.mod_two_eq_zero_or_one j with h | h
  · left
    have e : j = j / 2 * 2 := by omega
    refine ⟨e, ?_⟩
    rw [e] at hj
    exact Option.some.inj (hj.symm.trans (by simpa using hg.1))
  · right
    have e : j = j / 2 * 2 + 1 := by omega
    refine ⟨e, ?_⟩
    have h2 := hg.2
    rw [← e] at h2
    exact Option.some.inj (hj.symm.trans h2)
theorem addr_add (b off j : Nat) : (⟨b, off, none⟩ : Addr).add j = ⟨b, off + j, none⟩ := by unfold Addr.add; split <;> simp_all
theorem src_of {w : World} {A : Option Addr} {l : List (Int × Int)} (h : PairsAt .i8 .i8 w A l) : ∀ j u, (ccells l)[j]? = some u → ∃ ad : Addr, A = some ad ∧ w.cell? (ad.add j) = some u := by
  intro j u hj
  obtain ⟨i, p, hp, h2⟩ := ccells_inv l j u hj
  obtain ⟨b, off, e, _, h3, h4⟩ := h i p hp
  refine ⟨_, e, ?_⟩
  rw [addr_add]
  rcases h2 with ⟨rfl, rfl⟩ | ⟨rfl, rfl⟩
  · exact h3
  · rw [← Nat.add_assoc]; exact h4
set_option maxHeartbeats 1600000 in
set_option maxRecDepth 100000 in
theorem c_growC (n : Nat) (hn : n ≤ 1000000) (w : World) :
    Calls Try.prog 80 #[.slice none 0 0, .int .i64 n] w fun e w' => ∃ v, e = .returned v ∧ Below w.heap.size w w' ∧ w'.ownsRow w.heap.size 64 2 v 0 [] := by
  by_cases h0 : n = 0
  · subst h0
    go_enter Try.func80, Try.ntmps80
    go_wp2_with fail
    go_ret
    exact ⟨_, rfl, Below.refl _ _, World.ownsRow_nil _ _ _ _⟩
  · obtain ⟨i0, hi, hz0, hz1, hz2⟩ := toPiece_parts
    have hrz : ∀ ty, (Builtin.append_ #[26, 3] ty #[.slice none 0 0, .int .i64 (n : Int)]).run Try.prog w =
        .ok (.slice (some ⟨w.heap.size, 0, none⟩) n (grownCap w n 0 64)) (w.drew.alloc (.cells (Builtin.zeroCells (Value.agg #[.int .i8 0, .int .i8 0]).cells n ++ Builtin.zeroCells (Value.agg #[.int .i8 0, .int .i8 0]).cells (grownCap w n 0 64 - n)) 64)) := fun ty =>
      Lib.run_append_nil_zeros w 26 3 ty 64 i0 _ .i64 .i64 Try.underlying26 Try.underlying3 hi hz0 n (by omega) (by rw [hz1]; decide) (by omega) (by rw [hz2]; omega)
    have h1 : ¬ ((n : Int) < 0) := by omega
    have h4 : (n : Int) > 0 := by omega
    go_enter Try.func80, Try.ntmps80
    go_wp2_with (at_builtin; refine Lib.wpList_append_run _ rfl _ _ _ _ rfl _ _ rfl rfl _ _ (hrz _) ?_)
    have hG : n ≤ grownCap w n 0 64 := grownCap_ge w _ _ _
    have hM : grownCap w n 0 64 ≤ maxLen := grownCap_le_maxLen w n 0 64 (by unfold maxLen; omega)
    go_ret
    refine ⟨_, rfl, ((Below.refl _ w).alloc (Nat.le_refl _) _).drew, by simp, .inr ⟨w.heap.size, _, _, rfl, Nat.le_refl _, block_new1 w _ rfl, Nat.zero_le _, hM, ?_, by simp⟩⟩
    rw [Array.size_append, size_zeroCells, size_zeroCells]
    simp only [List.size_toArray, List.length_cons, List.length_nil]
    omega
set_option maxHeartbeats 1600000 in
set_option maxRecDepth 100000 in
theorem c_concatC (A : Option Addr) (c : Nat) (L : List (List (Int × Int))) (hL : L.length ≤ 1000000) (hF : L.flatten.length ≤ 1000000) (w : World) (hA : RowsC w A L) :
    Calls Try.prog 62 #[.slice A L.length c] w fun e w' => ∃ v, e = .returned v ∧ Below w.heap.size w w' ∧ w'.ownsRow w.heap.size 64 2 v L.flatten.length (ccells L.flatten) := by
  obtain ⟨i0, hi, hz0, hz1, hz2⟩ := toPiece_parts
  have HA := hid hA
  have HF := hid hF
  clear hA hF
  go_enter Try.func62, Try.ntmps62
  go_wp2_with fail
  go_loop [3, 11] (fun s i => ∃ k : Nat, k ≤ L.length ∧ i = .int .i64 k ∧ s = .int .i64 ((L.take k).flatten.length : Int)) (fun _ i => L.length - (intOf i).toNat)
  case atStart => exact ⟨0, by omega, rfl, by simp⟩
  case round =>
    obtain ⟨k, hk, rfl, rfl⟩ := hrel
    have hle := flat_le L k
    have hf := HF.out
    by_cases hkl : k < L.length
    · have hd : decide ((k : Int) < (L.length : Int)) = true := decide_eq_true (by omega)
      have hkI : (k : Int) < (L.length : Int) := by omega
      have hk0 : (0 : Int) ≤ (k : Int) := by omega
      have hle2 := flat_le L (k + 1)
      have hfs : ((L.take (k + 1)).flatten.length : Int) = ((L.take k).flatten.length : Int) + (L[k].length : Int) := by rw [flat_succ L k hkl, List.length_append]; simp
      obtain ⟨b, off, A', c', rfl, r1, r2, _⟩ := HA.out k _ (List.getElem?_eq_getElem hkl)
      obtain ⟨q, hq⟩ : ∃ q, q = (L.take k).flatten.length := ⟨_, rfl⟩
      obtain ⟨m, hm⟩ : ∃ m, m = L[k].length := ⟨_, rfl⟩
      rw [← hm] at r2 hfs
      rw [← hq] at hle hfs ⊢
      have HFS := hid hfs
      have hqm : q + m ≤ 1000000 := by omega
      have hneg : ¬ ((q : Int) + (m : Int) < 0) := by omega
      clear hfs hq hm hle2 hle hf
      go_wp2_with fail
      exact ⟨⟨k + 1, by omega, by go_num, congrArg (Value.int .i64) (by rw [HFS.out])⟩, by simp [intOf]; omega⟩
    · obtain rfl : k = L.length := by omega
      have hd : decide ((L.length : Int) < (L.length : Int)) = false := decide_eq_false (by omega)
      rw [List.take_length]
      obtain ⟨N, hN⟩ : ∃ N, N = L.flatten.length := ⟨_, rfl⟩
      rw [← hN]
      have HN := hid hN
      have HG := hid (c_growC N (by omega) w)
      clear hN hle hf
      go_wp2_with (go_at_call 80; ((with_reducible refine HG.out.mono ?_); rintro e w1 ⟨v, rfl, hb1, ho1⟩))
      have HB1 := hid hb1
      have HO1 := hid ho1
      clear hb1 ho1
      go_loopw [6, 27] (fun v i wr => ∃ k : Nat, k ≤ L.length ∧ i = .int .i64 k ∧ Hid (Below w.heap.size w wr) ∧ Hid (wr.ownsRow w.heap.size 64 2 v (L.take k).flatten.length (ccells (L.take k).flatten))) (fun _ i _ => L.length - (intOf i).toNat)
      case atStart => exact ⟨0, by omega, rfl, HB1, HO1⟩
      case round =>
        obtain ⟨k, hk, rfl, hb, hO⟩ := hrel
        by_cases hkl : k < L.length
        · have hd : decide ((k : Int) < (L.length : Int)) = true := decide_eq_true (by omega)
          have hkI : (k : Int) < (L.length : Int) := by omega
          have hk0 : (0 : Int) ≤ (k : Int) := by omega
          have hle := flat_le L (k + 1)
          have hfs := flat_succ L k hkl
          have hfl : (L.take k).flatten.length + L[k].length ≤ 1000000 := by rw [hfs, List.length_append] at hle; have := HF.out; omega
          obtain ⟨b, off, A', c', e0, r1, r2, hPA⟩ := HA.out.below hb.out (Nat.le_refl _) k _ (List.getElem?_eq_getElem hkl)
          subst e0
          obtain ⟨x, hx⟩ : ∃ x, x = L[k] := ⟨_, rfl⟩
          rw [← hx] at r2 hfs hfl hPA
          have HFS := hid hfs
          have HFL : Hid ((L.take k).flatten.length + x.length ≤ 1000000) := hfl
          have HPA := hid hPA
          have HS2 := hid hb.out.size
          clear hfs hx hle hfl hPA
          go_wp2_with ((with_reducible refine gate (N := 33) rfl ?_); go_loud (refine wpList_append_many rfl (.tmp 31) (.tmp 32) 26 rfl w.heap.size 64 i0 (.agg #[.int .i8 0, .int .i8 0]) 2 2 Try.underlying26 hi hz0 hz1 hz2 rfl (by decide) (by decide) _ _ _ hO.out rfl A' x.length c' (ccells x) (ccells_len x) (fun j u hu => src_of HPA.out j u hu) (ccells_one x) rfl (Nat.le_trans HFL.out (by decide)) HS2.out ?_; intro v' w3 hown hg))
          refine ⟨⟨k + 1, by omega, by go_num, hb.out.trans (hg.below w.heap.size (fun g hg' => (hO.out.lt g hg').1) HS2.out), ?_⟩, by simp [intOf]; omega⟩
          show World.ownsRow _ _ _ _ _ _ _
          rw [HFS.out, List.length_append, ccells_app]
          exact hown
        · obtain rfl : k = L.length := by omega
          have hd : decide ((L.length : Int) < (L.length : Int)) = false := decide_eq_false (by omega)
          rw [List.take_length] at hO
          go_wp2_with fail
          go_ret
          exact ⟨_, rfl, hb.out, by rw [HN.out]; exact hO.out⟩
end Go.Proofs.Ytgbihaliiogboaa

/- One piece more. -/
namespace Go.Proofs.Ytgbihaliiogboaa
open Go.RowKit
set_option linter.unusedSimpArgs false
set_option linter.unusedVariables false
/-- One piece more. -/
theorem wp_app1C {ops : Array Oper} {rest : List Oper} {o : Oper} {a : Act} {W : World} {Q : Exit → Act → World → Prop} (hgd : o.guard = none) (s x : Operand)
    (ho : o.op = .call { callee := .builtin .append, args := #[s, x], argTypes := #[26, 26] })
    (B : Nat) (v : Value) (l : List (Int × Int)) (p1 p2 : Int) (hO : W.ownsRow B 64 2 v l.length (ccells l)) (hs : a.eval s = v) (H : Nat) (hx : a.eval x = .slice (some ⟨H, 0, none⟩) 1 1) (hn : l.length ≤ 1100000) (hB : B ≤ W.heap.size) (hH : W.heap.size = H)
    (h : ∀ v' w', w'.ownsRow B 64 2 v' (l ++ [(p1, p2)]).length (ccells (l ++ [(p1, p2)])) → Grew v v' W w' → wpList Try.prog ops Q rest (a.put o.dst v') w') : wpList Try.prog ops Q (o :: rest) a (W.alloc (.cells #[.int .i8 p1, .int .i8 p2] 64)) := by
  obtain ⟨i0, hi, hz0, hz1, hz2⟩ := toPiece_parts
  refine wpList_append_row hgd s x 26 ho B 64 i0 (.agg #[.int .i8 0, .int .i8 0]) 2 2 Try.underlying26 hi hz0 hz1 hz2 rfl (by decide) (by decide) v l.length (ccells l) hs hO #[.int .i8 p1, .int .i8 p2] rfl (by simp [Value.oneCell']) H hx hn hB hH _ ?_
  intro v' w' h1 h2
  refine h v' w' ?_ h2
  rw [ccells_app, List.length_append]
  exact h1
end Go.Proofs.Ytgbihaliiogboaa

/- slices.Concat, slices.Index, slices.Contains over int64. -/
namespace Go.Proofs.Ytgbihaliiogboaa
open Go.RowKit
set_option linter.unusedSimpArgs false
set_option linter.unusedVariables false
/-- Slices of pieces lie at A, one after another. -/
def RowsI (w : World) (A : Option Addr) (L : List (List Int)) : Prop := ∀ j l, L[j]? = some l → ∃ b off A' c', A = some ⟨b, off, none⟩ ∧ b < w.heap.size ∧ w.cell? ⟨b, off + j, none⟩ = some (.slice A' l.length c') ∧ SlI w A' l
theorem RowsI.below {B : Nat} {w w' : World} {A : Option Addr} {L : List (List Int)} (h : RowsI w A L) (hb : Below B w w') (hB : w.heap.size ≤ B) : RowsI w' A L := fun j l hj => by
  obtain ⟨b, off, A', c', e, h1, h2, h3⟩ := h j l hj
  exact ⟨b, off, A', c', e, Nat.lt_of_lt_of_le h1 hb.size, (hb.cell (p := ⟨b, _, none⟩) (by show b < B; omega)).trans h2, h3.below hb hB⟩
theorem icells_app (l l' : List Int) : icells (l ++ l') = icells l ++ icells l' := by simp [icells]
theorem icells_one (l : List Int) : ∀ u ∈ icells l, u.oneCell' = true := by
  intro u hu
  unfold icells at hu
  obtain ⟨p, _, rfl⟩ := List.mem_map.1 hu
  rfl
theorem srcI_of {w : World} {A : Option Addr} {l : List Int} (h : SlI w A l) : ∀ j u, (icells l)[j]? = some u → ∃ ad : Addr, A = some ad ∧ w.cell? (ad.add j) = some u := by
  intro j u hj
  unfold icells at hj
  rw [List.getElem?_map] at hj
  obtain ⟨n, hn, rfl⟩ := Option.map_eq_some_iff.1 hj
  obtain ⟨b, off, e, _, h3⟩ := h j n hn
  exact ⟨_, e, by rw [addr_add]; exact h3⟩
theorem Try.infoI64o : (Try.prog.info? 2).map (fun i => (i.zero, i.size, i.bytes)) = some (some (.int .i64 0), 1, 8) := by kernel_rfl
set_option maxHeartbeats 1600000 in
set_option maxRecDepth 100000 in
theorem c_growI (n : Nat) (hn : n ≤ 1000000) (w : World) :
    Calls Try.prog 76 #[.slice none 0 0, .int .i64 n] w fun e w' => ∃ v, e = .returned v ∧ Below w.heap.size w w' ∧ w'.ownsRow w.heap.size 2 1 v 0 [] := by
  by_cases h0 : n = 0
  · subst h0
    go_enter Try.func76, Try.ntmps76
    go_wp2_with fail
    go_ret
    exact ⟨_, rfl, Below.refl _ _, World.ownsRow_nil _ _ _ _⟩
  · obtain ⟨i0, hi, hz0, hz1, hz2⟩ := info_parts Try.infoI64o
    have hrz : ∀ ty, (Builtin.append_ #[75, 3] ty #[.slice none 0 0, .int .i64 (n : Int)]).run Try.prog w =
        .ok (.slice (some ⟨w.heap.size, 0, none⟩) n (grownCap w n 0 2)) (w.drew.alloc (.cells (Builtin.zeroCells (Value.int .i64 0).cells n ++ Builtin.zeroCells (Value.int .i64 0).cells (grownCap w n 0 2 - n)) 2)) := fun ty =>
      Lib.run_append_nil_zeros w 75 3 ty 2 i0 _ .i64 .i64 Try.underlying75 Try.underlying3 hi hz0 n (by omega) (by rw [hz1]; decide) (by omega) (by rw [hz2]; omega)
    have h1 : ¬ ((n : Int) < 0) := by omega
    have h4 : (n : Int) > 0 := by omega
    go_enter Try.func76, Try.ntmps76
    go_wp2_with (at_builtin; refine Lib.wpList_append_run _ rfl _ _ _ _ rfl _ _ rfl rfl _ _ (hrz _) ?_)
    have hG : n ≤ grownCap w n 0 2 := grownCap_ge w _ _ _
    have hM : grownCap w n 0 2 ≤ maxLen := grownCap_le_maxLen w n 0 2 (by unfold maxLen; omega)
    go_ret
    refine ⟨_, rfl, ((Below.refl _ w).alloc (Nat.le_refl _) _).drew, by simp, .inr ⟨w.heap.size, _, _, rfl, Nat.le_refl _, block_new1 w _ rfl, Nat.zero_le _, hM, ?_, by simp⟩⟩
    rw [Array.size_append, size_zeroCells, size_zeroCells]
    simp only [List.size_toArray, List.length_cons, List.length_nil]
    omega
set_option maxHeartbeats 1600000 in
set_option maxRecDepth 100000 in
theorem c_concatI (A : Option Addr) (c : Nat) (L : List (List Int)) (hL : L.length ≤ 1000000) (hF : L.flatten.length ≤ 1000000) (w : World) (hA : RowsI w A L) :
    Calls Try.prog 53 #[.slice A L.length c] w fun e w' => ∃ v, e = .returned v ∧ Below w.heap.size w w' ∧ w'.ownsRow w.heap.size 2 1 v L.flatten.length (icells L.flatten) := by
  obtain ⟨i0, hi, hz0, hz1, hz2⟩ := info_parts Try.infoI64o
  have HA := hid hA
  have HF := hid hF
  clear hA hF
  go_enter Try.func53, Try.ntmps53
  go_wp2_with fail
  go_loop [3, 11] (fun s i => ∃ k : Nat, k ≤ L.length ∧ i = .int .i64 k ∧ s = .int .i64 ((L.take k).flatten.length : Int)) (fun _ i => L.length - (intOf i).toNat)
  case atStart => exact ⟨0, by omega, rfl, by simp⟩
  case round =>
    obtain ⟨k, hk, rfl, rfl⟩ := hrel
    have hle := flat_le L k
    have hf := HF.out
    by_cases hkl : k < L.length
    · have hd : decide ((k : Int) < (L.length : Int)) = true := decide_eq_true (by omega)
      have hkI : (k : Int) < (L.length : Int) := by omega
      have hk0 : (0 : Int) ≤ (k : Int) := by omega
      have hle2 := flat_le L (k + 1)
      have hfs : ((L.take (k + 1)).flatten.length : Int) = ((L.take k).flatten.length : Int) + (L[k].length : Int) := by rw [flat_succ L k hkl, List.length_append]; simp
      obtain ⟨b, off, A', c', rfl, r1, r2, _⟩ := HA.out k _ (List.getElem?_eq_getElem hkl)
      obtain ⟨q, hq⟩ : ∃ q, q = (L.take k).flatten.length := ⟨_, rfl⟩
      obtain ⟨m, hm⟩ : ∃ m, m = L[k].length := ⟨_, rfl⟩
      rw [← hm] at r2 hfs
      rw [← hq] at hle hfs ⊢
      have HFS := hid hfs
      have hqm : q + m ≤ 1000000 := by omega
      have hneg : ¬ ((q : Int) + (m : Int) < 0) := by omega
      clear hfs hq hm hle2 hle hf
      go_wp2_with fail
      exact ⟨⟨k + 1, by omega, by go_num, congrArg (Value.int .i64) (by rw [HFS.out])⟩, by simp [intOf]; omega⟩
    · obtain rfl : k = L.length := by omega
      have hd : decide ((L.length : Int) < (L.length : Int)) = false := decide_eq_false (by omega)
      rw [List.take_length]
      obtain ⟨N, hN⟩ : ∃ N, N = L.flatten.length := ⟨_, rfl⟩
      rw [← hN]
      have HN := hid hN
      have HG := hid (c_growI N (by omega) w)
      clear hN hle hf
      go_wp2_with (go_at_call 76; ((with_reducible refine HG.out.mono ?_); rintro e w1 ⟨v, rfl, hb1, ho1⟩))
      have HB1 := hid hb1
      have HO1 := hid ho1
      clear hb1 ho1
      go_loopw [6, 27] (fun v i wr => ∃ k : Nat, k ≤ L.length ∧ i = .int .i64 k ∧ Hid (Below w.heap.size w wr) ∧ Hid (wr.ownsRow w.heap.size 2 1 v (L.take k).flatten.length (icells (L.take k).flatten))) (fun _ i _ => L.length - (intOf i).toNat)
      case atStart => exact ⟨0, by omega, rfl, HB1, HO1⟩
      case round =>
        obtain ⟨k, hk, rfl, hb, hO⟩ := hrel
        by_cases hkl : k < L.length
        · have hd : decide ((k : Int) < (L.length : Int)) = true := decide_eq_true (by omega)
          have hkI : (k : Int) < (L.length : Int) := by omega
          have hk0 : (0 : Int) ≤ (k : Int) := by omega
          have hle := flat_le L (k + 1)
          have hfs := flat_succ L k hkl
          have hfl : (L.take k).flatten.length + L[k].length ≤ 1000000 := by rw [hfs, List.length_append] at hle; have := HF.out; omega
          obtain ⟨b, off, A', c', e0, r1, r2, hPA⟩ := HA.out.below hb.out (Nat.le_refl _) k _ (List.getElem?_eq_getElem hkl)
          subst e0
          obtain ⟨x, hx⟩ : ∃ x, x = L[k] := ⟨_, rfl⟩
          rw [← hx] at r2 hfs hfl hPA
          have HFS := hid hfs
          have HFL : Hid ((L.take k).flatten.length + x.length ≤ 1000000) := hfl
          have HPA := hid hPA
          have HS2 := hid hb.out.size
          clear hfs hx hle hfl hPA
          go_wp2_with ((with_reducible refine gate (N := 33) rfl ?_); go_loud (refine wpList_append_many rfl (.tmp 31) (.tmp 32) 75 rfl w.heap.size 2 i0 (.int .i64 0) 1 8 Try.underlying75 hi hz0 hz1 hz2 rfl (by decide) (by decide) _ _ _ hO.out rfl A' x.length c' (icells x) (by simp [icells]) (fun j u hu => srcI_of HPA.out j u hu) (icells_one x) rfl (Nat.le_trans HFL.out (by decide)) HS2.out ?_; intro v' w3 hown hg))
          refine ⟨⟨k + 1, by omega, by go_num, hb.out.trans (hg.below w.heap.size (fun g hg' => (hO.out.lt g hg').1) HS2.out), ?_⟩, by simp [intOf]; omega⟩
          show World.ownsRow _ _ _ _ _ _ _
          rw [HFS.out, List.length_append, icells_app]
          exact hown
        · obtain rfl : k = L.length := by omega
          have hd : decide ((L.length : Int) < (L.length : Int)) = false := decide_eq_false (by omega)
          rw [List.take_length] at hO
          go_wp2_with fail
          go_ret
          exact ⟨_, rfl, hb.out, by rw [HN.out]; exact hO.out⟩
/-- A number found in a list: its index. -/
theorem c_indexI (A : Option Addr) (cc : Nat) (l : List Int) (hlen : l.length ≤ 1000000) (x : Int) (w : World) (hA : SlI w A l) :
    Calls Try.prog 77 #[.slice A l.length cc, .int .i64 x] w fun e w' => ∃ n : Int, e = .returned (.int .i64 n) ∧ w' = w ∧ (0 ≤ n ↔ x ∈ l) := by
  have HA := hid hA; clear hA
  go_enter Try.func77, Try.ntmps77
  go_wp2_with fail
  go_loop [8] (fun i => ∃ k : Nat, k ≤ l.length ∧ i = .int .i64 k ∧ Hid (∀ j, j < k → l[j]? ≠ some x)) (fun i => l.length - (intOf i).toNat)
  case atStart => exact ⟨0, by omega, rfl, fun j h => by omega⟩
  case round =>
    obtain ⟨k, hk, rfl, hno⟩ := hrel
    by_cases hkl : k < l.length
    · have hd : decide ((k : Int) < (l.length : Int)) = true := decide_eq_true (by omega)
      have hkI : (k : Int) < (l.length : Int) := by omega
      have hk0 : (0 : Int) ≤ (k : Int) := by omega
      have hp := List.getElem?_eq_getElem hkl
      obtain ⟨q, hq⟩ : ∃ q, q = l[k] := ⟨_, rfl⟩
      rw [← hq] at hp
      obtain ⟨b, off, rfl, r1, r2⟩ := HA.out k q hp
      have HQ := hid hp
      clear hp hq
      by_cases he : x = q
      · have e1 : (x == q) = true := beq_iff_eq.2 he
        have HE := hid he
        clear he
        go_wp2_with fail
        go_ret
        exact ⟨k, rfl, rfl, ⟨fun _ => by rw [HE.out]; exact List.mem_of_getElem? HQ.out, fun _ => by omega⟩⟩
      · have e1 : (x == q) = false := beq_eq_false_iff_ne.2 he
        have HE := hid he
        clear he
        go_wp2_with fail
        refine ⟨⟨k + 1, by omega, by go_num, fun j hj => ?_⟩, by simp [intOf]; omega⟩
        by_cases e : j = k
        · subst e; rw [HQ.out]; intro h; exact HE.out (Option.some.inj h).symm
        · exact hno.out j (by omega)
    · obtain rfl : k = l.length := by omega
      have hd : decide ((l.length : Int) < (l.length : Int)) = false := decide_eq_false (by omega)
      go_wp2_with fail
      go_ret
      refine ⟨-1, rfl, rfl, ⟨fun h => by omega, fun h => ?_⟩⟩
      obtain ⟨j, hj, e⟩ := List.getElem_of_mem h
      exact absurd (by rw [List.getElem?_eq_getElem hj, e]) (hno.out j hj)
theorem c_containsI (A : Option Addr) (cc : Nat) (l : List Int) (hlen : l.length ≤ 1000000) (x : Int) (w : World) (hA : SlI w A l) :
    Calls Try.prog 54 #[.slice A l.length cc, .int .i64 x] w fun e w' => e = .returned (.bool (decide (x ∈ l))) ∧ w' = w := by
  have HC := hid (c_indexI A cc l hlen x w hA)
  clear hA
  go_enter Try.func54, Try.ntmps54
  go_wp2_with (go_at_call 77; ((with_reducible refine HC.out.mono ?_); rintro e w1 ⟨n, rfl, rfl, hn⟩); have HN := hid hn; clear hn)
  all_goals
    go_ret
    exact ⟨ret_bool (by rw [decide_eq_decide]; exact HN.out), rfl⟩
end Go.Proofs.Ytgbihaliiogboaa

/- OffcutsOf: the program's. -/
namespace Go.Proofs.Ytgbihaliiogboaa
open Go.RowKit
set_option linter.unusedSimpArgs false
set_option linter.unusedVariables false
/-- What is cut off of the first k pieces, those in F not. -/
def offN (l : List (Int × Int)) (F : List Int) : Nat → List (Int × Int)
  | 0 => []
  | k + 1 => if (l.getD k (0, 0)).1 ≠ 2 ∧ (k : Int) ∉ F then offN l F k ++ [(1 - (l.getD k (0, 0)).1, 8 - (l.getD k (0, 0)).2)] else offN l F k
theorem offN_yes {l : List (Int × Int)} {F : List Int} {k : Nat} {p1 p2 : Int} (hp : l[k]? = some (p1, p2)) (h1 : p1 ≠ 2) (h2 : (k : Int) ∉ F) : offN l F (k + 1) = offN l F k ++ [(1 - p1, 8 - p2)] := by
  show (if (l.getD k (0, 0)).1 ≠ 2 ∧ (k : Int) ∉ F then offN l F k ++ [(1 - (l.getD k (0, 0)).1, 8 - (l.getD k (0, 0)).2)] else offN l F k) = _
  rw [List.getD_eq_getElem?_getD, hp]
  exact if_pos ⟨h1, h2⟩
theorem offN_no {l : List (Int × Int)} {F : List Int} {k : Nat} {p1 p2 : Int} (hp : l[k]? = some (p1, p2)) (h : p1 = 2 ∨ (k : Int) ∈ F) : offN l F (k + 1) = offN l F k := by
  show (if (l.getD k (0, 0)).1 ≠ 2 ∧ (k : Int) ∉ F then offN l F k ++ [(1 - (l.getD k (0, 0)).1, 8 - (l.getD k (0, 0)).2)] else offN l F k) = _
  rw [List.getD_eq_getElem?_getD, hp]
  exact if_neg fun h' => by rcases h with h | h; exact h'.1 h; exact h'.2 h
theorem offN_len (l : List (Int × Int)) (F : List Int) : ∀ k, (offN l F k).length ≤ k
  | 0 => Nat.le_refl _
  | k + 1 => by
    have := offN_len l F k
    show (if (l.getD k (0, 0)).1 ≠ 2 ∧ (k : Int) ∉ F then offN l F k ++ [(1 - (l.getD k (0, 0)).1, 8 - (l.getD k (0, 0)).2)] else offN l F k).length ≤ k + 1
    split
    · rw [List.length_append]; simp; omega
    · omega
def offF (l : List (Int × Int)) : List Int := (pairsI l).flatten
theorem offF_len {l : List (Int × Int)} (h : pcV l = 0) : (offF l).length ≤ 60 := by
  have h1 := pairL_len h
  have h2 := (pcV_zero h).1
  have h3 : totI (pairsI l) = 2 * (pairL l).length := totI_pairs _
  unfold offF
  rw [List.length_flatten]
  unfold totI at h3
  omega
/-- What OffcutsOf returns. -/
def offV (l : List (Int × Int)) : List (Int × Int) := if pcV l = 0 then offN l (offF l) l.length else []
theorem offV_len (l : List (Int × Int)) : (offV l).length ≤ 1048576 := by
  unfold offV
  split
  · rename_i h
    have h1 := offN_len l (offF l) l.length
    have h2 := (pcV_zero h).1
    omega
  · simp
def RetCo (w : World) (l : List (Int × Int)) (k : Int) (e : Ending) (w' : World) : Prop := ∃ v, e = .returned (.tuple #[v, .int .i64 k]) ∧ Below w.heap.size w w' ∧ w'.ownsRow w.heap.size 64 2 v l.length (ccells l)
theorem pcV_pc {l : List (Int × Int)} (h : pcV l = 0) : ∀ p ∈ l, (0 ≤ p.1 ∧ p.1 ≤ 2) ∧ (1 ≤ p.2 ∧ p.2 ≤ 7) := by
  intro p hp
  unfold pcV at h
  by_cases h1 : l.all isPc = true
  · have := List.all_eq_true.1 h1 p hp
    unfold isPc inB at this
    simp only [Bool.and_eq_true, decide_eq_true_eq] at this
    omega
  · rw [if_neg h1] at h; cases h
theorem rowsI_of_II {lo hi : Nat} {w : World} {A : Option Addr} {g c : Nat → Nat} {ls : List (List Int)} (h : IIs lo hi w A g c ls) (hh : hi ≤ w.heap.size) : RowsI w A ls := fun j l hj => by
  obtain ⟨b, cs, h1, h2, h3, h4, h5, h6⟩ := h.out j l hj
  obtain ⟨_, _, h7⟩ := h.row j l hj
  exact ⟨b, 0, _, _, h1, by omega, by rw [Nat.zero_add]; exact cell_block h5 h6, h7.sli⟩
set_option maxHeartbeats 1600000 in
set_option maxRecDepth 100000 in
theorem c_OffcutsOf (A : Option Addr) (c : Nat) (l : List (Int × Int)) (hlen : l.length ≤ 1048576) (w : World) (hA : PairsAt .i8 .i8 w A l) :
    Calls Try.prog 29 #[.slice A l.length c] w (RetCo w (offV l) (pcV l)) := by
  have HC := hid (c_pCode1 A c l hlen w hA)
  have HA := hid hA
  have HB0 : Hid (Below w.heap.size w (w.alloc (.cells #[.slice A l.length c] 26))) := (Below.refl _ w).alloc (Nat.le_refl _) _
  unfold offV
  by_cases h0 : pcV l = 0
  · rw [if_pos h0, h0]
    rw [h0] at HC
    have HT := fun W h => hid (c_pairs A c l (pcV_zero h0).2 (pcV_zero h0).1 W h)
    have HPc := hid (pcV_pc h0)
    have hll := (pcV_zero h0).1
    have HFl := hid (offF_len h0)
    have HPl : Hid ((pairsI l).length ≤ 1000000) := by have h1 := pairL_len h0; show _ ≤ _; rw [pairsI_len]; omega
    have HCon := fun A' c' W h => hid (c_concatI A' c' (pairsI l) HPl.out (by have := HFl.out; unfold offF at this; omega) W h)
    have HFe : Hid ((pairsI l).flatten = offF l) := rfl
    obtain ⟨F, hF⟩ : ∃ F, F = offF l := ⟨_, rfl⟩
    rw [← hF] at HFe HFl ⊢
    obtain ⟨P, hP⟩ : ∃ P, P = pairsI l := ⟨_, rfl⟩
    have HPe := hid hP
    rw [← hP] at HCon HPl HFe
    have HLn := hid (offN_len l F)
    clear hA h0 hlen hF hP
    go_enter Try.func29, Try.ntmps29
    go_wp2_with (first
      | (go_at_call 46; ((with_reducible refine HC.out.mono ?_); rintro e1 w1 ⟨rfl, hb1⟩); have HB1 := hid (HB0.out.trans (hb1.mono HB0.out.size)); clear hb1)
      | (go_at_call 49; ((with_reducible refine (HT _ (HA.out.below HB1.out (Nat.le_refl _))).out.mono ?_); rintro e2 w2 ⟨v, vs, rfl, hb2, hr2, hg2⟩); have HB2 := hid (HB1.out.trans (hb2.mono HB1.out.size)); have HO2 := OwII.of_pairs hr2 hg2 hb2.size (Nat.le_refl _); rw [← HPe.out] at HO2; obtain ⟨⟨A2, n2, g2, c2, rfl, hII⟩, _, hhi⟩ := HO2; have HRI := hid (rowsI_of_II hII hhi); clear hb2 hr2 hg2 hII hhi)
      | (go_at_call 53; ((with_reducible refine (HCon _ _ _ HRI.out).out.mono ?_); rintro e3 w3 ⟨v3, rfl, hb3, hr3⟩); have HB3 := hid (HB2.out.trans (hb3.mono HB2.out.size)); rw [HFe.out] at hr3; obtain ⟨A3, c3, rfl⟩ := owns_slc hr3; have HS3 := hid (RowI.sli hr3); clear hb3 hr3))
    go_loopw [6, 20] (fun v i wr => ∃ k : Nat, k ≤ l.length ∧ i = .int .i64 k ∧ Hid (Below w3.heap.size w3 wr) ∧ Hid (wr.ownsRow w3.heap.size 64 2 v (offN l F k).length (ccells (offN l F k)))) (fun _ i _ => l.length - (intOf i).toNat)
    case atStart => exact ⟨0, by omega, rfl, Below.refl _ _, World.ownsRow_nil _ _ _ _⟩
    case round =>
      obtain ⟨k, hk, rfl, hb, hO⟩ := hrel
      have HBw := hid (HB3.out.trans (hb.out.mono HB3.out.size))
      by_cases hkl : k < l.length
      · have d1 : decide ((k : Int) < (l.length : Int)) = true := decide_eq_true (by omega)
        have k0 : (0 : Int) ≤ (k : Int) := by omega
        have k1 : (k : Int) < (l.length : Int) := by omega
        have k2 : (k : Int) ≤ 30 := by omega
        have hp := List.getElem?_eq_getElem hkl
        obtain ⟨⟨p1, p2⟩, hpp⟩ : ∃ p, p = l[k] := ⟨_, rfl⟩
        rw [← hpp] at hp
        have hpc := HPc.out _ (List.mem_of_getElem? hp)
        dsimp only at hpc
        obtain ⟨b, off, rfl, r1, r2, r3⟩ := HA.out k _ hp
        have q1 := (HBw.out.cell (p := ⟨b, _, none⟩) r1).trans r2
        have q2 := (HBw.out.cell (p := ⟨b, _, none⟩) r1).trans r3
        dsimp only at q1 q2
        have HYes := hid (fun h1 h2 => offN_yes (F := F) hp h1 h2)
        have HNo := hid (fun h => offN_no (F := F) hp h)
        have HNB := hid (block_new1 wr (.cells #[.int .i8 p1, .int .i8 p2] 64) rfl)
        have Hbn := hid (hb.out.trans ((Below.refl w3.heap.size wr).alloc hb.out.size (.cells #[.int .i8 p1, .int .i8 p2] 64)))
        have HOn := hid (World.ownsRow.alloc hO.out (.cells #[.int .i8 p1, .int .i8 p2] 64))
        have HSn := hid (HS3.out.below Hbn.out (Nat.le_refl _))
        have HCo := hid (c_containsI A3 c3 F (by have := HFl.out; omega) (k : Int) _ HSn.out)
        have HKL := hid hkl
        have HLk : Hid ((offN l F k).length ≤ 1100000) := by have := HLn.out k; show _ ≤ _; omega
        have HSz := hid Hbn.out.size
        have y0 : (wr.alloc (.cells #[.int .i8 p1, .int .i8 p2] 64)).cell? ⟨wr.heap.size, 0, none⟩ = some (.int .i8 p1) := cell_block HNB.out rfl
        have y1 : (wr.alloc (.cells #[.int .i8 p1, .int .i8 p2] 64)).cell? ⟨wr.heap.size, 1, none⟩ = some (.int .i8 p2) := cell_block HNB.out rfl
        clear hp hpp r2 r3
        by_cases h2 : p1 = 2
        · have HN := hid (HNo.out (.inl h2))
          have e1 : (p1 != 2) = false := by rw [h2]; rfl
          clear h2 HYes HNo hpc
          go_wp2_with fail
          refine ⟨⟨k + 1, by have := HKL.out; omega, by go_num, Hbn.out, by rw [HN.out]; exact HOn.out⟩, by have := HKL.out; simp [intOf]; omega⟩
        · have e1 : (p1 != 2) = true := by unfold bne; rw [beq_eq_false_iff_ne.2 h2]; rfl
          by_cases hin : (k : Int) ∈ F
          · have HN := hid (HNo.out (.inr hin))
            rw [decide_eq_true hin] at HCo
            clear h2 HYes HNo hpc hin
            go_wp2_with (go_at_call 54; ((with_reducible refine HCo.out.mono ?_); rintro e4 w4 ⟨rfl, rfl⟩))
            refine ⟨⟨k + 1, by have := HKL.out; omega, by go_num, Hbn.out, by rw [HN.out]; exact HOn.out⟩, by have := HKL.out; simp [intOf]; omega⟩
          · have HY := hid (HYes.out h2 hin)
            rw [decide_eq_false hin] at HCo
            have a1 : IntKind.i8.wrap (1 - p1) = 1 - p1 := IntWalk.i8_in _ (by omega)
            have a2 : IntKind.i8.wrap (8 - p2) = 8 - p2 := IntWalk.i8_in _ (by omega)
            clear h2 HYes HNo hpc hin
            go_wp2_with (first
              | (go_at_call 54; ((with_reducible refine HCo.out.mono ?_); rintro e4 w4 ⟨rfl, rfl⟩))
              | ((with_reducible refine gate (N := 43) rfl ?_); (refine wp_app1C rfl (.tmp 34) (.tmp 42) rfl w3.heap.size _ (offN l F k) (1 - p1) (8 - p2) HOn.out rfl (wr.heap.size + 1) rfl HLk.out HSz.out (by simp) ?_); intro v' w6 hown hg))
            refine ⟨⟨k + 1, by have := HKL.out; omega, by go_num, Hbn.out.trans (hg.below w3.heap.size (fun g hg' => (HOn.out.lt g hg').1) HSz.out), by rw [HY.out]; exact hown⟩, by have := HKL.out; simp [intOf]; omega⟩
      · obtain rfl : k = l.length := by omega
        have d1 : decide ((l.length : Int) < (l.length : Int)) = false := decide_eq_false (by omega)
        go_wp2_with fail
        go_ret2
        exact ⟨_, rfl, HBw.out, hO.out.mono HB3.out.size⟩
  · rw [if_neg h0]
    obtain ⟨k, hkk⟩ : ∃ k, k = pcV l := ⟨_, rfl⟩
    rw [← hkk] at HC h0 ⊢
    have hk0 : (k == 0) = false := by rw [beq_eq_false_iff_ne]; exact h0
    have hk1 : (k != 0) = true := by unfold bne; rw [hk0]; rfl
    clear hkk hA h0 hlen
    go_enter Try.func29, Try.ntmps29
    go_wp2_with (go_at_call 46; ((with_reducible refine HC.out.mono ?_); rintro e1 w1 ⟨rfl, hb1⟩); have HB1 := hid (HB0.out.trans (hb1.mono HB0.out.size)); clear hb1)
    go_ret2
    exact ⟨_, rfl, HB1.out, World.ownsRow_nil _ _ _ _⟩
end Go.Proofs.Ytgbihaliiogboaa

/- OffcutsOf: the reference's. -/
namespace Go.Proofs.Ytgbihaliiogboaa
open Go.RowKit
set_option linter.unusedSimpArgs false
set_option linter.unusedVariables false
theorem pairsI_get {l : List (Int × Int)} (h : pcV l = 0) {k : Nat} (hk : k < (pairsI l).length) : ∃ a b : Nat, (pairsI l)[k]? = some [(a : Int), (b : Int)] ∧ a < l.length ∧ b < l.length := by
  have hk' : k < (pairL l).length := by rw [pairsI_len] at hk; exact hk
  have hm := pairN_mem (l := l) (ord := ordL l) (fun x hx => ordL_mem hx) (ordL l).length (pairL l)[k] (List.getElem_mem hk')
  obtain ⟨p, hp⟩ : ∃ p, p = (pairL l)[k] := ⟨_, rfl⟩
  rw [← hp] at hm
  refine ⟨p.1.toNat, p.2.toNat, ?_, by omega, by omega⟩
  unfold pairsI
  rw [List.getElem?_map, List.getElem?_eq_getElem hk', ← hp]
  simp only [Option.map_some]
  rw [show ((p.1.toNat : Nat) : Int) = p.1 by omega, show ((p.2.toNat : Nat) : Int) = p.2 by omega]
theorem cell_butt {p : Nat} {w w' : World} (hb : Butt p w w') {g j : Nat} {v : Value} (h : w.cell? ⟨g, j, none⟩ = some v) (hl : g < w.heap.size) (hn : g ≠ p) : w'.cell? ⟨g, j, none⟩ = some v :=
  (World.cell?_of_block (w := w) (a := ⟨g, j, none⟩) (hb.block g hl hn)).trans h
set_option maxHeartbeats 3200000 in
set_option maxRecDepth 100000 in
theorem c_sOffcutsOf (A : Option Addr) (c : Nat) (l : List (Int × Int)) (hB : ∀ p ∈ l, (-128 ≤ p.1 ∧ p.1 ≤ 127) ∧ (-128 ≤ p.2 ∧ p.2 ≤ 127)) (hlen : l.length ≤ 1048576) (w : World) (hA : PairsAt .i8 .i8 w A l) :
    Calls Try.prog 28 #[.slice A l.length c] w (RetCo w (offV l) (pcV l)) := by
  have HC := hid (c_l05Asked A c l hB hlen w hA)
  have HA := hid hA
  unfold offV
  by_cases h0 : pcV l = 0
  · rw [if_pos h0, h0]
    rw [h0] at HC
    have HT := fun W h => hid (c_l05Pairs A c l (pcV_zero h0).2 (by have := (pcV_zero h0).1; omega) W h)
    have HPc := hid (pcV_pc h0)
    have hll := (pcV_zero h0).1
    have HLL := hid hll
    have HPg := hid (fun k => @pairsI_get l h0 k)
    have HPl : Hid ((pairsI l).length ≤ 30) := by have h1 := pairL_len h0; show _ ≤ _; rw [pairsI_len]; omega
    have HFe : Hid ((pairsI l).flatten = offF l) := rfl
    obtain ⟨F, hF⟩ : ∃ F, F = offF l := ⟨_, rfl⟩
    rw [← hF] at HFe ⊢
    obtain ⟨P, hP⟩ : ∃ P, P = pairsI l := ⟨_, rfl⟩
    have HPe := hid hP
    rw [← hP] at HPl HFe HPg
    have HLn := hid (offN_len l F)
    obtain ⟨i0, hi, hz0, hz1, hz2⟩ := info_parts Try.infoBoolz
    clear hA h0 hlen hF hP hB
    go_enter Try.func28, Try.ntmps28
    go_wp2_with (first
      | (go_at_call 43; ((with_reducible refine HC.out.mono ?_); rintro e1 w1 ⟨rfl, hb1⟩); have HB1 := hid hb1; clear hb1)
      | ((with_reducible refine gate (N := 18) rfl ?_); (refine wpList_make_full _ rfl (.tmp 17) (.tmp 17) 77 rfl w1.heap.size 4 i0 (.bool false) 1 Try.underlying77 hi hz0 hz1 .i64 .i64 (l.length : Int) (l.length : Int) l.length rfl rfl rfl rfl (by rw [hz2]; have := HLL.out; omega) (Nat.le_trans HLL.out (by decide)) (by simp) ?_; intro wm hown1 hg1; have HL1 := hid (block_full hown1 (by simp [size_madeCells])); have HBm := hid ((Below.refl _ w1).grown hg1 (Nat.le_refl _) (fun k hk => by cases hk) : Below w1.heap.size w1 wm); clear hown1 hg1))
      | (go_at_call 48; ((refine (HT wm (HA.out.below (HB1.out.trans (HBm.out.mono HB1.out.size)) (Nat.le_refl _))).out.mono ?_); rintro e2 w2 ⟨v, vs, rfl, hb2, hr2, hg2⟩); have HB2 := hid hb2; have HO2 := OwII.of_pairs hr2 hg2 hb2.size (Nat.le_refl _); rw [← HPe.out] at HO2; obtain ⟨⟨A2, n2, g2, c2, rfl, hII⟩, _, hhi⟩ := HO2; have HII := hid hII; clear hb2 hr2 hg2 hII hhi))
    have hT1 : wm.heap[w1.heap.size]? = some (.cells (boolsF [] l.length) 4 (0, 0)) := by
      have := HL1.out
      rw [Nat.mul_one, show (Value.bool false).cells = #[Value.bool false] from rfl, made_false] at this
      exact this
    have hT2 := block_below HB2.out hT1 (block_lt hT1)
    have hgm := block_lt hT1
    obtain ⟨gt, hgt⟩ : ∃ g, g = w1.heap.size := ⟨_, rfl⟩
    have HSz : Hid (gt = w1.heap.size ∧ w.heap.size ≤ gt ∧ gt < wm.heap.size ∧ wm.heap.size ≤ w2.heap.size) := ⟨hgt, by rw [hgt]; exact HB1.out.size, by rw [hgt]; exact hgm, HB2.out.size⟩
    have HBw2 : Hid (Below w.heap.size w w2) := (HB1.out.trans (HBm.out.mono HB1.out.size)).trans (HB2.out.mono (by have := HSz.out; omega))
    rw [← hgt] at hT2 ⊢
    have HT2 := hid hT2
    clear hgt hT1 hT2 hgm HL1 HC HT
    go_loopw [7] (fun i wr => ∃ k : Nat, k ≤ P.length ∧ i = .int .i64 k ∧ Hid (Butt gt w2 wr) ∧ Hid (wr.heap[gt]? = some (.cells (boolsF (P.take k).flatten l.length) 4 (0, 0)))) (fun i _ => P.length - (intOf i).toNat)
    case atStart => exact ⟨0, by omega, rfl, Butt.refl _ _, by rw [List.take_zero]; exact HT2.out⟩
    case round =>
      obtain ⟨wo, rfl⟩ : ∃ W, W = wr := ⟨_, rfl⟩
      obtain ⟨k, hk, rfl, hb, hT⟩ := hrel
      have hPl := HPl.out
      by_cases hkl : k < P.length
      · have d1 : decide ((k : Int) < (P.length : Int)) = true := decide_eq_true (by omega)
        have k0 : (0 : Int) ≤ (k : Int) := by omega
        have k1 : (k : Int) < (P.length : Int) := by omega
        have k2 : (k : Int) ≤ 30 := by omega
        obtain ⟨a, b, hx, ha, hbl⟩ := HPg.out k hkl
        have hsz := HSz.out
        obtain ⟨b0, cs, rfl, hlo, _, _, h5, h6⟩ := HII.out.out k _ hx
        obtain ⟨hg1, hg2, hrow⟩ := HII.out.row k _ hx
        have h6' : cs[k]? = some (.slice (some ⟨g2 k, 0, none⟩) 2 (c2 k)) := h6
        obtain ⟨bb, cc, eb, _, _, hbs, y1, _⟩ := hrow.1.cells (j := 0) (n := (a : Int)) rfl
        obtain ⟨bb', cc', eb', _, _, _, y2, _⟩ := hrow.1.cells (j := 1) (n := (b : Int)) rfl
        have eB : g2 k = bb := congrArg blkOf eb
        subst eB
        have eB' : g2 k = bb' := congrArg blkOf eb'
        subst eB'
        have hW1 : Butt gt w2 (wo.setCell ⟨gt, a, none⟩ (.bool true)) := hb.out.trans (Butt.set gt wo a _)
        have z0 := cell_block (hb.out.at h5 (by omega)) h6'
        have z1 := cell_butt hb.out y1 hbs (by omega)
        have z2 := cell_butt hb.out y2 hbs (by omega)
        have z3 := cell_block (hW1.at h5 (by omega)) h6'
        have z4 := cell_butt hW1 y2 hbs (by omega)
        have hT1 := heap_setCell_same wo gt a _ _ (.bool true) hT.out
        rw [boolsF_set _ ha] at hT1
        have f1 : wo.cell? ⟨gt, a, none⟩ = some (.bool _) := cell_block hT.out (boolsF_get _ ha)
        have f2 : wo.frozen? ⟨gt, a, none⟩ = false := frozen_of_row _ _ _ _ _ hT.out
        have f3 : (wo.setCell ⟨gt, a, none⟩ (.bool true)).cell? ⟨gt, b, none⟩ = some (.bool _) := cell_block hT1 (boolsF_get _ hbl)
        have f4 : (wo.setCell ⟨gt, a, none⟩ (.bool true)).frozen? ⟨gt, b, none⟩ = false := frozen_of_row _ _ _ _ _ hT1
        have hT3 := heap_setCell_same (wo.setCell ⟨gt, a, none⟩ (.bool true)) gt b _ _ (.bool true) hT1
        rw [boolsF_set _ hbl] at hT3
        have hfs := flat_succ P k hkl
        rw [show P[k] = [(a : Int), (b : Int)] from Option.some.inj ((List.getElem?_eq_getElem hkl).symm.trans hx)] at hfs
        have HT3 := hid hT3
        have HFS := hid hfs
        have HW2 := hid (hW1.trans (Butt.set gt _ b (.bool true)))
        have a0 : (0 : Int) ≤ (a : Int) := by omega
        have a1 : (a : Int) < (l.length : Int) := by omega
        have b0' : (0 : Int) ≤ (b : Int) := by omega
        have b1 : (b : Int) < (l.length : Int) := by omega
        obtain ⟨gk, hgk⟩ : ∃ g, g = g2 k := ⟨_, rfl⟩
        obtain ⟨ck, hck⟩ : ∃ g, g = c2 k := ⟨_, rfl⟩
        rw [← hgk, ← hck] at z0 z3
        rw [← hgk] at z1 z2 z4
        have HKL := hid hkl
        clear hx ha hbl hlo h5 h6 h6' hg1 hg2 hrow eb eb' hbs y1 y2 hT1 hT3 hfs hsz hW1 hgk hck hPl
        go_wp2_with fail
        refine ⟨⟨k + 1, by have := HKL.out; omega, by go_num, HW2.out, ?_⟩, by have := HKL.out; simp [intOf]; omega⟩
        have := HT3.out
        rw [HFS.out]
        rw [List.append_assoc] at this
        exact this
      · obtain rfl : k = P.length := by omega
        have d1 : decide ((P.length : Int) < (P.length : Int)) = false := decide_eq_false (by omega)
        rw [List.take_length, HFe.out] at hT
        have HBo : Hid (Below w.heap.size w wo) := HBw2.out.trans (hb.out.below HSz.out.2.1 HBw2.out.size)
        have hgo := block_lt hT.out
        have HGo := hid hgo
        have HAl : Hid (Below wo.heap.size wo (wo.alloc (.cells #[] 64))) := (Below.refl _ wo).alloc (Nat.le_refl _) _
        have HM0 : Hid ((wo.alloc (.cells #[] 64)).ownsRow wo.heap.size 64 2 (.slice (some ⟨wo.heap.size, 0, none⟩) 0 0) 0 []) := World.ownsRow_made wo #[] 0 (Nat.le_refl _) (by decide) rfl
        clear hgo hPl hkl
        go_wp2_with fail
        go_loopw [8, 9] (fun v i wr => ∃ k : Nat, k ≤ l.length ∧ i = .int .i64 k ∧ Hid (Below wo.heap.size wo wr) ∧ Hid (wr.ownsRow wo.heap.size 64 2 v (offN l F k).length (ccells (offN l F k)))) (fun _ i _ => l.length - (intOf i).toNat)
        case atStart => exact ⟨0, by omega, rfl, HAl.out, HM0.out⟩
        case round =>
          obtain ⟨k, hk, rfl, hbq, hO⟩ := hrel
          have HBw := hid (HBo.out.trans (hbq.out.mono HBo.out.size))
          by_cases hkl : k < l.length
          · have d2 : decide ((k : Int) < (l.length : Int)) = true := decide_eq_true (by omega)
            have k0 : (0 : Int) ≤ (k : Int) := by omega
            have k1 : (k : Int) < (l.length : Int) := by omega
            have k2 : (k : Int) ≤ 30 := by omega
            have hp := List.getElem?_eq_getElem hkl
            obtain ⟨⟨p1, p2⟩, hpp⟩ : ∃ p, p = l[k] := ⟨_, rfl⟩
            rw [← hpp] at hp
            have hpc := HPc.out _ (List.mem_of_getElem? hp)
            dsimp only at hpc
            obtain ⟨b, off, rfl, r1, r2, r3⟩ := HA.out k _ hp
            have q1 := (HBw.out.cell (p := ⟨b, _, none⟩) r1).trans r2
            have q2 := (HBw.out.cell (p := ⟨b, _, none⟩) r1).trans r3
            dsimp only at q1 q2
            have q3 := cell_block (block_below hbq.out hT.out HGo.out) (boolsF_get F hkl)
            have HYes := hid (fun h1 h2 => offN_yes (F := F) hp h1 h2)
            have HNo := hid (fun h => offN_no (F := F) hp h)
            have HKL := hid hkl
            have HLk : Hid ((offN l F k).length ≤ 1100000) := by have := HLn.out k; show _ ≤ _; omega
            have HSq := hid hbq.out.size
            clear hp hpp r2 r3
            by_cases hin : (k : Int) ∈ F
            · have HN := hid (HNo.out (.inr hin))
              rw [decide_eq_true hin] at q3
              clear HYes HNo hpc hin
              go_wp2_with fail
              refine ⟨⟨k + 1, by have := HKL.out; omega, by go_num, hbq.out, by rw [HN.out]; exact hO.out⟩, by have := HKL.out; simp [intOf]; omega⟩
            · rw [decide_eq_false hin] at q3
              have a2 : IntKind.i8.wrap (8 - p2) = 8 - p2 := IntWalk.i8_in _ (by omega)
              by_cases h2 : p1 = 2
              · have HN := hid (HNo.out (.inl h2))
                have e1 : (p1 == 2) = true := beq_iff_eq.2 h2
                clear HYes HNo hpc hin h2 a2
                go_wp2_with fail
                refine ⟨⟨k + 1, by have := HKL.out; omega, by go_num, hbq.out, by rw [HN.out]; exact hO.out⟩, by have := HKL.out; simp [intOf]; omega⟩
              · have HY := hid (HYes.out h2 hin)
                have e1 : (p1 == 2) = false := beq_eq_false_iff_ne.2 h2
                by_cases h3 : p1 = 0
                · have e2 : (p1 == 0) = true := beq_iff_eq.2 h3
                  have HY : Hid (offN l F (k + 1) = offN l F k ++ [(1, 8 - p2)]) := by show _ = _; rw [HY.out, h3]; rfl
                  clear HYes HNo hpc hin h2 h3
                  go_wp2_with ((with_reducible refine gate (N := 89) rfl ?_); (refine wp_app1C rfl (.tmp 80) (.tmp 88) rfl wo.heap.size _ (offN l F k) 1 (8 - p2) hO.out rfl wr.heap.size rfl HLk.out HSq.out rfl ?_); intro v' w6 hown hg)
                  refine ⟨⟨k + 1, by have := HKL.out; omega, by go_num, hbq.out.trans (hg.below wo.heap.size (fun g hg' => (hO.out.lt g hg').1) HSq.out), by rw [HY.out]; exact hown⟩, by have := HKL.out; simp [intOf]; omega⟩
                · have e2 : (p1 == 0) = false := beq_eq_false_iff_ne.2 h3
                  have HY : Hid (offN l F (k + 1) = offN l F k ++ [(0, 8 - p2)]) := by show _ = _; rw [HY.out, show 1 - p1 = 0 by omega]
                  clear HYes HNo hpc hin h2 h3
                  go_wp2_with ((with_reducible refine gate (N := 59) rfl ?_); (refine wp_app1C rfl (.tmp 50) (.tmp 58) rfl wo.heap.size _ (offN l F k) 0 (8 - p2) hO.out rfl wr.heap.size rfl HLk.out HSq.out rfl ?_); intro v' w6 hown hg)
                  refine ⟨⟨k + 1, by have := HKL.out; omega, by go_num, hbq.out.trans (hg.below wo.heap.size (fun g hg' => (hO.out.lt g hg').1) HSq.out), by rw [HY.out]; exact hown⟩, by have := HKL.out; simp [intOf]; omega⟩
          · obtain rfl : k = l.length := by omega
            have d2 : decide ((l.length : Int) < (l.length : Int)) = false := decide_eq_false (by omega)
            go_wp2_with fail
            go_ret2
            exact ⟨_, rfl, HBw.out, hO.out.mono HBo.out.size⟩
  · rw [if_neg h0]
    obtain ⟨k, hkk⟩ : ∃ k, k = pcV l := ⟨_, rfl⟩
    rw [← hkk] at HC h0 ⊢
    have hk0 : (k == 0) = false := by rw [beq_eq_false_iff_ne]; exact h0
    have hk1 : (k != 0) = true := by unfold bne; rw [hk0]; rfl
    clear hkk hA h0 hlen hB
    go_enter Try.func28, Try.ntmps28
    go_wp2_with (go_at_call 43; ((with_reducible refine HC.out.mono ?_); rintro e1 w1 ⟨rfl, hb1⟩); have HB1 := hid hb1; clear hb1)
    go_ret2
    exact ⟨_, rfl, HB1.out.alloc HB1.out.size _, World.ownsRow_made w1 #[] 0 HB1.out.size (by decide) rfl⟩
end Go.Proofs.Ytgbihaliiogboaa

/- The walk of FnExactOffcutsOf. -/
namespace Go.Proofs.Ytgbihaliiogboaa
open Go.RowKit
set_option linter.unusedSimpArgs false
set_option linter.unusedVariables false
set_option maxHeartbeats 6400000 in
set_option maxRecDepth 100000 in
theorem w_FnExactOffcutsOf {w : World} (A0 : Option Addr) (c0 : Nat) (l0 : List (Int × Int)) (lc0 : l0.length ≤ c0) (cm0 : c0 ≤ maxLen) (bz0 : ∀ p ∈ l0, (-128 ≤ p.1 ∧ p.1 ≤ 127) ∧ (-128 ≤ p.2 ∧ p.2 ≤ 127)) (rd0 : PairsAt .i8 .i8 w A0 l0) (_w : World) :
    Calls Try.prog 7 #[.slice A0 l0.length c0] w fun e w' => e = .returned (.bool true) ∧ Below w.heap.size w w' := by
  unfold maxLen at cm0
  by_cases hn0 : l0.length ≤ 1048576
  rotate_left
  · -- the law answers true at once
    have HZ0 := hid (c_szPieceS A0 c0 l0.length (by omega) 1048576 (by omega))
    rw [if_neg (by omega)] at HZ0
    have T0 : Hid True := trivial
    clear rd0 bz0
    go_enter Try.func7, Try.ntmps7
    go_wp2_with (first
      | (go_at_call 19; clear T0; ((with_reducible refine (HZ0.out _).mono ?_); rintro e w1 ⟨rfl, rfl⟩)))
    go_ret
    exact ⟨rfl, Below.refl _ _⟩
  have hlen0 : l0.length ≤ 1048576 := by omega
  obtain ⟨R0, hR0⟩ : ∃ x, x = offV l0 := ⟨_, rfl⟩
  have lenR0 : R0.length ≤ 1048576 := by rw [hR0]; exact offV_len l0
  obtain ⟨R1, hR1⟩ : ∃ x, x = pcV l0 := ⟨_, rfl⟩
  have Hs := fun (A0' : Option Addr) (c0' : Nat)  (w' : World) (h0 : PairsAt .i8 .i8 w' A0' l0) => hid (c_sOffcutsOf A0' c0' l0 bz0 hlen0 w' h0)
  rw [← hR0] at Hs
  rw [← hR1] at Hs
  have Hi := fun (A0' : Option Addr) (c0' : Nat)  (w' : World) (h0 : PairsAt .i8 .i8 w' A0' l0) => hid (c_OffcutsOf A0' c0' l0 hlen0 w' h0)
  rw [← hR0] at Hi
  rw [← hR1] at Hi
  have HT0 := fun (w' : World) h => hid (c_toPieceS A0 c0 l0 hlen0 w' h)
  have HZ0 := hid (c_szPieceS A0 c0 l0.length (by omega) 1048576 (by omega))
  rw [if_pos (by omega)] at HZ0
  obtain ⟨q0, hq0⟩ : ∃ q : Int, q = 1048576 - (l0.length : Int) := ⟨_, rfl⟩
  rw [← hq0] at HZ0
  have hz0 : decide (q0 < 0) = false := decide_eq_false (by omega)
  have hne1 : (R1 != R1) = false := by simp
  have RD0 := hid rd0
  have LE0 := hid hlen0
  have LER0 := hid lenR0
  obtain ⟨M0, hM0⟩ : ∃ m : Int, m = 1 + 2 * (l0.length : Int) := ⟨_, rfl⟩
  obtain ⟨M1, hM1⟩ : ∃ m : Int, m = 1 + 2 * (R0.length : Int) := ⟨_, rfl⟩
  have HMM0 : ∀ (lo hi : Nat) {v : Value} {w' : World}, OwD lo hi w' v l0 → Calls Try.prog 15 #[v, .int .i64 1] w' fun e w2 => e = .returned (.int .i64 M0) ∧ Below lo w' w2 ∧ OutS lo hi w' w2 ∧ OwD lo hi w2 v (mkC l0 1 l0.length) := fun lo hi v w' h => by rw [hM0]; exact m_PieceS (by omega) LE0.out h
  have HHM0 : ∀ (lo hi : Nat) {v : Value} {w' : World}, OwD lo hi w' v (mkC l0 1 l0.length) → Calls Try.prog 16 #[v, .int .i64 1] w' fun e w2 => e = .returned (.int .i64 M0) ∧ Below w'.heap.size w' w2 := fun lo hi v w' h => by rw [hM0]; exact h_PieceS (by omega) LE0.out h
  have hmM00 : decide (M0 < 0) = false := decide_eq_false (by omega)
  have hmM01 : (M0 != M0) = false := by simp
  have HMM1 : ∀ (lo hi : Nat) {v : Value} {w' : World}, OwD lo hi w' v R0 → Calls Try.prog 15 #[v, .int .i64 1] w' fun e w2 => e = .returned (.int .i64 M1) ∧ Below lo w' w2 ∧ OutS lo hi w' w2 ∧ OwD lo hi w2 v (mkC R0 1 R0.length) := fun lo hi v w' h => by rw [hM1]; exact m_PieceS (by omega) LER0.out h
  have HHM1 : ∀ (lo hi : Nat) {v : Value} {w' : World}, OwD lo hi w' v (mkC R0 1 R0.length) → Calls Try.prog 16 #[v, .int .i64 1] w' fun e w2 => e = .returned (.int .i64 M1) ∧ Below w'.heap.size w' w2 := fun lo hi v w' h => by rw [hM1]; exact h_PieceS (by omega) LER0.out h
  have hmM10 : decide (M1 < 0) = false := decide_eq_false (by omega)
  have hmM11 : (M1 != M1) = false := by simp
  have HHMM0 := hid HMM0; clear HMM0
  have HHHM0 := hid HHM0; clear HHM0
  have HHMM1 := hid HMM1; clear HMM1
  have HHHM1 := hid HHM1; clear HHM1
  have HW : Hid (Below w.heap.size w w) := Below.refl _ _
  clear rd0 bz0 hn0 hlen0 hR0 hR1 lenR0 hM0 hM1 hq0
  have K1 : Hid True := trivial
  have K2 : Hid True := trivial
  have K3 : Hid True := trivial
  have K4 : Hid True := trivial
  have K5 : Hid True := trivial
  have K6 : Hid True := trivial
  have K7 : Hid True := trivial
  have K8 : Hid True := trivial
  have K9 : Hid True := trivial
  have K10 : Hid True := trivial
  have K11 : Hid True := trivial
  have K12 : Hid True := trivial
  have K13 : Hid True := trivial
  have K14 : Hid True := trivial
  have K15 : Hid True := trivial
  have K16 : Hid True := trivial
  go_enter Try.func7, Try.ntmps7
  go_wp2_with (first
    | (go_at_call 19; clear K1; ((with_reducible refine (HZ0.out _).mono ?_); rintro e w1 ⟨rfl, rfl⟩))
    | (go_at_call 21; clear K2; (have HRD := hid (RD0.out.below HW.out (Nat.le_refl _))); ((with_reducible refine (HT0 _ HRD.out).out.mono ?_); rintro e w1 ⟨Ax1, cx1, rfl, hb1, ho1⟩); have HLox1 := hid HW.out.size; replace HW := hid (HW.out.trans (hb1.mono HW.out.size)); have Ox1 := hid ho1; clear hb1 ho1)
    | (go_at_call 28; clear K3; ((with_reducible refine (Hs _ _ _ Ox1.out.pairs).out.mono ?_); rintro e w1 ⟨vg2_0, rfl, hb1, ho0⟩); have Sx1_g2 := hid Ox1.out.2.2; have HLog2 := hid HW.out.size; replace Ox1 := hid (Ox1.out.below hb1); replace HW := hid (HW.out.trans (hb1.mono HW.out.size)); have Og2 := hid (OwD.of ho0 hb1); obtain ⟨Ag2, cg2, rfl⟩ := owns_slc ho0; clear hb1 ho0)
    | (go_at_call 21; clear K4; (have HRD := hid (RD0.out.below HW.out (Nat.le_refl _))); ((with_reducible refine (HT0 _ HRD.out).out.mono ?_); rintro e w1 ⟨Ax3, cx3, rfl, hb1, ho1⟩); have Sx1_x3 := hid Ox1.out.2.2; have Sg2_x3 := hid Og2.out.2.2; have HLox3 := hid HW.out.size; replace Ox1 := hid (Ox1.out.below hb1); replace Og2 := hid (Og2.out.below hb1); replace HW := hid (HW.out.trans (hb1.mono HW.out.size)); have Ox3 := hid ho1; clear hb1 ho1)
    | (go_at_call 29; clear K5; ((with_reducible refine (Hi _ _ _ Ox3.out.pairs).out.mono ?_); rintro e w1 ⟨vg4_0, rfl, hb1, ho0⟩); have Sx1_g4 := hid Ox1.out.2.2; have Sg2_g4 := hid Og2.out.2.2; have Sx3_g4 := hid Ox3.out.2.2; have HLog4 := hid HW.out.size; replace Ox1 := hid (Ox1.out.below hb1); replace Og2 := hid (Og2.out.below hb1); replace Ox3 := hid (Ox3.out.below hb1); replace HW := hid (HW.out.trans (hb1.mono HW.out.size)); have Og4 := hid (OwD.of ho0 hb1); obtain ⟨Ag4, cg4, rfl⟩ := owns_slc ho0; clear hb1 ho0)
    | (go_at_call 12; clear K6; ((with_reducible refine (e_PieceS LER0.out Og4.out Og2.out).mono ?_); rintro e w1 ⟨rfl, hb1⟩); replace Ox1 := hid (Ox1.out.below hb1); replace Og2 := hid (Og2.out.below hb1); replace Ox3 := hid (Ox3.out.below hb1); replace Og4 := hid (Og4.out.below hb1); replace HW := hid (HW.out.trans (hb1.mono HW.out.size)); clear hb1)
    | (go_at_call 21; clear K7; (have HRD := hid (RD0.out.below HW.out (Nat.le_refl _))); ((with_reducible refine (HT0 _ HRD.out).out.mono ?_); rintro e w1 ⟨Ax6, cx6, rfl, hb1, ho1⟩); have Sx1_x6 := hid Ox1.out.2.2; have Sg2_x6 := hid Og2.out.2.2; have Sx3_x6 := hid Ox3.out.2.2; have Sg4_x6 := hid Og4.out.2.2; have HLox6 := hid HW.out.size; replace Ox1 := hid (Ox1.out.below hb1); replace Og2 := hid (Og2.out.below hb1); replace Ox3 := hid (Ox3.out.below hb1); replace Og4 := hid (Og4.out.below hb1); replace HW := hid (HW.out.trans (hb1.mono HW.out.size)); have Ox6 := hid ho1; clear hb1 ho1)
    | (go_at_call 12; clear K8; ((with_reducible refine (e_PieceS LE0.out Ox3.out Ox6.out).mono ?_); rintro e w1 ⟨rfl, hb1⟩); replace Ox1 := hid (Ox1.out.below hb1); replace Og2 := hid (Og2.out.below hb1); replace Ox3 := hid (Ox3.out.below hb1); replace Og4 := hid (Og4.out.below hb1); replace Ox6 := hid (Ox6.out.below hb1); replace HW := hid (HW.out.trans (hb1.mono HW.out.size)); clear hb1)
    | (go_at_call 15; clear K9; ((with_reducible refine (HHMM0.out _ _ Ox3.out).mono ?_); rintro e w1 ⟨rfl, hb1, hq1, ho1⟩); replace Ox1 := hid (Ox1.out.outS hq1 (.inl Sx1_x3.out)); replace Og2 := hid (Og2.out.outS hq1 (.inl Sg2_x3.out)); replace Og4 := hid (Og4.out.outS hq1 (.inr Sx3_g4.out)); replace Ox6 := hid (Ox6.out.outS hq1 (.inr Sx3_x6.out)); replace HW := hid (HW.out.trans (hb1.mono HLox3.out)); replace Ox3 := hid ho1; clear hb1 hq1 ho1)
    | (go_at_call 12; clear K10; ((with_reducible refine (e_PieceS LER0.out Og4.out Og2.out).mono ?_); rintro e w1 ⟨rfl, hb1⟩); replace Ox1 := hid (Ox1.out.below hb1); replace Og2 := hid (Og2.out.below hb1); replace Ox3 := hid (Ox3.out.below hb1); replace Og4 := hid (Og4.out.below hb1); replace Ox6 := hid (Ox6.out.below hb1); replace HW := hid (HW.out.trans (hb1.mono HW.out.size)); clear hb1)
    | (go_at_call 15; clear K11; ((with_reducible refine (HHMM1.out _ _ Og4.out).mono ?_); rintro e w1 ⟨rfl, hb1, hq1, ho1⟩); replace Ox1 := hid (Ox1.out.outS hq1 (.inl Sx1_g4.out)); replace Og2 := hid (Og2.out.outS hq1 (.inl Sg2_g4.out)); replace Ox3 := hid (Ox3.out.outS hq1 (.inl Sx3_g4.out)); replace Ox6 := hid (Ox6.out.outS hq1 (.inr Sg4_x6.out)); replace HW := hid (HW.out.trans (hb1.mono HLog4.out)); replace Og4 := hid ho1; clear hb1 hq1 ho1)
    | (go_at_call 16; clear K12; ((with_reducible refine (HHHM1.out _ _ Og4.out).mono ?_); rintro e w1 ⟨rfl, hb1⟩); replace Ox1 := hid (Ox1.out.below hb1); replace Og2 := hid (Og2.out.below hb1); replace Ox3 := hid (Ox3.out.below hb1); replace Og4 := hid (Og4.out.below hb1); replace Ox6 := hid (Ox6.out.below hb1); replace HW := hid (HW.out.trans (hb1.mono HW.out.size)); clear hb1)
    | (go_at_call 21; clear K13; (have HRD := hid (RD0.out.below HW.out (Nat.le_refl _))); ((with_reducible refine (HT0 _ HRD.out).out.mono ?_); rintro e w1 ⟨Ax12, cx12, rfl, hb1, ho1⟩); have Sx1_x12 := hid Ox1.out.2.2; have Sg2_x12 := hid Og2.out.2.2; have Sx3_x12 := hid Ox3.out.2.2; have Sg4_x12 := hid Og4.out.2.2; have Sx6_x12 := hid Ox6.out.2.2; have HLox12 := hid HW.out.size; replace Ox1 := hid (Ox1.out.below hb1); replace Og2 := hid (Og2.out.below hb1); replace Ox3 := hid (Ox3.out.below hb1); replace Og4 := hid (Og4.out.below hb1); replace Ox6 := hid (Ox6.out.below hb1); replace HW := hid (HW.out.trans (hb1.mono HW.out.size)); have Ox12 := hid ho1; clear hb1 ho1)
    | (go_at_call 29; clear K14; ((with_reducible refine (Hi _ _ _ Ox12.out.pairs).out.mono ?_); rintro e w1 ⟨vg13_0, rfl, hb1, ho0⟩); have Sx1_g13 := hid Ox1.out.2.2; have Sg2_g13 := hid Og2.out.2.2; have Sx3_g13 := hid Ox3.out.2.2; have Sg4_g13 := hid Og4.out.2.2; have Sx6_g13 := hid Ox6.out.2.2; have Sx12_g13 := hid Ox12.out.2.2; have HLog13 := hid HW.out.size; replace Ox1 := hid (Ox1.out.below hb1); replace Og2 := hid (Og2.out.below hb1); replace Ox3 := hid (Ox3.out.below hb1); replace Og4 := hid (Og4.out.below hb1); replace Ox6 := hid (Ox6.out.below hb1); replace Ox12 := hid (Ox12.out.below hb1); replace HW := hid (HW.out.trans (hb1.mono HW.out.size)); have Og13 := hid (OwD.of ho0 hb1); obtain ⟨Ag13, cg13, rfl⟩ := owns_slc ho0; clear hb1 ho0)
    | (go_at_call 12; clear K15; ((with_reducible refine (e_PieceS LER0.out Og13.out Og2.out).mono ?_); rintro e w1 ⟨rfl, hb1⟩); replace Ox1 := hid (Ox1.out.below hb1); replace Og2 := hid (Og2.out.below hb1); replace Ox3 := hid (Ox3.out.below hb1); replace Og4 := hid (Og4.out.below hb1); replace Ox6 := hid (Ox6.out.below hb1); replace Ox12 := hid (Ox12.out.below hb1); replace Og13 := hid (Og13.out.below hb1); replace HW := hid (HW.out.trans (hb1.mono HW.out.size)); clear hb1)
    | (go_at_call 16; clear K16; ((with_reducible refine (HHHM1.out _ _ Og4.out).mono ?_); rintro e w1 ⟨rfl, hb1⟩); replace Ox1 := hid (Ox1.out.below hb1); replace Og2 := hid (Og2.out.below hb1); replace Ox3 := hid (Ox3.out.below hb1); replace Og4 := hid (Og4.out.below hb1); replace Ox6 := hid (Ox6.out.below hb1); replace Ox12 := hid (Ox12.out.below hb1); replace Og13 := hid (Og13.out.below hb1); replace HW := hid (HW.out.trans (hb1.mono HW.out.size)); clear hb1))
  go_ret
  exact ⟨rfl, HW.out⟩
end Go.Proofs.Ytgbihaliiogboaa

/- The row of FnExactOffcutsOf: for every input the law returns true, and its arguments read as before. -/
namespace Go.Proofs.Ytgbihaliiogboaa.fnExactOffcutsOf
open Go.ChangeShapes Go.WideShapes Go.ChangeAt Go.RowKit
open Go.ChangeMaps (open_string shut_string)
set_option linter.unusedVariables false
set_option maxRecDepth 100000 in
theorem lifted (os : Os) (started : os.Started) (H : Type) (enc : TypeId × Value → H) :
    ReturnsInHanded {} Try.checked os 7 .any (Rows.fnExactOffcutsOfSpec.pre6 enc Try.prog Try.f7 Rows.fnExactOffcutsOfRow.domain false) (Rows.fnExactOffcutsOfSpec.post enc Try.prog Try.f7 false true false false) := by
  refine returnsInHanded_of_change_sized (C := Try.checked) Try.own started (by kernel_rfl) Try.func7
    (ChangeSpec.witness6 (enc := enc) (C := Try.checked) false ⟨#[], #[.slice none 0 0], []⟩ 8 (by kernel_rfl) (by kernel_rfl) (by kernel_rfl) (by kernel_rfl)) ?_
  intro W base args ds gs before hval0 hW hcnd hsz0 _
  have hsz : (DataW.weightsEach Try.prog (Try.f7.params.toList ++ Rows.fnExactOffcutsOfSpec.plain.varTypes Try.prog) (ds ++ gs)).all (· ≤ reachBytes) = true := hsz0
  have hval : ∀ (j : Nat) t v, Try.f7.params[j]? = some t → args[j]? = some v → Value.okWide Try.prog W .any base t v := hval0
  have hW' := hW
  obtain ⟨p, q, hA0, hV, rfl, hfz, hnd⟩ := hW
  have hA : DataW.TrodAll enc Try.prog W 0 (fun _ => true) true Try.f7.params.toList args.toList ds p := hA0
  rw [Try.params7] at hA hval hsz
  obtain ⟨v0, vs0, d0, ds0, p0, q0, hargs, rfl, rfl, h0, r0⟩ := trodAll_cons hA
  obtain ⟨rfl, rfl, rfl⟩ := trodAll_nil r0
  obtain rfl : args = #[v0] := by cases args; simp_all
  obtain ⟨rfl, rfl⟩ := trodVars_none hV
  have h0k := h0
  obtain ⟨A0, c0, zs0, rfl, lc0, cm0, bz0, rd0⟩ := open_pieces (hval 0 _ v0 rfl rfl) h0
  clear hA0 hval0 hsz0 hsz
  have hlt := fun x hx => hW'.lt x hx
  try simp only [List.append_nil, List.mem_append] at hlt
  refine (w_FnExactOffcutsOf A0 c0 zs0 lc0 cm0 bz0 rd0 W).mono fun e W' ⟨he, bel⟩ => ?_
  subst he
  exact ⟨_, rfl, _, _, _, [], p0 ++ [], [], hW', trodAll_mk1 (shut_bool Try.underlying4 _), (trodAll_cons_mk (Below.trod Try.laidOut (by kernel_rfl) (of_decide_eq_true (by kernel_rfl)) h0k bel (fun x hx => hlt x (hx))) trodAll_mk0), rfl, bel.frame _, fun h => by cases h⟩
set_option maxHeartbeats 8000000 in
theorem facts : joinedFacts Try.checked.prog 7 Try.f7 Rows.fnExactOffcutsOfSpec Rows.fnExactOffcutsOfRow = true := by
  unfold joinedFacts
  repeat (with_reducible refine and_mk ?_ (by as_aux_lemma => kernel_rfl))
  as_aux_lemma => kernel_rfl
set_option maxHeartbeats 8000000 in
theorem over : Rows.fnExactOffcutsOfRow.holds Try.pinned (OpenSpec.ofChange Rows.fnExactOffcutsOfSpec) :=
  OpenClaim.holds_of_wide 7 Try.f7 rfl rfl rfl rfl rfl rfl rfl ⟨rfl, rfl, rfl, rfl, rfl⟩ rfl rfl rfl rfl rfl (by as_aux_lemma => kernel_rfl) Try.func7 facts
    (of_decide_eq_true (by as_aux_lemma => kernel_rfl)) (by unfold Func.isWrapper; first | (rw [if_pos (by decide +kernel)]; kernel_rfl) | (rw [if_neg (by decide +kernel)]; exact ⟨rfl, rfl⟩))
    (fun os started H enc _ => lifted os started H enc)
theorem proved : Rows.FnExactOffcutsOfSaid := over
end Go.Proofs.Ytgbihaliiogboaa.fnExactOffcutsOf
namespace Go.Proofs.Ytgbihaliiogboaa
theorem fnExactOffcutsOf_holds : Rows.FnExactOffcutsOfSaid := fnExactOffcutsOf.proved
end Go.Proofs.Ytgbihaliiogboaa
