/- What is proved: FnExactTilesFor holds of all arguments; with the texts that lead to it. -/
import Derived.Test.YtgbihaliiogboaaGExactTilesFor4
import Derived.ChangeOld
/- Pairs of pieces, the reference's. -/
namespace Go.Proofs.Ytgbihaliiogboaa
open Go.RowKit
set_option linter.unusedSimpArgs false
set_option linter.unusedVariables false
/-- From w to w' nothing is turned but the blocks p and q. -/
structure But2 (p q : Nat) (w w' : World) : Prop where
  os : w'.os = w.os
  tape : w'.tape = w.tape
  output : w'.output = w.output
  size : w.heap.size ≤ w'.heap.size
  block : ∀ k, k < w.heap.size → k ≠ p → k ≠ q → w'.heap[k]? = w.heap[k]?
theorem But2.refl (p q : Nat) (w : World) : But2 p q w w := ⟨rfl, rfl, rfl, Nat.le_refl _, fun _ _ _ _ => rfl⟩
theorem But2.below {p q B : Nat} {a b c : World} (h : But2 p q a b) (k : Below B b c) (hB : b.heap.size ≤ B) : But2 p q a c :=
  ⟨k.os.trans h.os, k.tape.trans h.tape, k.output.trans h.output, Nat.le_trans h.size k.size, fun i hi h1 h2 => (k.block i (by have := h.size; omega)).trans (h.block i hi h1 h2)⟩
theorem But2.set {p q : Nat} {a b : World} (h : But2 p q a b) (j : Nat) (v : Value) : But2 p q a (b.setCell ⟨p, j, none⟩ v) :=
  ⟨h.os, h.tape, h.output, by simpa using h.size, fun k hk h1 h2 => (heap_setCell_other b ⟨p, j, none⟩ k v h1).trans (h.block k hk h1 h2)⟩
theorem But2.at {p q : Nat} {w w' : World} (h : But2 p q w w') {b : Nat} {o : Obj} (hb : w.heap[b]? = some o) (h1 : b ≠ p) (h2 : b ≠ q) : w'.heap[b]? = some o := (h.block b (block_lt hb) h1 h2).trans hb
theorem But2.grew {p q : Nat} {a b c : World} {v v' : Value} (h : But2 p q a b) (hg : Grew v v' b c) (hv : ∀ g, v.ownBlock = some g → g = q ∨ a.heap.size ≤ g) (hB : ∀ B0, (∀ g, v.ownBlock = some g → B0 ≤ g) → B0 ≤ b.heap.size → Below B0 b c) : But2 p q a c := by
  have h0 := hB 0 (fun g _ => Nat.zero_le _) (Nat.zero_le _)
  refine ⟨h0.os.trans h.os, h0.tape.trans h.tape, h0.output.trans h.output, Nat.le_trans h.size h0.size, fun k hk h1 h2 => ?_⟩
  rw [← h.block k hk h1 h2]
  have hkb : k < b.heap.size := Nat.lt_of_lt_of_le hk h.size
  have e : b.heap[k]? = some b.heap[k] := Array.getElem?_eq_getElem hkb
  rw [e]
  exact hg.block k _ e (fun e' => by rcases hv k e' with h3 | h3 <;> omega)
theorem owns_but2 {w w' : World} {B p q : Nat} {e : TypeId} {sz n : Nat} {v : Value} {xs : List Value} (h : w.ownsRow B e sz v n xs) (hb : But2 p q w w') (h1 : v.ownBlock ≠ some p) (h2 : v.ownBlock ≠ some q) : w'.ownsRow B e sz v n xs :=
  owns_keep' h fun g o hg ho => hb.at ho (fun e => h1 (by rw [hg, e])) (fun e => h2 (by rw [hg, e]))
def boolsF (T : List Int) (n : Nat) : Array Value := ((List.range n).map fun i : Nat => Value.bool (decide ((i : Int) ∈ T))).toArray
theorem boolsF_size (T : List Int) (n : Nat) : (boolsF T n).size = n := by simp [boolsF]
theorem boolsF_get (T : List Int) {n i : Nat} (h : i < n) : (boolsF T n)[i]? = some (.bool (decide ((i : Int) ∈ T))) := by
  unfold boolsF
  rw [List.getElem?_toArray, List.getElem?_map, List.getElem?_range h]; rfl
theorem boolsF_set (T : List Int) {n i : Nat} (h : i < n) : (boolsF T n).setIfInBounds i (.bool true) = boolsF (T ++ [(i : Int)]) n := by
  apply Array.ext_getElem?
  intro y
  rw [Array.getElem?_setIfInBounds]
  by_cases hy : y < n
  · rw [boolsF_size, boolsF_get _ hy, boolsF_get _ hy]
    by_cases e : i = y
    · subst e; rw [if_pos rfl, if_pos h]; simp
    · rw [if_neg e]
      have : (y : Int) ≠ (i : Int) := by omega
      simp [this]
  · have h1 : (boolsF T n)[y]? = none := Array.getElem?_eq_none (by rw [boolsF_size]; omega)
    have h2 : (boolsF (T ++ [(i : Int)]) n)[y]? = none := Array.getElem?_eq_none (by rw [boolsF_size]; omega)
    rw [h1, h2, if_neg (by omega)]
theorem made_false (n : Nat) : madeCells #[.bool false] n = boolsF [] n := by
  apply Array.ext_getElem?
  intro y
  by_cases hy : y < n
  · rw [boolsF_get _ hy]
    simp [madeCells, hy, Nat.mod_one]
  · rw [Array.getElem?_eq_none (by rw [size_madeCells]; omega), Array.getElem?_eq_none (by rw [boolsF_size]; omega)]
theorem block_full {W : World} {B g N : Nat} {e : TypeId} {cs : Array Value} (h : W.ownsRow B e 1 (.slice (some ⟨g, 0, none⟩) N N) N cs.toList) (hc : cs.size = N) : W.heap[g]? = some (.cells cs e (0, 0)) := by
  rcases h.2 with ⟨e, _⟩ | ⟨g', cap, cur, e, hb, hheap, hn, hm, hsz, htk⟩
  · cases e
  · obtain ⟨e1, _, rfl⟩ := Value.slice.inj e
    obtain rfl : g = g' := by simpa using e1
    rw [hheap]
    have hl : cur.toList.length = N := by simpa using hsz
    rw [Nat.mul_one, List.take_of_length_le (by omega)] at htk
    rw [Array.toList_inj.1 htk]
/-- One slice more. -/
theorem wp_appS {ops : Array Oper} {rest : List Oper} {o : Oper} {a : Act} {W : World} {Q : Exit → Act → World → Prop} (hgd : o.guard = none) (s x : Operand)
    (ho : o.op = .call { callee := .builtin .append, args := #[s, x], argTypes := #[46, 46] })
    (B : Nat) (v : Value) (n : Nat) (vs : List Value) (hO : W.ownsRow B 75 1 v n vs) (hs : a.eval s = v) (u : Value) (hu : u.oneCell' = true) (H : Nat) (hx : a.eval x = .slice (some ⟨H, 0, none⟩) 1 1) (hn : n ≤ 1100000) (hB : B ≤ W.heap.size) (hH : W.heap.size = H)
    (h : ∀ v' w', w'.ownsRow B 75 1 v' (n + 1) (vs ++ [u]) → Grew v v' W w' → wpList Try.prog ops Q rest (a.put o.dst v') w') : wpList Try.prog ops Q (o :: rest) a (W.alloc (.cells #[u] 75)) := by
  obtain ⟨i0, hi, hz0, hz1, hz2⟩ := info_parts Try.infoSlI
  exact wpList_append_row hgd s x 46 ho B 75 i0 (.slice none 0 0) 1 24 Try.underlying46 hi hz0 hz1 hz2 rfl (by decide) (by decide) v n vs hs hO #[u] rfl (by simp [hu]) H hx hn hB hH _ h
theorem Try.infoBoolz : (Try.prog.info? 4).map (fun i => (i.zero, i.size, i.bytes)) = some (some (.bool false), 1, 1) := by kernel_rfl
set_option maxHeartbeats 3200000 in
set_option maxRecDepth 100000 in
theorem c_l05Pairs (A : Option Addr) (c : Nat) (l : List (Int × Int)) (hw : ∀ i : Int, 0 ≤ i → i < l.length → 0 ≤ wdL l i ∧ wdL l i ≤ 8) (hlen : l.length ≤ 1000) (w : World) (hA : PairsAt .i8 .i8 w A l) :
    Calls Try.prog 48 #[.slice A l.length c] w fun e w' => ∃ v vs, e = .returned v ∧ Below w.heap.size w w' ∧ w'.ownsRow w.heap.size 75 1 v (pairL l).length vs ∧ RowsG w.heap.size 2 1 w' v vs (cellsOfP (pairL l)) := by
  have HA := hid hA
  have HWd := hid hw
  have HLen := hid hlen
  have HOrd := fun W h => hid (c_l05Order A c l hw hlen W h)
  have HB0 : Hid (Below w.heap.size w (w.alloc (.cells #[] 75))) := (Below.refl _ w).alloc (Nat.le_refl _) _
  have HM0 : Hid ((w.alloc (.cells #[] 75)).ownsRow w.heap.size 75 1 (.slice (some ⟨w.heap.size, 0, none⟩) 0 0) 0 []) := World.ownsRow_made w #[] 0 (Nat.le_refl _) (by decide) rfl
  obtain ⟨i0, hi, hz0, hz1, hz2⟩ := info_parts Try.infoBoolz
  have hLI : (l.length : Int) ≤ 1000 := by omega
  clear hw hlen hA
  go_enter Try.func48, Try.ntmps48
  go_wp2_with (first
    | ((with_reducible refine gate (N := 13) rfl ?_); (refine wpList_make_full _ rfl (.tmp 12) (.tmp 12) 77 rfl (w.heap.size + 1) 4 i0 (.bool false) 1 Try.underlying77 hi hz0 hz1 .i64 .i64 (l.length : Int) (l.length : Int) l.length rfl rfl rfl rfl (by rw [hz2]; have := HLen.out; omega) (Nat.le_trans HLen.out (by decide)) (by simp) ?_; intro w1 hown1 hg1; have HL1 := hid (block_full hown1 (by simp [size_madeCells])); have HG1 := hid hg1; clear hown1 hg1))
    | (go_at_call 72; ((refine (HOrd w1 (HA.out.below (HB0.out.trans (((Below.refl _ _).grown HG1.out (Nat.le_refl _) (fun k hk => by cases hk)).mono (by simp))) (Nat.le_refl _))).out.mono ?_); rintro e2 w2 ⟨v, rfl, hb2, hr2⟩); obtain ⟨Ao, co, rfl⟩ := owns_slc hr2; have HB2 := hid hb2; have HR2 := hid hr2; clear hb2 hr2))
  have hL01 : Below (w.heap.size + 1) (w.alloc (.cells #[] 75)) w1 := (Below.refl _ _).grown HG1.out (by simp) (fun k hk => by cases hk)
  have hT1 : w1.heap[w.heap.size + 1]? = some (.cells (boolsF [] l.length) 4 (0, 0)) := by
    have := HL1.out
    rw [Nat.mul_one, show (Value.bool false).cells = #[Value.bool false] from rfl, made_false, World.size_alloc] at this
    exact this
  obtain ⟨gt, hgt⟩ : ∃ g, g = w.heap.size + 1 := ⟨_, rfl⟩
  obtain ⟨b0, hb0⟩ : ∃ g, g = w.heap.size := ⟨_, rfl⟩
  have hT2 := block_below HB2.out hT1 (block_lt hT1)
  have hs12 := HB2.out.size
  have hlt1 := block_lt hT1
  have HN2 : Hid (w2.ownsRow w.heap.size 75 1 (.slice (some ⟨b0, 0, none⟩) 0 0) 0 []) := by
    rw [hb0]
    exact owns_below2 (owns_below2 HM0.out hL01 (by simp)) HB2.out (Nat.le_refl _)
  have HW2 : Hid (Below w.heap.size w w2) := (HB0.out.trans (hL01.mono (Nat.le_succ _))).trans (HB2.out.mono (by omega))
  have HO2 : Hid (RowI (gt + 1) w2 (.slice Ao (ordL l).length co) (ordL l)) := HR2.out.mono (by omega)
  rw [← hgt] at hT2 ⊢
  rw [← hb0]
  have HT2 := hid hT2
  obtain ⟨BS, hBS⟩ : ∃ b, b = w2.heap.size := ⟨_, rfl⟩
  have HSz : Hid (BS = w2.heap.size ∧ gt + 1 ≤ BS ∧ b0 + 1 = gt ∧ b0 = w.heap.size) := ⟨hBS, by omega, by omega, hb0⟩
  have HOL : Hid ((ordL l).length = l.length) := ordL_len (by have := HLen.out; omega) HWd.out
  have HOM : Hid (∀ x ∈ ordL l, 0 ≤ x ∧ x < l.length) := fun x hx => ordL_mem hx
  have HPL : Hid (pairN l (ordL l) (ordL l).length = pairL l) := rfl
  obtain ⟨O, hO⟩ : ∃ O, O = ordL l := ⟨_, rfl⟩
  rw [← hO] at HO2 HOL HOM HPL ⊢
  have HOlt : Hid (∀ g, (Value.slice Ao O.length co).ownBlock = some g → gt < g ∧ g < BS) := fun g hg => by have := World.ownsRow.lt HO2.out g hg; omega
  clear hgt hb0 hT1 hT2 hL01 HL1 HG1 HB2 HR2 HM0 HB0 HOrd hBS hO hs12 hlt1
  have HG0 : Hid (RowsG BS 2 1 w2 (.slice (some ⟨b0, 0, none⟩) 0 0) [] (cellsOfP (pairN l O 0))) := RowsG.nil _ _ _ _ _
  go_loopw [3, 6] (fun vo i wr => ∃ (k : Nat) (vs : List Value), k ≤ O.length ∧ i = .int .i64 k ∧ Hid (But2 gt b0 w2 wr) ∧ Hid (wr.heap[gt]? = some (.cells (boolsF ((pairN l O k).map (·.2)) l.length) 4 (0, 0))) ∧ Hid (wr.ownsRow w.heap.size 75 1 vo (pairN l O k).length vs) ∧ Hid (RowsG BS 2 1 wr vo vs (cellsOfP (pairN l O k))) ∧ Hid (∀ g, vo.ownBlock = some g → g = b0 ∨ BS ≤ g)) (fun _ i _ => O.length - (intOf i).toNat)
  case atStart => exact ⟨0, [], by omega, rfl, But2.refl _ _ _, HT2.out, HN2.out, HG0.out, fun g hg => .inl (by simp [Value.ownBlock] at hg; omega)⟩
  case round =>
    clear HN2 HG0 HT2
    obtain ⟨wo, rfl⟩ : ∃ W, W = wr := ⟨_, rfl⟩
    obtain ⟨k, vs, hk, rfl, hbt, htk, hown, hrows, hvo⟩ := hrel
    obtain ⟨Av, cv, rfl⟩ := owns_slc hown.out
    have hL := HLen.out
    have hOL := HOL.out
    have hS := HSz.out
    have hOr : RowI (gt + 1) wo (.slice Ao O.length co) O := owns_but2 HO2.out hbt.out (fun e => by have := HOlt.out _ e; omega) (fun e => by have := HOlt.out _ e; omega)
    have hBw : Below w.heap.size w wo := ⟨hbt.out.os.trans HW2.out.os, hbt.out.tape.trans HW2.out.tape, hbt.out.output.trans HW2.out.output, Nat.le_trans HW2.out.size hbt.out.size, fun i hi => (hbt.out.block i (by omega) (by omega) (by omega)).trans (HW2.out.block i hi)⟩
    have hAr := HA.out.below hBw (Nat.le_refl _)
    have HBw := hid hBw
    by_cases hkl : k < O.length
    · have d1 : decide ((k : Int) < (O.length : Int)) = true := decide_eq_true (by omega)
      have hkI : (k : Int) < (O.length : Int) := by omega
      have hk0 : (0 : Int) ≤ (k : Int) := by omega
      have hk30 : (k : Int) ≤ 1000 := by omega
      have hp := List.getElem?_eq_getElem hkl
      obtain ⟨a, haa⟩ : ∃ a, a = O[k] := ⟨_, rfl⟩
      rw [← haa] at hp
      have hra := HOM.out a (List.mem_of_getElem? hp)
      have HSUC := hid (pairN_succ (l := l) hp)
      obtain ⟨go, cg, e, _, hgl, c0, _⟩ := owns_cell hOr (icells_get hp)
      obtain ⟨rfl, rfl⟩ : Ao = some ⟨go, 0, none⟩ ∧ co = cg := by simpa using e
      obtain ⟨a', rfl⟩ : ∃ a' : Nat, a = (a' : Int) := ⟨a.toNat, by omega⟩
      have pa := List.getElem?_eq_getElem (show a' < l.length by omega)
      have eh := haL_get pa
      have ew := wdL_get pa
      obtain ⟨b, off, e2, r1, r2, r3⟩ := hAr a' _ pa
      rw [← eh] at r2
      rw [← ew] at r3
      obtain ⟨vh, hvh⟩ : ∃ v, v = haL l a' := ⟨_, rfl⟩
      obtain ⟨vw, hvw⟩ : ∃ v, v = wdL l a' := ⟨_, rfl⟩
      have hwa := HWd.out a' hra.1 hra.2
      rw [← hvh] at r2
      rw [← hvw] at r3 hwa
      subst e2
      have x0 : (0 : Int) ≤ (a' : Int) := by omega
      have x1 : (a' : Int) < (l.length : Int) := by omega
      have x2 : (a' : Int) ≤ 1000 := by omega
      have HKL := hid hkl
      have HVH := hid hvh
      have HVW := hid hvw
      have HRA := hid hra
      have HOr := hid hOr
      have HAr := hid hAr
      clear hp haa hra hOr e hgl hAr hBw pa eh ew hkl hvh hvw hS hL hOL
      by_cases hz : vh = 0
      · have d2 : (vh != 0) = false := by rw [hz]; rfl
        have d3 : (vh == 0) = true := by rw [hz]; rfl
        have HZ : Hid (haL l a' = 0) := by show _ = _; rw [← HVH.out]; exact hz
        obtain ⟨T, hT⟩ : ∃ T, T = (pairN l O k).map (·.2) := ⟨_, rfl⟩
        have HTT := hid hT
        rw [← hT] at htk
        obtain ⟨f, hf⟩ : ∃ f, f = fitB l a' T := ⟨_, rfl⟩
        have HFF := hid hf
        clear hz hT hf
        have HC0 := hid c0
        have R3 := hid r3
        have R1 := hid r1
        go_wp2_with fail
        clear c0 r2 r3
        have hwa2 := hwa
        go_loopw [3, 8] (fun vo i wm => ∃ k2 : Nat, vo = .slice Av (pairN l O k).length cv ∧ k2 ≤ O.length ∧ i = .int .i64 k2 ∧ Hid (Below wo.heap.size wo wm) ∧ Hid ((O.take k2).any f = false)) (fun _ i _ => O.length - (intOf i).toNat)
        case atStart => exact ⟨0, rfl, by omega, rfl, Below.refl _ _, rfl⟩
        case round =>
          obtain ⟨wm, rfl⟩ : ∃ W, W = wr := ⟨_, rfl⟩
          obtain ⟨k2, rfl, hk2, rfl, hbm, hno⟩ := hrel
          have hL := HLen.out
          have hOL := HOL.out
          by_cases hk2l : k2 < O.length
          · have d4 : decide ((k2 : Int) < (O.length : Int)) = true := decide_eq_true (by omega)
            have k2I : (k2 : Int) < (O.length : Int) := by omega
            have k20 : (0 : Int) ≤ (k2 : Int) := by omega
            have k230 : (k2 : Int) ≤ 1000 := by omega
            have hp := List.getElem?_eq_getElem hk2l
            obtain ⟨bb, hbb⟩ : ∃ a, a = O[k2] := ⟨_, rfl⟩
            rw [← hbb] at hp
            have hrb := HOM.out bb (List.mem_of_getElem? hp)
            have HK2 := hid hp
            have HTk : Hid ((O.take (k2 + 1)).any f = f bb) := by
              show _ = _
              rw [List.take_succ_eq_append_getElem hk2l, List.any_append, hno.out, ← hbb]; simp
            obtain ⟨go2, cg2, e3, _, hgl2, c2, _⟩ := owns_cell (owns_below2 HOr.out hbm.out (Nat.le_refl _)) (icells_get hp)
            obtain ⟨rfl, rfl⟩ : go = go2 ∧ co = cg2 := by simpa using e3
            obtain ⟨b', rfl⟩ : ∃ b' : Nat, bb = (b' : Int) := ⟨bb.toNat, by omega⟩
            have pb := List.getElem?_eq_getElem (show b' < l.length by omega)
            have ehb := haL_get pb
            have ewb := wdL_get pb
            obtain ⟨b9, off9, e9, s1, s2, s3⟩ := HAr.out b' _ pb
            obtain ⟨rfl, rfl⟩ : b = b9 ∧ off = off9 := by simpa using e9
            rw [← ehb] at s2
            rw [← ewb] at s3
            have hwb := HWd.out b' hrb.1 hrb.2
            have t2 := (hbm.out.cell (p := ⟨b, _, none⟩) s1).trans s2
            have t3 := (hbm.out.cell (p := ⟨b, _, none⟩) s1).trans s3
            have t4 := (hbm.out.cell (p := ⟨b, _, none⟩) R1.out).trans R3.out
            have htm := block_below hbm.out htk.out (block_lt htk.out)
            have t5 : wm.cell? ⟨gt, b', none⟩ = some (.bool (decide ((b' : Int) ∈ T))) := cell_block htm (boolsF_get T (by omega))
            have t6 : wm.frozen? ⟨gt, b', none⟩ = false := frozen_of_row _ _ _ _ _ htm
            have lgt : gt < wm.heap.size := block_lt htm
            have lb : b < wm.heap.size := Nat.lt_of_lt_of_le s1 hbm.out.size
            have HF : Hid (f b' = (decide (haL l b' = 1) && (!decide ((b' : Int) ∈ T) && decide (vw + wdL l b' ≤ 8)))) := by show _ = _; rw [HFF.out, HVW.out]; rfl
            obtain ⟨qh, hqh⟩ : ∃ v, v = haL l b' := ⟨_, rfl⟩
            obtain ⟨qw, hqw⟩ : ∃ v, v = wdL l b' := ⟨_, rfl⟩
            obtain ⟨tk, htkk⟩ : ∃ v, v = decide ((b' : Int) ∈ T) := ⟨_, rfl⟩
            rw [← hqh] at t2 HF
            rw [← hqw] at t3 HF hwb
            rw [← htkk] at t5 HF
            have y0 : (0 : Int) ≤ (b' : Int) := by omega
            have y1 : (b' : Int) < (l.length : Int) := by omega
            have y2 : (b' : Int) ≤ 1000 := by omega
            have e8 : IntKind.i8.wrap (vw + qw) = vw + qw := IntWalk.i8_in _ (by omega)
            have HTM := hid htm
            have HRB := hid hrb
            have HK2L := hid hk2l
            clear hp hbb hrb e3 hgl2 pb ehb ewb e9 s1 s2 s3 htm hqh hqw htkk hk2l hL hOL
            by_cases h1 : qh = 1
            · have d5 : (qh == 1) = true := by rw [beq_iff_eq]; exact h1
              have HH : Hid (decide (qh = 1) = true) := decide_eq_true h1
              clear h1
              cases tk with
              | true =>
                go_wp2_with fail
                refine wp_region_ext wm.heap.size (by kernel_rfl) (by kernel_rfl) ?_
                repeat (go_big_quiet_step (fail))
                refine wpQuiet_nil ?_
                intro xx
                go_wp2_with fail
                go_roundw
                case rel => exact ⟨k2 + 1, rfl, by have := HK2L.out; omega, by go_num, hbm.out.trans (xx.below.mono hbm.out.size), by rw [HTk.out, HF.out, HH.out]; rfl⟩
                case measure => have := HK2L.out; simp [intOf]; omega
              | false =>
                by_cases h3 : vw + qw ≤ 8
                · have d6 : decide (vw + qw ≤ 8) = true := decide_eq_true h3
                  have HYf : Hid (f b' = true) := by show _ = _; rw [HF.out, HH.out, d6]; rfl
                  clear h3
                  go_wp2_with fail
                  refine wp_region_ext wm.heap.size (by kernel_rfl) (by kernel_rfl) ?_
                  repeat (go_big_quiet_step (fail))
                  refine wpQuiet_nil ?_
                  intro xx
                  have HBY := hid (hbm.out.trans (xx.below.mono hbm.out.size))
                  have HTY := hid (block_below xx.below HTM.out lgt)
                  obtain ⟨Y, hY⟩ : ∃ Y, Y = xx.out := ⟨_, rfl⟩
                  rw [← hY] at HBY HTY ⊢
                  clear hY xx t2 t3 t4 t5 t6
                  have HSS := HSz.out
                  have f5 : Y.cell? ⟨gt, b', none⟩ = some (.bool (decide ((b' : Int) ∈ T))) := cell_block HTY.out (boolsF_get T (by have := HRB.out; omega))
                  have f6 : Y.frozen? ⟨gt, b', none⟩ = false := frozen_of_row _ _ _ _ _ HTY.out
                  have HYes := hid (pairA_some (l := l) (ord := O) (st := pairN l O k) (a := (a' : Int)) (b := (b' : Int)) (k := k2) HZ.out HK2.out (by rw [← HTT.out, ← HFF.out]; exact hno.out) (by rw [← HTT.out, ← HFF.out]; exact HYf.out)).1
                  have hvg : ∀ g, (Value.slice Av (pairN l O k).length cv).ownBlock = some g → g ≠ gt ∧ g < Y.heap.size := fun g hg => ⟨by have := hvo.out g hg; omega, by have := (World.ownsRow.lt hown.out g hg).2; have := HBY.out.size; omega⟩
                  have HVG := hid hvg
                  have hN1 : (Y.setCell ⟨gt, b', none⟩ (.bool true)).ownsRow w.heap.size 75 1 (.slice Av (pairN l O k).length cv) (pairN l O k).length vs := owns_set_other (owns_below2 hown.out HBY.out (Nat.le_refl _)) (fun e => (hvg _ e).1 rfl) b' _
                  have hR1 : RowsG BS 2 1 (Y.setCell ⟨gt, b', none⟩ (.bool true)) (.slice Av (pairN l O k).length cv) vs (cellsOfP (pairN l O k)) := (hrows.out.below HBY.out (Nat.le_refl _)).butt (Butt.set gt Y b' _) (by omega)
                  have hT1 := heap_setCell_same Y gt b' _ _ (.bool true) HTY.out
                  rw [boolsF_set T (by have := HRB.out; omega)] at hT1
                  have hU1 : But2 gt b0 w2 (Y.setCell ⟨gt, b', none⟩ (.bool true)) := (hbt.out.below HBY.out (Nat.le_refl _)).set b' _
                  have HN2 := hid (World.ownsRow.alloc hN1 (.cells #[.int .i64 (a' : Int), .int .i64 (b' : Int)] 2))
                  have hAl : Below (Y.setCell ⟨gt, b', none⟩ (.bool true)).heap.size (Y.setCell ⟨gt, b', none⟩ (.bool true)) ((Y.setCell ⟨gt, b', none⟩ (.bool true)).alloc (.cells #[.int .i64 (a' : Int), .int .i64 (b' : Int)] 2)) := (Below.refl _ _).alloc (Nat.le_refl _) _
                  have HR2 := hid (hR1.below hAl (Nat.le_refl _))
                  have HT2 := hid (block_alloc hT1 (.cells #[.int .i64 (a' : Int), .int .i64 (b' : Int)] 2))
                  have HU2 := hid (hU1.below hAl (Nat.le_refl _))
                  have HP2 := hid (block_new1 (Y.setCell ⟨gt, b', none⟩ (.bool true)) (.cells #[.int .i64 (a' : Int), .int .i64 (b' : Int)] 2) (n := Y.heap.size) (by simp))
                  have HSY : Hid (BS ≤ Y.heap.size ∧ w.heap.size ≤ Y.heap.size ∧ wo.heap.size ≤ Y.heap.size) := ⟨by have := HBY.out.size; have := hbt.out.size; omega, by have := HBY.out.size; have := hbt.out.size; omega, HBY.out.size⟩
                  have HPNl : Hid ((pairN l O k).length ≤ 1100000) := by have := pairN_len l O k; have := HKL.out; have := HOL.out; have := HLen.out; show _ ≤ _; omega
                  have lgY : gt < Y.heap.size := block_lt HTY.out
                  clear HSS hvg hN1 hR1 hT1 hU1 hAl lgt lb
                  go_wp2_with ((with_reducible refine gate (N := 77) rfl ?_); (refine wp_appS rfl (.tmp 72) (.tmp 76) rfl w.heap.size _ _ vs HN2.out rfl (.slice (some ⟨Y.heap.size, 0, none⟩) 2 2) rfl (Y.heap.size + 1) rfl HPNl.out (by have := HSY.out; simp; omega) (by simp) ?_); intro v' w6 hown6 hg6; obtain ⟨A6, c6, rfl⟩ := owns_slc hown6; have HO6 := hid hown6; have HG6 := hid hg6; clear hown6 hg6)
                  have hP6 := HG6.out.block _ _ HP2.out (fun e => by have := (HVG.out _ e).2; omega)
                  have hT6 := HG6.out.block _ _ HT2.out (fun e => (HVG.out _ e).1 rfl)
                  refine ⟨⟨k + 1, vs ++ [.slice (some ⟨Y.heap.size, 0, none⟩) 2 2], by have := HKL.out; omega, by go_num, HU2.out.grew HG6.out (fun g hg => by have := hvo.out g hg; have := HSz.out; omega) HG6.out.below, ?_, ?_, ?_, fun g hg => ?_⟩, by have := HKL.out; simp [intOf]; omega⟩
                  · rw [HSUC.out, HYes.out, List.map_append, ← HTT.out]; exact hT6
                  · rw [HSUC.out, HYes.out, List.length_append]; exact HO6.out
                  · rw [HSUC.out, HYes.out]
                    have hsn := RowsG.snocA (x := (2, [.int .i64 (a' : Int), .int .i64 (b' : Int)])) (HR2.out.grew HG6.out) (pair_row hP6 HSY.out.1) (fun j u hu g' h1 h2' => by
                      have h3 := (hrows.out.lt hu g' h1).2
                      have e1 : Y.heap.size = g' := by simpa [Value.ownBlock] using h2'
                      have := HSY.out
                      omega) (fun g' h1 h2' => by
                      have e1 : Y.heap.size = g' := by simpa [Value.ownBlock] using h1
                      rcases HG6.out.own g' h2' with h7 | h7
                      · have := (HVG.out g' h7).2; omega
                      · simp at h7; omega)
                    have hcells : cellsOfP (pairN l O k) ++ [(2, [Value.int .i64 (a' : Int), Value.int .i64 (b' : Int)])] = cellsOfP (pairN l O k ++ [((a' : Int), (b' : Int))]) := by simp [cellsOfP]
                    rw [hcells] at hsn
                    exact hsn
                  · rcases HG6.out.own g hg with h7 | h7
                    · exact hvo.out g h7
                    · right; simp at h7; have := HSY.out; omega
                · have d6 : decide (vw + qw ≤ 8) = false := decide_eq_false h3
                  have H6 := hid d6
                  clear h3
                  go_wp2_with fail
                  refine wp_region_ext wm.heap.size (by kernel_rfl) (by kernel_rfl) ?_
                  repeat (go_big_quiet_step (fail))
                  refine wpQuiet_nil ?_
                  intro xx
                  go_wp2_with fail
                  go_roundw
                  case rel => exact ⟨k2 + 1, rfl, by have := HK2L.out; omega, by go_num, hbm.out.trans (xx.below.mono hbm.out.size), by rw [HTk.out, HF.out, HH.out, H6.out]; rfl⟩
                  case measure => have := HK2L.out; simp [intOf]; omega
            · have d5 : (qh == 1) = false := by rw [beq_eq_false_iff_ne]; exact h1
              have HH : Hid (decide (qh = 1) = false) := decide_eq_false h1
              clear h1
              go_wp2_with fail
              refine wp_region_ext wm.heap.size (by kernel_rfl) (by kernel_rfl) ?_
              repeat (go_big_quiet_step (fail))
              refine wpQuiet_nil ?_
              intro xx
              go_wp2_with fail
              go_roundw
              case rel => exact ⟨k2 + 1, rfl, by have := HK2L.out; omega, by go_num, hbm.out.trans (xx.below.mono hbm.out.size), by rw [HTk.out, HF.out, HH.out]; rfl⟩
              case measure => have := HK2L.out; simp [intOf]; omega
          · obtain rfl : k2 = O.length := by omega
            have d4 : decide ((O.length : Int) < (O.length : Int)) = false := decide_eq_false (by omega)
            have HNone := hid (pairA_none (l := l) (ord := O) (st := pairN l O k) (a := (a' : Int)) (by rw [← HTT.out, ← HFF.out, ← List.take_length (l := O)]; exact hno.out))
            clear hL hOL
            go_wp2_with fail
            refine ⟨⟨k + 1, vs, by have := HKL.out; omega, by go_num, hbt.out.below hbm.out (Nat.le_refl _), ?_, ?_, ?_, hvo.out⟩, by have := HKL.out; simp [intOf]; omega⟩
            · rw [HSUC.out, HNone.out, ← HTT.out]; exact block_below hbm.out htk.out (block_lt htk.out)
            · rw [HSUC.out, HNone.out]; exact owns_below2 hown.out hbm.out (Nat.le_refl _)
            · rw [HSUC.out, HNone.out]; exact hrows.out.below hbm.out (Nat.le_refl _)
      · have d2 : (vh != 0) = true := by rw [bne_iff_ne]; exact hz
        have d3 : (vh == 0) = false := by rw [beq_eq_false_iff_ne]; exact hz
        have HNo := hid (pairA_no (l := l) (ord := O) (st := pairN l O k) (a := (a' : Int)) (by rw [← HVH.out]; exact hz))
        clear hz
        go_wp2_with fail
        refine ⟨⟨k + 1, vs, by have := HKL.out; omega, by go_num, hbt.out, ?_, ?_, ?_, hvo.out⟩, by have := HKL.out; simp [intOf]; omega⟩
        · rw [HSUC.out, HNo.out]; exact htk.out
        · rw [HSUC.out, HNo.out]; exact hown.out
        · rw [HSUC.out, HNo.out]; exact hrows.out
    · obtain rfl : k = O.length := by omega
      have d1 : decide ((O.length : Int) < (O.length : Int)) = false := decide_eq_false (by omega)
      have HBB : Hid (w.heap.size ≤ BS) := by show _ ≤ _; omega
      clear hL hOL hS hBw
      go_wp2_with fail
      go_ret
      refine ⟨_, vs, rfl, HBw.out, ?_, ?_⟩
      · rw [← HPL.out]; exact hown.out
      · rw [← HPL.out]; exact hrows.out.base HBB.out
end Go.Proofs.Ytgbihaliiogboaa

/- How many tiles are needed for pieces: the program's and the reference's. -/
namespace Go.Proofs.Ytgbihaliiogboaa
open Go.RowKit
set_option linter.unusedSimpArgs false
set_option linter.unusedVariables false
def pcV (l : List (Int × Int)) : Int := if l.all isPc = true then (if l.length ≤ 30 then 0 else 3) else 1
theorem pcV_eq (l : List (Int × Int)) : pcK [l] = pcV l := by simp only [pcK, pcV, List.all_cons, List.all_nil, Bool.and_true, decide_eq_true_eq]
theorem pcV_zero {l : List (Int × Int)} (h : pcV l = 0) : l.length ≤ 30 ∧ ∀ i : Int, 0 ≤ i → i < l.length → 0 ≤ wdL l i ∧ wdL l i ≤ 8 := by
  unfold pcV at h
  by_cases h1 : l.all isPc = true
  · rw [if_pos h1] at h
    by_cases h2 : l.length ≤ 30
    · refine ⟨h2, fun i i0 i1 => ?_⟩
      obtain ⟨k, rfl⟩ : ∃ k : Nat, i = (k : Int) := ⟨i.toNat, by omega⟩
      have hk : k < l.length := by omega
      have hp := List.getElem?_eq_getElem hk
      rw [wdL_get hp]
      have := List.all_eq_true.1 h1 l[k] (List.getElem_mem hk)
      unfold isPc inB at this
      simp only [Bool.and_eq_true, decide_eq_true_eq] at this
      omega
    · rw [if_neg h2] at h; cases h
  · rw [if_neg h1] at h; cases h
theorem pcV_cases (l : List (Int × Int)) : pcV l = 0 ∨ pcV l = 1 ∨ pcV l = 3 := by
  unfold pcV
  split
  · split
    · exact .inl rfl
    · exact .inr (.inr rfl)
  · exact .inr (.inl rfl)
set_option maxRecDepth 100000 in
theorem c_l05Pieces (A : Option Addr) (c : Nat) (l : List (Int × Int)) (hB : ∀ p ∈ l, (-128 ≤ p.1 ∧ p.1 ≤ 127) ∧ (-128 ≤ p.2 ∧ p.2 ≤ 127)) (hlen : l.length ≤ 1048576) (w : World) (hA : PairsAt .i8 .i8 w A l) :
    Calls Try.prog 66 #[.slice A l.length c] w fun e w' => e = .returned (.bool (l.all isPc)) ∧ Below w.heap.size w w' := by
  have HA := hid hA
  have HBd := hid hB
  have hL := hlen
  clear hA hB hlen
  go_enter Try.func66, Try.ntmps66
  go_wp2_with fail
  go_loopw [3] (fun i wr => ∃ k : Nat, k ≤ l.length ∧ i = .int .i64 k ∧ Hid (Below w.heap.size w wr) ∧ Hid ((l.take k).all isPc = true)) (fun i _ => l.length - (intOf i).toNat)
  case atStart => exact ⟨0, by omega, rfl, Below.refl _ _, rfl⟩
  case round =>
    obtain ⟨k, hk, rfl, hb, hal⟩ := hrel
    by_cases hkl : k < l.length
    · have d1 : decide ((k : Int) < (l.length : Int)) = true := decide_eq_true (by omega)
      have k0 : (0 : Int) ≤ (k : Int) := by omega
      have k1 : (k : Int) < (l.length : Int) := by omega
      have k2 : (k : Int) ≤ 1048576 := by omega
      have hp := List.getElem?_eq_getElem hkl
      obtain ⟨⟨p1, p2⟩, hpp⟩ : ∃ p, p = l[k] := ⟨_, rfl⟩
      have HTk : Hid ((l.take (k + 1)).all isPc = isPc (p1, p2)) := by
        show _ = _
        rw [List.take_succ_eq_append_getElem hkl, List.all_append, hal.out, ← hpp]; simp
      rw [← hpp] at hp
      have hpb := HBd.out _ (List.mem_of_getElem? hp)
      dsimp only at hpb
      have HNo : Hid (isPc (p1, p2) = false → l.all isPc = false) := fun h => by
        rw [Bool.eq_false_iff]
        intro h2
        rw [List.all_eq_true.1 h2 _ (List.mem_of_getElem? hp)] at h
        cases h
      obtain ⟨b, off, rfl, r1, r2, r3⟩ := HA.out k _ hp
      have c1 := (hb.out.cell (p := ⟨b, _, none⟩) r1).trans r2
      have c2 := (hb.out.cell (p := ⟨b, _, none⟩) r1).trans r3
      dsimp only at c1 c2
      have e1 : IntKind.i64.wrap p1 = p1 := IntWalk.i64_in _ (by omega)
      have e2 : IntKind.i64.wrap p2 = p2 := IntWalk.i64_in _ (by omega)
      have HF : Hid (isPc (p1, p2) = (inB p1 0 2 && inB p2 1 7)) := rfl
      obtain ⟨g1, hg1⟩ : ∃ g, inB p1 0 2 = g := ⟨_, rfl⟩
      obtain ⟨g2, hg2⟩ : ∃ g, inB p2 1 7 = g := ⟨_, rfl⟩
      have H1 := hid hg1
      have H2 := hid hg2
      rw [hg1, hg2] at HF
      have HKL := hid hkl
      clear hp hpp r2 r3 hg1 hg2 hkl
      cases g1 with
      | false =>
        go_wp2_with (go_at_call 32; ((with_reducible refine (c_l00In p1 0 2 _ _ H1.out).mono ?_); rintro e1 w1 ⟨rfl, rfl⟩))
        go_ret
        exact ⟨ret_bool (HNo.out HF.out).symm, hb.out⟩
      | true =>
        cases g2 with
        | false =>
          go_wp2_with (first
            | (go_at_call 32; ((with_reducible refine (c_l00In p1 0 2 _ _ H1.out).mono ?_); rintro e1 w1 ⟨rfl, rfl⟩))
            | (go_at_call 32; ((with_reducible refine (c_l00In p2 1 7 _ _ H2.out).mono ?_); rintro e1 w1 ⟨rfl, rfl⟩)))
          go_ret
          exact ⟨ret_bool (HNo.out HF.out).symm, hb.out⟩
        | true =>
          go_wp2_with (first
            | (go_at_call 32; ((with_reducible refine (c_l00In p1 0 2 _ _ H1.out).mono ?_); rintro e1 w1 ⟨rfl, rfl⟩))
            | (go_at_call 32; ((with_reducible refine (c_l00In p2 1 7 _ _ H2.out).mono ?_); rintro e1 w1 ⟨rfl, rfl⟩)))
          refine ⟨⟨k + 1, by have := HKL.out; omega, by go_num, hb.out, HTk.out.trans HF.out⟩, by have := HKL.out; simp [intOf]; omega⟩
    · obtain rfl : k = l.length := by omega
      have d1 : decide ((l.length : Int) < (l.length : Int)) = false := decide_eq_false (by omega)
      rw [List.take_length] at hal
      go_wp2_with fail
      go_ret
      exact ⟨ret_bool hal.out.symm, hb.out⟩
set_option maxRecDepth 100000 in
theorem c_l05Asked (A : Option Addr) (c : Nat) (l : List (Int × Int)) (hB : ∀ p ∈ l, (-128 ≤ p.1 ∧ p.1 ≤ 127) ∧ (-128 ≤ p.2 ∧ p.2 ≤ 127)) (hlen : l.length ≤ 1048576) (w : World) (hA : PairsAt .i8 .i8 w A l) :
    Calls Try.prog 43 #[.slice A l.length c] w fun e w' => e = .returned (.int .i64 (pcV l)) ∧ Below w.heap.size w w' := by
  have HC := hid (c_l05Pieces A c l hB hlen w hA)
  have HK : Hid (pcV l = if l.all isPc = true then (if l.length ≤ 30 then 0 else 3) else 1) := rfl
  obtain ⟨g1, hg1⟩ : ∃ g, g = l.all isPc := ⟨_, rfl⟩
  rw [← hg1] at HC HK
  clear hA hB hg1
  cases g1 with
  | false =>
    go_enter Try.func43, Try.ntmps43
    go_wp2_with (go_at_call 66; ((with_reducible refine HC.out.mono ?_); rintro e1 w1 ⟨rfl, hb1⟩))
    go_ret
    exact ⟨by rw [HK.out]; rfl, hb1⟩
  | true =>
    by_cases h : l.length ≤ 30
    · have d1 : decide ((l.length : Int) > 30) = false := decide_eq_false (by omega)
      have HD := hid h
      clear h
      go_enter Try.func43, Try.ntmps43
      go_wp2_with (go_at_call 66; ((with_reducible refine HC.out.mono ?_); rintro e1 w1 ⟨rfl, hb1⟩))
      go_ret
      exact ⟨by rw [HK.out, if_pos trivial, if_pos HD.out]; rfl, hb1⟩
    · have d1 : decide ((l.length : Int) > 30) = true := decide_eq_true (by omega)
      have HD := hid h
      clear h
      go_enter Try.func43, Try.ntmps43
      go_wp2_with (go_at_call 66; ((with_reducible refine HC.out.mono ?_); rintro e1 w1 ⟨rfl, hb1⟩))
      go_ret
      exact ⟨by rw [HK.out, if_pos trivial, if_neg HD.out]; rfl, hb1⟩
def tilV (l : List (Int × Int)) : Int := if pcV l = 0 then (l.length : Int) - (pairL l).length else 0
theorem pairL_len {l : List (Int × Int)} (h : pcV l = 0) : (pairL l).length ≤ l.length := by
  have h1 := pairN_len l (ordL l) (ordL l).length
  rw [ordL_len (by have := (pcV_zero h).1; omega) (pcV_zero h).2] at h1
  unfold pairL
  rw [ordL_len (by have := (pcV_zero h).1; omega) (pcV_zero h).2]
  exact h1
/-- The code of one list, its slice in a slice just built. -/
theorem c_pCode1 (A : Option Addr) (c : Nat) (l : List (Int × Int)) (hlen : l.length ≤ 1048576) (w : World) (hA : PairsAt .i8 .i8 w A l) :
    Calls Try.prog 46 #[.slice (some ⟨w.heap.size, 0, none⟩) 1 1] (w.alloc (.cells #[.slice A l.length c] 26)) fun e w' => e = .returned (.int .i64 (pcV l)) ∧ Below (w.alloc (.cells #[.slice A l.length c] 26)).heap.size (w.alloc (.cells #[.slice A l.length c] 26)) w' := by
  have hb : Below w.heap.size w (w.alloc (.cells #[.slice A l.length c] 26)) := (Below.refl _ w).alloc (Nat.le_refl _) _
  have := c_piecesCode (some ⟨w.heap.size, 0, none⟩) 1 [.slice A l.length c] [l] (by simp) (w.alloc (.cells #[.slice A l.length c] 26)) (fun j v hj => by
    cases j with
    | zero => simp at hj; subst hj; exact ⟨_, 0, rfl, by simp, cell_block (block_new1 w _ rfl) rfl⟩
    | succ j => simp at hj) ⟨rfl, fun j v l' hj hl => by
    cases j with
    | zero => simp at hj hl; subst hj hl; exact ⟨A, c, rfl, hA.below hb (Nat.le_refl _), hlen⟩
    | succ j => simp at hj⟩
  rw [pcV_eq] at this
  exact this
set_option maxRecDepth 100000 in
theorem c_tilesFor (A : Option Addr) (c : Nat) (l : List (Int × Int)) (h0 : pcV l = 0) (w : World) (hA : PairsAt .i8 .i8 w A l) :
    Calls Try.prog 47 #[.slice A l.length c] w fun e w' => e = .returned (.int .i64 ((l.length : Int) - (pairL l).length)) ∧ Below w.heap.size w w' := by
  have HC := hid (c_pairs A c l (pcV_zero h0).2 (pcV_zero h0).1 w hA)
  have h1 := pairL_len h0
  have h2 := (pcV_zero h0).1
  have e1 : IntKind.i64.wrap ((l.length : Int) - ((pairL l).length : Int)) = (l.length : Int) - ((pairL l).length : Int) := IntWalk.i64_in _ (by omega)
  clear hA h0 h1 h2
  go_enter Try.func47, Try.ntmps47
  go_wp2_with (go_at_call 49; ((with_reducible refine HC.out.mono ?_); rintro e1 w1 ⟨v, vs, rfl, hb1, hr1, _⟩); obtain ⟨A1, c1, rfl⟩ := owns_slc hr1; have HB1 := hid hb1; clear hb1 hr1)
  go_ret
  exact ⟨rfl, HB1.out⟩
set_option maxRecDepth 100000 in
theorem c_l05Tiles (A : Option Addr) (c : Nat) (l : List (Int × Int)) (h0 : pcV l = 0) (w : World) (hA : PairsAt .i8 .i8 w A l) :
    Calls Try.prog 44 #[.slice A l.length c] w fun e w' => e = .returned (.int .i64 ((l.length : Int) - (pairL l).length)) ∧ Below w.heap.size w w' := by
  have HC := hid (c_l05Pairs A c l (pcV_zero h0).2 (by have := (pcV_zero h0).1; omega) w hA)
  have h1 := pairL_len h0
  have h2 := (pcV_zero h0).1
  have e1 : IntKind.i64.wrap ((l.length : Int) - ((pairL l).length : Int)) = (l.length : Int) - ((pairL l).length : Int) := IntWalk.i64_in _ (by omega)
  clear hA h0 h1 h2
  go_enter Try.func44, Try.ntmps44
  go_wp2_with (go_at_call 48; ((with_reducible refine HC.out.mono ?_); rintro e1 w1 ⟨v, vs, rfl, hb1, hr1, _⟩); obtain ⟨A1, c1, rfl⟩ := owns_slc hr1; have HB1 := hid hb1; clear hb1 hr1)
  go_ret
  exact ⟨rfl, HB1.out⟩
set_option maxRecDepth 100000 in
theorem c_TilesFor (A : Option Addr) (c : Nat) (l : List (Int × Int)) (hlen : l.length ≤ 1048576) (w : World) (hA : PairsAt .i8 .i8 w A l) :
    Calls Try.prog 22 #[.slice A l.length c] w fun e w' => e = .returned (.tuple #[.int .i64 (tilV l), .int .i64 (pcV l)]) ∧ Below w.heap.size w w' := by
  have HC := hid (c_pCode1 A c l hlen w hA)
  have HA := hid hA
  have HB0 : Hid (Below w.heap.size w (w.alloc (.cells #[.slice A l.length c] 26))) := (Below.refl _ w).alloc (Nat.le_refl _) _
  unfold tilV
  by_cases h0 : pcV l = 0
  · rw [if_pos h0, h0]
    rw [h0] at HC
    have HT := fun W h => hid (c_tilesFor A c l h0 W h)
    clear hA h0 hlen
    go_enter Try.func22, Try.ntmps22
    go_wp2_with (first
      | (go_at_call 46; ((with_reducible refine HC.out.mono ?_); rintro e1 w1 ⟨rfl, hb1⟩); have HB1 := hid (HB0.out.trans (hb1.mono HB0.out.size)); clear hb1)
      | (go_at_call 47; ((with_reducible refine (HT _ (HA.out.below HB1.out (Nat.le_refl _))).out.mono ?_); rintro e2 w2 ⟨rfl, hb2⟩); have HB2 := hid (HB1.out.trans (hb2.mono HB1.out.size)); clear hb2))
    go_ret2
    exact ⟨rfl, HB2.out⟩
  · rw [if_neg h0]
    obtain ⟨k, hkk⟩ : ∃ k, k = pcV l := ⟨_, rfl⟩
    rw [← hkk] at HC h0 ⊢
    have hk0 : (k == 0) = false := by rw [beq_eq_false_iff_ne]; exact h0
    have hk1 : (k != 0) = true := by unfold bne; rw [hk0]; rfl
    clear hkk hA h0 hlen
    go_enter Try.func22, Try.ntmps22
    go_wp2_with (go_at_call 46; ((with_reducible refine HC.out.mono ?_); rintro e1 w1 ⟨rfl, hb1⟩); have HB1 := hid (HB0.out.trans (hb1.mono HB0.out.size)); clear hb1)
    go_ret2
    exact ⟨rfl, HB1.out⟩
set_option maxRecDepth 100000 in
theorem c_sTilesFor (A : Option Addr) (c : Nat) (l : List (Int × Int)) (hB : ∀ p ∈ l, (-128 ≤ p.1 ∧ p.1 ≤ 127) ∧ (-128 ≤ p.2 ∧ p.2 ≤ 127)) (hlen : l.length ≤ 1048576) (w : World) (hA : PairsAt .i8 .i8 w A l) :
    Calls Try.prog 20 #[.slice A l.length c] w fun e w' => e = .returned (.tuple #[.int .i64 (tilV l), .int .i64 (pcV l)]) ∧ Below w.heap.size w w' := by
  have HC := hid (c_l05Asked A c l hB hlen w hA)
  have HA := hid hA
  unfold tilV
  by_cases h0 : pcV l = 0
  · rw [if_pos h0, h0]
    rw [h0] at HC
    have HT := fun W h => hid (c_l05Tiles A c l h0 W h)
    clear hA h0 hlen hB
    go_enter Try.func20, Try.ntmps20
    go_wp2_with (first
      | (go_at_call 43; ((with_reducible refine HC.out.mono ?_); rintro e1 w1 ⟨rfl, hb1⟩); have HB1 := hid hb1; clear hb1)
      | (go_at_call 44; ((with_reducible refine (HT _ (HA.out.below HB1.out (Nat.le_refl _))).out.mono ?_); rintro e2 w2 ⟨rfl, hb2⟩); have HB2 := hid (HB1.out.trans (hb2.mono HB1.out.size)); clear hb2))
    go_ret2
    exact ⟨rfl, HB2.out⟩
  · rw [if_neg h0]
    obtain ⟨k, hkk⟩ : ∃ k, k = pcV l := ⟨_, rfl⟩
    rw [← hkk] at HC h0 ⊢
    have hk0 : (k == 0) = false := by rw [beq_eq_false_iff_ne]; exact h0
    have hk1 : (k != 0) = true := by unfold bne; rw [hk0]; rfl
    clear hkk hA h0 hlen hB
    go_enter Try.func20, Try.ntmps20
    go_wp2_with (go_at_call 43; ((with_reducible refine HC.out.mono ?_); rintro e1 w1 ⟨rfl, hb1⟩); have HB1 := hid hb1; clear hb1)
    go_ret2
    exact ⟨rfl, HB1.out⟩
end Go.Proofs.Ytgbihaliiogboaa

/- The walk of FnExactTilesFor. -/
namespace Go.Proofs.Ytgbihaliiogboaa
open Go.RowKit
set_option linter.unusedSimpArgs false
set_option linter.unusedVariables false
set_option maxHeartbeats 6400000 in
set_option maxRecDepth 100000 in
theorem w_FnExactTilesFor {w : World} (A0 : Option Addr) (c0 : Nat) (l0 : List (Int × Int)) (lc0 : l0.length ≤ c0) (cm0 : c0 ≤ maxLen) (bz0 : ∀ p ∈ l0, (-128 ≤ p.1 ∧ p.1 ≤ 127) ∧ (-128 ≤ p.2 ∧ p.2 ≤ 127)) (rd0 : PairsAt .i8 .i8 w A0 l0) (_w : World) :
    Calls Try.prog 5 #[.slice A0 l0.length c0] w fun e w' => e = .returned (.bool true) ∧ Below w.heap.size w w' := by
  unfold maxLen at cm0
  by_cases hn0 : l0.length ≤ 1048576
  rotate_left
  · -- the law answers true at once
    have HZ0 := hid (c_szPieceS A0 c0 l0.length (by omega) 1048576 (by omega))
    rw [if_neg (by omega)] at HZ0
    have T0 : Hid True := trivial
    clear rd0 bz0
    go_enter Try.func5, Try.ntmps5
    go_wp2_with (first
      | (go_at_call 19; clear T0; ((with_reducible refine (HZ0.out _).mono ?_); rintro e w1 ⟨rfl, rfl⟩)))
    go_ret
    exact ⟨rfl, Below.refl _ _⟩
  have hlen0 : l0.length ≤ 1048576 := by omega
  obtain ⟨R0, hR0⟩ : ∃ x, x = tilV l0 := ⟨_, rfl⟩
  obtain ⟨R1, hR1⟩ : ∃ x, x = pcV l0 := ⟨_, rfl⟩
  have Hs := fun (A0' : Option Addr) (c0' : Nat)  (w' : World) (h0 : PairsAt .i8 .i8 w' A0' l0) => hid (c_sTilesFor A0' c0' l0 bz0 hlen0 w' h0)
  rw [← hR0] at Hs
  rw [← hR1] at Hs
  have Hi := fun (A0' : Option Addr) (c0' : Nat)  (w' : World) (h0 : PairsAt .i8 .i8 w' A0' l0) => hid (c_TilesFor A0' c0' l0 hlen0 w' h0)
  rw [← hR0] at Hi
  rw [← hR1] at Hi
  have HT0 := fun (w' : World) h => hid (c_toPieceS A0 c0 l0 hlen0 w' h)
  have HZ0 := hid (c_szPieceS A0 c0 l0.length (by omega) 1048576 (by omega))
  rw [if_pos (by omega)] at HZ0
  obtain ⟨q0, hq0⟩ : ∃ q : Int, q = 1048576 - (l0.length : Int) := ⟨_, rfl⟩
  rw [← hq0] at HZ0
  have hz0 : decide (q0 < 0) = false := decide_eq_false (by omega)
  have hne0 : (R0 != R0) = false := by simp
  have hne1 : (R1 != R1) = false := by simp
  have RD0 := hid rd0
  have LE0 := hid hlen0
  have HW : Hid (Below w.heap.size w w) := Below.refl _ _
  clear rd0 bz0 hn0 hlen0 hR0 hR1 hq0
  have K1 : Hid True := trivial
  have K2 : Hid True := trivial
  have K3 : Hid True := trivial
  have K4 : Hid True := trivial
  have K5 : Hid True := trivial
  have K6 : Hid True := trivial
  have K7 : Hid True := trivial
  go_enter Try.func5, Try.ntmps5
  go_wp2_with (first
    | (go_at_call 19; clear K1; ((with_reducible refine (HZ0.out _).mono ?_); rintro e w1 ⟨rfl, rfl⟩))
    | (go_at_call 21; clear K2; (have HRD := hid (RD0.out.below HW.out (Nat.le_refl _))); ((with_reducible refine (HT0 _ HRD.out).out.mono ?_); rintro e w1 ⟨Ax1, cx1, rfl, hb1, ho1⟩); have HLox1 := hid HW.out.size; replace HW := hid (HW.out.trans (hb1.mono HW.out.size)); have Ox1 := hid ho1; clear hb1 ho1)
    | (go_at_call 20; clear K3; ((with_reducible refine (Hs _ _ _ Ox1.out.pairs).out.mono ?_); rintro e w1 ⟨rfl, hb1⟩); replace Ox1 := hid (Ox1.out.below hb1); replace HW := hid (HW.out.trans (hb1.mono HW.out.size)); clear hb1)
    | (go_at_call 21; clear K4; (have HRD := hid (RD0.out.below HW.out (Nat.le_refl _))); ((with_reducible refine (HT0 _ HRD.out).out.mono ?_); rintro e w1 ⟨Ax3, cx3, rfl, hb1, ho1⟩); have Sx1_x3 := hid Ox1.out.2.2; have HLox3 := hid HW.out.size; replace Ox1 := hid (Ox1.out.below hb1); replace HW := hid (HW.out.trans (hb1.mono HW.out.size)); have Ox3 := hid ho1; clear hb1 ho1)
    | (go_at_call 22; clear K5; ((with_reducible refine (Hi _ _ _ Ox3.out.pairs).out.mono ?_); rintro e w1 ⟨rfl, hb1⟩); replace Ox1 := hid (Ox1.out.below hb1); replace Ox3 := hid (Ox3.out.below hb1); replace HW := hid (HW.out.trans (hb1.mono HW.out.size)); clear hb1)
    | (go_at_call 21; clear K6; (have HRD := hid (RD0.out.below HW.out (Nat.le_refl _))); ((with_reducible refine (HT0 _ HRD.out).out.mono ?_); rintro e w1 ⟨Ax5, cx5, rfl, hb1, ho1⟩); have Sx1_x5 := hid Ox1.out.2.2; have Sx3_x5 := hid Ox3.out.2.2; have HLox5 := hid HW.out.size; replace Ox1 := hid (Ox1.out.below hb1); replace Ox3 := hid (Ox3.out.below hb1); replace HW := hid (HW.out.trans (hb1.mono HW.out.size)); have Ox5 := hid ho1; clear hb1 ho1)
    | (go_at_call 12; clear K7; ((with_reducible refine (e_PieceS LE0.out Ox3.out Ox5.out).mono ?_); rintro e w1 ⟨rfl, hb1⟩); replace Ox1 := hid (Ox1.out.below hb1); replace Ox3 := hid (Ox3.out.below hb1); replace Ox5 := hid (Ox5.out.below hb1); replace HW := hid (HW.out.trans (hb1.mono HW.out.size)); clear hb1))
  go_ret
  exact ⟨rfl, HW.out⟩
end Go.Proofs.Ytgbihaliiogboaa

/- The row of FnExactTilesFor: for every input the law returns true, and its arguments read as before. -/
namespace Go.Proofs.Ytgbihaliiogboaa.fnExactTilesFor
open Go.ChangeShapes Go.WideShapes Go.ChangeAt Go.RowKit
open Go.ChangeMaps (open_string shut_string)
set_option linter.unusedVariables false
set_option maxRecDepth 100000 in
theorem lifted (os : Os) (started : os.Started) (H : Type) (enc : TypeId × Value → H) :
    ReturnsInHanded {} Try.checked os 5 .any (Rows.fnExactTilesForSpec.pre6 enc Try.prog Try.f5 Rows.fnExactTilesForRow.domain false) (Rows.fnExactTilesForSpec.post enc Try.prog Try.f5 false true false false) := by
  refine returnsInHanded_of_change_sized (C := Try.checked) Try.own started (by kernel_rfl) Try.func5
    (ChangeSpec.witness6 (enc := enc) (C := Try.checked) false ⟨#[], #[.slice none 0 0], []⟩ 8 (by kernel_rfl) (by kernel_rfl) (by kernel_rfl) (by kernel_rfl)) ?_
  intro W base args ds gs before hval0 hW hcnd hsz0 _
  have hsz : (DataW.weightsEach Try.prog (Try.f5.params.toList ++ Rows.fnExactTilesForSpec.plain.varTypes Try.prog) (ds ++ gs)).all (· ≤ reachBytes) = true := hsz0
  have hval : ∀ (j : Nat) t v, Try.f5.params[j]? = some t → args[j]? = some v → Value.okWide Try.prog W .any base t v := hval0
  have hW' := hW
  obtain ⟨p, q, hA0, hV, rfl, hfz, hnd⟩ := hW
  have hA : DataW.TrodAll enc Try.prog W 0 (fun _ => true) true Try.f5.params.toList args.toList ds p := hA0
  rw [Try.params5] at hA hval hsz
  obtain ⟨v0, vs0, d0, ds0, p0, q0, hargs, rfl, rfl, h0, r0⟩ := trodAll_cons hA
  obtain ⟨rfl, rfl, rfl⟩ := trodAll_nil r0
  obtain rfl : args = #[v0] := by cases args; simp_all
  obtain ⟨rfl, rfl⟩ := trodVars_none hV
  have h0k := h0
  obtain ⟨A0, c0, zs0, rfl, lc0, cm0, bz0, rd0⟩ := open_pieces (hval 0 _ v0 rfl rfl) h0
  clear hA0 hval0 hsz0 hsz
  have hlt := fun x hx => hW'.lt x hx
  try simp only [List.append_nil, List.mem_append] at hlt
  refine (w_FnExactTilesFor A0 c0 zs0 lc0 cm0 bz0 rd0 W).mono fun e W' ⟨he, bel⟩ => ?_
  subst he
  exact ⟨_, rfl, _, _, _, [], p0 ++ [], [], hW', trodAll_mk1 (shut_bool Try.underlying4 _), (trodAll_cons_mk (Below.trod Try.laidOut (by kernel_rfl) (of_decide_eq_true (by kernel_rfl)) h0k bel (fun x hx => hlt x (hx))) trodAll_mk0), rfl, bel.frame _, fun h => by cases h⟩
set_option maxHeartbeats 8000000 in
theorem facts : joinedFacts Try.checked.prog 5 Try.f5 Rows.fnExactTilesForSpec Rows.fnExactTilesForRow = true := by
  unfold joinedFacts
  repeat (with_reducible refine and_mk ?_ (by as_aux_lemma => kernel_rfl))
  as_aux_lemma => kernel_rfl
set_option maxHeartbeats 8000000 in
theorem over : Rows.fnExactTilesForRow.holds Try.pinned (OpenSpec.ofChange Rows.fnExactTilesForSpec) :=
  OpenClaim.holds_of_wide 5 Try.f5 rfl rfl rfl rfl rfl rfl rfl ⟨rfl, rfl, rfl, rfl, rfl⟩ rfl rfl rfl rfl rfl (by as_aux_lemma => kernel_rfl) Try.func5 facts
    (of_decide_eq_true (by as_aux_lemma => kernel_rfl)) (by unfold Func.isWrapper; first | (rw [if_pos (by decide +kernel)]; kernel_rfl) | (rw [if_neg (by decide +kernel)]; exact ⟨rfl, rfl⟩))
    (fun os started H enc _ => lifted os started H enc)
theorem proved : Rows.FnExactTilesForSaid := over
end Go.Proofs.Ytgbihaliiogboaa.fnExactTilesFor
namespace Go.Proofs.Ytgbihaliiogboaa
theorem fnExactTilesFor_holds : Rows.FnExactTilesForSaid := fnExactTilesFor.proved
end Go.Proofs.Ytgbihaliiogboaa
