/- RoofText: the program's and the reference's. -/
import Derived.Test.YtecobdnpbkojmaaTextP
import Derived.Test.YtecobdnpbkojmaaSli
import Derived.Test.YtecobdnpbkojmaaMirror
import Derived.Test.YtecobdnpbkojmaaWildF
import Derived.Shelf.Abstract
import Derived.Deep.AppendLies
namespace Go.Proofs.Ytecobdnpbkojmaa
open Go.RowKit
set_option linter.unusedSimpArgs false
set_option linter.unusedVariables false

theorem Try.infoU8 : (Try.prog.info? 5).map (fun i => (i.zero, i.size, i.bytes)) = some (some (.int .u8 0), 1, 1) := by kernel_rfl
def ucells (l : List Int) : List Value := l.map (Value.int .u8)
def SlU (w : World) (A : Option Addr) (l : List Int) : Prop := ∀ j n, l[j]? = some n → ∃ b off, A = some ⟨b, off, none⟩ ∧ b < w.heap.size ∧ w.cell? ⟨b, off + j, none⟩ = some (.int .u8 n)
theorem owns_belowU {w w' : World} {base : Nat} {e : TypeId} {size : Nat} {v : Value} {n : Nat} {xs : List Value} (h : w.ownsRow base e size v n xs) (hb : Below w.heap.size w w') : w'.ownsRow base e size v n xs :=
  h.kept (row := none) ⟨hb.os, hb.tape, hb.output, hb.size, fun k hk _ => hb.block k hk⟩ (Classical.em _)
theorem cell_one_newU (W : World) (v : Value) (T : TypeId) : ∀ j u, [v][j]? = some u → (W.alloc (.cells #[v] T)).cell? ((⟨W.heap.size, 0, none⟩ : Addr).add j) = some u := World.news_of_block (block_new1 W (.cells #[v] T) rfl)
def TurnsU (g : Nat) (fst cap : Array Value) (f : Int → Int) (l : List Int) (w : World) : Prop :=
  ∀ (W : World) (n : Int), n ∈ l → Below w.heap.size w W → Calls Try.prog g (fst ++ #[.int .u8 n] ++ cap) W fun e w' => e = .returned (.int .u8 (f n)) ∧ Below W.heap.size W w'
set_option maxHeartbeats 800000 in
set_option maxRecDepth 100000 in
theorem c_eachUU (g : Nat) (fst cap : Array Value) (eg : ∀ args w, (callFunc g args).run Try.prog w = .ok (.enter g args) w) (f : Int → Int) (A : Option Addr) (c : Nat) (l : List Int) (hlen : l.length ≤ 1000000) (w : World) (hA : SlU w A l) (hf : TurnsU g fst cap f l w) :
    Calls Try.prog 57 #[.slice A l.length c, .func (.func g) fst cap] w fun e w' => ∃ v, e = .returned v ∧ Below w.heap.size w w' ∧ w'.ownsRow w.heap.size 5 1 v (l.map f).length (ucells (l.map f)) := by
  obtain ⟨i0, hi, hz0, hz1, hz2⟩ := info_parts Try.infoU8
  have HF := hid hf; clear hf
  have HA := hid hA; clear hA
  go_enter Try.func57, Try.ntmps57
  go_wp2_with fail
  have HB0 : Hid (Below w.heap.size w w) := Below.refl _ _
  go_loopw [5, 10] (fun v i wr => ∃ k : Nat, k ≤ l.length ∧ i = .int .i64 k ∧ Hid (Below w.heap.size w wr) ∧ Hid (wr.ownsRow w.heap.size 5 1 v ((l.take k).map f).length (ucells ((l.take k).map f)))) (fun _ i _ => l.length - (intOf i).toNat)
  case atStart => exact ⟨0, by omega, rfl, HB0, World.ownsRow_nil _ _ _ _⟩
  case round =>
    obtain ⟨k, hk, rfl, hb, hO⟩ := hrel
    by_cases hkl : k < l.length
    · have hd : decide ((k : Int) < (l.length : Int)) = true := decide_eq_true (by omega)
      have hkI : (k : Int) < (l.length : Int) := by omega
      have hk0 : (0 : Int) ≤ (k : Int) := by omega
      have hp := List.getElem?_eq_getElem hkl
      obtain ⟨n, hn⟩ : ∃ n, n = l[k] := ⟨_, rfl⟩
      rw [← hn] at hp
      obtain ⟨b, off, rfl, r1, r2⟩ := HA.out k n hp
      have c0 := (hb.out.cell (p := ⟨b, _, none⟩) r1).trans r2
      have HC := hid (HF.out wr n (by rw [hn]; exact List.getElem_mem hkl) hb.out)
      have HY : Hid ((l.take (k + 1)).map f = (l.take k).map f ++ [f n]) := by
        show _ = _
        rw [List.take_succ_eq_append_getElem hkl, List.map_append, ← hn]; rfl
      have hle : ((l.take k).map f).length ≤ 1000000 := by rw [List.length_map, List.length_take]; omega
      clear hp hn r2
      go_wp2_with (first
        | (go_at_fn g; refine HC.out.mono ?_; rintro e w2 ⟨rfl, hb2⟩)
        | ((with_reducible refine gate (N := 19) rfl ?_); refine wpList_append_own _ rfl (.tmp 14) (.tmp 18) 80 rfl w.heap.size 5 i0 (.int .u8 0) 1 1 Try.underlying80 hi hz0 hz1 hz2 rfl (by decide) _ _ _ rfl ((owns_belowU hO.out hb2).alloc _) ⟨w2.heap.size, 0, none⟩ 1 1 [.int .u8 (f n)] rfl rfl (cell_one_newU w2 _ _) (by simp [Value.oneCell']) (Nat.le_trans (Nat.add_le_add_right hle 1) (by decide)) (by omega) (Nat.le_trans hb.out.size (Nat.le_trans hb2.size (by simp))) ?_; intro v' w3 hown3 hgrow _))
      have b2 := hb.out.trans (hb2.mono hb.out.size)
      refine ⟨⟨k + 1, by omega, by go_num, (b2.alloc b2.size _).grown hgrow (by have := b2.size; simp; omega) (fun k hk => ((owns_belowU hO.out hb2).lt k hk).1), ?_⟩, by simp [intOf]; omega⟩
      show World.ownsRow _ _ _ _ _ _ _
      rw [HY.out, List.length_append]
      unfold ucells
      rw [List.map_append]; exact hown3
    · obtain rfl : k = l.length := by omega
      have hd : decide ((l.length : Int) < (l.length : Int)) = false := decide_eq_false (by omega)
      rw [List.take_length] at hO
      go_wp2_with fail
      go_ret
      exact ⟨_, rfl, hb.out, hO.out⟩
set_option maxRecDepth 100000 in
theorem c_kindByte (n : Int) (hn : 0 ≤ n ∧ n ≤ 3) (w : World) : Calls Try.prog 58 #[.int .u8 n] w fun e w' => e = .returned (.int .u8 (kB n)) ∧ Below w.heap.size w w' := by
  have h4 : n = 0 ∨ n = 1 ∨ n = 2 ∨ n = 3 := by omega
  clear hn
  rcases h4 with rfl | rfl | rfl | rfl
  all_goals
    go_enter Try.func58, Try.ntmps58
    go_wp2_with fail
    go_ret
    exact ⟨rfl, Below.refl _ _⟩

theorem rowN_at (r : Rf) (i W : Nat) {b : Nat} {w : World} (hr : r.Ok) (hb : w.heap[b]? = some (.cells (rcells r) 27 (0,0))) (hi : i < 8) (hW : W ≤ 8) : SlU w (some ⟨b, 3 + i * 8, none⟩) (rowN r i W) := by
  intro j n hj
  refine ⟨b, 3 + i * 8, rfl, block_lt hb, ?_⟩
  have hjl := (List.getElem?_eq_some_iff.1 hj).1
  rw [rowN_len] at hjl
  have hn : n = r.at i j := by
    unfold rowN at hj
    rw [List.getElem?_map, List.getElem?_range hjl] at hj
    simpa using hj.symm
  subst hn
  have := cell_block hb (rct r hr (8 * i + j) (by omega))
  rw [show 3 + i * 8 + j = 3 + (8 * i + j) by omega]
  exact this
theorem run_bytes_row {w : World} {B : Nat} {v : Value} {l : List Int} (h : w.ownsRow B 5 1 v l.length (ucells l)) : (convert 80 9 v).run Try.prog w = .ok (.string (strOfNums l)) w := by
  rcases h.2 with ⟨rfl, hn⟩ | ⟨g, cap, cur, rfl, hb, hgg, hc, hm, hs, ht⟩
  · rw [List.eq_nil_of_length_eq_zero hn]
    exact run_convert_bytes_nil w 80 5 Try.underlying80 Try.underlying5 0 0 9 Try.underlying9
  · refine run_convert_bytes_arg w 80 5 Try.underlying80 Try.underlying5 g 0 l.length cap l rfl ?_ 9 Try.underlying9
    intro i hi
    rw [Nat.zero_add]
    refine cell_block hgg ?_
    have h1 : (ucells l)[i]? = some (.int .u8 (l.getD i 0)) := by
      unfold ucells
      rw [List.getElem?_map, List.getElem?_eq_getElem hi, List.getD_eq_getElem?_getD, List.getElem?_eq_getElem hi]; rfl
    rw [← ht, List.getElem?_take, if_pos (by omega)] at h1
    simpa using h1
theorem execOp_conv {P : Program} {o : Oper} {a : Act} {w : World} {t t' : TypeId} {x : Operand} {u v : Value} (ho : o.op = .convert t t' x) (hx : a.eval x = u) (h : (convert t t' u).run P w = .ok v w) : (execOp a.eval o).run P w = .ok (.value v) w := by
  unfold execOp; simp [ho, hx, Sem.run_bind, h]
set_option maxHeartbeats 800000 in
set_option maxRecDepth 100000 in
theorem c_roofText (r : Rf) (hr : r.Ok) (hv : validB r = true) (w : World) : Calls Try.prog 36 #[.agg (rcells r)] w fun e w' => e = .returned (.string (strOfNums (textB r r.h.toNat))) ∧ Below w.heap.size w w' := by
  have vh := valid_head hv
  have HT := hid (fun i k hi hk => (valid_tile hv (i := i) (k := k) hi hk).1)
  obtain ⟨W, hW⟩ := Int.eq_ofNat_of_zero_le (by omega : 0 ≤ r.w)
  obtain ⟨H, hH⟩ := Int.eq_ofNat_of_zero_le (by omega : 0 ≤ r.h)
  have W8 : W ≤ 8 := by omega
  have H8 : H ≤ 8 := by omega
  have HWn : Hid (r.w.toNat = W) := by rw [Hid, hW]; simp
  have HHn : Hid (r.h.toNat = H) := by rw [Hid, hH]; simp
  have HRW := hid hW
  have HRH := hid hH
  have HB0 : Hid (Below w.heap.size w (w.alloc (.cells (rcells r) 27))) := (Below.refl _ w).alloc (Nat.le_refl _) _
  have HP := hid (block_new1 w (.cells (rcells r) 27) rfl)
  have HS : Hid (w.heap.size + 1 ≤ (w.alloc (.cells (rcells r) 27)).heap.size) := by simp [Hid]
  have cH : (w.alloc (.cells (rcells r) 27)).cell? ⟨w.heap.size, 1, none⟩ = some (.int .i8 (H : Int)) := (cell_block HP.out (rc1 r)).trans (by rw [hH])
  clear hW hH vh hv
  go_enter Try.func36, Try.ntmps36
  go_wp2_with fail
  go_loopw [3, 9] (fun v i wr => ∃ k : Nat, k ≤ H ∧ i = .int .i64 k ∧ v = .string (strOfNums (textB r k)) ∧ Hid (Below (w.heap.size + 1) (w.alloc (.cells (rcells r) 27)) wr)) (fun _ i _ => H - (intOf i).toNat)
  case atStart => exact ⟨0, by omega, rfl, rfl, Below.refl _ _⟩
  case round =>
    obtain ⟨k, hk, rfl, rfl, hb⟩ := hrel
    clear cH
    by_cases hkl : k < H
    · have hd : decide ((k : Int) < (H : Int)) = true := decide_eq_true (by omega)
      have hk8 : k < 8 := by omega
      have HPr := hid (block_below hb.out HP.out (by omega))
      have l0 : w.heap.size < wr.heap.size := block_lt HPr.out
      have hS : Hid (w.heap.size + 1 ≤ wr.heap.size) := l0
      have k8 : (k : Int) < 8 := by omega
      have k0 : (0 : Int) ≤ (k : Int) := by omega
      have w8 : (W : Int) ≤ 8 := by omega
      have w0 : (0 : Int) ≤ (W : Int) := by omega
      have HTR : Hid (∀ (W' : World), TurnsU 58 #[] #[] kB (rowN r k W) W') := fun W' V n hn _ => by
        have hn' : 0 ≤ n ∧ n ≤ 3 := by
          unfold rowN at hn
          obtain ⟨j, hj, rfl⟩ := List.mem_map.1 hn
          have hj := List.mem_range.1 hj
          exact ⟨(hr.at k j).1, HT.out k j hk8 (by omega)⟩
        exact c_kindByte n hn' V
      have HEB : Hid (∀ (V : World), V.heap[w.heap.size]? = some (.cells (rcells r) 27 (0,0)) → Calls Try.prog 57 #[.slice (some ⟨w.heap.size, 3 + k * 8, none⟩) (rowN r k W).length 8, .func (.func 58) #[] #[]] V fun e w' => ∃ v, e = .returned v ∧ Below V.heap.size V w' ∧ w'.ownsRow V.heap.size 5 1 v ((rowN r k W).map kB).length (ucells ((rowN r k W).map kB))) :=
        fun V hV => c_eachUU 58 #[] #[] (enters_of Try.func58 (by kernel_rfl) rfl) kB _ _ (rowN r k W) (by rw [rowN_len]; omega) V (rowN_at r k W hr hV hk8 W8) (HTR.out V)
      have HMP := rowN_map r k W
      rw [HMP, rowB_len, rowN_len] at HEB
      clear HMP
      go_wp2_with fail
      refine wp_region_wildG (w.heap.size + 1) 6 ?s1 _ 57 #[.slice (some ⟨w.heap.size, 3 + k * 8, none⟩) W 8, .func (.func 58) #[] #[]] (fun v w' => ∃ V : World, w'.ownsRow V.heap.size 5 1 v W (ucells (rowB r k W))) (by kernel_rfl) (by kernel_rfl) (by kernel_rfl) (by kernel_rfl) rfl hS.out ?pre1 ?ent1 ?call1 ?post1
      case pre1 =>
        intro B' W' hb' hB hS'
        have HPb := hid (block_below hb' HPr.out (by omega))
        have l0 : w.heap.size < B' := by omega
        have q0 : W'.cell? ⟨w.heap.size, 0, none⟩ = some (.int .i8 (W : Int)) := (cell_block HPb.out (rc0 r)).trans (by rw [HRW.out])
        simp only [List.take_succ_cons, List.take_zero]
        repeat (go_big_quiet_step (fail))
        refine wpQuiet_nil ?_
        exact rfl
      case ent1 => intro w; unfold execOp; go_simp
      case call1 =>
        intro x
        refine (HEB.out x.out (block_below x.below HPr.out (by omega))).mono ?_
        rintro e w' ⟨v, rfl, h1, h2⟩
        exact ⟨v, rfl, ⟨x.out, h2⟩, x.below.trans (h1.mono (Nat.le_trans hS.out x.below.size))⟩
      case post1 =>
        rintro v w1 ⟨V, hv1⟩ hb1
        have HV1 : Hid (∀ y : Ext w1.heap.size w1, (convert 80 9 v).run Try.prog y.out = .ok (.string (strOfNums (rowB r k W))) y.out) := fun y => by
          refine run_bytes_row (B := V.heap.size) (l := rowB r k W) ?_
          rw [rowB_len]
          exact owns_belowU hv1 y.below
        have hb2 := hid (hb.out.trans hb1)
        clear hv1 HEB HTR
        simp only [List.drop_succ_cons, List.drop_zero, Act.put, List.setIfInBounds_toArray, List.set_cons_zero, List.set_cons_succ]
        repeat (first
          | ((with_reducible refine wpQuiet_run (N := 19) rfl rfl (.string (strOfNums (rowB r k W))) ?_ ?_); (rintro _ ⟨y, rfl⟩; exact execOp_conv rfl rfl (HV1.out y)); go_simp)
          | go_big_quiet_step (fail))
        refine wpQuiet_nil ?_
        intro y
        have hb3 := hid (hb2.out.trans (y.below.mono (Nat.le_trans hS.out hb1.size)))
        have HPy := hid (block_below hb3.out HP.out (by omega))
        obtain ⟨Y, hY⟩ : ∃ Y, Y = y.out := ⟨_, rfl⟩
        rw [← hY] at hb3 HPy ⊢
        clear hY hb1 HV1
        have l1 : w.heap.size < Y.heap.size := block_lt HPy.out
        have hsh := shiftOf_01 r (k : Int)
        obtain ⟨sh, hsd⟩ : ∃ sh, shiftOf r (k : Int) = sh := ⟨_, rfl⟩
        have HSh := hid hsd
        rw [hsd] at hsh
        have h01 : sh = 0 ∨ sh = 1 := by omega
        have HCs := hid (c_shift r hr (k : Int) ⟨by omega, by omega⟩)
        rw [hsd] at HCs
        clear hsd hsh
        have z1 : (strOfNums (rowB r k W)).size = W := by rw [strOfNums_size, rowB_len]
        have z2 : (strOfNums (textB r k)).size ≤ 100 := by
          rw [strOfNums_size, textB_len, HWn.out]
          exact Nat.le_trans (Nat.mul_le_mul (Nat.le_of_lt hk8) (Nat.add_le_add_right W8 2)) (by decide)
        have z3 : ¬ 9223372036854775807 < 1 + (strOfNums (rowB r k W)).size := by omega
        have z4 : ¬ 9223372036854775807 < 1 + (strOfNums (rowB r k W)).size + 1 := by omega
        have z5 : ¬ 9223372036854775807 < (strOfNums (textB r k)).size + (1 + (strOfNums (rowB r k W)).size + 1) := by omega
        have z6 : ¬ 9223372036854775807 < (strOfNums (rowB r k W)).size + 1 := by omega
        have z7 : ¬ 9223372036854775807 < (strOfNums (rowB r k W)).size + 1 + 1 := by omega
        have z8 : ¬ 9223372036854775807 < (strOfNums (textB r k)).size + ((strOfNums (rowB r k W)).size + 1 + 1) := by omega
        clear z1 z2
        rcases h01 with rfl | rfl
        all_goals
          go_wp2_with (first
            | ((with_reducible refine gate (N := 20) rfl ?_); refine wp_roof 27 Try.underlying27 rfl Try.infoRoof rfl (.tmp 1) rfl w.heap.size rfl r hr HPy.out ?_)
            | (go_at_call 59; ((with_reducible refine (HCs.out _).mono ?_); rintro e w2 ⟨rfl, hb2'⟩)))
          refine ⟨⟨k + 1, by omega, by go_num, congrArg Value.string ?_, hb3.out.trans (hb2'.mono l1)⟩, by simp [intOf]; omega⟩
          first
            | exact line_one HSh.out HWn.out
            | exact line_zero HSh.out HWn.out
    · obtain rfl : k = H := by omega
      have hd : decide ((k : Int) < (k : Int)) = false := decide_eq_false (by omega)
      go_wp2_with fail
      go_ret
      rw [HHn.out]
      exact ⟨rfl, HB0.out.trans (hb.out.mono (by omega))⟩

theorem wpList_conv {P : Program} {ops : Array Oper} {rest : List Oper} {o : Oper} {a : Act} {w : World} {Q : Exit → Act → World → Prop} (hgd : o.guard = none) (t t' : TypeId) (x : Operand) (ho : o.op = .convert t t' x) (u v : Value) (hx : a.eval x = u)
    (hrun : (convert t t' u).run P w = .ok v w) (h : wpList P ops Q rest (a.put o.dst v) w) : wpList P ops Q (o :: rest) a w :=
  wpList_plain hgd fun _ hK => by
    unfold Oper.wp
    rw [execOp_conv ho hx hrun]
    exact hK _ _ h
theorem run_byte_one (w : World) (n : Int) : (convert 80 9 (.slice (some ⟨w.heap.size, 0, none⟩) 1 1)).run Try.prog (w.alloc (.cells #[.int .u8 n] 5)) = .ok (.string (strOfNums [n])) (w.alloc (.cells #[.int .u8 n] 5)) := by
  refine run_convert_bytes_arg _ 80 5 Try.underlying80 Try.underlying5 w.heap.size 0 1 1 [n] rfl ?_ 9 Try.underlying9
  intro i hi
  obtain rfl : i = 0 := by omega
  exact cell_block (block_new1 w _ rfl) rfl
set_option maxHeartbeats 1600000 in
set_option maxRecDepth 100000 in
theorem c_l01Text (r : Rf) (hr : r.Ok) (hv : validB r = true) (b : Nat) (w : World) (hb0 : w.heap[b]? = some (.cells (rcells r) 27 (0,0))) : Calls Try.prog 35 #[.pointer (some ⟨b, 0, none⟩)] w fun e w' => e = .returned (.string (strOfNums (textB r r.h.toNat))) ∧ Below w.heap.size w w' := by
  have vh := valid_head hv
  have HT := hid (fun i k hi hk => (valid_tile hv (i := i) (k := k) hi hk).1)
  obtain ⟨W, hW⟩ := Int.eq_ofNat_of_zero_le (by omega : 0 ≤ r.w)
  obtain ⟨H, hH⟩ := Int.eq_ofNat_of_zero_le (by omega : 0 ≤ r.h)
  have W8 : W ≤ 8 := by omega
  have H8 : H ≤ 8 := by omega
  have HWn : Hid (r.w.toNat = W) := by rw [Hid, hW]; simp
  have HHn : Hid (r.h.toNat = H) := by rw [Hid, hH]; simp
  have HRW := hid hW
  have HRH := hid hH
  have HP := hid hb0
  clear hW hH vh hv hb0
  go_enter Try.func35, Try.ntmps35
  go_wp2_with fail
  go_loopw [3, 4] (fun v i wr => ∃ k : Nat, k ≤ H ∧ i = .int .i64 k ∧ v = .string (strOfNums (textB r k)) ∧ Hid (Below w.heap.size w wr)) (fun _ i _ => H - (intOf i).toNat)
  case atStart => exact ⟨0, by omega, rfl, rfl, Below.refl _ _⟩
  case round =>
    obtain ⟨k, hk, rfl, rfl, hb⟩ := hrel
    have HPr := hid (block_below hb.out HP.out (block_lt HP.out))
    have q1 : wr.cell? ⟨b, 1, none⟩ = some (.int .i8 (H : Int)) := (cell_block HPr.out (rc1 r)).trans (by rw [HRH.out])
    by_cases hkl : k < H
    · have hd : decide ((k : Int) < (H : Int)) = true := decide_eq_true (by omega)
      have hk8 : k < 8 := by omega
      have k8 : (k : Int) < 8 := by omega
      have k0 : (0 : Int) ≤ (k : Int) := by omega
      have hsh := shiftOf_01 r (k : Int)
      obtain ⟨sh, hsd⟩ : ∃ sh, shiftOf r (k : Int) = sh := ⟨_, rfl⟩
      have HSh := hid hsd
      rw [hsd] at hsh
      have h01 : sh = 0 ∨ sh = 1 := by omega
      have HCs := hid (fun V hV => c_l01By r hr b (k : Int) ⟨by omega, by omega⟩ V hV)
      rw [hsd] at HCs
      clear hsd hsh
      have z2 : (strOfNums (textB r k)).size ≤ 100 := by
        rw [strOfNums_size, textB_len, HWn.out]
        exact Nat.le_trans (Nat.mul_le_mul (Nat.le_of_lt hk8) (Nat.add_le_add_right W8 2)) (by decide)
      have Z2 := hid z2
      have z3 : ¬ 9223372036854775807 < (strOfNums (textB r k)).size + 1 := by omega
      clear z2
      rcases h01 with rfl | rfl
      all_goals
        go_wp2_with (first
          | (go_at_call 56; ((with_reducible refine (HCs.out _ HPr.out).mono ?_); rintro e w2 ⟨rfl, rfl⟩)))
        clear z3
        go_loopw [3, 6] (fun v i wr => ∃ j : Nat, j ≤ W ∧ i = .int .i8 j ∧ v = .string (strOfNums (preB r k ++ rowB r k j)) ∧ Hid (Below w.heap.size w wr)) (fun _ i _ => W - (intOf i).toNat)
        case atStart => exact ⟨0, by omega, rfl, congrArg Value.string (by first | exact pre_one HSh.out | exact pre_zero HSh.out), hb.out⟩
        case round =>
          clear q1 HPr
          obtain ⟨j, hj, rfl, rfl, hbq⟩ := hrel
          have HPq := hid (block_below hbq.out HP.out (block_lt HP.out))
          have q0 : wr.cell? ⟨b, 0, none⟩ = some (.int .i8 (W : Int)) := (cell_block HPq.out (rc0 r)).trans (by rw [HRW.out])
          have Z3 : Hid ((strOfNums (preB r k ++ rowB r k j)).size ≤ 1000) := by
            have h1 := preB_len r k
            have h2 := Nat.mul_le_mul (Nat.le_of_lt hk8) (Nat.add_le_add_right W8 2)
            rw [HWn.out] at h1
            rw [Hid, strOfNums_size, List.length_append, rowB_len]; omega
          by_cases hjl : j < W
          · have hdj : decide ((j : Int) < (W : Int)) = true := decide_eq_true (by omega)
            have j8 : (j : Int) < 8 := by omega
            have j0 : (0 : Int) ≤ (j : Int) := by omega
            have q2 : wr.cell? ⟨b, 3 + k * 8 + j, none⟩ = some (.int .u8 (r.at k j)) := by
              have := cell_block HPq.out (rct r hr (8 * k + j) (by omega))
              rw [show 3 + k * 8 + j = 3 + (8 * k + j) by omega]; exact this
            have hn : 0 ≤ r.at k j ∧ r.at k j ≤ 3 := ⟨(hr.at k j).1, HT.out k j hk8 (by omega)⟩
            have HRS := hid (row_step r k j)
            obtain ⟨n, hnn⟩ : ∃ n, r.at k j = n := ⟨_, rfl⟩
            rw [hnn] at q2 hn HRS
            clear hnn
            obtain ⟨S, hS⟩ : ∃ S, S = strOfNums [kB n] := ⟨_, rfl⟩
            have z4 : ¬ 9223372036854775807 < (strOfNums (preB r k ++ rowB r k j)).size + S.size := by
              have : S.size = 1 := by rw [hS, strOfNums_size]; rfl
              have := Z3.out
              omega
            rw [← hS] at HRS
            have HSS := hid hS
            clear hS
            have h4 : n = 0 ∨ n = 1 ∨ n = 2 ∨ n = 3 := by omega
            clear hn
            rcases h4 with rfl | rfl | rfl | rfl
            all_goals
              go_wp2_with ((with_reducible refine gate (N := 42) rfl ?_); refine wpList_conv rfl 80 9 (.tmp 41) rfl _ (.string S) rfl (by rw [HSS.out]; exact run_byte_one wr _) ?_)
              refine ⟨⟨j + 1, by omega, by go_num, congrArg Value.string HRS.out, hbq.out.alloc hbq.out.size _⟩, by simp [intOf]; omega⟩
          · obtain rfl : j = W := by omega
            have hdj : decide ((j : Int) < (j : Int)) = false := decide_eq_false (by omega)
            have z5 : ¬ 9223372036854775807 < (strOfNums (preB r k ++ rowB r k j)).size + 1 := by have := Z3.out; omega
            have z6 : ¬ 9223372036854775807 < (strOfNums (preB r k ++ rowB r k j)).size + 1 + 1 := by have := Z3.out; omega
            go_wp2_with fail
            refine ⟨⟨k + 1, by omega, by go_num, congrArg Value.string ?_, hbq.out⟩, by simp [intOf]; omega⟩
            first
              | exact end_one HSh.out HWn.out
              | exact end_zero HSh.out HWn.out
    · obtain rfl : k = H := by omega
      have hd : decide ((k : Int) < (k : Int)) = false := decide_eq_false (by omega)
      go_wp2_with fail
      go_ret
      rw [HHn.out]
      exact ⟨rfl, hb.out⟩

set_option maxRecDepth 100000 in
theorem c_RoofText (r : Rf) (hr : r.Ok) (w : World) : Calls Try.prog 14 #[.agg (rcells r)] w fun e w' => e = .returned (.string (textV r)) ∧ Below w.heap.size w w' := by
  have key : ∀ v, validB r = v → Calls Try.prog 14 #[.agg (rcells r)] w fun e w' => e = .returned (.string (textV r)) ∧ Below w.heap.size w w' := by
    intro v hv
    have HV := hid hv
    clear hv
    have HP := hid (block_new1 w (.cells (rcells r) 27) rfl)
    have HB : Hid (Below w.heap.size w (w.alloc (.cells (rcells r) 27))) := (Below.refl _ w).alloc (Nat.le_refl _) _
    have hS : Hid (w.heap.size < (w.alloc (.cells (rcells r) 27)).heap.size) := by simp [Hid]
    cases v
    all_goals
      go_enter Try.func14, Try.ntmps14
      go_wp2_with (first
        | ((with_reducible refine gate (N := 3) rfl ?_); refine wp_roof 27 Try.underlying27 rfl Try.infoRoof rfl (.tmp 1) rfl w.heap.size rfl r hr HP.out ?_)
        | ((with_reducible refine gate (N := 6) rfl ?_); refine wp_roof 27 Try.underlying27 rfl Try.infoRoof rfl (.tmp 1) rfl w.heap.size rfl r hr (block_below hb1 HP.out hS.out) ?_)
        | (go_at_call 33; ((with_reducible refine (c_ValidRoofM r hr _ HV.out _).mono ?_); rintro e w1 ⟨rfl, hb1⟩))
        | (go_at_call 36; ((with_reducible refine (c_roofText r hr HV.out _).mono ?_); rintro e w2 ⟨rfl, hb2⟩)))
      go_ret
      first
        | exact ⟨by unfold textV; rw [if_neg (by rw [HV.out]; decide)]; rfl, HB.out.trans (hb1.mono (Nat.le_of_lt hS.out))⟩
        | exact ⟨by unfold textV; rw [if_pos HV.out]; rfl, (HB.out.trans (hb1.mono (Nat.le_of_lt hS.out))).trans (hb2.mono (Nat.le_of_lt (Nat.lt_of_lt_of_le hS.out hb1.size)))⟩
  exact key _ rfl
set_option maxRecDepth 100000 in
theorem c_sRoofText (r : Rf) (hr : r.Ok) (w : World) : Calls Try.prog 13 #[.agg (rcells r)] w fun e w' => e = .returned (.string (textV r)) ∧ Below w.heap.size w w' := by
  have key : ∀ v, validB r = v → Calls Try.prog 13 #[.agg (rcells r)] w fun e w' => e = .returned (.string (textV r)) ∧ Below w.heap.size w w' := by
    intro v hv
    have HV := hid hv
    clear hv
    have HP := hid (block_new1 w (.cells (rcells r) 27) rfl)
    have HB : Hid (Below w.heap.size w (w.alloc (.cells (rcells r) 27))) := (Below.refl _ w).alloc (Nat.le_refl _) _
    have hS : Hid (w.heap.size < (w.alloc (.cells (rcells r) 27)).heap.size) := by simp [Hid]
    cases v
    all_goals
      go_enter Try.func13, Try.ntmps13
      go_wp2_with (first
        | (go_at_call 31; ((with_reducible refine (c_l01OkM r hr _ _ HV.out _ HP.out).mono ?_); rintro e w1 ⟨rfl, hb1⟩))
        | (go_at_call 35; ((with_reducible refine (c_l01Text r hr HV.out _ _ (block_below hb1 HP.out hS.out)).mono ?_); rintro e w2 ⟨rfl, hb2⟩)))
      go_ret
      first
        | exact ⟨by unfold textV; rw [if_neg (by rw [HV.out]; decide)]; rfl, HB.out.trans (hb1.mono (Nat.le_of_lt hS.out))⟩
        | exact ⟨by unfold textV; rw [if_pos HV.out]; rfl, (HB.out.trans (hb1.mono (Nat.le_of_lt hS.out))).trans (hb2.mono (Nat.le_of_lt (Nat.lt_of_lt_of_le hS.out hb1.size)))⟩
  exact key _ rfl
end Go.Proofs.Ytecobdnpbkojmaa
