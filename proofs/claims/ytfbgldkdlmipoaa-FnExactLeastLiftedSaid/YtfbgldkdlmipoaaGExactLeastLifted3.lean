/- Texts of the claim FnExactLeastLifted, part 3 of 7. -/
import Derived.Test.YtfbgldkdlmipoaaGExactLeastLifted2
import Derived.Maps.AppendAt
import Derived.Lib.SlFresh
import Derived.Shelf.Abstract
import Derived.Laws.AppendOwn
import Derived.WalkSmall
import Derived.Deep.Onto
/- l03Less on lists of one place. -/
namespace Go.Proofs.Ytfbgldkdlmipoaa
open Go.RowKit
set_option linter.unusedSimpArgs false
set_option linter.unusedVariables false

def lessP (p q : Int × Int) : Bool := decide (p.1 < q.1) || (p.1 == q.1 && decide (p.2 < q.2))
theorem run_neq_place (W : World) (p1 p2 q1 q2 : Int) : (binOp .neq 50 (.agg #[.int .i8 p1, .int .i8 p2]) (.agg #[.int .i8 q1, .int .i8 q2])).run Try.prog W = .ok (.bool (!decide ((p1, p2) = (q1, q2)))) W := by
  have h := run_eql_place W p1 p2 q1 q2
  rw [run_eql_struct] at h
  rw [run_neq_struct]
  revert h
  cases (Op.equalIn 10000 50 (.agg #[.int .i8 p1, .int .i8 p2]) (.agg #[.int .i8 q1, .int .i8 q2])).run Try.prog W with
  | ok b w' =>
    intro h
    simp only [Result.andThen_ok] at h ⊢
    injection h with h1 h2
    injection h1 with h1
    rw [h1, h2]
  | _ => intro h; simp [Result.andThen] at h
theorem execOp_neq {P : Program} {o : Oper} {a : Act} {w : World} {t t' : TypeId} {x y : Operand} {xs ys : Array Value} {v : Value} (ho : o.op = .binOp .neq t x y t') (hx : a.eval x = .agg xs) (hy : a.eval y = .agg ys) (hm : P.eqGuardType P.depth t = false)
    (h : (binOp .neq t (.agg xs) (.agg ys)).run P w = .ok v w) : (execOp a.eval o).run P w = .ok (.value v) w := by
  unfold execOp; simp [ho, hx, hy, Sem.run_bind, run_eqGuard_agg w .neq t x y xs ys hm, h]
set_option maxHeartbeats 1600000 in
set_option maxRecDepth 100000 in
theorem c_l03Less1 (p1 p2 q1 q2 : Int) (b o b' o' c c' : Nat) (w : World) (h1 : w.cell? ⟨b, o, none⟩ = some (.int .i8 p1)) (h2 : w.cell? ⟨b, o + 1, none⟩ = some (.int .i8 p2)) (h1' : w.cell? ⟨b', o', none⟩ = some (.int .i8 q1)) (h2' : w.cell? ⟨b', o' + 1, none⟩ = some (.int .i8 q2)) (hb : b < w.heap.size) (hb' : b' < w.heap.size) :
    Calls Try.prog 64 #[.slice (some ⟨b, o, none⟩) 1 c, .slice (some ⟨b', o', none⟩) 1 c'] w fun e w' => e = .returned (.bool (lessP (p1, p2) (q1, q2))) ∧ Below w.heap.size w w' := by
  by_cases he : (p1, p2) = (q1, q2)
  · have R : Hid (∀ W : World, (binOp .neq 50 (.agg #[.int .i8 p1, .int .i8 p2]) (.agg #[.int .i8 q1, .int .i8 q2])).run Try.prog W = .ok (.bool false) W) := fun W => by rw [run_neq_place, decide_eq_true he]; rfl
    have hv : lessP (p1, p2) (q1, q2) = false := by rw [he]; simp [lessP]
    rw [hv]
    clear he hv
    go_enter Try.func64, Try.ntmps64
    go_wp2_with fail
    refine wp_loop_rounds 2 ?_
    rw [rounds_succ]
    go_wp2_with fail
    refine wp_region_ext w.heap.size (by kernel_rfl) (by kernel_rfl) ?_
    repeat (first
      | ((with_reducible refine wpQuiet_run (N := 26) rfl rfl (.bool false) ?_ ?_); (rintro _ ⟨x, rfl⟩; exact execOp_neq rfl rfl rfl (by kernel_rfl) (R.out x.out)); go_simp)
      | go_big_quiet_step (fail))
    refine wpQuiet_nil ?_
    intro x
    go_wp2_with fail
    rw [rounds_succ]
    go_wp2_with fail
    go_ret
    exact ⟨rfl, x.below⟩
  · have R : Hid (∀ W : World, (binOp .neq 50 (.agg #[.int .i8 p1, .int .i8 p2]) (.agg #[.int .i8 q1, .int .i8 q2])).run Try.prog W = .ok (.bool true) W) := fun W => by rw [run_neq_place, decide_eq_false he]; rfl
    have h4 : (decide (p1 < q1) = true ∧ lessP (p1, p2) (q1, q2) = true) ∨ (decide (p1 < q1) = false ∧ (p1 == q1) = false ∧ lessP (p1, p2) (q1, q2) = false) ∨ (decide (p1 < q1) = false ∧ (p1 == q1) = true ∧ decide (p2 < q2) = lessP (p1, p2) (q1, q2)) := by
      unfold lessP
      simp only
      cases h1 : decide (p1 < q1) with
      | true => exact .inl ⟨rfl, rfl⟩
      | false =>
        cases h2 : (p1 == q1) with
        | false => exact .inr (.inl ⟨rfl, rfl, rfl⟩)
        | true => exact .inr (.inr ⟨rfl, rfl, rfl⟩)
    obtain ⟨v, hv⟩ : ∃ v, v = lessP (p1, p2) (q1, q2) := ⟨_, rfl⟩
    rw [← hv] at h4 ⊢
    clear hv he
    rcases h4 with ⟨g1, rfl⟩ | ⟨g1, g2, rfl⟩ | ⟨g1, g2, g3⟩
    all_goals
      go_enter Try.func64, Try.ntmps64
      go_wp2_with fail
      refine wp_loop_rounds 1 ?_
      rw [rounds_succ]
      go_wp2_with fail
      refine wp_region_ext w.heap.size (by kernel_rfl) (by kernel_rfl) ?_
      repeat (first
        | ((with_reducible refine wpQuiet_run (N := 26) rfl rfl (.bool true) ?_ ?_); (rintro _ ⟨x, rfl⟩; exact execOp_neq rfl rfl rfl (by kernel_rfl) (R.out x.out)); go_simp)
        | go_big_quiet_step (fail))
      refine wpQuiet_nil ?_
      intro x
      have l1 : b < x.out.heap.size := Nat.lt_of_lt_of_le hb x.below.size
      have l1' : b' < x.out.heap.size := Nat.lt_of_lt_of_le hb' x.below.size
      have k1 := (x.below.cell (p := ⟨b, o, none⟩) hb).trans h1
      have k2 := (x.below.cell (p := ⟨b, o + 1, none⟩) hb).trans h2
      have k1' := (x.below.cell (p := ⟨b', o', none⟩) hb').trans h1'
      have k2' := (x.below.cell (p := ⟨b', o' + 1, none⟩) hb').trans h2'
      have HX := hid x.below
      obtain ⟨Y, hY⟩ : ∃ Y, Y = x.out := ⟨_, rfl⟩
      rw [← hY] at l1 l1' k1 k2 k1' k2' HX ⊢
      clear hY
      go_wp2_with fail
      refine wp_region_ext Y.heap.size (by kernel_rfl) (by kernel_rfl) ?_
      repeat (go_big_quiet_step (fail))
      refine wpQuiet_nil ?_
      intro y
      go_wp2_with fail
      go_ret
      exact ⟨rfl, HX.out.trans (y.below.mono HX.out.size)⟩
end Go.Proofs.Ytfbgldkdlmipoaa

/- A whole slice appended to a row that a call owns. -/
namespace Go.Proofs.Ytfbgldkdlmipoaa
open Go.RowKit
set_option linter.unusedSimpArgs false
set_option linter.unusedVariables false

theorem run_append_void {P : Program} (w : World) (base : Nat) (t ty e : TypeId) (i : TypeInfo) (size : Nat) (ht : P.underlying t = some (.slice e)) (hi : P.info? e = some i)
    (v : Value) (n : Nat) (xs : List Value) (hown : w.ownsRow base e size v n xs) (c : Nat) : (Builtin.append_ #[t, t] ty #[v, .slice none 0 c]).run P w = .ok v w := by
  rcases hown.2 with ⟨rfl, rfl⟩ | ⟨g, cap, cur, rfl, _, _, hnc, _⟩
  · simp [Builtin.append_, run_underlying ht, sizeOf, typeInfo, hi, Builtin.lenOf, Builtin.firstCells]
  · simp [Builtin.append_, run_underlying ht, sizeOf, typeInfo, hi, Builtin.lenOf, Builtin.firstCells, hnc, storeCells]
theorem Grew.of_grown {v v' : Value} {W w' : World} {B : Nat} {e : TypeId} {sz n : Nat} {xs : List Value} (hown : W.ownsRow B e sz v n xs) (hg : W.grownBy w' v.ownBlock) (ho : v'.ownBlock = v.ownBlock ∨ v'.ownBlock = some W.heap.size) : Grew v v' W w' :=
  ⟨fun B0 h1 h2 => (Below.refl B0 W).grown hg h2 h1, fun b o hb hne => (hg.block b (block_lt hb) (fun e => hne e.symm)).trans hb, fun g hg' => by
    rcases ho with ho | ho
    · rw [ho] at hg'; exact .inl hg'
    · rw [ho] at hg'; right; have := Option.some.inj hg'; omega, hg.size⟩
/-- m elements more, which lie elsewhere. -/
theorem wpList_append_many {P : Program} {ops : Array Oper} {rest : List Oper} {o : Oper} {a : Act} {w : World} {Q : Exit → Act → World → Prop} (hgd : o.guard = none) (s x : Operand) (t : TypeId)
    (ho : o.op = .call { callee := .builtin .append, args := #[s, x], argTypes := #[t, t] })
    (base : Nat) (e : TypeId) (i : TypeInfo) (z : Value) (size bytes : Nat) (ht : P.underlying t = some (.slice e)) (hi : P.info? e = some i) (hz : i.zero = some z)
    (hsize : i.size = size) (hby : i.bytes = bytes) (hzs : z.cells.size = size) (hsz : 0 < size) (hby2 : bytes ≤ 100)
    (v : Value) (n : Nat) (xs : List Value) (hown : w.ownsRow base e size v n xs) (hs : a.eval s = v)
    (A : Option Addr) (m c : Nat) (news : List Value) (hl : news.length = m * size) (hsrc : ∀ j u, news[j]? = some u → ∃ ad : Addr, A = some ad ∧ w.cell? (ad.add j) = some u) (h1 : ∀ u ∈ news, u.oneCell' = true)
    (hx : a.eval x = .slice A m c) (hn : n + m ≤ 2200000) (hbase : base ≤ w.heap.size)
    (h : ∀ v' w', w'.ownsRow base e size v' (n + m) (xs ++ news) → Grew v v' w w' → wpList P ops Q rest (a.put o.dst v') w') : wpList P ops Q (o :: rest) a w := by
  have hrun : ∃ v' w', (Builtin.append_ #[t, t] o.type #[v, .slice A m c]).run P w = .ok v' w' ∧ w'.ownsRow base e size v' (n + m) (xs ++ news) ∧ Grew v v' w w' := by
    rcases A with _ | ad
    · have hm : m = 0 := by
        rcases Nat.eq_zero_or_pos m with h0 | h0
        · exact h0
        · have hp : 0 < news.length := by rw [hl]; exact Nat.mul_pos h0 hsz
          obtain ⟨ad, h2, _⟩ := hsrc 0 _ (List.getElem?_eq_getElem hp)
          cases h2
      subst hm
      obtain rfl : news = [] := List.eq_nil_of_length_eq_zero (by simpa using hl)
      exact ⟨v, w, run_append_void w base t o.type e i size ht hi v n xs hown c, by simpa using hown, Grew.of_grown hown (World.grownBy.refl w _) (.inl rfl)⟩
    · obtain ⟨v', w', hr, h2, h3, _, h5⟩ := run_append_own_at (P := P) w base t o.type e i z size bytes ht hi hz hsize hby hzs hsz v n xs hown ad m c news hl (fun j u hj => by
        obtain ⟨ad', h4, h5⟩ := hsrc j u hj
        obtain rfl := Option.some.inj h4
        exact h5) h1 (Nat.le_trans hn (by decide)) (Nat.le_trans (Nat.mul_le_mul hn hby2) (by decide)) hbase
      exact ⟨v', w', hr, h2, Grew.of_grown hown h3 h5⟩
  obtain ⟨v', w', hr, h2, h3⟩ := hrun
  exact Lib.wpList_append_run_sl w hgd s x t ho v (.slice A m c) hs hx hr (h v' w' h2 h3)
end Go.Proofs.Ytfbgldkdlmipoaa

/- Rows of places that a call owns. -/
namespace Go.Proofs.Ytfbgldkdlmipoaa
open Go.RowKit
set_option linter.unusedSimpArgs false
set_option linter.unusedVariables false

/-- The slice v owns the places l, in a block from B on. -/
def RowQ (B : Nat) (w : World) (v : Value) (l : List (Int × Int)) : Prop := w.ownsRow B 50 2 v l.length (pcells l)
theorem pcells_set : ∀ (l : List (Int × Int)) (k : Nat) (a b : Int), k < l.length → ((pcells l).set (k * 2) (.int .i8 a)).set (k * 2 + 1) (.int .i8 b) = pcells (l.set k (a, b))
  | [], k, a, b, h => by simp at h
  | p :: l, 0, a, b, h => by simp [pcells]
  | p :: l, k + 1, a, b, h => by
    have ih := pcells_set l k a b (by simpa using h)
    have e : ∀ (q : Int × Int) (l : List (Int × Int)), pcells (q :: l) = .int .i8 q.1 :: .int .i8 q.2 :: pcells l := fun q l => by simp [pcells]
    rw [List.set_cons_succ, e, e, ← ih, show (k + 1) * 2 = k * 2 + 1 + 1 by omega]
    rfl
theorem pcells_app (l l' : List (Int × Int)) : pcells (l ++ l') = pcells l ++ pcells l' := by simp [pcells]
theorem pcells_one (l : List (Int × Int)) : ∀ u ∈ pcells l, u.oneCell' = true := by
  intro u hu
  obtain ⟨p, _, h⟩ := List.mem_flatMap.1 hu
  simp at h
  rcases h with rfl | rfl <;> rfl
theorem pcells_inv (l : List (Int × Int)) : ∀ (j : Nat) (u : Value), (pcells l)[j]? = some u → ∃ (i : Nat) (p : Int × Int), l[i]? = some p ∧ ((j = i * 2 ∧ u = .int .i8 p.1) ∨ (j = i * 2 + 1 ∧ u = .int .i8 p.2)) := by
  intro j u hj
  have hl := (List.getElem?_eq_some_iff.1 hj).1
  rw [pcells_len] at hl
  have hi : j / 2 < l.length := by omega
  have hg := pcells_get l (j / 2) _ (List.getElem?_eq_getElem hi)
  refine ⟨j / 2, l[j / 2], List.getElem?_eq_getElem hi, ?_⟩
  rcases Nat.mod_two_eq_zero_or_one j with h | h
  · left
    have e : j = j / 2 * 2 := by omega
    refine ⟨e, ?_⟩
    rw [e] at hj
    exact Option.some.inj (hj.symm.trans (by simpa using hg.1))
  · right
    have e : j = j / 2 * 2 + 1 := by omega
    refine ⟨e, ?_⟩
    have h2 := hg.2
    rw [← e] at h2
    exact Option.some.inj (hj.symm.trans h2)
theorem addr_addQ (b off j : Nat) : (⟨b, off, none⟩ : Addr).add j = ⟨b, off + j, none⟩ := by unfold Addr.add; split <;> simp_all
theorem srcQ {w : World} {A : Option Addr} {l : List (Int × Int)} (h : PairsAt .i8 .i8 w A l) : ∀ j u, (pcells l)[j]? = some u → ∃ ad : Addr, A = some ad ∧ w.cell? (ad.add j) = some u := by
  intro j u hj
  obtain ⟨i, p, hp, h2⟩ := pcells_inv l j u hj
  obtain ⟨b, off, e, _, h3, h4⟩ := h i p hp
  refine ⟨_, e, ?_⟩
  rw [addr_addQ]
  rcases h2 with ⟨rfl, rfl⟩ | ⟨rfl, rfl⟩
  · exact h3
  · rw [← Nat.add_assoc]; exact h4
theorem RowQ.nil (B : Nat) (w : World) : RowQ B w (.slice none 0 0) [] := World.ownsRow_nil w B 50 2
theorem RowQ.made {B : Nat} {w : World} (hB : B ≤ w.heap.size) : RowQ B (w.alloc (.cells #[] 50)) (.slice (some ⟨w.heap.size, 0, none⟩) 0 0) [] := World.ownsRow_made w #[] 0 hB (by decide) rfl
theorem RowQ.slc {B : Nat} {w : World} {v : Value} {l : List (Int × Int)} (h : RowQ B w v l) : ∃ A c, v = .slice A l.length c := owns_slc h
theorem RowQ.below {B B' : Nat} {w w' : World} {v : Value} {l : List (Int × Int)} (h : RowQ B w v l) (hb : Below B' w w') (hB : w.heap.size ≤ B') : RowQ B w' v l := owns_below2 h hb hB
theorem RowQ.alloc {B : Nat} {w : World} {v : Value} {l : List (Int × Int)} (h : RowQ B w v l) (o : Obj) : RowQ B (w.alloc o) v l := World.ownsRow.alloc h o
theorem RowQ.mono {B B' : Nat} {w : World} {v : Value} {l : List (Int × Int)} (h : RowQ B w v l) (hB : B' ≤ B) : RowQ B' w v l := World.ownsRow.mono h hB
theorem RowQ.lt {B : Nat} {w : World} {v : Value} {l : List (Int × Int)} (h : RowQ B w v l) : ∀ g, v.ownBlock = some g → B ≤ g ∧ g < w.heap.size := World.ownsRow.lt h
theorem RowQ.belowG {B : Nat} {w w' : World} {v v' : Value} {l : List (Int × Int)} (h : RowQ B w v l) (hg : Grew v v' w w') (hB : B ≤ w.heap.size) : Below B w w' := hg.below B (fun g hg => (h.lt g hg).1) hB
theorem RowQ.setO {B : Nat} {w : World} {v : Value} {l : List (Int × Int)} (h : RowQ B w v l) {g : Nat} (hg : v.ownBlock ≠ some g) (j : Nat) (x : Value) : RowQ B (w.setCell ⟨g, j, none⟩ x) v l := owns_set_other h hg j x
theorem RowQ.cell {B : Nat} {w : World} {v : Value} {l : List (Int × Int)} (h : RowQ B w v l) {j : Nat} {p : Int × Int} (hj : l[j]? = some p) :
    ∃ g c, v = .slice (some ⟨g, 0, none⟩) l.length c ∧ B ≤ g ∧ g < w.heap.size ∧ w.cell? ⟨g, j * 2, none⟩ = some (.int .i8 p.1) ∧ w.cell? ⟨g, j * 2 + 1, none⟩ = some (.int .i8 p.2) ∧ w.frozen? ⟨g, j * 2, none⟩ = false ∧ w.frozen? ⟨g, j * 2 + 1, none⟩ = false := by
  obtain ⟨g, c, e, h1, h2, h3, h4⟩ := owns_cell h (pcells_get l j p hj).1
  obtain ⟨g', c', e', h1', h2', h3', h4'⟩ := owns_cell h (pcells_get l j p hj).2
  obtain ⟨rfl, rfl⟩ : g = g' ∧ c = c' := by rw [e] at e'; simpa using e'
  exact ⟨g, c, e, h1, h2, h3, h3', h4, h4'⟩
theorem RowQ.cap {B : Nat} {w : World} {A : Option Addr} {n c : Nat} {l : List (Int × Int)} (h : RowQ B w (.slice A n c) l) : l.length ≤ c ∧ c ≤ maxLen := by
  rcases h.2 with ⟨e, hn⟩ | ⟨g, cap, cur, e, _, _, h1, h2, _⟩
  · simp only [Value.slice.injEq] at e
    omega
  · simp only [Value.slice.injEq] at e
    obtain ⟨_, _, rfl⟩ := e
    exact ⟨h1, h2⟩
theorem RowQ.set2 {B : Nat} {w : World} {g n c : Nat} {l : List (Int × Int)} (h : RowQ B w (.slice (some ⟨g, 0, none⟩) n c) l) {k : Nat} (hk : k < l.length) (a b : Int) :
    RowQ B ((w.setCell ⟨g, k * 2, none⟩ (.int .i8 a)).setCell ⟨g, k * 2 + 1, none⟩ (.int .i8 b)) (.slice (some ⟨g, 0, none⟩) n c) (l.set k (a, b)) := by
  have h1 := owns_set (owns_set h (g := g) rfl (k * 2) (by omega) (.int .i8 a)) (g := g) rfl (k * 2 + 1) (by omega) (.int .i8 b)
  rw [pcells_set l k a b hk] at h1
  unfold RowQ
  rw [List.length_set]
  exact h1
theorem RowQ.pairs {B : Nat} {w : World} {A : Option Addr} {n c : Nat} {l : List (Int × Int)} (h : RowQ B w (.slice A n c) l) : PairsAt .i8 .i8 w A l := fun j p hj => by
  obtain ⟨g, c', e, _, h1, h2, h3, _⟩ := h.cell hj
  obtain ⟨rfl, _, _⟩ : A = some ⟨g, 0, none⟩ ∧ n = l.length ∧ c = c' := by simpa using e
  exact ⟨g, 0, rfl, h1, by rw [Nat.zero_add]; exact h2, by rw [Nat.zero_add]; exact h3⟩
/-- All of l' behind l. -/
theorem wp_appQ {ops : Array Oper} {rest : List Oper} {o : Oper} {a : Act} {W : World} {Q : Exit → Act → World → Prop} (hgd : o.guard = none) (s x : Operand)
    (ho : o.op = .call { callee := .builtin .append, args := #[s, x], argTypes := #[33, 33] })
    (B : Nat) (v : Value) (l l' : List (Int × Int)) (hO : RowQ B W v l) (hs : a.eval s = v) (A : Option Addr) (c : Nat) (hA : PairsAt .i8 .i8 W A l') (hx : a.eval x = .slice A l'.length c) (hn : l.length + l'.length ≤ 1100000) (hB : B ≤ W.heap.size)
    (h : ∀ v' w', RowQ B w' v' (l ++ l') → Grew v v' W w' → wpList Try.prog ops Q rest (a.put o.dst v') w') : wpList Try.prog ops Q (o :: rest) a W := by
  obtain ⟨i0, hi, hz0, hz1, hz2⟩ := info_parts Try.infoPlace
  refine wpList_append_many hgd s x 33 ho B 50 i0 (.agg #[.int .i8 0, .int .i8 0]) 2 2 Try.underlying33 hi hz0 hz1 hz2 rfl (by decide) (by decide) v l.length (pcells l) hO hs A l'.length c (pcells l') (pcells_len l') (srcQ hA) (pcells_one l') hx (by omega) hB ?_
  intro v' w' h1 h2
  refine h v' w' ?_ h2
  unfold RowQ
  rw [List.length_append, pcells_app]
  exact h1
end Go.Proofs.Ytfbgldkdlmipoaa

/- One place more; a row whose block is kept. -/
namespace Go.Proofs.Ytfbgldkdlmipoaa
open Go.RowKit
set_option linter.unusedSimpArgs false
set_option linter.unusedVariables false
/-- A row whose block is kept is kept. -/
theorem owns_keep {W W' : World} {B : Nat} {e : TypeId} {sz n : Nat} {v : Value} {xs : List Value} (h : W.ownsRow B e sz v n xs) (hk : ∀ (g : Nat) (o : Obj), v.ownBlock = some g → W.heap[g]? = some o → W'.heap[g]? = some o) : W'.ownsRow B e sz v n xs := by
  refine ⟨h.1, ?_⟩
  rcases h.2 with hn | ⟨g, cap, cur, rfl, hb, hg, rest⟩
  · exact .inl hn
  · exact .inr ⟨g, cap, cur, rfl, hb, hk g _ rfl hg, rest⟩
/-- One place more. -/
theorem wp_app1Q {ops : Array Oper} {rest : List Oper} {o : Oper} {a : Act} {W : World} {Q : Exit → Act → World → Prop} (hgd : o.guard = none) (s x : Operand)
    (ho : o.op = .call { callee := .builtin .append, args := #[s, x], argTypes := #[33, 33] })
    (B : Nat) (v : Value) (l : List (Int × Int)) (p1 p2 : Int) (hO : RowQ B W v l) (hs : a.eval s = v) (H : Nat) (hx : a.eval x = .slice (some ⟨H, 0, none⟩) 1 1) (hn : l.length ≤ 1100000) (hB : B ≤ W.heap.size) (hH : W.heap.size = H)
    (h : ∀ v' w', RowQ B w' v' (l ++ [(p1, p2)]) → Grew v v' W w' → wpList Try.prog ops Q rest (a.put o.dst v') w') : wpList Try.prog ops Q (o :: rest) a (W.alloc (.cells #[.int .i8 p1, .int .i8 p2] 50)) := by
  obtain ⟨i0, hi, hz0, hz1, hz2⟩ := info_parts Try.infoPlace
  refine wpList_append_row hgd s x 33 ho B 50 i0 (.agg #[.int .i8 0, .int .i8 0]) 2 2 Try.underlying33 hi hz0 hz1 hz2 rfl (by decide) (by decide) v l.length (pcells l) hs hO #[.int .i8 p1, .int .i8 p2] rfl (by simp [Value.oneCell']) H hx hn hB hH _ ?_
  intro v' w' h1 h2
  refine h v' w' ?_ h2
  unfold RowQ
  rw [pcells_snoc, List.length_append]
  exact h1
end Go.Proofs.Ytfbgldkdlmipoaa

/- Bits of numbers, as the model has them; the members of a set. -/
namespace Go.Proofs.Ytfbgldkdlmipoaa
open Go.RowKit
set_option linter.unusedSimpArgs false
set_option linter.unusedVariables false

theorem wrap_nat {n : Nat} (h : n < 2 ^ 62) : IntKind.i64.wrap (n : Int) = (n : Int) := IntWalk.i64_in _ (by omega)
theorem ofInt_nat (n : Nat) : BitVec.ofInt 64 (n : Int) = BitVec.ofNat 64 n := by simp
theorem bits_and_nat {a b : Nat} (ha : a < 2 ^ 62) (hb : b < 2 ^ 62) : bits .and .i64 (a : Int) (b : Int) = ((a &&& b : Nat) : Int) := by
  have h : (BitVec.ofInt 64 (a : Int) &&& BitVec.ofInt 64 (b : Int)).toNat = a &&& b := by
    rw [ofInt_nat, ofInt_nat, BitVec.toNat_and, BitVec.toNat_ofNat, BitVec.toNat_ofNat, Nat.mod_eq_of_lt (by omega), Nat.mod_eq_of_lt (by omega)]
  have h2 : a &&& b < 2 ^ 62 := Nat.lt_of_le_of_lt Nat.and_le_left ha
  have h3 := wrap_nat h2
  rw [← h] at h3 ⊢
  exact h3
theorem bits_or_nat {a b : Nat} (ha : a < 2 ^ 62) (hb : b < 2 ^ 62) : bits .or .i64 (a : Int) (b : Int) = ((a ||| b : Nat) : Int) := by
  have h : (BitVec.ofInt 64 (a : Int) ||| BitVec.ofInt 64 (b : Int)).toNat = a ||| b := by
    rw [ofInt_nat, ofInt_nat, BitVec.toNat_or, BitVec.toNat_ofNat, BitVec.toNat_ofNat, Nat.mod_eq_of_lt (by omega), Nat.mod_eq_of_lt (by omega)]
  have h2 : a ||| b < 2 ^ 62 := Nat.or_lt_two_pow ha hb
  have h3 := wrap_nat h2
  rw [← h] at h3 ⊢
  exact h3
theorem pow_cast (k : Nat) : (2 : Int) ^ k = ((2 ^ k : Nat) : Int) := by simp
theorem bit_test {s k : Nat} (hs : s < 2 ^ 62) : bits .and .i64 ((s : Int) / 2 ^ k) 1 = if s.testBit k = true then 1 else 0 := by
  have e : (s : Int) / 2 ^ k = ((s / 2 ^ k : Nat) : Int) := by rw [pow_cast]; rfl
  have h1 : s / 2 ^ k < 2 ^ 62 := Nat.lt_of_le_of_lt (Nat.div_le_self _ _) hs
  rw [e, show (1 : Int) = ((1 : Nat) : Int) from rfl, bits_and_nat h1 (by decide), Nat.and_one_is_mod, Nat.testBit_eq_decide_div_mod_eq]
  rcases Nat.mod_two_eq_zero_or_one (s / 2 ^ k) with h | h
  · rw [h]; simp
  · rw [h]; simp
theorem pow_lt62 {k : Nat} (hk : k ≤ 60) : 2 ^ k < 2 ^ 62 := Nat.pow_lt_pow_right (by decide) (by omega)
theorem shl_one {k : Nat} (hk : k ≤ 60) : IntKind.i64.wrap (2 ^ k) = ((2 ^ k : Nat) : Int) := by rw [pow_cast]; exact wrap_nat (pow_lt62 hk)
theorem bit_or {s k : Nat} (hs : s < 2 ^ 62) (hk : k ≤ 60) : bits .or .i64 (s : Int) ((2 ^ k : Nat) : Int) = ((s ||| 2 ^ k : Nat) : Int) := bits_or_nat hs (pow_lt62 hk)
/-- The members among the first k. -/
def subK (S : List (Int × Int)) (s k : Nat) : List (Int × Int) := ((List.range k).filter fun k => s.testBit k).map fun k => S.getD k (0, 0)
theorem subK_yes {S : List (Int × Int)} {s k : Nat} {q : Int × Int} (h : S[k]? = some q) (hb : s.testBit k = true) : subK S s (k + 1) = subK S s k ++ [q] := by
  unfold subK
  rw [List.range_succ, List.filter_append, List.map_append]
  simp [hb, List.getD_eq_getElem?_getD, h]
theorem subK_no {S : List (Int × Int)} {s k : Nat} (hb : s.testBit k = false) : subK S s (k + 1) = subK S s k := by
  unfold subK
  rw [List.range_succ, List.filter_append, List.map_append]
  simp [hb]
theorem subK_len (S : List (Int × Int)) (s k : Nat) : (subK S s k).length ≤ k := by
  unfold subK
  rw [List.length_map]
  exact Nat.le_trans (List.length_filter_le _ _) (by simp)
set_option maxHeartbeats 3200000 in
set_option maxRecDepth 100000 in
theorem c_subset (A : Option Addr) (cc : Nat) (S : List (Int × Int)) (h8 : S.length ≤ 60) (s : Nat) (hs : s < 2 ^ 62) (w : World) (hA : PairsAt .i8 .i8 w A S) :
    Calls Try.prog 46 #[.slice A S.length cc, .int .i64 s] w fun e w' => ∃ v, e = .returned v ∧ Below w.heap.size w w' ∧ RowQ w.heap.size w' v (subS S s) := by
  have HA := hid hA; clear hA
  have HB : Hid (subK S s S.length = subS S s) := rfl
  have HS := hid hs
  clear hs
  go_enter Try.func46, Try.ntmps46
  go_wp2_with fail
  go_loopw [5, 10] (fun v i wr => ∃ k : Nat, k ≤ S.length ∧ i = .int .i64 k ∧ Hid (Below w.heap.size w wr) ∧ Hid (RowQ w.heap.size wr v (subK S s k))) (fun _ i _ => S.length - (intOf i).toNat)
  case atStart => exact ⟨0, by omega, rfl, Below.refl _ _, RowQ.nil _ _⟩
  case round =>
    obtain ⟨wo, rfl⟩ : ∃ W, W = wr := ⟨_, rfl⟩
    obtain ⟨k, hk, rfl, hb, hro⟩ := hrel
    have hkl := subK_len S s k
    obtain ⟨Ao, co, rfl⟩ := owns_slc hro.out
    by_cases hlt : k < S.length
    · have hd : decide ((k : Int) < (S.length : Int)) = true := decide_eq_true (by omega)
      have hkI : (k : Int) < (S.length : Int) := by omega
      have hk0 : (0 : Int) ≤ (k : Int) := by omega
      have hp := List.getElem?_eq_getElem hlt
      obtain ⟨⟨q1, q2⟩, hqq⟩ : ∃ q, q = S[k] := ⟨_, rfl⟩
      rw [← hqq] at hp
      obtain ⟨b, off, rfl, r1, r2, r3⟩ := HA.out k (q1, q2) hp
      have c0 := (hb.out.cell (p := ⟨b, _, none⟩) r1).trans r2
      have c1 := (hb.out.cell (p := ⟨b, _, none⟩) r1).trans r3
      dsimp only at c0 c1
      have HYes := fun h => hid (subK_yes hp (s := s) h)
      have HNo := fun h => hid (subK_no (S := S) (s := s) (k := k) h)
      have hbt := bit_test (k := k) HS.out
      have HP2 := hid (block_new1 wo (.cells #[.int .i8 q1, .int .i8 q2] 50) rfl)
      have HR2 : Hid (RowQ w.heap.size (wo.alloc (.cells #[.int .i8 q1, .int .i8 q2] 50)) (.slice Ao (subK S s k).length co) (subK S s k)) := World.ownsRow.alloc hro.out _
      have HB2 := hid (hb.out.alloc hb.out.size (.cells #[.int .i8 q1, .int .i8 q2] 50))
      have HL2 : Hid (w.heap.size ≤ (wo.alloc (.cells #[.int .i8 q1, .int .i8 q2] 50)).heap.size) := HB2.out.size
      have hkb : (k : Int) ≤ 60 := by omega
      clear hp hqq r2 r3
      by_cases hbit : s.testBit k = true
      · rw [if_pos hbit] at hbt
        have HY := HYes hbit
        clear hbit HYes HNo
        go_wp2_with ((with_reducible refine gate (N := 23) rfl ?_); (refine wp_app1Q rfl (.tmp 20) (.tmp 22) rfl w.heap.size _ _ q1 q2 HR2.out rfl (wo.heap.size + 1) rfl (by omega) HL2.out (by simp) ?_); intro v' w6 hown hg; obtain ⟨A6, c6, rfl⟩ := owns_slc hown; have HG6 := hid hg; have HRO6 := hid hown; clear hg hown)
        refine ⟨⟨k + 1, by omega, by go_num, HB2.out.trans (HR2.out.belowG HG6.out HL2.out), ?_⟩, by simp [intOf]; omega⟩
        rw [HY.out]
        have := HRO6.out
        rw [List.length_append] at this
        exact this
      · rw [if_neg hbit] at hbt
        have HN := HNo (by simpa using hbit)
        clear hbit HYes HNo
        go_wp2_with fail
        refine ⟨⟨k + 1, by omega, by go_num, HB2.out, by rw [HN.out]; exact HR2.out⟩, by simp [intOf]; omega⟩
    · obtain rfl : k = S.length := by omega
      have hd : decide ((S.length : Int) < (S.length : Int)) = false := decide_eq_false (by omega)
      go_wp2_with fail
      go_ret
      exact ⟨_, rfl, hb.out, by rw [← HB.out]; exact hro.out⟩
end Go.Proofs.Ytfbgldkdlmipoaa

/- AboveOf and BelowOf, the program's and the reference's. -/
namespace Go.Proofs.Ytfbgldkdlmipoaa
open Go.RowKit
set_option linter.unusedSimpArgs false
set_option linter.unusedVariables false

/-- What AboveOf and BelowOf return. -/
def besL (r : Rf) (c t b : Int) : List (Int × Int) := if codeOf (validB r) (isPl r c t) = 0 then lapL r c t (c + b) else []
theorem besL_len (r : Rf) (c t b : Int) : (besL r c t b).length ≤ 64 := by
  unfold besL; split
  · have := lapL_len r c t (c + b); omega
  · simp
theorem codeOf_pl {r : Rf} {c t : Int} (h : codeOf (validB r) (isPl r c t) = 0) : validB r = true ∧ (0 ≤ c ∧ c ≤ 7) ∧ (0 ≤ t ∧ t ≤ 7) := by
  have := codeOf_zero h
  have h1 := valid_head this.1
  have h2 := isPl_iff.1 this.2
  exact ⟨this.1, by omega, by omega⟩
set_option maxRecDepth 100000 in
theorem c_l01First (r : Rf) (hr : r.Ok) (b : Nat) (c t : Int) (hc : 0 ≤ c ∧ c ≤ 7) (ht : 0 ≤ t ∧ t ≤ 7) (w : World) (hb : w.heap[b]? = some (.cells (rcells r) 31 (0,0))) :
    Calls Try.prog 55 #[.pointer (some ⟨b,0,none⟩), .agg #[.int .i8 c, .int .i8 t]] w fun e w' => e = .returned (.int .i64 (firstOf r c t)) ∧ Below w.heap.size w w' := by
  have hs := shiftOf_01 r c
  have lb := block_lt hb
  have lb' : b < w.heap.size + 1 := by omega
  have HP := hid (block_alloc hb (.cells #[.int .i8 c, .int .i8 t] 50))
  have HC := hid (fun W hW => c_l01By r hr b c ⟨hc.1, by omega⟩ W hW)
  have e : firstOf r c t = 2 * t + shiftOf r c := rfl
  rw [e]
  obtain ⟨s, hse⟩ : ∃ s, s = shiftOf r c := ⟨_, rfl⟩
  rw [← hse] at hs HC ⊢
  clear hse e hb
  obtain ⟨c1, c2⟩ := hc
  obtain ⟨t1, t2⟩ := ht
  have HB : Hid (w.heap.size + 1 ≤ (w.alloc (.cells #[.int .i8 c, .int .i8 t] 50)).heap.size) := by simp [Hid]
  have l1 : w.heap.size < w.heap.size + 1 := by omega
  have HX : Hid (∀ x : Ext (w.heap.size + 1) (w.alloc (.cells #[.int .i8 c, .int .i8 t] 50)), x.out.heap[b]? = some (.cells (rcells r) 31 (0,0))) := fun x => block_below x.below HP.out lb'
  have e1 : IntKind.i64.wrap c = c := IntWalk.i64_in _ (by omega)
  have e2 : IntKind.i64.wrap t = t := IntWalk.i64_in _ (by omega)
  have e3 : IntKind.i64.wrap (2 * t) = 2 * t := IntWalk.i64_in _ (by omega)
  have e4 : IntKind.i64.wrap (2 * t + s) = 2 * t + s := IntWalk.i64_in _ (by omega)
  go_enter Try.func55, Try.ntmps55
  go_wp2_with fail
  refine wp_region_ext (w.heap.size + 1) (by kernel_rfl) (by kernel_rfl) ?_
  repeat (go_big_quiet_step ((go_at_call 80; with_reducible exact Calls.ext_same (HC.out _ (HX.out _)))))
  refine wpQuiet_nil ?_
  intro x
  go_wp2_with fail
  go_ret
  exact ⟨rfl, ((Below.refl _ w).alloc (Nat.le_refl _) _).trans (x.below.mono (by omega))⟩
set_option maxRecDepth 100000 in
theorem c_l01Tile (r : Rf) (hr : r.Ok) (hv : validB r = true) (b : Nat) (d n : Int) (hd : 0 ≤ d ∧ d ≤ 7) (hn : 0 ≤ n ∧ n ≤ 100) (w : World) (hb : w.heap[b]? = some (.cells (rcells r) 31 (0,0))) :
    Calls Try.prog 106 #[.pointer (some ⟨b,0,none⟩), .int .i64 d, .int .i64 n] w fun e w' => e = .returned (.int .i64 (tileOf r d n)) ∧ w = w' := by
  have hs := shiftOf_01 r d
  have vh := valid_head hv
  have HC := hid (c_l01By r hr b d ⟨hd.1, by omega⟩ w hb)
  have e : tileOf r d n = if 0 ≤ n - shiftOf r d ∧ n - shiftOf r d ≤ 2 * r.w - 1 then (n - shiftOf r d) / 2 else -1 := rfl
  have c0 := cell_block hb (rc0 r)
  rw [e]
  obtain ⟨s, hse⟩ : ∃ s, s = shiftOf r d := ⟨_, rfl⟩
  obtain ⟨W, hW⟩ : ∃ W, W = r.w := ⟨_, rfl⟩
  rw [← hse] at hs HC ⊢
  rw [← hW] at vh c0 ⊢
  clear hse e hW hb
  have e1 : IntKind.i64.wrap W = W := IntWalk.i64_in _ (by omega)
  by_cases h0 : n - s < 0
  · rw [if_neg (by omega)]
    go_enter Try.func106, Try.ntmps106
    go_wp2_with (go_at_call 80; ((with_reducible refine HC.out.mono ?_); rintro e w1 ⟨rfl, rfl⟩))
    go_ret
    exact ⟨rfl, rfl⟩
  · have h0' : 0 ≤ n - s := by omega
    by_cases h1 : W ≤ (n - s) / 2
    · rw [if_neg (by omega)]
      clear h0
      go_enter Try.func106, Try.ntmps106
      go_wp2_with (go_at_call 80; ((with_reducible refine HC.out.mono ?_); rintro e w1 ⟨rfl, rfl⟩))
      go_ret
      exact ⟨rfl, rfl⟩
    · have h1' : (n - s) / 2 < W := by omega
      rw [if_pos (by omega)]
      clear h0 h1
      go_enter Try.func106, Try.ntmps106
      go_wp2_with (go_at_call 80; ((with_reducible refine HC.out.mono ?_); rintro e w1 ⟨rfl, rfl⟩))
      go_ret
      exact ⟨rfl, rfl⟩
theorem lapK_small {r : Rf} (hv : validB r = true) {c t d : Int} {k : Nat} (hk : k < 2) : lapK r c t d k = [] ∨ ∃ u, lapK r c t d k = [(d, u)] ∧ 0 ≤ u ∧ u ≤ 7 := by
  have hl := lapK_len r c t d k
  have hm := lapK_mem hv (c := c) (t := t) (d := d) k
  have vh := valid_head hv
  cases hL : lapK r c t d k with
  | nil => exact .inl rfl
  | cons p l =>
    rw [hL] at hl hm
    have : l = [] := List.eq_nil_of_length_eq_zero (by simp at hl; omega)
    subst this
    have := hm p (List.mem_cons_self ..)
    obtain ⟨p1, p2⟩ := p
    dsimp only at this
    exact .inr ⟨p2, by rw [this.1], by omega, by omega⟩
set_option maxHeartbeats 1600000 in
set_option maxRecDepth 100000 in
theorem c_l01Laps (r : Rf) (hr : r.Ok) (hv : validB r = true) (b : Nat) (c t y : Int) (hc : 0 ≤ c ∧ c ≤ 7) (ht : 0 ≤ t ∧ t ≤ 7) (hy : -1 ≤ y ∧ y ≤ 1) (w : World) (hb : w.heap[b]? = some (.cells (rcells r) 31 (0,0))) :
    Calls Try.prog 90 #[.pointer (some ⟨b,0,none⟩), .agg #[.int .i8 c, .int .i8 t], .int .i8 y] w (RetS w (lapL r c t (c + y))) := by
  obtain ⟨i0, hi, hz0, hz1, hz2⟩ := info_parts Try.infoPlace
  have vh := valid_head hv
  have HV := hid hv
  have lb := block_lt hb
  have HP := hid (block_alloc (block_alloc hb (.cells #[.int .i8 c, .int .i8 t] 50)) (.cells #[] 50))
  have HCc := hid hc
  have HTt := hid ht
  obtain ⟨d, hd⟩ : ∃ d, d = c + y := ⟨_, rfl⟩
  rw [← hd]
  have ed : IntKind.i8.wrap (c + y) = d := by rw [hd]; exact IntWalk.i8_in _ (by omega)
  have ed6 : IntKind.i64.wrap d = d := IntWalk.i64_in _ (by omega)
  have hcy : -1 ≤ c + y ∧ c + y ≤ 8 := by omega
  have HD := hid hd
  have HH : Hid (r.h ≤ 8 ∧ r.w ≤ 8) := ⟨by omega, by omega⟩
  have HB0 : Hid (Below (w.heap.size + 1) (w.alloc (.cells #[.int .i8 c, .int .i8 t] 50)) ((w.alloc (.cells #[.int .i8 c, .int .i8 t] 50)).alloc (.cells #[] 50))) := (Below.refl _ _).alloc (by simp) _
  have HN0 : Hid (((w.alloc (.cells #[.int .i8 c, .int .i8 t] 50)).alloc (.cells #[] 50)).ownsRow (w.heap.size + 1) 50 2 (.slice (some ⟨w.heap.size + 1, 0, none⟩) 0 0) 0 []) := by
    have := World.ownsRow_made (base := w.heap.size + 1) (e := 50) (size := 2) (w.alloc (.cells #[.int .i8 c, .int .i8 t] 50)) #[] 0 (by simp) (by decide) rfl
    simpa [Hid] using this
  clear vh hd hv
  by_cases hin : inB d 0 (r.h - 1) = true
  · have HI := hid hin
    have hl : lapL r c t d = lapK r c t d 2 := by unfold lapL; rw [if_pos hin]
    rw [hl]
    have hd7 : 0 ≤ d ∧ d ≤ 7 := by have := HH.out; rw [inB_iff] at hin; omega
    have HD7 := hid hd7
    have hs0 := shiftOf_01 r c
    have hf : 0 ≤ firstOf r c t ∧ firstOf r c t ≤ 15 := by unfold firstOf; omega
    have HCF := hid (fun W hW => c_l01First r hr b c t hc ht W hW)
    have HK2 : Hid (∀ k, lapK r c t d (k + 1) = lapStep d (tileOf r d (firstOf r c t + k)) (lapK r c t d k)) := fun k => rfl
    obtain ⟨f, hfe⟩ : ∃ f, f = firstOf r c t := ⟨_, rfl⟩
    rw [← hfe] at hf HCF HK2
    clear hin hl hs0 hc ht hd7 hb hfe
    go_enter Try.func90, Try.ntmps90
    go_wp2_with (first
      | (go_at_call 105; ((with_reducible refine (c_l01Course r hr b d _ HP.out _ HI.out).mono ?_); rintro e w1 ⟨rfl, rfl⟩))
      | (go_at_call 55; ((with_reducible refine (HCF.out _ HP.out).mono ?_); rintro e w1 ⟨rfl, hb1⟩); have b1 := hid hb1; clear hb1))
    have HN1 : Hid (w1.ownsRow (w.heap.size + 1) 50 2 (.slice (some ⟨w.heap.size + 1, 0, none⟩) 0 0) 0 []) := owns_below HN0.out b1.out
    have HB1 : Hid (Below (w.heap.size + 1) (w.alloc (.cells #[.int .i8 c, .int .i8 t] 50)) w1) := HB0.out.trans (b1.out.mono (by simp))
    have HP1 : Hid (∀ wr, Below (w.heap.size + 1) (w.alloc (.cells #[.int .i8 c, .int .i8 t] 50)) wr → wr.heap[b]? = some (.cells (rcells r) 31 (0,0))) := fun wr hbr => by
      have h0 := HP.out
      rw [heap_alloc_old _ _ (by simp; omega)] at h0
      exact block_below hbr h0 (by omega)
    clear HB0 HN0 b1
    go_loopw [7, 10] (fun v i wr => ∃ k : Nat, k ≤ 2 ∧ i = .int .i64 (f + k) ∧ Hid (Below (w.heap.size + 1) (w.alloc (.cells #[.int .i8 c, .int .i8 t] 50)) wr) ∧ Hid (wr.ownsRow (w.heap.size + 1) 50 2 v (lapK r c t d k).length (pcells (lapK r c t d k)))) (fun _ i _ => (f + 2 - intOf i).toNat)
    case atStart => exact ⟨0, by omega, by simp, HB1, HN1⟩
    case round =>
      clear HN1 HB1
      obtain ⟨k, hk, rfl, hb, hO⟩ := hrel
      obtain ⟨n, hn⟩ : ∃ n, n = f + (k : Int) := ⟨_, rfl⟩
      rw [← hn]
      have HNn := hid hn
      by_cases hk2 : k < 2
      · have hle : n ≤ f + 1 := by omega
        have hn1 : 0 ≤ n ∧ n ≤ 100 := by omega
        have HT := hid (c_l01Tile r hr HV.out b d n HD7.out hn1 wr (HP1.out wr hb.out))
        have hu := tileOf_le HV.out d n
        have HY0 := hid (HK2.out k)
        rw [← hn] at HY0
        obtain ⟨u, hue⟩ : ∃ u, u = tileOf r d n := ⟨_, rfl⟩
        rw [← hue] at hu HT HY0
        have eu : IntKind.i8.wrap u = u := IntWalk.i8_in _ (by omega)
        have h7 : u ≤ 7 := hu.2.1
        have h1 : -1 ≤ u := hu.1
        have hs1 : Hid (w.heap.size + 1 ≤ wr.heap.size) := by have := hb.out.size; simpa [Hid] using this
        have hnl : 0 ≤ n := hn1.1
        have hnh : n ≤ 100 := hn1.2
        clear hn hue hu hn1
        have hsm := lapK_small HV.out (c := c) (t := t) (d := d) hk2
        obtain ⟨L, hL⟩ : ∃ L, L = lapK r c t d k := ⟨_, rfl⟩
        rw [← hL] at hsm hO HY0
        have HLk := hid hL
        clear hL
        by_cases hm1 : u < 0
        · have HYY : Hid (lapK r c t d (k + 1) = L) := by
            rw [Hid, HY0.out]; unfold lapStep; rw [if_neg (fun h => h.1 (by omega))]
          clear hsm
          go_wp2_with (go_at_call 106; ((with_reducible refine HT.out.mono ?_); rintro e w3 ⟨rfl, rfl⟩))
          refine ⟨⟨k + 1, by omega, congrArg (Value.int .i64) (by have := HNn.out; omega), hb, ?_⟩, by have := HNn.out; simp [intOf]; omega⟩
          show World.ownsRow _ _ _ _ _ _ _
          rw [HYY.out]; exact hO.out
        · have hm0 : 0 ≤ u := by omega
          clear hm1
          rcases hsm with rfl | ⟨u0, rfl, hu0, hu7⟩
          · obtain ⟨A, cc, rfl⟩ := owns_slice hO.out
            have HYY : Hid (lapK r c t d (k + 1) = [(d, u)]) := by
              rw [Hid, HY0.out]; unfold lapStep; rw [if_pos ⟨by omega, by simp⟩]; rfl
            go_wp2_with (first
              | (go_at_call 106; ((with_reducible refine HT.out.mono ?_); rintro e w3 ⟨rfl, rfl⟩))
              | ((with_reducible refine gate (N := 60) rfl ?_); refine wpList_append_own _ rfl (.tmp 54) (.tmp 59) 33 rfl (w.heap.size + 1) 50 i0 (.agg #[.int .i8 0, .int .i8 0]) 2 2 Try.underlying33 hi hz0 hz1 hz2 rfl (by decide) _ _ _ rfl (hO.out.alloc _) ⟨wr.heap.size, 0, none⟩ 1 1 [.int .i8 d, .int .i8 u] rfl rfl (cell_two_new wr _ _ _) (by simp [Value.oneCell']) (by decide) (by decide) (Nat.le_trans hs1.out (by simp)) ?_; intro v' w5 hown5 hgrow _))
            refine ⟨⟨k + 1, by omega, congrArg (Value.int .i64) (by have := HNn.out; omega), (hb.out.alloc hs1.out _).grown hgrow (by have := hs1.out; simp; omega) (fun k hk => (hO.out.lt k hk).1), ?_⟩, by have := HNn.out; simp [intOf]; omega⟩
            show World.ownsRow _ _ _ _ _ _ _
            rw [HYY.out]; exact hown5
          · obtain ⟨A, cc, rfl, hsl⟩ := slp_of hO.out
            obtain ⟨ob, oo, rfl, o1, o2, o3⟩ := hsl 0 (d, u0) rfl
            simp only [Nat.zero_mul, Nat.add_zero] at o2 o3
            have eu0 : IntKind.i64.wrap u0 = u0 := IntWalk.i64_in _ (by omega)
            clear hsl
            by_cases hq : u0 = u
            · have hne : (u0 != u) = false := by simp [hq]
              have HYY : Hid (lapK r c t d (k + 1) = [(d, u0)]) := by
                rw [Hid, HY0.out]; unfold lapStep; rw [if_neg (fun h => h.2 (by simp [hq]))]
              clear hq
              go_wp2_with (go_at_call 106; ((with_reducible refine HT.out.mono ?_); rintro e w3 ⟨rfl, rfl⟩))
              refine ⟨⟨k + 1, by omega, congrArg (Value.int .i64) (by have := HNn.out; omega), hb, ?_⟩, by have := HNn.out; simp [intOf]; omega⟩
              show World.ownsRow _ _ _ _ _ _ _
              rw [HYY.out]; exact hO.out
            · have hne : (u0 != u) = true := by simpa using hq
              have HYY : Hid (lapK r c t d (k + 1) = [(d, u0), (d, u)]) := by
                rw [Hid, HY0.out]; unfold lapStep; rw [if_pos ⟨by omega, by simp; exact fun h => hq h.symm⟩]; rfl
              clear hq
              go_wp2_with (first
                | (go_at_call 106; ((with_reducible refine HT.out.mono ?_); rintro e w3 ⟨rfl, rfl⟩))
                | ((with_reducible refine gate (N := 60) rfl ?_); refine wpList_append_own _ rfl (.tmp 54) (.tmp 59) 33 rfl (w.heap.size + 1) 50 i0 (.agg #[.int .i8 0, .int .i8 0]) 2 2 Try.underlying33 hi hz0 hz1 hz2 rfl (by decide) _ _ _ rfl (hO.out.alloc _) ⟨wr.heap.size, 0, none⟩ 1 1 [.int .i8 d, .int .i8 u] rfl rfl (cell_two_new wr _ _ _) (by simp [Value.oneCell']) (show 1 + 1 ≤ maxLen by decide) (show (1 + 1) * 2 ≤ 140737488355328 by decide) (Nat.le_trans hs1.out (by simp)) ?_; intro v' w5 hown5 hgrow _))
              refine ⟨⟨k + 1, by omega, congrArg (Value.int .i64) (by have := HNn.out; omega), (hb.out.alloc hs1.out _).grown hgrow (by have := hs1.out; simp; omega) (fun k hk => (hO.out.lt k hk).1), ?_⟩, by have := HNn.out; simp [intOf]; omega⟩
              show World.ownsRow _ _ _ _ _ _ _
              rw [HYY.out]; exact hown5
      · obtain rfl : k = 2 := by omega
        have hgt : f + 1 < n := by omega
        clear hn
        go_wp2_with fail
        go_ret
        exact ⟨_, rfl, ((Below.refl _ w).alloc (Nat.le_refl _) _).trans (hb.out.mono (by omega)), hO.out.mono (by omega)⟩
  · have hin' : inB d 0 (r.h - 1) = false := by simpa using hin
    have HI := hid hin'
    have hl : lapL r c t d = [] := by unfold lapL; rw [if_neg hin]
    rw [hl]
    clear hin hin' hl hc ht hb
    go_enter Try.func90, Try.ntmps90
    go_wp2_with (go_at_call 105; ((with_reducible refine (c_l01Course r hr b d _ HP.out _ HI.out).mono ?_); rintro e w1 ⟨rfl, rfl⟩))
    go_ret
    exact ⟨_, rfl, ((Below.refl _ w).alloc (Nat.le_refl _) _).trans (HB0.out.mono (by omega)), HN0.out.mono (by omega)⟩
end Go.Proofs.Ytfbgldkdlmipoaa

/- l01Has: a place looked for in a list, the reference's way. -/
namespace Go.Proofs.Ytfbgldkdlmipoaa
open Go.RowKit
set_option linter.unusedSimpArgs false
set_option linter.unusedVariables false

set_option maxHeartbeats 1600000 in
set_option maxRecDepth 100000 in
theorem c_l01Has (A : Option Addr) (cc : Nat) (l : List (Int × Int)) (hlen : l.length ≤ 1000000) (p1 p2 : Int) (w : World) (hA : SlP w A l) :
    Calls Try.prog 36 #[.slice A l.length cc, .agg #[.int .i8 p1, .int .i8 p2]] w fun e w' => e = .returned (.bool (decide ((p1, p2) ∈ l))) ∧ Below w.heap.size w w' := by
  have HA := hid hA; clear hA
  have HP := hid (block_new1 w (.cells #[.int .i8 p1, .int .i8 p2] 50) rfl)
  have HB0 : Hid (Below (w.heap.size + 1) (w.alloc (.cells #[.int .i8 p1, .int .i8 p2] 50)) (w.alloc (.cells #[.int .i8 p1, .int .i8 p2] 50))) := Below.refl _ _
  obtain ⟨r, hr⟩ : ∃ r, r = decide ((p1, p2) ∈ l) := ⟨_, rfl⟩
  rw [← hr]
  have HR := hid hr
  clear hr
  go_enter Try.func36, Try.ntmps36
  go_wp2_with fail
  go_loopw [5] (fun i wr => ∃ k : Nat, k ≤ l.length ∧ i = .int .i64 k ∧ Hid (Below (w.heap.size + 1) (w.alloc (.cells #[.int .i8 p1, .int .i8 p2] 50)) wr) ∧ Hid (∀ j, j < k → l[j]? ≠ some (p1, p2))) (fun i _ => l.length - (intOf i).toNat)
  case atStart => exact ⟨0, by omega, rfl, HB0, fun j h => by omega⟩
  case round =>
    obtain ⟨k, hk, rfl, hb, hno⟩ := hrel
    by_cases hkl : k < l.length
    · have hd : decide ((k : Int) < (l.length : Int)) = true := decide_eq_true (by omega)
      have hkI : (k : Int) < (l.length : Int) := by omega
      have hk0 : (0 : Int) ≤ (k : Int) := by omega
      have hp := List.getElem?_eq_getElem hkl
      obtain ⟨⟨q1, q2⟩, hpp⟩ : ∃ q, q = l[k] := ⟨_, rfl⟩
      rw [← hpp] at hp
      obtain ⟨b, off, rfl, r1, r2, r3⟩ := HA.out k (q1, q2) hp
      have hb0 : Below w.heap.size w wr := ((Below.refl _ w).alloc (Nat.le_refl _) _).trans (hb.out.mono (by omega))
      have c0 := (hb0.cell (p := ⟨b, _, none⟩) r1).trans r2
      have c1 := (hb0.cell (p := ⟨b, _, none⟩) r1).trans r3
      have lb : b < wr.heap.size := Nat.lt_of_lt_of_le r1 hb0.size
      have HPw := hid (block_below hb.out HP.out (by omega))
      have k0 := cell_block HPw.out (j := 0) rfl
      have k1 := cell_block HPw.out (j := 1) rfl
      have lw := block_lt HPw.out
      have hs := hid (show w.heap.size + 1 ≤ wr.heap.size by have := hb.out.size; simpa using this)
      have HQ := hid hp
      clear hp hpp r2 r3 hb0
      dsimp only at c0 c1
      have run : ∀ (g : Bool), decide ((q1, q2) = (p1, p2)) = g → ∀ W : World, (binOp .eql 50 (.agg #[.int .i8 q1, .int .i8 q2]) (.agg #[.int .i8 p1, .int .i8 p2])).run Try.prog W = .ok (.bool g) W := fun g hg W => by rw [run_eql_place, hg]
      by_cases he : (q1, q2) = (p1, p2)
      · have R := hid (run true (decide_eq_true he))
        have HE := hid he
        clear run he
        go_wp2_with fail
        refine wp_region_ext wr.heap.size (by kernel_rfl) (by kernel_rfl) ?_
        repeat (first
          | ((with_reducible refine wpQuiet_run (N := 17) rfl rfl (.bool true) ?_ ?_); (rintro _ ⟨x, rfl⟩; exact execOp_eql rfl rfl rfl (by kernel_rfl) (R.out x.out)); go_simp)
          | go_big_quiet_step (fail))
        refine wpQuiet_nil ?_
        intro x
        go_wp2_with fail
        go_ret
        have b1 := hb.out.trans (x.below.mono hs.out)
        have hr : r = true := by rw [HR.out]; exact decide_eq_true (by rw [← HE.out]; exact List.mem_of_getElem? HQ.out)
        rw [hr]
        exact ⟨rfl, ((Below.refl _ w).alloc (Nat.le_refl _) _).trans (b1.mono (by omega))⟩
      · have R := hid (run false (decide_eq_false he))
        have HE := hid he
        clear run he
        go_wp2_with fail
        refine wp_region_ext wr.heap.size (by kernel_rfl) (by kernel_rfl) ?_
        repeat (first
          | ((with_reducible refine wpQuiet_run (N := 17) rfl rfl (.bool false) ?_ ?_); (rintro _ ⟨x, rfl⟩; exact execOp_eql rfl rfl rfl (by kernel_rfl) (R.out x.out)); go_simp)
          | go_big_quiet_step (fail))
        refine wpQuiet_nil ?_
        intro x
        go_wp2_with fail
        exact ⟨⟨k + 1, by omega, by go_num, hb.out.trans (x.below.mono hs.out), all_succ (p := fun j => l[j]? ≠ some (p1, p2)) hno.out (by rw [HQ.out]; intro h; exact HE.out (Option.some.inj h))⟩, by simp [intOf]; omega⟩
    · obtain rfl : k = l.length := by omega
      have hd : decide ((l.length : Int) < (l.length : Int)) = false := decide_eq_false (by omega)
      go_wp2_with fail
      go_ret
      have hr : r = false := by
        rw [HR.out]
        refine decide_eq_false fun h => ?_
        obtain ⟨j, hj, e⟩ := List.getElem_of_mem h
        exact absurd (by rw [List.getElem?_eq_getElem hj, e]) (hno.out j hj)
      rw [hr]
      exact ⟨rfl, ((Below.refl _ w).alloc (Nat.le_refl _) _).trans (hb.out.mono (by omega))⟩
end Go.Proofs.Ytfbgldkdlmipoaa

/- No place twice: in sorted lists, and one after another. No program here. -/
namespace Go.Proofs.Ytfbgldkdlmipoaa
set_option linter.unusedSimpArgs false
set_option linter.unusedVariables false

/-- Two neighbours are the same. -/
def adjEq (S : List (Int × Int)) : Bool := (List.range (S.length - 1)).any fun i => decide (S[i]? = S[i + 1]?)
theorem adjEq_iff (S : List (Int × Int)) : adjEq S = true ↔ ∃ i, i + 1 < S.length ∧ S[i]? = S[i + 1]? := by
  unfold adjEq
  rw [List.any_eq_true]
  constructor
  · rintro ⟨i, hi, h⟩
    exact ⟨i, by have := List.mem_range.1 hi; omega, of_decide_eq_true h⟩
  · rintro ⟨i, hi, h⟩
    exact ⟨i, List.mem_range.2 (by omega), decide_eq_true h⟩
theorem adj_nodup {S : List (Int × Int)} (hS : S.Pairwise fun x y => lessP y x = false) : adjEq S = !decide S.Nodup := by
  by_cases hd : S.Nodup
  · rw [decide_eq_true hd]
    cases h : adjEq S with
    | false => rfl
    | true =>
      obtain ⟨i, hi, e⟩ := (adjEq_iff S).1 h
      rw [List.getElem?_eq_getElem (by omega), List.getElem?_eq_getElem hi] at e
      exact absurd (Option.some.inj e) (List.pairwise_iff_getElem.1 (List.nodup_iff_pairwise_ne.1 hd) i (i + 1) (by omega) hi (by omega))
  · rw [decide_eq_false hd]
    refine (adjEq_iff S).2 ?_
    rw [List.nodup_iff_pairwise_ne, List.pairwise_iff_getElem] at hd
    simp only [Classical.not_forall] at hd
    obtain ⟨i, j, hi, hj, hij, hne⟩ := hd
    have he : S[i] = S[j] := Classical.not_not.1 hne
    rw [List.pairwise_iff_getElem] at hS
    refine ⟨i, by omega, ?_⟩
    rw [List.getElem?_eq_getElem hi, List.getElem?_eq_getElem (by omega : i + 1 < S.length)]
    congr 1
    by_cases h1 : i + 1 = j
    · subst h1; exact he
    · have a1 := hS i (i + 1) hi (by omega) (by omega)
      have a2 := hS (i + 1) j (by omega) hj (by omega)
      rw [← he] at a2
      unfold lessP at a1 a2
      simp at a1 a2
      apply Prod.ext <;> omega
theorem nodup_take {l : List (Int × Int)} : (∀ i (h : i < l.length), l[i] ∉ l.take i) ↔ l.Nodup := by
  rw [List.nodup_iff_pairwise_ne, List.pairwise_iff_getElem]
  constructor
  · intro h i j hi hj hij he
    refine h j hj ?_
    rw [← he]
    exact List.mem_iff_getElem.2 ⟨i, by simp; omega, by simp⟩
  · intro h i hi hm
    obtain ⟨k, hk, e⟩ := List.mem_iff_getElem.1 hm
    simp at hk
    simp at e
    exact h k i (by omega) hi (by omega) e
end Go.Proofs.Ytfbgldkdlmipoaa

/- areAll and IndexFunc over numbers, at a function value. -/
namespace Go.Proofs.Ytfbgldkdlmipoaa
open Go.RowKit
set_option linter.unusedSimpArgs false
set_option linter.unusedVariables false

/-- A function value that tells of the numbers of a list, in all worlds above a world. -/
def TellsI (g : Nat) (fst cap : Array Value) (f : Int → Bool) (l : List Int) (w : World) : Prop :=
  ∀ (W : World) (p : Int), p ∈ l → Below w.heap.size w W → Calls Try.prog g (fst ++ #[.int .i64 p] ++ cap) W fun e w' => e = .returned (.bool (f p)) ∧ Below W.heap.size W w'
/-- The first number's index of which f says yes, or -1. -/
def idxI (f : Int → Bool) (l : List Int) : Int := if l.any f = true then (l.findIdx f : Int) else -1
theorem idxI_at {f : Int → Bool} {l : List Int} {k : Nat} (hk : k < l.length) (h : (l.take k).any f = false) (hf : f l[k] = true) : (k : Int) = idxI f l := by
  have h1 : l.any f = true := List.any_eq_true.2 ⟨_, List.getElem_mem hk, hf⟩
  unfold idxI
  rw [if_pos h1]
  have e : l = l.take k ++ l.drop k := (List.take_append_drop k l).symm
  have h2 : (l.take k).findIdx f = k := by
    have h3 : (l.take k).findIdx f = (l.take k).length := List.findIdx_eq_length.2 fun x hx => by
      have := List.any_eq_false.1 h x hx
      simpa using this
    rw [h3, List.length_take]; omega
  have h4 : (l.drop k).findIdx f = 0 := by
    rw [List.drop_eq_getElem_cons hk, List.findIdx_cons, hf]; rfl
  rw [e, List.findIdx_append, h2, h4, List.length_take, if_neg (by omega)]
  omega
end Go.Proofs.Ytfbgldkdlmipoaa

/- areAll and IndexFunc over int, at a function value. -/
namespace Go.Proofs.Ytfbgldkdlmipoaa
open Go.RowKit
set_option linter.unusedSimpArgs false
set_option linter.unusedVariables false

set_option maxRecDepth 100000 in
theorem c_indexFN (g : Nat) (fst cap : Array Value) (eg : ∀ args w, (callFunc g args).run Try.prog w = .ok (.enter g args) w) (f : Int → Bool) (A : Option Addr) (cc : Nat) (l : List Int) (hlen : l.length ≤ 1048576) (w : World) (hA : SlI w A l) (hf : TellsI g fst cap f l w) :
    Calls Try.prog 119 #[.slice A l.length cc, .func (.func g) fst cap] w fun e w' => ∃ n : Int, e = .returned (.int .i64 n) ∧ Below w.heap.size w w' ∧ decide (n ≥ 0) = l.any f ∧ n = idxI f l := by
  have HA := hid hA; clear hA
  have HF := hid hf; clear hf
  go_enter Try.func119, Try.ntmps119
  go_wp2_with fail
  go_loopw [8] (fun i wr => ∃ k : Nat, k ≤ l.length ∧ i = .int .i64 k ∧ Hid (Below w.heap.size w wr) ∧ Hid ((l.take k).any f = false)) (fun i _ => l.length - (intOf i).toNat)
  case atStart => exact ⟨0, by omega, rfl, Below.refl _ _, by simp [Hid]⟩
  case round =>
    obtain ⟨k, hk, rfl, hb, hno⟩ := hrel
    by_cases hkl : k < l.length
    · have hd : decide ((k : Int) < (l.length : Int)) = true := decide_eq_true (by omega)
      have hkI : (k : Int) < (l.length : Int) := by omega
      have hk0 : (0 : Int) ≤ (k : Int) := by omega
      have hp := List.getElem?_eq_getElem hkl
      obtain ⟨p1, hpp⟩ : ∃ p, p = l[k] := ⟨_, rfl⟩
      rw [← hpp] at hp
      have HM : Hid (p1 ∈ l) := by rw [hpp]; exact List.getElem_mem hkl
      have HIX : Hid (f p1 = true → (k : Int) = idxI f l) := fun h => by rw [hpp] at h; exact idxI_at hkl hno.out h
      have HTk : Hid ((l.take (k + 1)).any f = f p1) := by
        show _ = _
        rw [List.take_succ_eq_append_getElem hkl, List.any_append, hno.out, ← hpp]; simp
      obtain ⟨b, off, rfl, r1, r2⟩ := HA.out k _ hp
      have c0 := (hb.out.cell (p := ⟨b, _, none⟩) r1).trans r2
      have HC := hid (HF.out wr p1 HM.out hb.out)
      clear hp hpp r2
      cases hq : f p1 with
      | true =>
        have HQ := hid hq; clear hq
        have hcall := HC.out
        rw [HQ.out] at hcall
        have HC' := hid hcall
        clear hcall HC
        go_wp2_with (go_at_fn g; refine HC'.out.mono ?_; rintro e w2 ⟨rfl, hb2⟩)
        go_ret
        refine ⟨_, rfl, hb.out.trans (hb2.mono hb.out.size), ?_, HIX.out HQ.out⟩
        have h1 : l.any f = true := List.any_eq_true.2 ⟨_, HM.out, HQ.out⟩
        rw [h1]; exact decide_eq_true (by omega)
      | false =>
        have HQ := hid hq; clear hq
        have hcall := HC.out
        rw [HQ.out] at hcall
        have HC' := hid hcall
        clear hcall HC
        go_wp2_with (go_at_fn g; refine HC'.out.mono ?_; rintro e w2 ⟨rfl, hb2⟩)
        exact ⟨⟨k + 1, by omega, by go_num, hb.out.trans (hb2.mono hb.out.size), HTk.out.trans HQ.out⟩, by simp [intOf]; omega⟩
    · obtain rfl : k = l.length := by omega
      have hd : decide ((l.length : Int) < (l.length : Int)) = false := decide_eq_false (by omega)
      rw [List.take_length] at hno
      go_wp2_with fail
      go_ret
      exact ⟨_, rfl, hb.out, by rw [hno.out]; rfl, by unfold idxI; rw [hno.out]; rfl⟩
set_option maxRecDepth 100000 in
theorem c_containsFN (g : Nat) (fst cap : Array Value) (eg : ∀ args w, (callFunc g args).run Try.prog w = .ok (.enter g args) w) (f : Int → Bool) (A : Option Addr) (cc : Nat) (l : List Int) (hlen : l.length ≤ 1048576) (w : World) (hA : SlI w A l) (hf : TellsI g fst cap f l w) :
    Calls Try.prog 101 #[.slice A l.length cc, .func (.func g) fst cap] w fun e w' => e = .returned (.bool (l.any f)) ∧ Below w.heap.size w w' := by
  have HC := hid (c_indexFN g fst cap eg f A cc l hlen w hA hf); clear hA hf
  go_enter Try.func101, Try.ntmps101
  go_wp2_with (go_at_call 119; refine HC.out.mono ?_; rintro e w1 ⟨n, rfl, hb1, hn, he⟩; have HN := hid hn; clear hn he)
  all_goals
    go_ret
    exact ⟨ret_bool HN.out, hb1⟩
set_option maxRecDepth 100000 in
theorem c_areAllCloN (g : Nat) (fst cap : Array Value) (eg : ∀ args w, (callFunc g args).run Try.prog w = .ok (.enter g args) w) (f : Int → Bool) (l : List Int) (p : Int) (hp : p ∈ l) (bx : Nat) (w : World) (hb : w.heap[bx]? = some (.cells #[.func (.func g) fst cap] 103 (0, 0))) (hf : TellsI g fst cap f l w) :
    Calls Try.prog 102 #[.int .i64 p, .pointer (some ⟨bx, 0, none⟩)] w fun e w' => e = .returned (.bool (!f p)) ∧ Below w.heap.size w w' := by
  have k0 : w.cell? ⟨bx, 0, none⟩ = some (.func (.func g) fst cap) := cell_block hb rfl
  have HC := hid (hf w p hp (Below.refl _ w))
  clear hb hf hp
  go_enter Try.func102, Try.ntmps102
  go_wp2_with (go_at_fn g; refine HC.out.mono ?_; rintro e w2 ⟨rfl, hb2⟩)
  go_ret
  exact ⟨rfl, hb2⟩
set_option maxRecDepth 100000 in
theorem c_areAllN (g : Nat) (fst cap : Array Value) (eg : ∀ args w, (callFunc g args).run Try.prog w = .ok (.enter g args) w) (f : Int → Bool) (A : Option Addr) (cc : Nat) (l : List Int) (hlen : l.length ≤ 1048576) (w : World) (hA : SlI w A l) (hf : TellsI g fst cap f l w) :
    Calls Try.prog 82 #[.slice A l.length cc, .func (.func g) fst cap] w fun e w' => e = .returned (.bool (l.all f)) ∧ Below w.heap.size w w' := by
  have B0 : Below w.heap.size w (w.alloc (.cells #[.func (.func g) fst cap] 103)) := (Below.refl _ w).alloc (Nat.le_refl _) _
  have HX := hid (block_new1 w (.cells #[.func (.func g) fst cap] 103) rfl)
  have HT : Hid (TellsI 102 #[] #[.pointer (some ⟨w.heap.size, 0, none⟩)] (fun p => !f p) l (w.alloc (.cells #[.func (.func g) fst cap] 103))) := by
    intro W p hp hb
    refine c_areAllCloN g fst cap eg f l p hp _ W (block_below hb HX.out (by simp)) ?_
    intro W2 q hq hb2
    exact hf W2 q hq (B0.trans (hb.trans (hb2.mono hb.size) |>.mono (by simp)))
  have HC := hid (c_containsFN 102 #[] _ (enters_of Try.func102 (by kernel_rfl) rfl) _ A cc l hlen _ (hA.below B0 (Nat.le_refl _)) HT.out)
  clear hA hf HT
  go_enter Try.func82, Try.ntmps82
  go_wp2_with (go_at_call 101; ((with_reducible refine HC.out.mono ?_); rintro e w1 ⟨rfl, hb1⟩))
  go_ret
  refine ⟨ret_bool ?_, B0.trans (hb1.mono (by simp))⟩
  rw [List.all_eq_not_any_not]
end Go.Proofs.Ytfbgldkdlmipoaa

/- Slices of places: copied out of the law's arguments, marked, their sizes asked. -/
namespace Go.Proofs.Ytfbgldkdlmipoaa
open Go.RowKit
set_option linter.unusedSimpArgs false
set_option linter.unusedVariables false

theorem OwP.pairs {lo hi : Nat} {w : World} {A : Option Addr} {n c : Nat} {l : List (Int × Int)} (h : OwP lo hi w (.slice A n c) l) : PairsAt .i8 .i8 w A l := fun j p hj => by
  obtain ⟨b, c', e, _, _, h1, h2, h3⟩ := h.cells hj
  obtain ⟨rfl, _, _⟩ : A = some ⟨b, 0, none⟩ ∧ n = l.length ∧ c = c' := by simpa using e
  exact ⟨b, 0, rfl, h1, by rw [Nat.zero_add]; exact h2, by rw [Nat.zero_add]; exact h3⟩
theorem OwQ.pairs {lo hi : Nat} {w : World} {A : Option Addr} {n c : Nat} {l : List (Int × Int)} (h : OwQ lo hi w (.slice A n c) l) : PairsAt .i8 .i8 w A l := h.1.pairs
theorem OwQ.lo {lo lo' hi : Nat} {w : World} {v : Value} {l : List (Int × Int)} (h : OwQ lo hi w v l) (hl : lo' ≤ lo) : OwQ lo' hi w v l := by
  obtain ⟨⟨A, c, rfl, h⟩, h2, h3⟩ := h
  exact ⟨⟨A, c, rfl, fun hl => by obtain ⟨b, cs, h1, h2, h3, h4⟩ := h hl; exact ⟨b, cs, h1, by omega, by omega, h4⟩⟩, by omega, h3⟩
theorem OwQ.outS {lo hi lo' hi' : Nat} {w w' : World} {v : Value} {l : List (Int × Int)} (h : OwQ lo hi w v l) (hO : OutS lo' hi' w w') (hd : hi ≤ lo' ∨ hi' ≤ lo) : OwQ lo hi w' v l := by
  obtain ⟨⟨A, c, rfl, h⟩, h2, h3⟩ := h
  refine ⟨⟨A, c, rfl, fun hl => ?_⟩, h2, Nat.le_trans h3 hO.size⟩
  obtain ⟨b, cs, r1, r2, r3, r4, r5⟩ := h hl
  exact ⟨b, cs, r1, r2, r3, hO.keep r4 (by omega), r5⟩
theorem OwP.hi {lo hi lo' hi' : Nat} {w : World} {v : Value} {l : List (Int × Int)} (h : OwP lo hi w v l) (hl : lo' ≤ lo) (hh : hi ≤ hi') : OwP lo' hi' w v l := by
  obtain ⟨A, c, rfl, h⟩ := h
  exact ⟨A, c, rfl, fun hl => by obtain ⟨b, cs, h1, h2, h3, h4⟩ := h hl; exact ⟨b, cs, h1, by omega, by omega, h4⟩⟩
/-- The first k pairs of a list, zeros behind. -/
def padQ (l : List (Int × Int)) (k : Nat) : List (Int × Int) := l.take k ++ List.replicate (l.length - k) (0, 0)
theorem padQ_len (l : List (Int × Int)) (k : Nat) (hk : k ≤ l.length) : (padQ l k).length = l.length := by simp [padQ]; omega
theorem padQ_zero (l : List (Int × Int)) : padQ l 0 = List.replicate l.length (0, 0) := by simp [padQ]
theorem padQ_all (l : List (Int × Int)) : padQ l l.length = l := by simp [padQ]
theorem padQ_step (l : List (Int × Int)) (k : Nat) (hk : k < l.length) (p : Int × Int) (hp : p = l[k]) : (padQ l k).set k (p.1, p.2) = padQ l (k + 1) := by
  apply List.ext_getElem?
  intro j
  unfold padQ
  have e : l.length - k = (l.length - (k + 1)) + 1 := by omega
  have h1 : (l.take k).length = k := by simp; omega
  have h2 : (l.take k ++ List.replicate (l.length - k) ((0, 0) : Int × Int)).set k (p.1, p.2) = l.take k ++ (List.replicate (l.length - k) ((0, 0) : Int × Int)).set 0 (p.1, p.2) := by
    rw [List.set_append_right _ _ (by omega)]; rw [h1, Nat.sub_self]
  rw [h2, e, List.replicate_succ, List.set_cons_zero, List.take_succ_eq_append_getElem hk, List.append_assoc, ← hp]
  rfl
theorem owQ_free {lo hi : Nat} {w : World} {b n c : Nat} {l : List (Int × Int)} (h : OwP lo hi w (.slice (some ⟨b, 0, none⟩) n c) l) {k : Nat} (hk : k < l.length) :
    (∃ v, w.cell? ⟨b, k * 2, none⟩ = some v) ∧ (∃ v, w.cell? ⟨b, k * 2 + 1, none⟩ = some v) ∧ w.frozen? ⟨b, k * 2, none⟩ = false ∧ w.frozen? ⟨b, k * 2 + 1, none⟩ = false ∧ lo ≤ b := by
  have hne : l ≠ [] := by rintro rfl; simp at hk
  obtain ⟨b', c', e, h1, h2, h3, h4, h5⟩ := h.cells (List.getElem?_eq_getElem hk)
  obtain ⟨A, c2, e2, h⟩ := h
  obtain ⟨b2, cs, rfl, q2, q3, q4, _⟩ := h hne
  obtain ⟨rfl, _⟩ : b = b' ∧ n = l.length ∧ c = c' := by simpa using e
  obtain ⟨rfl, _⟩ : b = b2 ∧ n = l.length ∧ c = c2 := by simpa using e2
  exact ⟨⟨_, h4⟩, ⟨_, h5⟩, frozen_of_row _ _ _ _ _ q4, frozen_of_row _ _ _ _ _ q4, q2⟩
theorem made_twoQ (x : Value) (m : Nat) : (madeCells #[x, x] m).toList = List.replicate m x := by
  apply List.ext_getElem
  · simp [madeCells]
  · intro j h1 h2
    have h3 : j % 2 = 0 ∨ j % 2 = 1 := by omega
    rcases h3 with h3 | h3 <;> simp [madeCells, h3]
theorem pcells_rep (n : Nat) : pcells (List.replicate n (0, 0)) = List.replicate (n * 2) (.int .i8 0) := by
  induction n with
  | zero => rfl
  | succ n ih =>
    rw [List.replicate_succ', pcells_snoc, ih, show (n + 1) * 2 = n * 2 + 1 + 1 by omega, List.replicate_succ', List.replicate_succ', List.append_assoc]
    rfl
theorem made_Q (n : Nat) {w : World} {base cap : Nat} {A : Option Addr} (h : w.ownsRow base 50 2 (.slice A n cap) n (madeCells (Value.agg #[.int .i8 0, .int .i8 0]).cells (n * 2)).toList) : OwP base w.heap.size w (.slice A n cap) (List.replicate n (0, 0)) := by
  have e : (madeCells (Value.agg #[.int .i8 0, .int .i8 0]).cells (n * 2)).toList = pcells (List.replicate n (0, 0)) := by
    rw [pcells_rep]
    exact made_twoQ (.int .i8 0) (n * 2)
  rw [e] at h
  have h2 : w.ownsRow base 50 2 (.slice A n cap) (List.replicate n ((0, 0) : Int × Int)).length (pcells (List.replicate n (0, 0))) := by rw [List.length_replicate]; exact h
  exact OwP.of_owns h2
theorem Try.infoToPlace : (Try.prog.info? 50).map (fun i => (i.zero, i.size, i.bytes)) = some (some (.agg #[.int .i8 0, .int .i8 0]), 2, 2) := by kernel_rfl
theorem toPlace_parts : ∃ i, Try.prog.info? 50 = some i ∧ i.zero = some (.agg #[.int .i8 0, .int .i8 0]) ∧ i.size = 2 ∧ i.bytes = 2 := by
  have h := Try.infoToPlace
  cases hi : Try.prog.info? 50 with
  | none => rw [hi] at h; cases h
  | some i => rw [hi] at h; simp at h; exact ⟨i, rfl, h.1, h.2.1, h.2.2⟩
set_option maxHeartbeats 800000 in
set_option maxRecDepth 100000 in
theorem c_toPlaceS (A : Option Addr) (c : Nat) (l : List (Int × Int)) (hlen : l.length ≤ 1048576) (w : World) (hA : PairsAt .i8 .i8 w A l) :
    Calls Try.prog 11 #[.slice A l.length c] w fun e w' => ∃ (A' : Option Addr) (c' : Nat), e = .returned (.slice A' l.length c') ∧ Below w.heap.size w w' ∧ OwQ w.heap.size w'.heap.size w' (.slice A' l.length c') l := by
  obtain ⟨i0, hi, hz0, hz1, hz2⟩ := toPlace_parts
  have HA := hid hA; clear hA
  go_enter Try.func11, Try.ntmps11
  go_wp2_with ((with_reducible refine gate (N := 7) rfl ?_); refine wpList_make_full _ rfl (.tmp 6) (.tmp 6) 33 rfl w.heap.size 50 i0 (.agg #[.int .i8 0, .int .i8 0]) 2 Try.underlying33 hi hz0 hz1 .i64 .i64 (l.length : Int) (l.length : Int) l.length rfl rfl rfl rfl (by rw [hz2]; omega) (Nat.le_trans hlen (by decide)) (Nat.le_refl _) ?_; intro w1 hown hgrow)
  have HB1 : Hid (Below w.heap.size w w1) := (Below.refl _ w).grown hgrow (Nat.le_refl _) (fun k hk => by cases hk)
  have HO1 : Hid (OwP w.heap.size w1.heap.size w1 (.slice (some ⟨w.heap.size, 0, none⟩) l.length l.length) (padQ l 0)) := by
    rw [padQ_zero]
    have := made_Q l.length hown
    simpa [Hid] using this
  have hS1 : Hid (w.heap.size ≤ w1.heap.size) := HB1.out.size
  clear hown hgrow
  go_loopw [4] (fun i wr => ∃ k : Nat, k ≤ l.length ∧ i = .int .i64 k ∧ Hid (Below w.heap.size w wr) ∧ Hid (w1.heap.size ≤ wr.heap.size) ∧ Hid (OwP w.heap.size w1.heap.size wr (.slice (some ⟨w.heap.size, 0, none⟩) l.length l.length) (padQ l k))) (fun i _ => l.length - (intOf i).toNat)
  case atStart => exact ⟨0, by omega, rfl, HB1, Nat.le_refl _, HO1⟩
  case round =>
    obtain ⟨k, hk, rfl, hb, hS, hO⟩ := hrel
    by_cases hkl : k < l.length
    · have hd : decide ((k : Int) < (l.length : Int)) = true := decide_eq_true (by omega)
      have hkI : (k : Int) < (l.length : Int) := by omega
      have hk0 : (0 : Int) ≤ (k : Int) := by omega
      have hp := List.getElem?_eq_getElem hkl
      obtain ⟨⟨p1, p2⟩, hpp⟩ : ∃ p, p = l[k] := ⟨_, rfl⟩
      rw [← hpp] at hp
      have HST : Hid ((padQ l k).set k (p1, p2) = padQ l (k + 1)) := padQ_step l k hkl _ hpp
      have HL := hid (padQ_len l k hk)
      obtain ⟨b, off, rfl, r1, r2, r3⟩ := HA.out k _ hp
      dsimp only at r2 r3
      have c0 := (hb.out.cell (p := ⟨b, _, none⟩) r1).trans r2
      have c1 := (hb.out.cell (p := ⟨b, _, none⟩) r1).trans r3
      clear hp hpp r2 r3
      go_wp2_with (go_at_call 27; refine (c_toPlace p1 p2 _).mono ?_; rintro e w2 ⟨rfl, hb2⟩; have O2 := hid (hO.out.below hb2 hS.out); have hb := hid (hb.out.trans (hb2.mono hb.out.size)); have hS := hid (Nat.le_trans hS.out hb2.size); clear hb2; obtain ⟨⟨v0, m0⟩, ⟨v1, m1⟩, m2, m3, m4⟩ := owQ_free O2.out (k := k) (by rw [HL.out]; exact hkl))
      refine ⟨⟨k + 1, by omega, by go_num, Below.setCell (Below.setCell hb.out (p := ⟨w.heap.size, k * 2, none⟩) (Nat.le_refl _) _) (p := ⟨w.heap.size, k * 2 + 1, none⟩) (Nat.le_refl _) _, ?_, ?_⟩, by simp [intOf]; omega⟩
      · have := hS.out; simpa [Hid] using this
      · have h1 := O2.out
        rw [← HL.out] at h1
        have h2 := OwP.put h1 (by rw [HL.out]; exact hkl) p1 p2
        rw [HST.out, HL.out] at h2
        exact h2
    · obtain rfl : k = l.length := by omega
      have hd : decide ((l.length : Int) < (l.length : Int)) = false := decide_eq_false (by omega)
      rw [padQ_all] at hO
      go_wp2_with fail
      go_ret
      exact ⟨_, _, rfl, hb.out, ⟨hO.out.hi (Nat.le_refl _) hS.out, hb.out.size, Nat.le_refl _⟩⟩
set_option maxRecDepth 100000 in
theorem c_szPlaceS (A : Option Addr) (c : Nat) (n : Nat) (hn : n ≤ 9223372036854775807) (m : Int) (hm : 0 ≤ m ∧ m ≤ 1048576) (w : World) :
    Calls Try.prog 8 #[.slice A n c, .int .i64 m] w fun e w' => e = .returned (.int .i64 (if (n : Int) ≤ m then (m - n : Int) else -1)) ∧ w = w' := by
  by_cases h : (n : Int) ≤ m
  · have h1 : ¬ ((m : Int) - n < 0) := by omega
    have hd : decide ((m : Int) - n < 0) = false := decide_eq_false h1
    rw [if_pos h]
    go_enter Try.func8, Try.ntmps8
    go_wp2_with fail
    go_ret
    exact ⟨rfl, rfl⟩
  · have h1 : ((m : Int) - n < 0) := by omega
    have hd : decide ((m : Int) - n < 0) = true := decide_eq_true h1
    rw [if_neg h]
    go_enter Try.func8, Try.ntmps8
    go_wp2_with fail
    go_ret
    exact ⟨rfl, rfl⟩
theorem e_PlaceS {lo hi lo' hi' : Nat} {v v' : Value} {l : List (Int × Int)} (hlen : l.length ≤ 1048576) {w : World} (h : OwQ lo hi w v l) (h' : OwQ lo' hi' w v' l) :
    Calls Try.prog 13 #[v, v'] w fun e w' => e = .returned (.bool true) ∧ Below w.heap.size w w' :=
  c_eqPlaceS lo hi lo' hi' v v' l (Nat.le_trans hlen (by decide)) w h.1 h'.1 h.2.2 h'.2.2
set_option maxRecDepth 100000 in
theorem m_PlaceS {lo hi : Nat} {v : Value} {l : List (Int × Int)} {m : Int} (hm : 0 ≤ m ∧ m ≤ 1000000000) (hlen : l.length ≤ 1048576) {w : World} (h : OwQ lo hi w v l) :
    Calls Try.prog 18 #[v, .int .i64 m] w fun e w' => e = .returned (.int .i64 (m + 2 * l.length)) ∧ Below lo w w' ∧ OutS lo hi w w' ∧ OwQ lo hi w' v (mkL l m l.length) := by
  have h2 := h.2
  have h0 := h.1
  obtain ⟨⟨A, c, rfl, _⟩, _, _⟩ := h
  go_enter Try.func18, Try.ntmps18
  go_wp2_with fail
  go_loopw [1, 5] (fun q i wr => ∃ k : Nat, k ≤ l.length ∧ i = .int .i64 k ∧ q = .int .i64 (m + 2 * k) ∧ Hid (Below lo w wr) ∧ Hid (OutS lo hi w wr) ∧ Hid (OwP lo hi wr (.slice A l.length c) (mkL l m k))) (fun _ i _ => l.length - (intOf i).toNat)
  case atStart => exact ⟨0, by omega, rfl, by simp, Below.refl _ _, OutS.refl _ _ _, by rw [mkL_zero]; exact h0⟩
  case round =>
    obtain ⟨k, hk, rfl, rfl, hb, hOut, hO⟩ := hrel
    by_cases hkl : k < l.length
    · have hd : decide ((k : Int) < (l.length : Int)) = true := decide_eq_true (by omega)
      have hkl' : k < (mkL l m k).length := by rw [mkL_len]; exact hkl
      have hp := List.getElem?_eq_getElem hkl'
      obtain ⟨⟨p1, p2⟩, hpp⟩ : ∃ p, p = (mkL l m k)[k] := ⟨_, rfl⟩
      rw [← hpp] at hp
      obtain ⟨b, c1, e1, r1, r9, q1, q2, q3⟩ := hO.out.cells hp
      obtain ⟨rfl, _, rfl⟩ : A = some ⟨b, 0, none⟩ ∧ l.length = (mkL l m k).length ∧ c = c1 := by simpa using e1
      have HP : Hid (OwP lo hi ((wr.setCell ⟨b, k * 2, none⟩ (.int .i8 (IntKind.i8.wrap (m + 2 * k)))).setCell ⟨b, k * 2 + 1, none⟩ (.int .i8 (IntKind.i8.wrap (m + 2 * k + 1)))) (.slice (some ⟨b, 0, none⟩) l.length c) (mkL l m (k + 1))) := by
        have := hO.out
        rw [← mkL_len l m k] at this
        have := OwP.put this hkl' (IntKind.i8.wrap (m + 2 * k)) (IntKind.i8.wrap (m + 2 * k + 1))
        rw [mkL_step l m k hkl, mkL_len] at this
        exact this
      have f2 : wr.frozen? ⟨b, k * 2, none⟩ = false := by
        obtain ⟨A', c', e', h'⟩ := hO.out
        obtain ⟨b', cs, rfl, _, _, h4, _⟩ := h' (by intro e; rw [e] at hkl'; simp at hkl')
        obtain rfl : b = b' := by simpa using (Value.slice.inj e').1
        exact frozen_of_row _ _ _ _ _ h4
      have f3 : wr.frozen? ⟨b, k * 2 + 1, none⟩ = false := by
        obtain ⟨A', c', e', h'⟩ := hO.out
        obtain ⟨b', cs, rfl, _, _, h4, _⟩ := h' (by intro e; rw [e] at hkl'; simp at hkl')
        obtain rfl : b = b' := by simpa using (Value.slice.inj e').1
        exact frozen_of_row _ _ _ _ _ h4
      clear hp hpp e1 h0 hkl'
      go_wp2_with fail
      exact ⟨⟨k + 1, by omega, by go_num, congrArg (Value.int .i64) (by omega), Below.setCell (Below.setCell hb.out (p := ⟨b, k * 2, none⟩) r1 _) (p := ⟨b, k * 2 + 1, none⟩) r1 _, OutS.setCell (OutS.setCell hOut.out (a := ⟨b, k * 2, none⟩) _ r1 r9) (a := ⟨b, k * 2 + 1, none⟩) _ r1 r9, HP.out⟩, by simp [intOf]; omega⟩
    · obtain rfl : k = l.length := by omega
      have hd : decide ((l.length : Int) < (l.length : Int)) = false := decide_eq_false (by omega)
      go_wp2_with fail
      go_ret
      exact ⟨rfl, hb.out, hOut.out, hO.out, h2.1, Nat.le_trans h2.2 hOut.out.size⟩
set_option maxRecDepth 100000 in
theorem h_PlaceS {lo hi : Nat} {v : Value} {l : List (Int × Int)} {m : Int} (hm : 0 ≤ m ∧ m ≤ 1000000000) (hlen : l.length ≤ 1048576) {w : World} (h : OwQ lo hi w v (mkL l m l.length)) :
    Calls Try.prog 19 #[v, .int .i64 m] w fun e w' => e = .returned (.int .i64 (m + 2 * l.length)) ∧ Below w.heap.size w w' := by
  have h0 := hid h.1
  obtain ⟨⟨A, c, rfl, _⟩, _, _⟩ := h
  rw [mkL_len] at h0 ⊢
  go_enter Try.func19, Try.ntmps19
  go_wp2_with fail
  go_loop [1, 5] (fun q i => ∃ k : Nat, k ≤ l.length ∧ i = .int .i64 k ∧ q = .int .i64 (m + 2 * k)) (fun _ i => l.length - (intOf i).toNat)
  case atStart => exact ⟨0, by omega, rfl, by simp⟩
  case round =>
    obtain ⟨k, hk, rfl, rfl⟩ := hrel
    by_cases hkl : k < l.length
    · have hd : decide ((k : Int) < (l.length : Int)) = true := decide_eq_true (by omega)
      have hp : (mkL l m l.length)[k]? = some (IntKind.i8.wrap (m + 2 * k), IntKind.i8.wrap (m + 2 * k + 1)) := by rw [mkL_get, if_pos hkl, if_pos hkl]
      obtain ⟨b, c1, e1, r1, _, q1, q2, q3⟩ := h0.out.cells hp
      obtain ⟨rfl, _⟩ : A = some ⟨b, 0, none⟩ ∧ c = c1 := by simpa [mkL_len] using e1
      dsimp only at q2 q3
      clear hp e1
      go_wp2_with fail
      exact ⟨⟨k + 1, by omega, by go_num, congrArg (Value.int .i64) (by omega)⟩, by simp [intOf]; omega⟩
    · obtain rfl : k = l.length := by omega
      have hd : decide ((l.length : Int) < (l.length : Int)) = false := decide_eq_false (by omega)
      go_wp2_with fail
      go_ret
      exact ⟨rfl, Below.refl _ _⟩
end Go.Proofs.Ytfbgldkdlmipoaa

/- areAll over places, at a function value. -/
namespace Go.Proofs.Ytfbgldkdlmipoaa
open Go.RowKit
set_option linter.unusedSimpArgs false
set_option linter.unusedVariables false

/-- A function value that tells of the places of a list, in all worlds above a world. -/
def TellsP (g : Nat) (fst cap : Array Value) (f : Int × Int → Bool) (l : List (Int × Int)) (w : World) : Prop :=
  ∀ (W : World) (p : Int × Int), p ∈ l → Below w.heap.size w W → Calls Try.prog g (fst ++ #[.agg #[.int .i8 p.1, .int .i8 p.2]] ++ cap) W fun e w' => e = .returned (.bool (f p)) ∧ Below W.heap.size W w'
/-- The first one's index of which f says yes, or -1. -/
def idxP (f : Int × Int → Bool) (l : List (Int × Int)) : Int := if l.any f = true then (l.findIdx f : Int) else -1
theorem idxP_at {f : Int × Int → Bool} {l : List (Int × Int)} {k : Nat} (hk : k < l.length) (h : (l.take k).any f = false) (hf : f l[k] = true) : (k : Int) = idxP f l := by
  have h1 : l.any f = true := List.any_eq_true.2 ⟨_, List.getElem_mem hk, hf⟩
  unfold idxP
  rw [if_pos h1]
  have e : l = l.take k ++ l.drop k := (List.take_append_drop k l).symm
  have h2 : (l.take k).findIdx f = k := by
    have h3 : (l.take k).findIdx f = (l.take k).length := List.findIdx_eq_length.2 fun x hx => by
      have := List.any_eq_false.1 h x hx
      simpa using this
    rw [h3, List.length_take]; omega
  have h4 : (l.drop k).findIdx f = 0 := by
    rw [List.drop_eq_getElem_cons hk, List.findIdx_cons, hf]; rfl
  rw [e, List.findIdx_append, h2, h4, List.length_take, if_neg (by omega)]
  omega
set_option maxRecDepth 100000 in
theorem c_indexFP (g : Nat) (fst cap : Array Value) (eg : ∀ args w, (callFunc g args).run Try.prog w = .ok (.enter g args) w) (f : Int × Int → Bool) (A : Option Addr) (cc : Nat) (l : List (Int × Int)) (hlen : l.length ≤ 1048576) (w : World) (hA : PairsAt .i8 .i8 w A l) (hf : TellsP g fst cap f l w) :
    Calls Try.prog 40 #[.slice A l.length cc, .func (.func g) fst cap] w fun e w' => ∃ n : Int, e = .returned (.int .i64 n) ∧ Below w.heap.size w w' ∧ decide (n ≥ 0) = l.any f ∧ n = idxP f l := by
  have HA := hid hA; clear hA
  have HF := hid hf; clear hf
  go_enter Try.func40, Try.ntmps40
  go_wp2_with fail
  go_loopw [8] (fun i wr => ∃ k : Nat, k ≤ l.length ∧ i = .int .i64 k ∧ Hid (Below w.heap.size w wr) ∧ Hid ((l.take k).any f = false)) (fun i _ => l.length - (intOf i).toNat)
  case atStart => exact ⟨0, by omega, rfl, Below.refl _ _, by simp [Hid]⟩
  case round =>
    obtain ⟨k, hk, rfl, hb, hno⟩ := hrel
    by_cases hkl : k < l.length
    · have hd : decide ((k : Int) < (l.length : Int)) = true := decide_eq_true (by omega)
      have hkI : (k : Int) < (l.length : Int) := by omega
      have hk0 : (0 : Int) ≤ (k : Int) := by omega
      have hp := List.getElem?_eq_getElem hkl
      obtain ⟨⟨p1, p2⟩, hpp⟩ : ∃ p, p = l[k] := ⟨_, rfl⟩
      rw [← hpp] at hp
      have HM : Hid ((p1, p2) ∈ l) := by rw [hpp]; exact List.getElem_mem hkl
      have HIX : Hid (f (p1, p2) = true → (k : Int) = idxP f l) := fun h => by rw [hpp] at h; exact idxP_at hkl hno.out h
      have HTk : Hid ((l.take (k + 1)).any f = f (p1, p2)) := by
        show _ = _
        rw [List.take_succ_eq_append_getElem hkl, List.any_append, hno.out, ← hpp]; simp
      obtain ⟨b, off, rfl, r1, r2, r3⟩ := HA.out k _ hp
      have c0 := (hb.out.cell (p := ⟨b, _, none⟩) r1).trans r2
      have c1 := (hb.out.cell (p := ⟨b, _, none⟩) r1).trans r3
      dsimp only at c0 c1
      have HC := hid (HF.out wr (p1, p2) HM.out hb.out)
      clear hp hpp r2 r3
      cases hq : f (p1, p2) with
      | true =>
        have HQ := hid hq; clear hq
        have hcall := HC.out
        rw [HQ.out] at hcall
        have HC' := hid hcall
        clear hcall HC
        go_wp2_with (go_at_fn g; refine HC'.out.mono ?_; rintro e w2 ⟨rfl, hb2⟩)
        go_ret
        refine ⟨_, rfl, hb.out.trans (hb2.mono hb.out.size), ?_, HIX.out HQ.out⟩
        have h1 : l.any f = true := List.any_eq_true.2 ⟨_, HM.out, HQ.out⟩
        rw [h1]; exact decide_eq_true (by omega)
      | false =>
        have HQ := hid hq; clear hq
        have hcall := HC.out
        rw [HQ.out] at hcall
        have HC' := hid hcall
        clear hcall HC
        go_wp2_with (go_at_fn g; refine HC'.out.mono ?_; rintro e w2 ⟨rfl, hb2⟩)
        exact ⟨⟨k + 1, by omega, by go_num, hb.out.trans (hb2.mono hb.out.size), HTk.out.trans HQ.out⟩, by simp [intOf]; omega⟩
    · obtain rfl : k = l.length := by omega
      have hd : decide ((l.length : Int) < (l.length : Int)) = false := decide_eq_false (by omega)
      rw [List.take_length] at hno
      go_wp2_with fail
      go_ret
      exact ⟨_, rfl, hb.out, by rw [hno.out]; rfl, by unfold idxP; rw [hno.out]; rfl⟩
set_option maxRecDepth 100000 in
theorem c_containsFP (g : Nat) (fst cap : Array Value) (eg : ∀ args w, (callFunc g args).run Try.prog w = .ok (.enter g args) w) (f : Int × Int → Bool) (A : Option Addr) (cc : Nat) (l : List (Int × Int)) (hlen : l.length ≤ 1048576) (w : World) (hA : PairsAt .i8 .i8 w A l) (hf : TellsP g fst cap f l w) :
    Calls Try.prog 29 #[.slice A l.length cc, .func (.func g) fst cap] w fun e w' => e = .returned (.bool (l.any f)) ∧ Below w.heap.size w w' := by
  have HC := hid (c_indexFP g fst cap eg f A cc l hlen w hA hf); clear hA hf
  go_enter Try.func29, Try.ntmps29
  go_wp2_with (go_at_call 40; refine HC.out.mono ?_; rintro e w1 ⟨n, rfl, hb1, hn, he⟩; have HN := hid hn; clear hn he)
  all_goals
    go_ret
    exact ⟨ret_bool HN.out, hb1⟩
set_option maxRecDepth 100000 in
theorem c_areAllCloP (g : Nat) (fst cap : Array Value) (eg : ∀ args w, (callFunc g args).run Try.prog w = .ok (.enter g args) w) (f : Int × Int → Bool) (l : List (Int × Int)) (p : Int × Int) (hp : p ∈ l) (bx : Nat) (w : World) (hb : w.heap[bx]? = some (.cells #[.func (.func g) fst cap] 57 (0, 0))) (hf : TellsP g fst cap f l w) :
    Calls Try.prog 84 #[.agg #[.int .i8 p.1, .int .i8 p.2], .pointer (some ⟨bx, 0, none⟩)] w fun e w' => e = .returned (.bool (!f p)) ∧ Below w.heap.size w w' := by
  obtain ⟨p1, p2⟩ := p
  have k0 : (w.alloc (.cells #[.int .i8 p1, .int .i8 p2] 50)).cell? ⟨bx, 0, none⟩ = some (.func (.func g) fst cap) := cell_block (block_alloc hb _) rfl
  have HC := hid (hf (w.alloc (.cells #[.int .i8 p1, .int .i8 p2] 50)) (p1, p2) hp ((Below.refl _ w).alloc (Nat.le_refl _) _))
  clear hb hf hp
  go_enter Try.func84, Try.ntmps84
  go_wp2_with (go_at_fn g; refine HC.out.mono ?_; rintro e w2 ⟨rfl, hb2⟩)
  go_ret
  exact ⟨rfl, ((Below.refl _ w).alloc (Nat.le_refl _) _).trans (hb2.mono (by simp))⟩
set_option maxRecDepth 100000 in
theorem c_areAllP (g : Nat) (fst cap : Array Value) (eg : ∀ args w, (callFunc g args).run Try.prog w = .ok (.enter g args) w) (f : Int × Int → Bool) (A : Option Addr) (cc : Nat) (l : List (Int × Int)) (hlen : l.length ≤ 1048576) (w : World) (hA : PairsAt .i8 .i8 w A l) (hf : TellsP g fst cap f l w) :
    Calls Try.prog 58 #[.slice A l.length cc, .func (.func g) fst cap] w fun e w' => e = .returned (.bool (l.all f)) ∧ Below w.heap.size w w' := by
  have B0 : Below w.heap.size w (w.alloc (.cells #[.func (.func g) fst cap] 57)) := (Below.refl _ w).alloc (Nat.le_refl _) _
  have HX := hid (block_new1 w (.cells #[.func (.func g) fst cap] 57) rfl)
  have HT : Hid (TellsP 84 #[] #[.pointer (some ⟨w.heap.size, 0, none⟩)] (fun p => !f p) l (w.alloc (.cells #[.func (.func g) fst cap] 57))) := by
    intro W p hp hb
    refine c_areAllCloP g fst cap eg f l p hp _ W (block_below hb HX.out (by simp)) ?_
    intro W2 q hq hb2
    exact hf W2 q hq (B0.trans (hb.trans (hb2.mono hb.size) |>.mono (by simp)))
  have HC := hid (c_containsFP 84 #[] _ (enters_of Try.func84 (by kernel_rfl) rfl) _ A cc l hlen _ (hA.below B0 (Nat.le_refl _)) HT.out)
  clear hA hf HT
  go_enter Try.func58, Try.ntmps58
  go_wp2_with (go_at_call 29; ((with_reducible refine HC.out.mono ?_); rintro e w1 ⟨rfl, hb1⟩))
  go_ret
  refine ⟨ret_bool ?_, B0.trans (hb1.mono (by simp))⟩
  rw [List.all_eq_not_any_not]
end Go.Proofs.Ytfbgldkdlmipoaa

/- A region that draws its order: quiet operations, then one call whose result is not foreknown, then quiet operations behind it. -/
namespace Go.Proofs.Ytfbgldkdlmipoaa
open Go.RowKit
set_option linter.unusedSimpArgs false
set_option linter.unusedVariables false

/-- Each operation ahead of number n is awaited, and each one behind it waits. -/
def wildB (l : List Oper) (n : Nat) : Bool :=
  ((List.range n).all fun i => (List.range (n + 1)).any fun j => decide (i < j) && (match l[j]? with | some o => o.after.toList.any fun e => Region.binds .any e && e.on == i | none => false)) &&
  (List.range l.length).all fun t => decide (t ≤ n) || (match l[t]? with | some o => o.after.toList.any fun e => Region.binds .any e && decide (n ≤ e.on) && decide (e.on < t) | none => true)
theorem wildB_pre {l : List Oper} {n : Nat} (h : wildB l n = true) (i : Nat) (hi : i < n) : ∃ j o, i < j ∧ j ≤ n ∧ l[j]? = some o ∧ ∃ e ∈ o.after, Region.binds .any e = true ∧ e.on = i := by
  unfold wildB at h
  rw [Bool.and_eq_true] at h
  have h1 := List.all_eq_true.1 h.1 i (List.mem_range.2 hi)
  obtain ⟨j, hj, h2⟩ := List.any_eq_true.1 h1
  rw [Bool.and_eq_true] at h2
  obtain ⟨h3, h4⟩ := h2
  cases hl : l[j]? with
  | none => rw [hl] at h4; cases h4
  | some o =>
    rw [hl] at h4
    obtain ⟨e, he, h5⟩ := List.any_eq_true.1 h4
    rw [Bool.and_eq_true] at h5
    exact ⟨j, o, by simpa using h3, by have := List.mem_range.1 hj; omega, hl, e, by simpa using he, h5.1, by simpa using h5.2⟩
theorem wildB_post {l : List Oper} {n : Nat} (h : wildB l n = true) (t : Nat) (o : Oper) (ho : l[t]? = some o) (ht : n < t) : ∃ e ∈ o.after, Region.binds .any e = true ∧ n ≤ e.on ∧ e.on < t := by
  unfold wildB at h
  rw [Bool.and_eq_true] at h
  have h1 := List.all_eq_true.1 h.2 t (List.mem_range.2 (List.getElem?_eq_some_iff.1 ho).1)
  rw [ho] at h1
  simp only [Bool.or_eq_true, decide_eq_true_eq] at h1
  rcases h1 with h1 | h1
  · omega
  · obtain ⟨e, he, h5⟩ := List.any_eq_true.1 h1
    simp only [Bool.and_eq_true, decide_eq_true_eq] at h5
    exact ⟨e, by simpa using he, h5.1.1, h5.1.2, h5.2⟩
theorem act_ext {a b : Act} (hs : a.tmps.size = b.tmps.size) (hd : a.defers = b.defers) (h : ∀ k, a.tmps.getD k undef = b.tmps.getD k undef) : a = b := by
  have ht : a.tmps = b.tmps := by
    apply Array.ext hs
    intro k hk1 hk2
    have := h k
    rwa [Array.getD_eq_getD_getElem?, Array.getD_eq_getD_getElem?, Array.getElem?_eq_getElem hk1, Array.getElem?_eq_getElem hk2] at this
  cases a; cases b; dsimp only at ht hd; subst ht hd; rfl
/-- What one walk in the text's order has shown of an operation: its value stands in the end; what it read stood there, or stands in the end. -/
theorem stepsS_key {P : Program} {ops : Array Oper} {C : World → Prop} {l : List Oper} {vs : List Value} {a aσ : Act} (hst : StepsS P ops C l vs a) (hfin : putsS l vs a = aσ) (hd1 : ∀ (i : Nat) (o : Oper) (d : Nat), l[i]? = some o → o.dst = some d → d < a.tmps.size)
    (hone : ∀ (i : Nat) (o : Oper) (j : Nat) (o' : Oper) (d : Nat), l[i]? = some o → l[j]? = some o' → i ≠ j → o.dst = some d → o'.dst ≠ some d) (i : Nat) (o : Oper) (ho : l[i]? = some o) :
    ∃ v ai, YieldsIn P ops C o v ai ∧ (∀ d, o.dst = some d → v = aσ.tmps.getD d undef) ∧ (∀ t : Nat, (∀ (j : Nat) (o' : Oper), l[j]? = some o' → o'.dst ≠ some t) → ai.tmps.getD t undef = a.tmps.getD t undef) ∧
      (∀ (t j : Nat) (o' : Oper), j < i → l[j]? = some o' → o'.dst = some t → ai.tmps.getD t undef = aσ.tmps.getD t undef) := by
  obtain ⟨v, ai, k1, k2, k3, k4⟩ := stepsS_at _ _ _ _ _ hst ho
  rw [hfin] at k2
  have hdrop : ∀ t : Nat, (∀ (j : Nat) (o' : Oper), i < j → l[j]? = some o' → o'.dst ≠ some t) → ∀ o' ∈ l.drop (i + 1), o'.dst ≠ some t := by
    intro t ht o' hm' hd
    obtain ⟨k, hk, rfl⟩ := List.getElem_of_mem hm'
    have hk2 := List.getElem?_eq_getElem hk
    rw [List.getElem?_drop] at hk2
    exact ht _ _ (by omega) hk2 hd
  refine ⟨v, ai, k1, ?_, ?_, ?_⟩
  · intro d hd
    rw [k2, putsS_other d _ _ _ (hdrop d fun j o' hj hl => hone i o j o' d ho hl (by omega) hd), hd, put_here _ _ _ (by rw [k3]; exact hd1 i o d ho hd)]
  · intro t ht
    exact k4 t fun j o' _ hl hd => ht j o' hl hd
  · intro t j o' hj hl hd
    have hne : ∀ (j' : Nat) (o'' : Oper), l[j']? = some o'' → j' ≠ j → o''.dst ≠ some t := fun j' o'' hl' hne => hone j o' j' o'' t hl hl' (Ne.symm hne) hd
    rw [k2, putsS_other t _ _ _ (hdrop t fun j' o'' hj' hl' => hne j' o'' hl' (by omega)), put_other _ _ _ _ (hne i o ho (by omega))]
set_option maxHeartbeats 1600000 in
theorem wp_region_wild {P : Program} {id : Nat} {Q : Exit → Act → World → Prop} {a0 : Act} {W : World} {l : List Oper} (B n : Nat) (aσ : Act) (oc : Oper) (f : FuncId) (args : Array Value) (R : Value → World → Prop)
    (hm : P.follows .mixedOrders = true) (hback : backB l = true) (hn : lawB l a0.tmps.size = true) (hw : wildB l n = true) (hoc : l[n]? = some oc) (hBW : B ≤ W.heap.size)
    (hpre : wpQuiet P l.toArray (fun w' => ∃ x : Ext B W, w' = x.out) (fun a' => a' = aσ) (l.take n) a0)
    (hent : ∀ w, (execOp aσ.eval oc).run P w = .ok (.enter f args) w)
    (hcall : ∀ x : Ext B W, Calls P f args x.out fun e w' => ∃ v, e = .returned v ∧ R v w')
    (hpost : ∀ v w1, R v w1 → wpQuiet P l.toArray (fun w' => w' = w1) (fun a' => Q .normal a' w1) (l.drop (n + 1)) (aσ.put oc.dst v)) :
    (Code.region id l.toArray true).wp P Q a0 W := by
  have hL := fun i o ho => lawB_of hn i o ho
  have hone : ∀ (i : Nat) (o : Oper) (j : Nat) (o' : Oper) (d : Nat), l[i]? = some o → l[j]? = some o' → i ≠ j → o.dst = some d → o'.dst ≠ some d := fun i o j o' d hi hj hne hd => (hL j o' hj).2.2.2.1 i o hi hne d hd
  have hnl : n < l.length := (List.getElem?_eq_some_iff.1 hoc).1
  have htake : ∀ (i : Nat) (o : Oper), (l.take n)[i]? = some o → l[i]? = some o ∧ i < n := fun i o h => by
    rw [List.getElem?_take] at h
    split at h
    · exact ⟨h, by assumption⟩
    · cases h
  have hdropg : ∀ (i : Nat) (o : Oper), (l.drop (n + 1))[i]? = some o → l[n + 1 + i]? = some o := fun i o h => by rw [List.getElem?_drop] at h; exact h
  obtain ⟨vs0, hst0, hfin0⟩ := stepsS_of _ _ hpre
  have hsize : aσ.tmps.size = a0.tmps.size := by rw [← hfin0, putsS_size]
  have hdef : aσ.defers = a0.defers := by rw [← hfin0, putsS_defers]
  have key0 := fun i o ho => stepsS_key hst0 hfin0 (fun i o d h hd => (hL i o (htake i o h).1).2.2.1 d hd) (fun i o j o' d h h' hne hd => hone i o j o' d (htake i o h).1 (htake j o' h').1 hne hd) i o ho
  have hout0 : ∀ t : Nat, (∀ (i : Nat) (o : Oper), i < n → l[i]? = some o → o.dst ≠ some t) → aσ.tmps.getD t undef = a0.tmps.getD t undef := by
    intro t ht
    rw [← hfin0, putsS_other]
    intro o' hm' hd
    obtain ⟨k, hk, rfl⟩ := List.getElem_of_mem hm'
    have hk2 := htake k _ (List.getElem?_eq_getElem hk)
    exact ht k _ hk2.2 hk2.1 hd
  -- what stands when the call has been made
  let Post : World → Act → Prop := fun w aτ => ∃ v vs, StepsS P l.toArray (fun w' => w' = w) (l.drop (n + 1)) vs (aσ.put oc.dst v) ∧ putsS (l.drop (n + 1)) vs (aσ.put oc.dst v) = aτ ∧ Q .normal aτ w ∧ ∀ d, oc.dst = some d → aτ.tmps.getD d undef = v
  have hPost : ∀ w aτ, Post w aτ → aτ.tmps.size = a0.tmps.size ∧ aτ.defers = a0.defers ∧ (∀ t : Nat, (∀ (i : Nat) (o : Oper), l[i]? = some o → o.dst ≠ some t) → aτ.tmps.getD t undef = a0.tmps.getD t undef) ∧
      (∀ (i : Nat) (o : Oper) (d : Nat), l[i]? = some o → i < n → o.dst = some d → aτ.tmps.getD d undef = aσ.tmps.getD d undef) := by
    rintro w aτ ⟨v, vs, h1, h2, _, _⟩
    have hoth : ∀ t : Nat, (∀ (i : Nat) (o : Oper), n < i → l[i]? = some o → o.dst ≠ some t) → aτ.tmps.getD t undef = (aσ.put oc.dst v).tmps.getD t undef := by
      intro t ht
      rw [← h2, putsS_other]
      intro o' hm' hd
      obtain ⟨k, hk, rfl⟩ := List.getElem_of_mem hm'
      exact ht _ _ (by omega) (hdropg k _ (List.getElem?_eq_getElem hk)) hd
    refine ⟨by rw [← h2, putsS_size, put_size, hsize], by rw [← h2, putsS_defers, put_defers', hdef], fun t ht => ?_, fun i o d hi hin hd => ?_⟩
    · rw [hoth t fun i o _ hi => ht i o hi, put_other _ _ _ _ (ht n oc hoc), hout0 t fun i o _ hi => ht i o hi]
    · rw [hoth d fun j o' hj hj' => hone i o j o' d hi hj' (by omega) hd, put_other _ _ _ _ (hone i o n oc d hi hoc (by omega) hd)]
  have hpre_all : ∀ L : Nat → Bool, (∀ (j : Nat) (oj : Oper), l[j]? = some oj → L j = true → ∀ e ∈ oj.after, Region.binds .any e = true → L e.on = true) → (∀ e ∈ oc.after, Region.binds .any e = true → L e.on = true) → ∀ i, i < n → L i = true := by
    intro L hcl hcn
    have : ∀ d i, n - i = d → i < n → L i = true := by
      intro d
      induction d using Nat.strongRecOn with
      | _ d ih =>
        intro i hd hi
        obtain ⟨j, o, h1, h2, h3, e, he, hb, rfl⟩ := wildB_pre hw i hi
        by_cases hj : j = n
        · subst hj
          rw [hoc] at h3
          obtain rfl := Option.some.inj h3
          exact hcn e he hb
        · exact hcl j o h3 (ih (n - j) (by omega) j rfl (by omega)) e he hb
    exact fun i hi => this _ i rfl hi
  refine wp_region_inv hm hback (fun L a w => a.defers = a0.defers ∧ a.tmps.size = a0.tmps.size ∧ (∀ t : Nat, (∀ (i : Nat) (o : Oper), l[i]? = some o → o.dst ≠ some t) → a.tmps.getD t undef = a0.tmps.getD t undef) ∧
    (∀ (j : Nat) (oj : Oper), l[j]? = some oj → L j = true → ∀ e ∈ oj.after, Region.binds .any e = true → L e.on = true) ∧
    (L n = false → (∃ x : Ext B W, w = x.out) ∧ ∀ (i : Nat) (o : Oper) (d : Nat), l[i]? = some o → L i = true → o.dst = some d → a.tmps.getD d undef = aσ.tmps.getD d undef) ∧
    (L n = true → ∃ aτ, Post w aτ ∧ ∀ (i : Nat) (o : Oper) (d : Nat), l[i]? = some o → L i = true → o.dst = some d → a.tmps.getD d undef = aτ.tmps.getD d undef)) ?_ ?_ ?_
  · intro L hL0
    exact ⟨rfl, rfl, fun _ _ => rfl, fun j oj hj hLj => (by rw [hL0 j (List.getElem?_eq_some_iff.1 hj).1] at hLj; cases hLj), fun _ => ⟨⟨⟨_, (Below.refl B W).drew⟩, rfl⟩, fun i o d hi hLi => (by rw [hL0 i (List.getElem?_eq_some_iff.1 hi).1] at hLi; cases hLi)⟩, fun hLn => (by rw [hL0 n hnl] at hLn; cases hLn)⟩
  · intro L a w i o ho hLi hafter ⟨i1, i2, i3, i4, i5, i6⟩
    obtain ⟨hg, hns, hd1, hd2, heyes⟩ := hL i o ho
    rw [if_pos (by simp [Region.wanted, hg])]
    have hcl : ∀ (j : Nat) (oj : Oper), l[j]? = some oj → plus L i j = true → ∀ e ∈ oj.after, Region.binds .any e = true → plus L i e.on = true := by
      intro j oj hj hLj e he hb
      unfold plus at hLj ⊢
      by_cases hji : j = i
      · subst hji
        rw [ho] at hj
        obtain rfl := Option.some.inj hj
        split
        · rfl
        · exact hafter e he hb
      · rw [if_neg hji] at hLj
        split
        · rfl
        · exact i4 j oj hj hLj e he hb
    rcases Nat.lt_trichotomy i n with hin | hin | hin
    · -- ahead of the call
      have hLn : L n = false := by
        cases hc : L n with
        | false => rfl
        | true => have := hpre_all L i4 (fun e he hb => i4 n oc hoc hc e he hb) i hin; rw [this] at hLi; cases hLi
      obtain ⟨⟨x, hx⟩, i7⟩ := i5 hLn
      have ho' : (l.take n)[i]? = some o := by rw [List.getElem?_take, if_pos hin]; exact ho
      obtain ⟨v, ai, hY, hv, hno, hyes⟩ := key0 i o ho'
      have he : execOp a.eval o = execOp ai.eval o := by
        refine execOp_congr o (fun c b hc => by rw [notSelect, hc] at hns; cases hns) (eval_eyes fun t ht => ?_)
        by_cases hex : ∃ (j : Nat) (o' : Oper), l[j]? = some o' ∧ o'.dst = some t
        · obtain ⟨j, o', hj, hd⟩ := hex
          obtain ⟨hji, e, he, hb, hon⟩ := heyes t ht j o' hj hd
          have hLj : L j = true := hon ▸ hafter e he hb
          rw [hyes t j o' hji (by rw [List.getElem?_take, if_pos (by omega)]; exact hj) hd]
          exact i7 j o' t hj hLj hd
        · have hn' : ∀ (j : Nat) (o' : Oper), l[j]? = some o' → o'.dst ≠ some t := fun j o' hj hd => hex ⟨j, o', hj, hd⟩
          rw [i3 t hn', hno t fun j o' hj => hn' j o' (htake j o' hj).1]
      have hY' := hY.of_same he (by simp [Region.wanted, hg])
      rcases hY' with ⟨_, hq⟩ | ⟨hw0, _⟩
      · refine Oper.wp_of_quiet (C := fun w' => ∃ x : Ext B W, w' = x.out) (K := fun a' => a' = a.put o.dst v) ⟨x, hx⟩ ?_ ⟨v, hq, rfl⟩
        rintro a' w' ⟨z, rfl⟩ rfl
        refine ⟨(put_defers' _ _ _).trans i1, (put_size _ _ _).trans i2, fun t ht => ?_, hcl, fun _ => ⟨⟨z, rfl⟩, fun j o' d hj hLj hd => ?_⟩, fun hLp => ?_⟩
        · rw [put_other _ _ _ _ (ht i o ho)]; exact i3 t ht
        · by_cases hji : j = i
          · subst hji
            rw [ho] at hj
            obtain rfl := Option.some.inj hj
            rw [hd, put_here _ _ _ (by rw [i2]; exact hd1 d hd)]
            exact hv d hd
          · have hLj' : L j = true := by unfold plus at hLj; rwa [if_neg hji] at hLj
            rw [put_other _ _ _ _ (hd2 j o' hj hji d hd)]; exact i7 j o' d hj hLj' hd
        · unfold plus at hLp; rw [if_neg (by omega), hLn] at hLp; cases hLp
      · simp [Region.wanted, hg] at hw0
    · -- the call
      subst hin
      rw [hoc] at ho
      obtain rfl := Option.some.inj ho
      obtain ⟨⟨x, hx⟩, i7⟩ := i5 hLi
      have hall := hpre_all L i4 hafter
      have he : execOp a.eval oc = execOp aσ.eval oc := by
        refine execOp_congr oc (fun c b hc => by rw [notSelect, hc] at hns; cases hns) (eval_eyes fun t ht => ?_)
        by_cases hex : ∃ (j : Nat) (o' : Oper), l[j]? = some o' ∧ o'.dst = some t
        · obtain ⟨j, o', hj, hd⟩ := hex
          obtain ⟨hji, e, he, hb, hon⟩ := heyes t ht j o' hj hd
          exact i7 j o' t hj (hon ▸ hafter e he hb) hd
        · have hn' : ∀ (j : Nat) (o' : Oper), l[j]? = some o' → o'.dst ≠ some t := fun j o' hj hd => hex ⟨j, o', hj, hd⟩
          rw [i3 t hn', hout0 t fun j o' _ hj => hn' j o' hj]
      subst hx
      unfold Oper.wp
      rw [he, hent]
      simp only [Oper.upon]
      refine (hcall x).mono ?_
      rintro e w' ⟨v, rfl, hR⟩
      obtain ⟨vs, hst, hQ⟩ := stepsS_of _ _ (hpost v w' hR)
      have hdv : ∀ d, oc.dst = some d → (putsS (l.drop (i + 1)) vs (aσ.put oc.dst v)).tmps.getD d undef = v := by
        intro d hd
        rw [putsS_other, hd, put_here _ _ _ (by rw [hsize]; exact hd1 d hd)]
        intro o' hm' hd'
        obtain ⟨k, hk, rfl⟩ := List.getElem_of_mem hm'
        exact hone i oc _ _ d hoc (hdropg k _ (List.getElem?_eq_getElem hk)) (by omega) hd hd'
      have hP : Post w' (putsS (l.drop (i + 1)) vs (aσ.put oc.dst v)) := ⟨v, vs, hst, rfl, hQ, hdv⟩
      obtain ⟨_, _, _, p4⟩ := hPost _ _ hP
      refine ⟨(put_defers' _ _ _).trans i1, (put_size _ _ _).trans i2, fun t ht => ?_, hcl, fun hLn => ?_, fun _ => ⟨_, hP, fun j o' d hj hLj hd => ?_⟩⟩
      · rw [put_other _ _ _ _ (ht i oc hoc)]; exact i3 t ht
      · simp [plus] at hLn
      · by_cases hji : j = i
        · subst hji
          rw [hoc] at hj
          obtain rfl := Option.some.inj hj
          rw [hd, put_here _ _ _ (by rw [i2]; exact hd1 d hd), ← hd, hdv d hd]
        · have hLj' : L j = true := by unfold plus at hLj; rwa [if_neg hji] at hLj
          have hjn : j < i := by
            rcases Nat.lt_trichotomy j i with h | h | h
            · exact h
            · exact absurd h hji
            · exfalso
              have : ∀ d t, t = d → i < t → t < l.length → L t = true → False := by
                intro d
                induction d using Nat.strongRecOn with
                | _ d ih =>
                  intro t htd hit htl hLt
                  obtain ⟨e, he', hb, h1, h2⟩ := wildB_post hw t _ (List.getElem?_eq_getElem htl) hit
                  have h3 := i4 t _ (List.getElem?_eq_getElem htl) hLt e he' hb
                  rcases Nat.eq_or_lt_of_le h1 with h4 | h4
                  · rw [← h4, hLi] at h3; cases h3
                  · exact ih e.on (by omega) e.on rfl h4 (by omega) h3
              exact this _ j rfl h (List.getElem?_eq_some_iff.1 hj).1 hLj'
          rw [put_other _ _ _ _ (hd2 j o' hj hji d hd), i7 j o' d hj hLj' hd, p4 j o' d hj hjn hd]
    · -- behind the call
      have hLn : L n = true := by
        obtain ⟨e, he, hb, h1, h2⟩ := wildB_post hw i o ho hin
        have h3 := hafter e he hb
        have : ∀ d t, t = d → n ≤ t → t < l.length → L t = true → L n = true := by
          intro d
          induction d using Nat.strongRecOn with
          | _ d ih =>
            intro t htd hit htl hLt
            rcases Nat.eq_or_lt_of_le hit with h4 | h4
            · rw [h4]; exact hLt
            · obtain ⟨e, he', hb, h1, h2⟩ := wildB_post hw t _ (List.getElem?_eq_getElem htl) h4
              exact ih e.on (by omega) e.on rfl h1 (by omega) (i4 t _ (List.getElem?_eq_getElem htl) hLt e he' hb)
        exact this _ e.on rfl h1 (by have := (List.getElem?_eq_some_iff.1 ho).1; omega) h3
      obtain ⟨aτ, hP, i7⟩ := i6 hLn
      obtain ⟨p1, p2, p3, p4⟩ := hPost _ _ hP
      obtain ⟨v, vs, hst, hfin, hQ, hdv⟩ := hP
      have ho' : (l.drop (n + 1))[i - (n + 1)]? = some o := by rw [List.getElem?_drop]; rw [show n + 1 + (i - (n + 1)) = i by omega]; exact ho
      obtain ⟨u, ai, hY, hv, hno, hyes⟩ := stepsS_key hst hfin (fun j o' d h hd => by rw [put_size, hsize]; exact (hL _ o' (hdropg j o' h)).2.2.1 d hd) (fun j o' k o'' d h h' hne hd => hone _ o' _ o'' d (hdropg j o' h) (hdropg k o'' h') (by omega) hd) _ o ho'
      have he : execOp a.eval o = execOp ai.eval o := by
        refine execOp_congr o (fun c b hc => by rw [notSelect, hc] at hns; cases hns) (eval_eyes fun t ht => ?_)
        by_cases hex : ∃ (j : Nat) (o' : Oper), l[j]? = some o' ∧ o'.dst = some t
        · obtain ⟨j, o', hj, hd⟩ := hex
          obtain ⟨hji, e, he, hb, hon⟩ := heyes t ht j o' hj hd
          have hLj : L j = true := hon ▸ hafter e he hb
          rw [i7 j o' t hj hLj hd]
          by_cases hjn : n < j
          · rw [hyes t (j - (n + 1)) o' (by omega) (by rw [List.getElem?_drop, show n + 1 + (j - (n + 1)) = j by omega]; exact hj) hd]
          · have h9 : ai.tmps.getD t undef = (aσ.put oc.dst v).tmps.getD t undef := hno t fun k o'' hk => hone j o' _ o'' t hj (hdropg k o'' hk) (by omega) hd
            rw [h9]
            rcases Nat.lt_or_ge j n with h10 | h10
            · rw [p4 j o' t hj h10 hd, put_other _ _ _ _ (hone j o' n oc t hj hoc (by omega) hd)]
            · obtain rfl : j = n := by omega
              rw [hoc] at hj
              obtain rfl := Option.some.inj hj
              rw [hdv t hd, hd, put_here _ _ _ (by rw [hsize]; exact (hL j oc hoc).2.2.1 t hd)]
        · have hn' : ∀ (j : Nat) (o' : Oper), l[j]? = some o' → o'.dst ≠ some t := fun j o' hj hd => hex ⟨j, o', hj, hd⟩
          rw [i3 t hn', hno t fun j o' hj => hn' _ o' (hdropg j o' hj), put_other _ _ _ _ (hn' n oc hoc), hout0 t fun j o' _ hj => hn' j o' hj]
      have hY' := hY.of_same he (by simp [Region.wanted, hg])
      rcases hY' with ⟨_, hq⟩ | ⟨hw0, _⟩
      · refine Oper.wp_of_quiet (C := fun w' => w' = w) (K := fun a' => a' = a.put o.dst u) rfl ?_ ⟨u, hq, rfl⟩
        rintro a' w' rfl rfl
        refine ⟨(put_defers' _ _ _).trans i1, (put_size _ _ _).trans i2, fun t ht => ?_, hcl, fun hLp => ?_, fun _ => ⟨aτ, ⟨v, vs, hst, hfin, hQ, hdv⟩, fun j o' d hj hLj hd => ?_⟩⟩
        · rw [put_other _ _ _ _ (ht i o ho)]; exact i3 t ht
        · unfold plus at hLp; rw [if_neg (by omega), hLn] at hLp; cases hLp
        · by_cases hji : j = i
          · subst hji
            rw [ho] at hj
            obtain rfl := Option.some.inj hj
            rw [hd, put_here _ _ _ (by rw [i2]; exact hd1 d hd)]
            exact hv d hd
          · have hLj' : L j = true := by unfold plus at hLj; rwa [if_neg hji] at hLj
            rw [put_other _ _ _ _ (hd2 j o' hj hji d hd)]; exact i7 j o' d hj hLj' hd
      · simp [Region.wanted, hg] at hw0
  · intro L a w hall ⟨i1, i2, i3, i4, i5, i6⟩
    obtain ⟨aτ, hP, i7⟩ := i6 (hall n hnl)
    obtain ⟨p1, p2, p3, p4⟩ := hPost _ _ hP
    obtain ⟨v, vs, hst, hfin, hQ, hdv⟩ := hP
    have : a = aτ := by
      refine act_ext (i2.trans p1.symm) (i1.trans p2.symm) fun k => ?_
      by_cases hex : ∃ (j : Nat) (o' : Oper), l[j]? = some o' ∧ o'.dst = some k
      · obtain ⟨j, o', hj, hd⟩ := hex
        exact i7 j o' k hj (hall j (List.getElem?_eq_some_iff.1 hj).1) hd
      · have hn' : ∀ (j : Nat) (o' : Oper), l[j]? = some o' → o'.dst ≠ some k := fun j o' hj hd => hex ⟨j, o', hj, hd⟩
        rw [i3 k hn', p3 k hn']
    rw [this]; exact hQ
end Go.Proofs.Ytfbgldkdlmipoaa

/- A region (calls behind too) that draws its order: quiet operations, then one call whose result is not foreknown, then quiet operations behind it. -/
namespace Go.Proofs.Ytfbgldkdlmipoaa
open Go.RowKit
set_option linter.unusedSimpArgs false
set_option linter.unusedVariables false
set_option maxHeartbeats 1600000 in
theorem wp_region_wildD {P : Program} {id : Nat} {Q : Exit → Act → World → Prop} {a0 : Act} {W : World} {l : List Oper} (B n : Nat) (aσ : Act) (oc : Oper) (f : FuncId) (args : Array Value) (R : Value → World → Prop) (D : World → World → Prop) (hD : ∀ w, D w w)
    (hm : P.follows .mixedOrders = true) (hback : backB l = true) (hn : lawB l a0.tmps.size = true) (hw : wildB l n = true) (hoc : l[n]? = some oc) (hBW : B ≤ W.heap.size)
    (hpre : wpQuiet P l.toArray (fun w' => ∃ x : Ext B W, w' = x.out) (fun a' => a' = aσ) (l.take n) a0)
    (hent : ∀ w, (execOp aσ.eval oc).run P w = .ok (.enter f args) w)
    (hcall : ∀ x : Ext B W, Calls P f args x.out fun e w' => ∃ v, e = .returned v ∧ R v w')
    (hpost : ∀ v w1, R v w1 → wpQuiet P l.toArray (D w1) (fun a' => ∀ w', D w1 w' → Q .normal a' w') (l.drop (n + 1)) (aσ.put oc.dst v)) :
    (Code.region id l.toArray true).wp P Q a0 W := by
  have hL := fun i o ho => lawB_of hn i o ho
  have hone : ∀ (i : Nat) (o : Oper) (j : Nat) (o' : Oper) (d : Nat), l[i]? = some o → l[j]? = some o' → i ≠ j → o.dst = some d → o'.dst ≠ some d := fun i o j o' d hi hj hne hd => (hL j o' hj).2.2.2.1 i o hi hne d hd
  have hnl : n < l.length := (List.getElem?_eq_some_iff.1 hoc).1
  have htake : ∀ (i : Nat) (o : Oper), (l.take n)[i]? = some o → l[i]? = some o ∧ i < n := fun i o h => by
    rw [List.getElem?_take] at h
    split at h
    · exact ⟨h, by assumption⟩
    · cases h
  have hdropg : ∀ (i : Nat) (o : Oper), (l.drop (n + 1))[i]? = some o → l[n + 1 + i]? = some o := fun i o h => by rw [List.getElem?_drop] at h; exact h
  obtain ⟨vs0, hst0, hfin0⟩ := stepsS_of _ _ hpre
  have hsize : aσ.tmps.size = a0.tmps.size := by rw [← hfin0, putsS_size]
  have hdef : aσ.defers = a0.defers := by rw [← hfin0, putsS_defers]
  have key0 := fun i o ho => stepsS_key hst0 hfin0 (fun i o d h hd => (hL i o (htake i o h).1).2.2.1 d hd) (fun i o j o' d h h' hne hd => hone i o j o' d (htake i o h).1 (htake j o' h').1 hne hd) i o ho
  have hout0 : ∀ t : Nat, (∀ (i : Nat) (o : Oper), i < n → l[i]? = some o → o.dst ≠ some t) → aσ.tmps.getD t undef = a0.tmps.getD t undef := by
    intro t ht
    rw [← hfin0, putsS_other]
    intro o' hm' hd
    obtain ⟨k, hk, rfl⟩ := List.getElem_of_mem hm'
    have hk2 := htake k _ (List.getElem?_eq_getElem hk)
    exact ht k _ hk2.2 hk2.1 hd
  -- what stands when the call has been made
  let Post : World → Act → Prop := fun w aτ => ∃ v w0 vs, D w0 w ∧ StepsS P l.toArray (D w0) (l.drop (n + 1)) vs (aσ.put oc.dst v) ∧ putsS (l.drop (n + 1)) vs (aσ.put oc.dst v) = aτ ∧ (∀ w', D w0 w' → Q .normal aτ w') ∧ ∀ d, oc.dst = some d → aτ.tmps.getD d undef = v
  have hPost : ∀ w aτ, Post w aτ → aτ.tmps.size = a0.tmps.size ∧ aτ.defers = a0.defers ∧ (∀ t : Nat, (∀ (i : Nat) (o : Oper), l[i]? = some o → o.dst ≠ some t) → aτ.tmps.getD t undef = a0.tmps.getD t undef) ∧
      (∀ (i : Nat) (o : Oper) (d : Nat), l[i]? = some o → i < n → o.dst = some d → aτ.tmps.getD d undef = aσ.tmps.getD d undef) := by
    rintro w aτ ⟨v, w0, vs, _, h1, h2, _, _⟩
    have hoth : ∀ t : Nat, (∀ (i : Nat) (o : Oper), n < i → l[i]? = some o → o.dst ≠ some t) → aτ.tmps.getD t undef = (aσ.put oc.dst v).tmps.getD t undef := by
      intro t ht
      rw [← h2, putsS_other]
      intro o' hm' hd
      obtain ⟨k, hk, rfl⟩ := List.getElem_of_mem hm'
      exact ht _ _ (by omega) (hdropg k _ (List.getElem?_eq_getElem hk)) hd
    refine ⟨by rw [← h2, putsS_size, put_size, hsize], by rw [← h2, putsS_defers, put_defers', hdef], fun t ht => ?_, fun i o d hi hin hd => ?_⟩
    · rw [hoth t fun i o _ hi => ht i o hi, put_other _ _ _ _ (ht n oc hoc), hout0 t fun i o _ hi => ht i o hi]
    · rw [hoth d fun j o' hj hj' => hone i o j o' d hi hj' (by omega) hd, put_other _ _ _ _ (hone i o n oc d hi hoc (by omega) hd)]
  have hpre_all : ∀ L : Nat → Bool, (∀ (j : Nat) (oj : Oper), l[j]? = some oj → L j = true → ∀ e ∈ oj.after, Region.binds .any e = true → L e.on = true) → (∀ e ∈ oc.after, Region.binds .any e = true → L e.on = true) → ∀ i, i < n → L i = true := by
    intro L hcl hcn
    have : ∀ d i, n - i = d → i < n → L i = true := by
      intro d
      induction d using Nat.strongRecOn with
      | _ d ih =>
        intro i hd hi
        obtain ⟨j, o, h1, h2, h3, e, he, hb, rfl⟩ := wildB_pre hw i hi
        by_cases hj : j = n
        · subst hj
          rw [hoc] at h3
          obtain rfl := Option.some.inj h3
          exact hcn e he hb
        · exact hcl j o h3 (ih (n - j) (by omega) j rfl (by omega)) e he hb
    exact fun i hi => this _ i rfl hi
  refine wp_region_inv hm hback (fun L a w => a.defers = a0.defers ∧ a.tmps.size = a0.tmps.size ∧ (∀ t : Nat, (∀ (i : Nat) (o : Oper), l[i]? = some o → o.dst ≠ some t) → a.tmps.getD t undef = a0.tmps.getD t undef) ∧
    (∀ (j : Nat) (oj : Oper), l[j]? = some oj → L j = true → ∀ e ∈ oj.after, Region.binds .any e = true → L e.on = true) ∧
    (L n = false → (∃ x : Ext B W, w = x.out) ∧ ∀ (i : Nat) (o : Oper) (d : Nat), l[i]? = some o → L i = true → o.dst = some d → a.tmps.getD d undef = aσ.tmps.getD d undef) ∧
    (L n = true → ∃ aτ, Post w aτ ∧ ∀ (i : Nat) (o : Oper) (d : Nat), l[i]? = some o → L i = true → o.dst = some d → a.tmps.getD d undef = aτ.tmps.getD d undef)) ?_ ?_ ?_
  · intro L hL0
    exact ⟨rfl, rfl, fun _ _ => rfl, fun j oj hj hLj => (by rw [hL0 j (List.getElem?_eq_some_iff.1 hj).1] at hLj; cases hLj), fun _ => ⟨⟨⟨_, (Below.refl B W).drew⟩, rfl⟩, fun i o d hi hLi => (by rw [hL0 i (List.getElem?_eq_some_iff.1 hi).1] at hLi; cases hLi)⟩, fun hLn => (by rw [hL0 n hnl] at hLn; cases hLn)⟩
  · intro L a w i o ho hLi hafter ⟨i1, i2, i3, i4, i5, i6⟩
    obtain ⟨hg, hns, hd1, hd2, heyes⟩ := hL i o ho
    rw [if_pos (by simp [Region.wanted, hg])]
    have hcl : ∀ (j : Nat) (oj : Oper), l[j]? = some oj → plus L i j = true → ∀ e ∈ oj.after, Region.binds .any e = true → plus L i e.on = true := by
      intro j oj hj hLj e he hb
      unfold plus at hLj ⊢
      by_cases hji : j = i
      · subst hji
        rw [ho] at hj
        obtain rfl := Option.some.inj hj
        split
        · rfl
        · exact hafter e he hb
      · rw [if_neg hji] at hLj
        split
        · rfl
        · exact i4 j oj hj hLj e he hb
    rcases Nat.lt_trichotomy i n with hin | hin | hin
    · -- ahead of the call
      have hLn : L n = false := by
        cases hc : L n with
        | false => rfl
        | true => have := hpre_all L i4 (fun e he hb => i4 n oc hoc hc e he hb) i hin; rw [this] at hLi; cases hLi
      obtain ⟨⟨x, hx⟩, i7⟩ := i5 hLn
      have ho' : (l.take n)[i]? = some o := by rw [List.getElem?_take, if_pos hin]; exact ho
      obtain ⟨v, ai, hY, hv, hno, hyes⟩ := key0 i o ho'
      have he : execOp a.eval o = execOp ai.eval o := by
        refine execOp_congr o (fun c b hc => by rw [notSelect, hc] at hns; cases hns) (eval_eyes fun t ht => ?_)
        by_cases hex : ∃ (j : Nat) (o' : Oper), l[j]? = some o' ∧ o'.dst = some t
        · obtain ⟨j, o', hj, hd⟩ := hex
          obtain ⟨hji, e, he, hb, hon⟩ := heyes t ht j o' hj hd
          have hLj : L j = true := hon ▸ hafter e he hb
          rw [hyes t j o' hji (by rw [List.getElem?_take, if_pos (by omega)]; exact hj) hd]
          exact i7 j o' t hj hLj hd
        · have hn' : ∀ (j : Nat) (o' : Oper), l[j]? = some o' → o'.dst ≠ some t := fun j o' hj hd => hex ⟨j, o', hj, hd⟩
          rw [i3 t hn', hno t fun j o' hj => hn' j o' (htake j o' hj).1]
      have hY' := hY.of_same he (by simp [Region.wanted, hg])
      rcases hY' with ⟨_, hq⟩ | ⟨hw0, _⟩
      · refine Oper.wp_of_quiet (C := fun w' => ∃ x : Ext B W, w' = x.out) (K := fun a' => a' = a.put o.dst v) ⟨x, hx⟩ ?_ ⟨v, hq, rfl⟩
        rintro a' w' ⟨z, rfl⟩ rfl
        refine ⟨(put_defers' _ _ _).trans i1, (put_size _ _ _).trans i2, fun t ht => ?_, hcl, fun _ => ⟨⟨z, rfl⟩, fun j o' d hj hLj hd => ?_⟩, fun hLp => ?_⟩
        · rw [put_other _ _ _ _ (ht i o ho)]; exact i3 t ht
        · by_cases hji : j = i
          · subst hji
            rw [ho] at hj
            obtain rfl := Option.some.inj hj
            rw [hd, put_here _ _ _ (by rw [i2]; exact hd1 d hd)]
            exact hv d hd
          · have hLj' : L j = true := by unfold plus at hLj; rwa [if_neg hji] at hLj
            rw [put_other _ _ _ _ (hd2 j o' hj hji d hd)]; exact i7 j o' d hj hLj' hd
        · unfold plus at hLp; rw [if_neg (by omega), hLn] at hLp; cases hLp
      · simp [Region.wanted, hg] at hw0
    · -- the call
      subst hin
      rw [hoc] at ho
      obtain rfl := Option.some.inj ho
      obtain ⟨⟨x, hx⟩, i7⟩ := i5 hLi
      have hall := hpre_all L i4 hafter
      have he : execOp a.eval oc = execOp aσ.eval oc := by
        refine execOp_congr oc (fun c b hc => by rw [notSelect, hc] at hns; cases hns) (eval_eyes fun t ht => ?_)
        by_cases hex : ∃ (j : Nat) (o' : Oper), l[j]? = some o' ∧ o'.dst = some t
        · obtain ⟨j, o', hj, hd⟩ := hex
          obtain ⟨hji, e, he, hb, hon⟩ := heyes t ht j o' hj hd
          exact i7 j o' t hj (hon ▸ hafter e he hb) hd
        · have hn' : ∀ (j : Nat) (o' : Oper), l[j]? = some o' → o'.dst ≠ some t := fun j o' hj hd => hex ⟨j, o', hj, hd⟩
          rw [i3 t hn', hout0 t fun j o' _ hj => hn' j o' hj]
      subst hx
      unfold Oper.wp
      rw [he, hent]
      simp only [Oper.upon]
      refine (hcall x).mono ?_
      rintro e w' ⟨v, rfl, hR⟩
      obtain ⟨vs, hst, hQ⟩ := stepsS_of _ _ (hpost v w' hR)
      have hdv : ∀ d, oc.dst = some d → (putsS (l.drop (i + 1)) vs (aσ.put oc.dst v)).tmps.getD d undef = v := by
        intro d hd
        rw [putsS_other, hd, put_here _ _ _ (by rw [hsize]; exact hd1 d hd)]
        intro o' hm' hd'
        obtain ⟨k, hk, rfl⟩ := List.getElem_of_mem hm'
        exact hone i oc _ _ d hoc (hdropg k _ (List.getElem?_eq_getElem hk)) (by omega) hd hd'
      have hP : Post w' (putsS (l.drop (i + 1)) vs (aσ.put oc.dst v)) := ⟨v, w', vs, hD _, hst, rfl, hQ, hdv⟩
      obtain ⟨_, _, _, p4⟩ := hPost _ _ hP
      refine ⟨(put_defers' _ _ _).trans i1, (put_size _ _ _).trans i2, fun t ht => ?_, hcl, fun hLn => ?_, fun _ => ⟨_, hP, fun j o' d hj hLj hd => ?_⟩⟩
      · rw [put_other _ _ _ _ (ht i oc hoc)]; exact i3 t ht
      · simp [plus] at hLn
      · by_cases hji : j = i
        · subst hji
          rw [hoc] at hj
          obtain rfl := Option.some.inj hj
          rw [hd, put_here _ _ _ (by rw [i2]; exact hd1 d hd), ← hd, hdv d hd]
        · have hLj' : L j = true := by unfold plus at hLj; rwa [if_neg hji] at hLj
          have hjn : j < i := by
            rcases Nat.lt_trichotomy j i with h | h | h
            · exact h
            · exact absurd h hji
            · exfalso
              have : ∀ d t, t = d → i < t → t < l.length → L t = true → False := by
                intro d
                induction d using Nat.strongRecOn with
                | _ d ih =>
                  intro t htd hit htl hLt
                  obtain ⟨e, he', hb, h1, h2⟩ := wildB_post hw t _ (List.getElem?_eq_getElem htl) hit
                  have h3 := i4 t _ (List.getElem?_eq_getElem htl) hLt e he' hb
                  rcases Nat.eq_or_lt_of_le h1 with h4 | h4
                  · rw [← h4, hLi] at h3; cases h3
                  · exact ih e.on (by omega) e.on rfl h4 (by omega) h3
              exact this _ j rfl h (List.getElem?_eq_some_iff.1 hj).1 hLj'
          rw [put_other _ _ _ _ (hd2 j o' hj hji d hd), i7 j o' d hj hLj' hd, p4 j o' d hj hjn hd]
    · -- behind the call
      have hLn : L n = true := by
        obtain ⟨e, he, hb, h1, h2⟩ := wildB_post hw i o ho hin
        have h3 := hafter e he hb
        have : ∀ d t, t = d → n ≤ t → t < l.length → L t = true → L n = true := by
          intro d
          induction d using Nat.strongRecOn with
          | _ d ih =>
            intro t htd hit htl hLt
            rcases Nat.eq_or_lt_of_le hit with h4 | h4
            · rw [h4]; exact hLt
            · obtain ⟨e, he', hb, h1, h2⟩ := wildB_post hw t _ (List.getElem?_eq_getElem htl) h4
              exact ih e.on (by omega) e.on rfl h1 (by omega) (i4 t _ (List.getElem?_eq_getElem htl) hLt e he' hb)
        exact this _ e.on rfl h1 (by have := (List.getElem?_eq_some_iff.1 ho).1; omega) h3
      obtain ⟨aτ, hP, i7⟩ := i6 hLn
      obtain ⟨p1, p2, p3, p4⟩ := hPost _ _ hP
      obtain ⟨v, w0, vs, hDw, hst, hfin, hQ, hdv⟩ := hP
      have ho' : (l.drop (n + 1))[i - (n + 1)]? = some o := by rw [List.getElem?_drop]; rw [show n + 1 + (i - (n + 1)) = i by omega]; exact ho
      obtain ⟨u, ai, hY, hv, hno, hyes⟩ := stepsS_key hst hfin (fun j o' d h hd => by rw [put_size, hsize]; exact (hL _ o' (hdropg j o' h)).2.2.1 d hd) (fun j o' k o'' d h h' hne hd => hone _ o' _ o'' d (hdropg j o' h) (hdropg k o'' h') (by omega) hd) _ o ho'
      have he : execOp a.eval o = execOp ai.eval o := by
        refine execOp_congr o (fun c b hc => by rw [notSelect, hc] at hns; cases hns) (eval_eyes fun t ht => ?_)
        by_cases hex : ∃ (j : Nat) (o' : Oper), l[j]? = some o' ∧ o'.dst = some t
        · obtain ⟨j, o', hj, hd⟩ := hex
          obtain ⟨hji, e, he, hb, hon⟩ := heyes t ht j o' hj hd
          have hLj : L j = true := hon ▸ hafter e he hb
          rw [i7 j o' t hj hLj hd]
          by_cases hjn : n < j
          · rw [hyes t (j - (n + 1)) o' (by omega) (by rw [List.getElem?_drop, show n + 1 + (j - (n + 1)) = j by omega]; exact hj) hd]
          · have h9 : ai.tmps.getD t undef = (aσ.put oc.dst v).tmps.getD t undef := hno t fun k o'' hk => hone j o' _ o'' t hj (hdropg k o'' hk) (by omega) hd
            rw [h9]
            rcases Nat.lt_or_ge j n with h10 | h10
            · rw [p4 j o' t hj h10 hd, put_other _ _ _ _ (hone j o' n oc t hj hoc (by omega) hd)]
            · obtain rfl : j = n := by omega
              rw [hoc] at hj
              obtain rfl := Option.some.inj hj
              rw [hdv t hd, hd, put_here _ _ _ (by rw [hsize]; exact (hL j oc hoc).2.2.1 t hd)]
        · have hn' : ∀ (j : Nat) (o' : Oper), l[j]? = some o' → o'.dst ≠ some t := fun j o' hj hd => hex ⟨j, o', hj, hd⟩
          rw [i3 t hn', hno t fun j o' hj => hn' _ o' (hdropg j o' hj), put_other _ _ _ _ (hn' n oc hoc), hout0 t fun j o' _ hj => hn' j o' hj]
      have hY' := hY.of_same he (by simp [Region.wanted, hg])
      rcases hY' with ⟨_, hq⟩ | ⟨hw0, _⟩
      · refine Oper.wp_of_quiet (C := D w0) (K := fun a' => a' = a.put o.dst u) hDw ?_ ⟨u, hq, rfl⟩
        rintro a' w' hDw' rfl
        refine ⟨(put_defers' _ _ _).trans i1, (put_size _ _ _).trans i2, fun t ht => ?_, hcl, fun hLp => ?_, fun _ => ⟨aτ, ⟨v, w0, vs, hDw', hst, hfin, hQ, hdv⟩, fun j o' d hj hLj hd => ?_⟩⟩
        · rw [put_other _ _ _ _ (ht i o ho)]; exact i3 t ht
        · unfold plus at hLp; rw [if_neg (by omega), hLn] at hLp; cases hLp
        · by_cases hji : j = i
          · subst hji
            rw [ho] at hj
            obtain rfl := Option.some.inj hj
            rw [hd, put_here _ _ _ (by rw [i2]; exact hd1 d hd)]
            exact hv d hd
          · have hLj' : L j = true := by unfold plus at hLj; rwa [if_neg hji] at hLj
            rw [put_other _ _ _ _ (hd2 j o' hj hji d hd)]; exact i7 j o' d hj hLj' hd
      · simp [Region.wanted, hg] at hw0
  · intro L a w hall ⟨i1, i2, i3, i4, i5, i6⟩
    obtain ⟨aτ, hP, i7⟩ := i6 (hall n hnl)
    obtain ⟨p1, p2, p3, p4⟩ := hPost _ _ hP
    obtain ⟨v, w0, vs, hDw, hst, hfin, hQ, hdv⟩ := hP
    have : a = aτ := by
      refine act_ext (i2.trans p1.symm) (i1.trans p2.symm) fun k => ?_
      by_cases hex : ∃ (j : Nat) (o' : Oper), l[j]? = some o' ∧ o'.dst = some k
      · obtain ⟨j, o', hj, hd⟩ := hex
        exact i7 j o' k hj (hall j (List.getElem?_eq_some_iff.1 hj).1) hd
      · have hn' : ∀ (j : Nat) (o' : Oper), l[j]? = some o' → o'.dst ≠ some k := fun j o' hj hd => hex ⟨j, o', hj, hd⟩
        rw [i3 k hn', p3 k hn']
    rw [this]; exact hQ _ hDw
/-- The same; what stands behind the call turns nothing below the heap that the call has left. -/
theorem wp_region_wildE {P : Program} {id : Nat} {Q : Exit → Act → World → Prop} {a0 : Act} {W : World} {l : List Oper} (B n : Nat) (aσ : Act) (oc : Oper) (f : FuncId) (args : Array Value) (R : Value → World → Prop)
    (hm : P.follows .mixedOrders = true) (hback : backB l = true) (hn : lawB l a0.tmps.size = true) (hw : wildB l n = true) (hoc : l[n]? = some oc) (hBW : B ≤ W.heap.size)
    (hpre : wpQuiet P l.toArray (fun w' => ∃ x : Ext B W, w' = x.out) (fun a' => a' = aσ) (l.take n) a0)
    (hent : ∀ w, (execOp aσ.eval oc).run P w = .ok (.enter f args) w)
    (hcall : ∀ x : Ext B W, Calls P f args x.out fun e w' => ∃ v, e = .returned v ∧ R v w')
    (hpost : ∀ v w1, R v w1 → wpQuiet P l.toArray (fun w' => ∃ y : Ext w1.heap.size w1, w' = y.out) (fun a' => ∀ w', (∃ y : Ext w1.heap.size w1, w' = y.out) → Q .normal a' w') (l.drop (n + 1)) (aσ.put oc.dst v)) :
    (Code.region id l.toArray true).wp P Q a0 W :=
  wp_region_wildD B n aσ oc f args R (fun w1 w' => ∃ y : Ext w1.heap.size w1, w' = y.out) (fun w => ⟨⟨w, Below.refl _ _⟩, rfl⟩) hm hback hn hw hoc hBW hpre hent hcall hpost
end Go.Proofs.Ytfbgldkdlmipoaa

/- A region that draws its order with one call of unforeknown result; what stands ahead of it may run behind it. -/
namespace Go.Proofs.Ytfbgldkdlmipoaa
open Go.RowKit
set_option linter.unusedSimpArgs false
set_option linter.unusedVariables false
/-- Each operation behind number n waits for it, or for one behind it. -/
def wildB2 (l : List Oper) (n : Nat) : Bool := (List.range l.length).all fun t => decide (t ≤ n) || (match l[t]? with | some o => o.after.toList.any fun e => Region.binds .any e && decide (n ≤ e.on) && decide (e.on < t) | none => true)
theorem wildB2_post {l : List Oper} {n : Nat} (h : wildB2 l n = true) (t : Nat) (o : Oper) (ho : l[t]? = some o) (ht : n < t) : ∃ e ∈ o.after, Region.binds .any e = true ∧ n ≤ e.on ∧ e.on < t := by
  have h1 := List.all_eq_true.1 h t (List.mem_range.2 (List.getElem?_eq_some_iff.1 ho).1)
  rw [ho] at h1
  simp only [Bool.or_eq_true, decide_eq_true_eq] at h1
  rcases h1 with h1 | h1
  · omega
  · obtain ⟨e, he, h5⟩ := List.any_eq_true.1 h1
    simp only [Bool.and_eq_true, decide_eq_true_eq] at h5
    exact ⟨e, by simpa using he, h5.1.1, h5.1.2, h5.2⟩
set_option maxHeartbeats 1600000 in
theorem wp_region_wildF {P : Program} {id : Nat} {Q : Exit → Act → World → Prop} {a0 : Act} {W : World} {l : List Oper} (B n : Nat) (aσ : Act) (oc : Oper) (f : FuncId) (args : Array Value) (R : Value → World → Prop) (D : World → World → Prop) (hD : ∀ w, D w w)
    (hm : P.follows .mixedOrders = true) (hback : backB l = true) (hn : lawB l a0.tmps.size = true) (hw : wildB2 l n = true) (hoc : l[n]? = some oc) (hBW : B ≤ W.heap.size)
    (hpre : wpQuiet P l.toArray (fun w' => ∃ x : Ext B W, w' = x.out) (fun a' => a' = aσ) (l.take n) a0)
    (hpre2 : ∀ v w1, R v w1 → wpQuiet P l.toArray (D w1) (fun a' => a' = aσ) (l.take n) a0)
    (hent : ∀ w, (execOp aσ.eval oc).run P w = .ok (.enter f args) w)
    (hcall : ∀ x : Ext B W, Calls P f args x.out fun e w' => ∃ v, e = .returned v ∧ R v w')
    (hpost : ∀ v w1, R v w1 → wpQuiet P l.toArray (D w1) (fun a' => ∀ w', D w1 w' → Q .normal a' w') (l.drop (n + 1)) (aσ.put oc.dst v)) :
    (Code.region id l.toArray true).wp P Q a0 W := by
  have hL := fun i o ho => lawB_of hn i o ho
  have hone : ∀ (i : Nat) (o : Oper) (j : Nat) (o' : Oper) (d : Nat), l[i]? = some o → l[j]? = some o' → i ≠ j → o.dst = some d → o'.dst ≠ some d := fun i o j o' d hi hj hne hd => (hL j o' hj).2.2.2.1 i o hi hne d hd
  have hnl : n < l.length := (List.getElem?_eq_some_iff.1 hoc).1
  have htake : ∀ (i : Nat) (o : Oper), (l.take n)[i]? = some o → l[i]? = some o ∧ i < n := fun i o h => by
    rw [List.getElem?_take] at h
    split at h
    · exact ⟨h, by assumption⟩
    · cases h
  have hdropg : ∀ (i : Nat) (o : Oper), (l.drop (n + 1))[i]? = some o → l[n + 1 + i]? = some o := fun i o h => by rw [List.getElem?_drop] at h; exact h
  obtain ⟨vs0, hst0, hfin0⟩ := stepsS_of _ _ hpre
  have hsize : aσ.tmps.size = a0.tmps.size := by rw [← hfin0, putsS_size]
  have hdef : aσ.defers = a0.defers := by rw [← hfin0, putsS_defers]
  have key0 := fun i o ho => stepsS_key hst0 hfin0 (fun i o d h hd => (hL i o (htake i o h).1).2.2.1 d hd) (fun i o j o' d h h' hne hd => hone i o j o' d (htake i o h).1 (htake j o' h').1 hne hd) i o ho
  have hout0 : ∀ t : Nat, (∀ (i : Nat) (o : Oper), i < n → l[i]? = some o → o.dst ≠ some t) → aσ.tmps.getD t undef = a0.tmps.getD t undef := by
    intro t ht
    rw [← hfin0, putsS_other]
    intro o' hm' hd
    obtain ⟨k, hk, rfl⟩ := List.getElem_of_mem hm'
    have hk2 := htake k _ (List.getElem?_eq_getElem hk)
    exact ht k _ hk2.2 hk2.1 hd
  -- what stands when the call has been made
  let Post : World → Act → Prop := fun w aτ => ∃ v w0 vs, R v w0 ∧ D w0 w ∧ StepsS P l.toArray (D w0) (l.drop (n + 1)) vs (aσ.put oc.dst v) ∧ putsS (l.drop (n + 1)) vs (aσ.put oc.dst v) = aτ ∧ (∀ w', D w0 w' → Q .normal aτ w') ∧ ∀ d, oc.dst = some d → aτ.tmps.getD d undef = v
  have hPost : ∀ w aτ, Post w aτ → aτ.tmps.size = a0.tmps.size ∧ aτ.defers = a0.defers ∧ (∀ t : Nat, (∀ (i : Nat) (o : Oper), l[i]? = some o → o.dst ≠ some t) → aτ.tmps.getD t undef = a0.tmps.getD t undef) ∧
      (∀ (i : Nat) (o : Oper) (d : Nat), l[i]? = some o → i < n → o.dst = some d → aτ.tmps.getD d undef = aσ.tmps.getD d undef) := by
    rintro w aτ ⟨v, w0, vs, _, _, h1, h2, _, _⟩
    have hoth : ∀ t : Nat, (∀ (i : Nat) (o : Oper), n < i → l[i]? = some o → o.dst ≠ some t) → aτ.tmps.getD t undef = (aσ.put oc.dst v).tmps.getD t undef := by
      intro t ht
      rw [← h2, putsS_other]
      intro o' hm' hd
      obtain ⟨k, hk, rfl⟩ := List.getElem_of_mem hm'
      exact ht _ _ (by omega) (hdropg k _ (List.getElem?_eq_getElem hk)) hd
    refine ⟨by rw [← h2, putsS_size, put_size, hsize], by rw [← h2, putsS_defers, put_defers', hdef], fun t ht => ?_, fun i o d hi hin hd => ?_⟩
    · rw [hoth t fun i o _ hi => ht i o hi, put_other _ _ _ _ (ht n oc hoc), hout0 t fun i o _ hi => ht i o hi]
    · rw [hoth d fun j o' hj hj' => hone i o j o' d hi hj' (by omega) hd, put_other _ _ _ _ (hone i o n oc d hi hoc (by omega) hd)]
  refine wp_region_inv hm hback (fun L a w => a.defers = a0.defers ∧ a.tmps.size = a0.tmps.size ∧ (∀ t : Nat, (∀ (i : Nat) (o : Oper), l[i]? = some o → o.dst ≠ some t) → a.tmps.getD t undef = a0.tmps.getD t undef) ∧
    (∀ (j : Nat) (oj : Oper), l[j]? = some oj → L j = true → ∀ e ∈ oj.after, Region.binds .any e = true → L e.on = true) ∧
    (L n = false → (∃ x : Ext B W, w = x.out) ∧ ∀ (i : Nat) (o : Oper) (d : Nat), l[i]? = some o → L i = true → o.dst = some d → a.tmps.getD d undef = aσ.tmps.getD d undef) ∧
    (L n = true → ∃ aτ, Post w aτ ∧ ∀ (i : Nat) (o : Oper) (d : Nat), l[i]? = some o → L i = true → o.dst = some d → a.tmps.getD d undef = aτ.tmps.getD d undef)) ?_ ?_ ?_
  · intro L hL0
    exact ⟨rfl, rfl, fun _ _ => rfl, fun j oj hj hLj => (by rw [hL0 j (List.getElem?_eq_some_iff.1 hj).1] at hLj; cases hLj), fun _ => ⟨⟨⟨_, (Below.refl B W).drew⟩, rfl⟩, fun i o d hi hLi => (by rw [hL0 i (List.getElem?_eq_some_iff.1 hi).1] at hLi; cases hLi)⟩, fun hLn => (by rw [hL0 n hnl] at hLn; cases hLn)⟩
  · intro L a w i o ho hLi hafter ⟨i1, i2, i3, i4, i5, i6⟩
    obtain ⟨hg, hns, hd1, hd2, heyes⟩ := hL i o ho
    rw [if_pos (by simp [Region.wanted, hg])]
    have hcl : ∀ (j : Nat) (oj : Oper), l[j]? = some oj → plus L i j = true → ∀ e ∈ oj.after, Region.binds .any e = true → plus L i e.on = true := by
      intro j oj hj hLj e he hb
      unfold plus at hLj ⊢
      by_cases hji : j = i
      · subst hji
        rw [ho] at hj
        obtain rfl := Option.some.inj hj
        split
        · rfl
        · exact hafter e he hb
      · rw [if_neg hji] at hLj
        split
        · rfl
        · exact i4 j oj hj hLj e he hb
    rcases Nat.lt_trichotomy i n with hin | hin | hin
    · -- ahead of the call
      cases hLn : L n with
      | false =>
        obtain ⟨⟨x, hx⟩, i7⟩ := i5 hLn
        have ho' : (l.take n)[i]? = some o := by rw [List.getElem?_take, if_pos hin]; exact ho
        obtain ⟨v, ai, hY, hv, hno, hyes⟩ := key0 i o ho'
        have he : execOp a.eval o = execOp ai.eval o := by
          refine execOp_congr o (fun c b hc => by rw [notSelect, hc] at hns; cases hns) (eval_eyes fun t ht => ?_)
          by_cases hex : ∃ (j : Nat) (o' : Oper), l[j]? = some o' ∧ o'.dst = some t
          · obtain ⟨j, o', hj, hd⟩ := hex
            obtain ⟨hji, e, he, hb, hon⟩ := heyes t ht j o' hj hd
            have hLj : L j = true := hon ▸ hafter e he hb
            rw [hyes t j o' hji (by rw [List.getElem?_take, if_pos (by omega)]; exact hj) hd]
            exact i7 j o' t hj hLj hd
          · have hn' : ∀ (j : Nat) (o' : Oper), l[j]? = some o' → o'.dst ≠ some t := fun j o' hj hd => hex ⟨j, o', hj, hd⟩
            rw [i3 t hn', hno t fun j o' hj => hn' j o' (htake j o' hj).1]
        have hY' := hY.of_same he (by simp [Region.wanted, hg])
        rcases hY' with ⟨_, hq⟩ | ⟨hw0, _⟩
        · refine Oper.wp_of_quiet (C := fun w' => ∃ x : Ext B W, w' = x.out) (K := fun a' => a' = a.put o.dst v) ⟨x, hx⟩ ?_ ⟨v, hq, rfl⟩
          rintro a' w' ⟨z, rfl⟩ rfl
          refine ⟨(put_defers' _ _ _).trans i1, (put_size _ _ _).trans i2, fun t ht => ?_, hcl, fun _ => ⟨⟨z, rfl⟩, fun j o' d hj hLj hd => ?_⟩, fun hLp => ?_⟩
          · rw [put_other _ _ _ _ (ht i o ho)]; exact i3 t ht
          · by_cases hji : j = i
            · subst hji
              rw [ho] at hj
              obtain rfl := Option.some.inj hj
              rw [hd, put_here _ _ _ (by rw [i2]; exact hd1 d hd)]
              exact hv d hd
            · have hLj' : L j = true := by unfold plus at hLj; rwa [if_neg hji] at hLj
              rw [put_other _ _ _ _ (hd2 j o' hj hji d hd)]; exact i7 j o' d hj hLj' hd
          · unfold plus at hLp; rw [if_neg (by omega), hLn] at hLp; cases hLp
        · simp [Region.wanted, hg] at hw0
      | true =>
        obtain ⟨aτ, hP, i7⟩ := i6 hLn
        have hP0 := hP
        obtain ⟨p1, p2, p3, p4⟩ := hPost _ _ hP
        obtain ⟨v1, w0, vs1, hR0, hDw, hst1, hfin1, hQ1, hdv1⟩ := hP
        obtain ⟨vs2, hst2, hfin2⟩ := stepsS_of _ _ (hpre2 v1 w0 hR0)
        have ho' : (l.take n)[i]? = some o := by rw [List.getElem?_take, if_pos hin]; exact ho
        obtain ⟨v, ai, hY, hv, hno, hyes⟩ := stepsS_key hst2 hfin2 (fun i o d h hd => (hL i o (htake i o h).1).2.2.1 d hd) (fun i o j o' d h h' hne hd => hone i o j o' d (htake i o h).1 (htake j o' h').1 hne hd) i o ho'
        have he : execOp a.eval o = execOp ai.eval o := by
          refine execOp_congr o (fun c b hc => by rw [notSelect, hc] at hns; cases hns) (eval_eyes fun t ht => ?_)
          by_cases hex : ∃ (j : Nat) (o' : Oper), l[j]? = some o' ∧ o'.dst = some t
          · obtain ⟨j, o', hj, hd⟩ := hex
            obtain ⟨hji, e, he, hb, hon⟩ := heyes t ht j o' hj hd
            have hLj : L j = true := hon ▸ hafter e he hb
            rw [hyes t j o' hji (by rw [List.getElem?_take, if_pos (by omega)]; exact hj) hd, i7 j o' t hj hLj hd]
            exact p4 j o' t hj (by omega) hd
          · have hn' : ∀ (j : Nat) (o' : Oper), l[j]? = some o' → o'.dst ≠ some t := fun j o' hj hd => hex ⟨j, o', hj, hd⟩
            rw [i3 t hn', hno t fun j o' hj => hn' j o' (htake j o' hj).1]
        have hY' := hY.of_same he (by simp [Region.wanted, hg])
        rcases hY' with ⟨_, hq⟩ | ⟨hw0, _⟩
        · refine Oper.wp_of_quiet (C := D w0) (K := fun a' => a' = a.put o.dst v) hDw ?_ ⟨v, hq, rfl⟩
          rintro a' w' hDw' rfl
          refine ⟨(put_defers' _ _ _).trans i1, (put_size _ _ _).trans i2, fun t ht => ?_, hcl, fun hLp => ?_, fun _ => ⟨aτ, ⟨v1, w0, vs1, hR0, hDw', hst1, hfin1, hQ1, hdv1⟩, fun j o' d hj hLj hd => ?_⟩⟩
          · rw [put_other _ _ _ _ (ht i o ho)]; exact i3 t ht
          · unfold plus at hLp; rw [if_neg (by omega), hLn] at hLp; cases hLp
          · by_cases hji : j = i
            · subst hji
              rw [ho] at hj
              obtain rfl := Option.some.inj hj
              rw [hd, put_here _ _ _ (by rw [i2]; exact hd1 d hd), hv d hd]
              exact (p4 j o d ho hin hd).symm
            · have hLj' : L j = true := by unfold plus at hLj; rwa [if_neg hji] at hLj
              rw [put_other _ _ _ _ (hd2 j o' hj hji d hd)]; exact i7 j o' d hj hLj' hd
        · simp [Region.wanted, hg] at hw0
    · -- the call
      subst hin
      rw [hoc] at ho
      obtain rfl := Option.some.inj ho
      obtain ⟨⟨x, hx⟩, i7⟩ := i5 hLi
      have he : execOp a.eval oc = execOp aσ.eval oc := by
        refine execOp_congr oc (fun c b hc => by rw [notSelect, hc] at hns; cases hns) (eval_eyes fun t ht => ?_)
        by_cases hex : ∃ (j : Nat) (o' : Oper), l[j]? = some o' ∧ o'.dst = some t
        · obtain ⟨j, o', hj, hd⟩ := hex
          obtain ⟨hji, e, he, hb, hon⟩ := heyes t ht j o' hj hd
          exact i7 j o' t hj (hon ▸ hafter e he hb) hd
        · have hn' : ∀ (j : Nat) (o' : Oper), l[j]? = some o' → o'.dst ≠ some t := fun j o' hj hd => hex ⟨j, o', hj, hd⟩
          rw [i3 t hn', hout0 t fun j o' _ hj => hn' j o' hj]
      subst hx
      unfold Oper.wp
      rw [he, hent]
      simp only [Oper.upon]
      refine (hcall x).mono ?_
      rintro e w' ⟨v, rfl, hR⟩
      obtain ⟨vs, hst, hQ⟩ := stepsS_of _ _ (hpost v w' hR)
      have hdv : ∀ d, oc.dst = some d → (putsS (l.drop (i + 1)) vs (aσ.put oc.dst v)).tmps.getD d undef = v := by
        intro d hd
        rw [putsS_other, hd, put_here _ _ _ (by rw [hsize]; exact hd1 d hd)]
        intro o' hm' hd'
        obtain ⟨k, hk, rfl⟩ := List.getElem_of_mem hm'
        exact hone i oc _ _ d hoc (hdropg k _ (List.getElem?_eq_getElem hk)) (by omega) hd hd'
      have hP : Post w' (putsS (l.drop (i + 1)) vs (aσ.put oc.dst v)) := ⟨v, w', vs, hR, hD _, hst, rfl, hQ, hdv⟩
      obtain ⟨_, _, _, p4⟩ := hPost _ _ hP
      refine ⟨(put_defers' _ _ _).trans i1, (put_size _ _ _).trans i2, fun t ht => ?_, hcl, fun hLn => ?_, fun _ => ⟨_, hP, fun j o' d hj hLj hd => ?_⟩⟩
      · rw [put_other _ _ _ _ (ht i oc hoc)]; exact i3 t ht
      · simp [plus] at hLn
      · by_cases hji : j = i
        · subst hji
          rw [hoc] at hj
          obtain rfl := Option.some.inj hj
          rw [hd, put_here _ _ _ (by rw [i2]; exact hd1 d hd), ← hd, hdv d hd]
        · have hLj' : L j = true := by unfold plus at hLj; rwa [if_neg hji] at hLj
          have hjn : j < i := by
            rcases Nat.lt_trichotomy j i with h | h | h
            · exact h
            · exact absurd h hji
            · exfalso
              have : ∀ d t, t = d → i < t → t < l.length → L t = true → False := by
                intro d
                induction d using Nat.strongRecOn with
                | _ d ih =>
                  intro t htd hit htl hLt
                  obtain ⟨e, he', hb, h1, h2⟩ := wildB2_post hw t _ (List.getElem?_eq_getElem htl) hit
                  have h3 := i4 t _ (List.getElem?_eq_getElem htl) hLt e he' hb
                  rcases Nat.eq_or_lt_of_le h1 with h4 | h4
                  · rw [← h4, hLi] at h3; cases h3
                  · exact ih e.on (by omega) e.on rfl h4 (by omega) h3
              exact this _ j rfl h (List.getElem?_eq_some_iff.1 hj).1 hLj'
          rw [put_other _ _ _ _ (hd2 j o' hj hji d hd), i7 j o' d hj hLj' hd, p4 j o' d hj hjn hd]
    · -- behind the call
      have hLn : L n = true := by
        obtain ⟨e, he, hb, h1, h2⟩ := wildB2_post hw i o ho hin
        have h3 := hafter e he hb
        have : ∀ d t, t = d → n ≤ t → t < l.length → L t = true → L n = true := by
          intro d
          induction d using Nat.strongRecOn with
          | _ d ih =>
            intro t htd hit htl hLt
            rcases Nat.eq_or_lt_of_le hit with h4 | h4
            · rw [h4]; exact hLt
            · obtain ⟨e, he', hb, h1, h2⟩ := wildB2_post hw t _ (List.getElem?_eq_getElem htl) h4
              exact ih e.on (by omega) e.on rfl h1 (by omega) (i4 t _ (List.getElem?_eq_getElem htl) hLt e he' hb)
        exact this _ e.on rfl h1 (by have := (List.getElem?_eq_some_iff.1 ho).1; omega) h3
      obtain ⟨aτ, hP, i7⟩ := i6 hLn
      obtain ⟨p1, p2, p3, p4⟩ := hPost _ _ hP
      obtain ⟨v, w0, vs, hR0, hDw, hst, hfin, hQ, hdv⟩ := hP
      have ho' : (l.drop (n + 1))[i - (n + 1)]? = some o := by rw [List.getElem?_drop]; rw [show n + 1 + (i - (n + 1)) = i by omega]; exact ho
      obtain ⟨u, ai, hY, hv, hno, hyes⟩ := stepsS_key hst hfin (fun j o' d h hd => by rw [put_size, hsize]; exact (hL _ o' (hdropg j o' h)).2.2.1 d hd) (fun j o' k o'' d h h' hne hd => hone _ o' _ o'' d (hdropg j o' h) (hdropg k o'' h') (by omega) hd) _ o ho'
      have he : execOp a.eval o = execOp ai.eval o := by
        refine execOp_congr o (fun c b hc => by rw [notSelect, hc] at hns; cases hns) (eval_eyes fun t ht => ?_)
        by_cases hex : ∃ (j : Nat) (o' : Oper), l[j]? = some o' ∧ o'.dst = some t
        · obtain ⟨j, o', hj, hd⟩ := hex
          obtain ⟨hji, e, he, hb, hon⟩ := heyes t ht j o' hj hd
          have hLj : L j = true := hon ▸ hafter e he hb
          rw [i7 j o' t hj hLj hd]
          by_cases hjn : n < j
          · rw [hyes t (j - (n + 1)) o' (by omega) (by rw [List.getElem?_drop, show n + 1 + (j - (n + 1)) = j by omega]; exact hj) hd]
          · have h9 : ai.tmps.getD t undef = (aσ.put oc.dst v).tmps.getD t undef := hno t fun k o'' hk => hone j o' _ o'' t hj (hdropg k o'' hk) (by omega) hd
            rw [h9]
            rcases Nat.lt_or_ge j n with h10 | h10
            · rw [p4 j o' t hj h10 hd, put_other _ _ _ _ (hone j o' n oc t hj hoc (by omega) hd)]
            · obtain rfl : j = n := by omega
              rw [hoc] at hj
              obtain rfl := Option.some.inj hj
              rw [hdv t hd, hd, put_here _ _ _ (by rw [hsize]; exact (hL j oc hoc).2.2.1 t hd)]
        · have hn' : ∀ (j : Nat) (o' : Oper), l[j]? = some o' → o'.dst ≠ some t := fun j o' hj hd => hex ⟨j, o', hj, hd⟩
          rw [i3 t hn', hno t fun j o' hj => hn' _ o' (hdropg j o' hj), put_other _ _ _ _ (hn' n oc hoc), hout0 t fun j o' _ hj => hn' j o' hj]
      have hY' := hY.of_same he (by simp [Region.wanted, hg])
      rcases hY' with ⟨_, hq⟩ | ⟨hw0, _⟩
      · refine Oper.wp_of_quiet (C := D w0) (K := fun a' => a' = a.put o.dst u) hDw ?_ ⟨u, hq, rfl⟩
        rintro a' w' hDw' rfl
        refine ⟨(put_defers' _ _ _).trans i1, (put_size _ _ _).trans i2, fun t ht => ?_, hcl, fun hLp => ?_, fun _ => ⟨aτ, ⟨v, w0, vs, hR0, hDw', hst, hfin, hQ, hdv⟩, fun j o' d hj hLj hd => ?_⟩⟩
        · rw [put_other _ _ _ _ (ht i o ho)]; exact i3 t ht
        · unfold plus at hLp; rw [if_neg (by omega), hLn] at hLp; cases hLp
        · by_cases hji : j = i
          · subst hji
            rw [ho] at hj
            obtain rfl := Option.some.inj hj
            rw [hd, put_here _ _ _ (by rw [i2]; exact hd1 d hd)]
            exact hv d hd
          · have hLj' : L j = true := by unfold plus at hLj; rwa [if_neg hji] at hLj
            rw [put_other _ _ _ _ (hd2 j o' hj hji d hd)]; exact i7 j o' d hj hLj' hd
      · simp [Region.wanted, hg] at hw0
  · intro L a w hall ⟨i1, i2, i3, i4, i5, i6⟩
    obtain ⟨aτ, hP, i7⟩ := i6 (hall n hnl)
    obtain ⟨p1, p2, p3, p4⟩ := hPost _ _ hP
    obtain ⟨v, w0, vs, hR0, hDw, hst, hfin, hQ, hdv⟩ := hP
    have : a = aτ := by
      refine act_ext (i2.trans p1.symm) (i1.trans p2.symm) fun k => ?_
      by_cases hex : ∃ (j : Nat) (o' : Oper), l[j]? = some o' ∧ o'.dst = some k
      · obtain ⟨j, o', hj, hd⟩ := hex
        exact i7 j o' k hj (hall j (List.getElem?_eq_some_iff.1 hj).1) hd
      · have hn' : ∀ (j : Nat) (o' : Oper), l[j]? = some o' → o'.dst ≠ some k := fun j o' hj hd => hex ⟨j, o', hj, hd⟩
        rw [i3 k hn', p3 k hn']
    rw [this]; exact hQ _ hDw
/-- The same; what stands behind the call, and what may run behind it, turns nothing below the heap that the call has left. -/
theorem wp_region_wildG {P : Program} {id : Nat} {Q : Exit → Act → World → Prop} {a0 : Act} {W : World} {l : List Oper} (B n : Nat) (aσ : Act) (oc : Oper) (f : FuncId) (args : Array Value) (R : Value → World → Prop)
    (hm : P.follows .mixedOrders = true) (hback : backB l = true) (hn : lawB l a0.tmps.size = true) (hw : wildB2 l n = true) (hoc : l[n]? = some oc) (hBW : B ≤ W.heap.size)
    (hpre : ∀ (B' : Nat) (W' : World), Below B W W' → B ≤ B' → B' ≤ W'.heap.size → wpQuiet P l.toArray (fun w' => ∃ x : Ext B' W', w' = x.out) (fun a' => a' = aσ) (l.take n) a0)
    (hent : ∀ w, (execOp aσ.eval oc).run P w = .ok (.enter f args) w)
    (hcall : ∀ x : Ext B W, Calls P f args x.out fun e w' => ∃ v, e = .returned v ∧ R v w' ∧ Below B W w')
    (hpost : ∀ v w1, R v w1 → Below B W w1 → wpQuiet P l.toArray (fun w' => ∃ y : Ext w1.heap.size w1, w' = y.out) (fun a' => ∀ w', (∃ y : Ext w1.heap.size w1, w' = y.out) → Q .normal a' w') (l.drop (n + 1)) (aσ.put oc.dst v)) :
    (Code.region id l.toArray true).wp P Q a0 W :=
  wp_region_wildF B n aσ oc f args (fun v w1 => R v w1 ∧ Below B W w1) (fun w1 w' => ∃ y : Ext w1.heap.size w1, w' = y.out) (fun w => ⟨⟨w, Below.refl _ _⟩, rfl⟩) hm hback hn hw hoc hBW (hpre B W (Below.refl _ _) (Nat.le_refl _) hBW)
    (fun v w1 hR => hpre w1.heap.size w1 hR.2 (Nat.le_trans hBW hR.2.size) (Nat.le_refl _)) hent hcall (fun v w1 hR => hpost v w1 hR.1 hR.2)
end Go.Proofs.Ytfbgldkdlmipoaa
