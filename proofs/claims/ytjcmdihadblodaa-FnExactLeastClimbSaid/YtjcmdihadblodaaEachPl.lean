/- each over places, at a function value. -/
import Derived.Test.YtjcmdihadblodaaSli
import Derived.Test.YtjcmdihadblodaaToP
import Derived.Shelf.Abstract
import Derived.Deep.AppendLies
namespace Go.Proofs.Ytjcmdihadblodaa
open Go.RowKit
set_option linter.unusedSimpArgs false
set_option linter.unusedVariables false

theorem owns_belowE {w w' : World} {base : Nat} {e : TypeId} {size : Nat} {v : Value} {n : Nat} {xs : List Value} (h : w.ownsRow base e size v n xs) (hb : Below w.heap.size w w') : w'.ownsRow base e size v n xs :=
  h.kept (row := none) ⟨hb.os, hb.tape, hb.output, hb.size, fun k hk _ => hb.block k hk⟩ (Classical.em _)
theorem cell_one_newE (W : World) (a : Value) (T : TypeId) : ∀ j u, [a][j]? = some u → (W.alloc (.cells #[a] T)).cell? ((⟨W.heap.size, 0, none⟩ : Addr).add j) = some u := World.news_of_block (block_new1 W (.cells #[a] T) rfl)
/-- A function value that turns the places of a list, in all worlds above a world. -/
def TurnsPI (g : Nat) (fst cap : Array Value) (f : Int × Int → Int) (l : List (Int × Int)) (w : World) : Prop :=
  ∀ (W : World) (p : Int × Int), p ∈ l → Below w.heap.size w W → Calls Try.prog g (fst ++ #[.agg #[.int .i8 p.1, .int .i8 p.2]] ++ cap) W fun e w' => e = .returned (.int .i64 (f p)) ∧ Below W.heap.size W w'
set_option maxHeartbeats 800000 in
set_option maxRecDepth 100000 in
theorem c_eachPI (g : Nat) (fst cap : Array Value) (eg : ∀ args w, (callFunc g args).run Try.prog w = .ok (.enter g args) w) (f : Int × Int → Int) (A : Option Addr) (c : Nat) (l : List (Int × Int)) (hlen : l.length ≤ 1048576) (w : World) (hA : PairsAt .i8 .i8 w A l) (hf : TurnsPI g fst cap f l w) :
    Calls Try.prog 36 #[.slice A l.length c, .func (.func g) fst cap] w fun e w' => ∃ v, e = .returned v ∧ Below w.heap.size w w' ∧ w'.ownsRow w.heap.size 2 1 v (l.map f).length (icells (l.map f)) := by
  obtain ⟨i0, hi, hz0, hz1, hz2⟩ := info_parts Try.infoI64
  have HF := hid hf; clear hf
  have HA := hid hA; clear hA
  go_enter Try.func36, Try.ntmps36
  go_wp2_with fail
  have HB0 : Hid (Below w.heap.size w w) := Below.refl _ _
  go_loopw [5, 10] (fun v i wr => ∃ k : Nat, k ≤ l.length ∧ i = .int .i64 k ∧ Hid (Below w.heap.size w wr) ∧ Hid (wr.ownsRow w.heap.size 2 1 v ((l.take k).map f).length (icells ((l.take k).map f)))) (fun _ i _ => l.length - (intOf i).toNat)
  case atStart => exact ⟨0, by omega, rfl, HB0, World.ownsRow_nil _ _ _ _⟩
  case round =>
    obtain ⟨k, hk, rfl, hb, hO⟩ := hrel
    by_cases hkl : k < l.length
    · have hd : decide ((k : Int) < (l.length : Int)) = true := decide_eq_true (by omega)
      have hkI : (k : Int) < (l.length : Int) := by omega
      have hk0 : (0 : Int) ≤ (k : Int) := by omega
      have hp := List.getElem?_eq_getElem hkl
      obtain ⟨⟨p1, p2⟩, hn⟩ : ∃ n, n = l[k] := ⟨_, rfl⟩
      rw [← hn] at hp
      obtain ⟨b, off, rfl, r1, r2, r3⟩ := HA.out k _ hp
      have c0 := (hb.out.cell (p := ⟨b, _, none⟩) r1).trans r2
      have c1 := (hb.out.cell (p := ⟨b, _, none⟩) r1).trans r3
      dsimp only at c0 c1
      have b1 : Below wr.heap.size wr (wr.alloc (.cells #[.int .i8 p1, .int .i8 p2] 58)) := (Below.refl _ wr).alloc (Nat.le_refl _) _
      have HC := hid (HF.out (wr.alloc (.cells #[.int .i8 p1, .int .i8 p2] 58)) (p1, p2) (by rw [hn]; exact List.getElem_mem hkl) (hb.out.trans (b1.mono hb.out.size)))
      have HO1 := hid (owns_belowE hO.out b1)
      have HB1 := hid (hb.out.trans (b1.mono hb.out.size))
      have HY : Hid ((l.take (k + 1)).map f = (l.take k).map f ++ [f (p1, p2)]) := by
        show _ = _
        rw [List.take_succ_eq_append_getElem hkl, List.map_append, ← hn]; rfl
      have hle : ((l.take k).map f).length ≤ 1048576 := by rw [List.length_map, List.length_take]; omega
      have HLE := hid hle
      clear hp hn r2 r3 b1
      go_wp2_with (first
        | (go_at_fn g; refine HC.out.mono ?_; rintro e w2 ⟨rfl, hb2⟩; have hb2 : Below _ _ w2 := hb2)
        | ((with_reducible refine gate (N := 19) rfl ?_); refine wpList_append_own _ rfl (.tmp 14) (.tmp 18) 22 rfl w.heap.size 2 i0 (.int .i64 0) 1 8 Try.underlying22 hi hz0 hz1 hz2 rfl (by decide) _ _ _ rfl ((owns_belowE HO1.out hb2).alloc _) ⟨w2.heap.size, 0, none⟩ 1 1 [.int .i64 (f (p1, p2))] rfl rfl (cell_one_newE w2 _ _) (by simp [Value.oneCell']) (Nat.le_trans (Nat.add_le_add_right HLE.out 1) (by decide)) (by omega) (Nat.le_trans HB1.out.size (Nat.le_trans hb2.size (by simp))) ?_; intro v' w3 hown3 hgrow _))
      have b2 := HB1.out.trans (hb2.mono HB1.out.size)
      refine ⟨⟨k + 1, by omega, by go_num, (b2.alloc b2.size _).grown hgrow (by have := b2.size; simp; omega) (fun k hk => ((owns_belowE HO1.out hb2).lt k hk).1), ?_⟩, by simp [intOf]; omega⟩
      show World.ownsRow _ _ _ _ _ _ _
      rw [HY.out, List.length_append]
      unfold icells
      rw [List.map_append]; exact hown3
    · obtain rfl : k = l.length := by omega
      have hd : decide ((l.length : Int) < (l.length : Int)) = false := decide_eq_false (by omega)
      rw [List.take_length] at hO
      go_wp2_with fail
      go_ret
      exact ⟨_, rfl, hb.out, hO.out⟩
end Go.Proofs.Ytjcmdihadblodaa
