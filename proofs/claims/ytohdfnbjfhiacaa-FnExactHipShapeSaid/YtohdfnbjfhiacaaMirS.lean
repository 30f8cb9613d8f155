/- MirrorShape: the program's and the reference's. -/
import Derived.Test.YtohdfnbjfhiacaaUnits
import Derived.Deep.RegionHeld3
import Derived.Deep.AppendLies
namespace Go.Proofs.Ytohdfnbjfhiacaa
open Go.RowKit
set_option linter.unusedSimpArgs false
set_option linter.unusedVariables false

/-- A result of two: a shape, its spans in new memory, and a code. -/
def RetH (w : World) (s : Int) (l : List (Int × Int)) (k : Int) (e : Ending) (w' : World) : Prop := ∃ (A : Option Addr) (c : Nat), e = .returned (.tuple #[.agg #[.int .u8 s, .slice A l.length c], .int .i64 k]) ∧ Below w.heap.size w w' ∧ OwT w.heap.size w'.heap.size w' (.slice A l.length c) l
def mirS (p : Int × Int) : Int × Int := (200 - p.2, 200 - p.1)
theorem owT_own {w w' : World} {v : Value} {l : List (Int × Int)} (h : w'.ownsRow w.heap.size 38 2 v l.length (scells l)) (hb : Below w.heap.size w w') : ∃ A c, v = .slice A l.length c ∧ OwT w.heap.size w'.heap.size w' (.slice A l.length c) l := by
  obtain ⟨A, c, rfl⟩ := owns_slice' h
  exact ⟨A, c, rfl, OwT.of h hb⟩
theorem OwT.lo {lo lo' hi : Nat} {w : World} {v : Value} {l : List (Int × Int)} (h : OwT lo hi w v l) (hl : lo' ≤ lo) : OwT lo' hi w v l := ⟨h.1.hi hl (Nat.le_refl _), Nat.le_trans hl h.2.1, h.2.2⟩
theorem OwT.nil (lo : Nat) (w : World) (h : lo ≤ w.heap.size) : OwT lo w.heap.size w (.slice none 0 0) [] := ⟨⟨none, 0, rfl, fun h => absurd rfl h⟩, h, Nat.le_refl _⟩
set_option maxRecDepth 100000 in
theorem c_MirSClo (p : Int × Int) (hp : 0 ≤ p.1 ∧ p.1 < p.2 ∧ p.2 ≤ 200) (w : World) : Calls Try.prog 41 #[.agg #[.int .i16 p.1, .int .i16 p.2]] w fun e w' => e = .returned (.agg #[.int .i16 (mirS p).1, .int .i16 (mirS p).2]) ∧ Below w.heap.size w w' := by
  obtain ⟨p1, p2⟩ := p
  dsimp only at hp
  unfold mirS
  dsimp only
  have h1 : IntKind.i16.wrap (200 - p1) = 200 - p1 := by simp [IntKind.wrap, IntKind.bits, IntKind.signed]; omega
  have h2 : IntKind.i16.wrap (200 - p2) = 200 - p2 := by simp [IntKind.wrap, IntKind.bits, IntKind.signed]; omega
  go_enter Try.func41, Try.ntmps41
  go_wp2_with fail
  refine bodyPost_ret (v := .agg #[.int .i16 (200 - p2), .int .i16 (200 - p1)]) (by simp [results, Try.results41, go_sem, h1, h2]) rfl ⟨rfl, ?_⟩
  exact ((Below.refl _ w).alloc (Nat.le_refl _) _).alloc (by simp) _
set_option maxHeartbeats 1600000 in
set_option maxRecDepth 100000 in
theorem c_MirrorShape (s : Int) (A : Option Addr) (c : Nat) (l : List (Int × Int)) (hlen : l.length ≤ 1048576) (w : World) (hA : PairsAt .i16 .i16 w A l) :
    Calls Try.prog 22 #[.agg #[.int .u8 s, .slice A l.length c]] w (RetH w (if shOk s l = true then s else 0) (if shOk s l = true then l.map mirS else []) (unitsC s l)) := by
  have B0 : Below w.heap.size w ((w.alloc (.cells #[.int .u8 s, .slice A l.length c] 29)).alloc (.cells #[.int .u8 0, .slice none 0 0] 29)) := ((Below.refl _ w).alloc (Nat.le_refl _) _).alloc (by simp) _
  have HX := hid (block_alloc (block_new1 w (.cells #[.int .u8 s, .slice A l.length c] 29) rfl) (.cells #[.int .u8 0, .slice none 0 0] 29))
  have HR := hid (block_new1 (w.alloc (.cells #[.int .u8 s, .slice A l.length c] 29)) (.cells #[.int .u8 0, .slice none 0 0] 29) (n := w.heap.size + 1) (by simp))
  have HV := hid (c_ValidShape s A c l hlen _ (hA.below B0 (Nat.le_refl _)))
  have HS0 : Hid (w.heap.size + 2 ≤ ((w.alloc (.cells #[.int .u8 s, .slice A l.length c] 29)).alloc (.cells #[.int .u8 0, .slice none 0 0] 29)).heap.size) := by simp [Hid]
  unfold unitsC
  cases hg : shOk s l with
  | false =>
    rw [hg] at HV
    have hA := hid hA
    clear hg
    rw [if_neg (by decide), if_neg (by decide), if_neg (by decide)]
    go_enter Try.func22, Try.ntmps22
    go_wp2_with (go_at_call 12; ((with_reducible refine HV.out.mono ?_); rintro e w1 ⟨rfl, hb1⟩); have HR := hid (block_below hb1 HR.out (by simp)); have k0 := cell_block HR.out (j := 0) rfl; have k1 := cell_block HR.out (j := 1) rfl; have f0 := frozen_of_row _ _ 0 _ _ HR.out; have f1 := frozen_of_row _ _ 1 _ _ HR.out)
    refine bodyPost_ret (v := .tuple #[.agg #[.int .u8 0, .slice none 0 0], .int .i64 1]) (by simp [results, Try.results22, go_sem, k0, k1]) rfl ⟨none, 0, rfl, ?_, ?_⟩
    · have b1 := B0.trans (hb1.mono (by simp; omega))
      exact Below.setCell (Below.setCell b1 (p := ⟨w.heap.size + 1, 0, none⟩) (Nat.le_succ _) _) (p := ⟨w.heap.size + 1, 1, none⟩) (Nat.le_succ _) _
    · have := hb1.size
      exact OwT.nil _ _ (by simp at this ⊢; omega)
  | true =>
    rw [hg] at HV
    rw [if_pos rfl, if_pos rfl, if_pos rfl]
    have HE := fun w' h => hid (c_eachSS 41 #[] #[] (enters_of Try.func41 (by kernel_rfl) rfl) mirS A c l hlen w' h (fun W p hp _ => c_MirSClo p ((shOk_all hg).1 p hp) W))
    have HA := hid (hA.below B0 (Nat.le_refl _))
    clear hg hA
    go_enter Try.func22, Try.ntmps22
    go_wp2_with (go_at_call 12; ((with_reducible refine HV.out.mono ?_); rintro e w1 ⟨rfl, hb1⟩); have HX := hid (block_below hb1 HX.out (by simp; omega)); have HR := hid (block_below hb1 HR.out (by simp)); have HA := hid (HA.out.below hb1 (Nat.le_refl _)); have HB1 := hid (B0.trans (hb1.mono (by simp; omega))); have k0 := cell_block HX.out (j := 0) rfl; have k1 := cell_block HX.out (j := 1) rfl; clear hb1)
    have l0 := block_lt HX.out
    have l1 := block_lt HR.out
    go_region_held3 (fun w' => w'.cell? ⟨w.heap.size, 0, none⟩ = some (.int .u8 s) ∧ w'.cell? ⟨w.heap.size, 1, none⟩ = some (.slice A l.length c))
      (first
        | go_keep
        | exact ⟨(b2.out.cell (p := ⟨w.heap.size, 0, none⟩) (by simp; omega)).trans k0, (b2.out.cell (p := ⟨w.heap.size, 1, none⟩) (by simp; omega)).trans k1⟩)
      ((go_at_call 40; ((refine (HE _ (by exact HA.out)).out.mono ?_); rintro e w2 ⟨v, rfl, hb2, ho2⟩); have b2 := hid hb2; obtain ⟨A2, c2, rfl, hO2⟩ := owT_own ho2 hb2; have HR2 : Hid (w2.heap[w.heap.size + 1]? = some (.cells #[.int .u8 0, .slice none 0 0] 29 (0, 0))) := block_below hb2 (by exact HR.out) l1; have q0 := cell_block HR2.out (j := 0) rfl; have q1 := cell_block HR2.out (j := 1) rfl; have g0 := frozen_of_row _ _ 0 _ _ HR2.out; have g1 := frozen_of_row _ _ 1 _ _ HR2.out; clear ho2 hb2))
    go_wp2_with fail
    have b1 := HB1.out.drew.trans (b2.out.mono (by have := HB1.out.size; exact this))
    refine bodyPost_ret (v := .tuple #[.agg #[.int .u8 s, .slice A2 (l.map mirS).length c2], .int .i64 0]) (by simp [results, Try.results22, go_sem, q0, q1]) rfl ⟨A2, c2, rfl, ?_, ?_⟩
    · exact Below.setCell (Below.setCell b1 (p := ⟨w.heap.size + 1, 0, none⟩) (Nat.le_succ _) _) (p := ⟨w.heap.size + 1, 1, none⟩) (Nat.le_succ _) _
    · have h1 := (hO2.set (a := ⟨w.heap.size + 1, 0, none⟩) (.int .u8 s) (by exact l1)).set (a := ⟨w.heap.size + 1, 1, none⟩) (.slice A2 (l.map mirS).length c2) (by exact l1)
      have h2 := h1.lo (lo' := w.heap.size) (by exact HB1.out.size)
      simpa using h2
end Go.Proofs.Ytohdfnbjfhiacaa
