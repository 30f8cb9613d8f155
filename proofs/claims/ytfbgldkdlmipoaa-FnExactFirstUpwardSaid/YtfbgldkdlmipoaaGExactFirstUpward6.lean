/- What is proved: FnExactFirstUpward holds of all arguments; with the texts that lead to it. -/
import Derived.Test.YtfbgldkdlmipoaaGExactFirstUpward5
import Derived.ChangeOld
/- FirstUpward, the program's. -/
namespace Go.Proofs.Ytfbgldkdlmipoaa
open Go.RowKit
set_option linter.unusedSimpArgs false
set_option linter.unusedVariables false

def firV (r : Rf) (l : List (Int × Int)) : List (Int × Int) := if onceK r l true = 0 then firL r l.length (sortP l) else []
set_option maxRecDepth 100000 in
theorem c_firClo2 (r : Rf) (hr : r.Ok) (hv : validB r = true) (a1 a2 p1 p2 : Int) (ha : hasP r (a1, a2) = true) (hp : hasP r (p1, p2) = true) (bx ba : Nat) (w : World) (hX : w.heap[bx]? = some (.cells (rcells r) 31 (0,0))) (hA : w.heap[ba]? = some (.cells #[.int .i8 a1, .int .i8 a2] 50 (0,0))) :
    Calls Try.prog 42 #[.agg #[.int .i8 p1, .int .i8 p2], .pointer (some ⟨bx,0,none⟩), .pointer (some ⟨ba,0,none⟩)] w fun e w' => e = .returned (.bool (overB r (a1, a2) (p1, p2))) ∧ Below w.heap.size w w' := by
  have HX := hid (block_alloc hX (.cells #[.int .i8 p1, .int .i8 p2] 50))
  have hA' := block_alloc hA (.cells #[.int .i8 p1, .int .i8 p2] 50)
  have q0 : (w.alloc (.cells #[.int .i8 p1, .int .i8 p2] 50)).cell? ⟨ba, 0, none⟩ = some (.int .i8 a1) := cell_block hA' rfl
  have q1 : (w.alloc (.cells #[.int .i8 p1, .int .i8 p2] 50)).cell? ⟨ba, 1, none⟩ = some (.int .i8 a2) := cell_block hA' rfl
  have HL := fun W => hid (c_lapsOver r hr hv a1 a2 p1 p2 ha hp W)
  clear hA hA' hX ha hp hv
  go_enter Try.func42, Try.ntmps42
  go_wp2_with (first
    | ((with_reducible refine gate (N := 5) rfl ?_); refine wp_roof 31 Try.underlying31 rfl Try.infoRoof rfl (.tmp 1) rfl bx rfl r hr HX.out ?_)
    | (go_at_call 31; ((with_reducible refine (HL _).out.mono ?_); rintro e w1 ⟨rfl, hb1⟩); have HB := hid hb1; clear hb1))
  go_ret
  exact ⟨rfl, ((Below.refl _ w).alloc (Nat.le_refl _) _).trans (HB.out.mono (by simp))⟩
set_option maxRecDepth 100000 in
theorem c_firClo1 (r : Rf) (hr : r.Ok) (hv : validB r = true) (a1 a2 : Int) (ha : hasP r (a1, a2) = true) (L : List (Int × Int)) (hL : ∀ p ∈ L, hasP r p = true) (h8 : L.length ≤ 1000) (Al : Option Addr) (cl : Nat) (bl bx : Nat) (w : World) (hX : w.heap[bx]? = some (.cells (rcells r) 31 (0,0))) (hl : w.heap[bl]? = some (.cells #[.slice Al L.length cl] 33 (0,0))) (hA : PairsAt .i8 .i8 w Al L) :
    Calls Try.prog 41 #[.agg #[.int .i8 a1, .int .i8 a2], .pointer (some ⟨bl,0,none⟩), .pointer (some ⟨bx,0,none⟩)] w fun e w' => e = .returned (.bool (freeIn r L (a1, a2))) ∧ Below w.heap.size w w' := by
  have HX := hid (block_alloc hX (.cells #[.int .i8 a1, .int .i8 a2] 50))
  have HN := hid (block_new1 w (.cells #[.int .i8 a1, .int .i8 a2] 50) rfl)
  have HB0 : Hid (Below w.heap.size w (w.alloc (.cells #[.int .i8 a1, .int .i8 a2] 50))) := (Below.refl _ w).alloc (Nat.le_refl _) _
  have q0 : (w.alloc (.cells #[.int .i8 a1, .int .i8 a2] 50)).cell? ⟨bl, 0, none⟩ = some (.slice Al L.length cl) := cell_block (block_alloc hl _) rfl
  have HT : Hid (TellsP 42 #[] #[.pointer (some ⟨bx, 0, none⟩), .pointer (some ⟨w.heap.size, 0, none⟩)] (overB r (a1, a2)) L (w.alloc (.cells #[.int .i8 a1, .int .i8 a2] 50))) := by
    intro W p hp hbW
    exact c_firClo2 r hr hv a1 a2 p.1 p.2 ha (hL p hp) _ _ W (block_below hbW HX.out (block_lt HX.out)) (block_below hbW HN.out (block_lt HN.out))
  have HCF := hid (c_containsFP 42 #[] #[.pointer (some ⟨bx, 0, none⟩), .pointer (some ⟨w.heap.size, 0, none⟩)] (enters_of Try.func42 (by kernel_rfl) rfl) (overB r (a1, a2)) Al cl L (by omega) _ (hA.below HB0.out (Nat.le_refl _)) HT.out)
  have HF : Hid (freeIn r L (a1, a2) = !L.any (overB r (a1, a2))) := rfl
  obtain ⟨g, hg⟩ : ∃ g, g = L.any (overB r (a1, a2)) := ⟨_, rfl⟩
  rw [← hg] at HCF HF
  clear hX hl hA hv ha hL HT hg
  cases g <;>
  · go_enter Try.func41, Try.ntmps41
    go_wp2_with (go_at_call 29; ((with_reducible refine HCF.out.mono ?_); rintro e w1 ⟨rfl, hb1⟩); have HB := hid hb1; clear hb1)
    go_ret
    exact ⟨ret_bool HF.out.symm, HB0.out.trans (HB.out.mono HB0.out.size)⟩
set_option maxHeartbeats 3200000 in
set_option maxRecDepth 100000 in
theorem c_FirstUpward (r : Rf) (hr : r.Ok) (A : Option Addr) (c : Nat) (l : List (Int × Int)) (hB : PlB l) (hlen : l.length ≤ 1048576) (w : World) (hA : PairsAt .i8 .i8 w A l) :
    Calls Try.prog 17 #[.agg (rcells r), .slice A l.length c] w (RetP w (firV r l) (onceK r l true)) := by
  have HX := hid (block_new1 w (.cells (rcells r) 31) rfl)
  have HW : Hid (Below w.heap.size w (w.alloc (.cells (rcells r) 31))) := (Below.refl _ w).alloc (Nat.le_refl _) _
  have HA := hid hA
  have HC := fun W h => hid (c_orderCode r hr A c l hB hlen true W h)
  unfold firV
  by_cases h0 : onceK r l true = 0
  · rw [if_pos h0, h0]
    rw [h0] at HC
    obtain ⟨hv, hall, _, h8, _, _⟩ := onceK_zero h0
    have HV := hid hv
    have HALL : Hid (∀ p ∈ sortP l, hasP r p = true) := fun p hp => List.all_eq_true.1 hall p ((sortP_perm l).mem_iff.1 hp)
    have HSL := hid (sortP_lenQ l)
    have H8 := hid h8
    obtain ⟨F, hF⟩ : ∃ F, F = firL r l.length (sortP l) := ⟨_, rfl⟩
    have HF : Hid (firL r (sortP l).length (sortP l) = F) := by rw [hF, sortP_lenQ]; rfl
    rw [← hF]
    clear h0 hv hall hA hB hlen hF h8
    go_enter Try.func17, Try.ntmps17
    go_wp2_with (first
      | ((with_reducible refine gate (N := 10) rfl ?_); refine wp_roof 31 Try.underlying31 rfl Try.infoRoof rfl (.tmp 2) rfl w.heap.size rfl r hr HX.out ?_)
      | (go_at_call 28; ((with_reducible refine (HC _ (HA.out.below HW.out (Nat.le_refl _))).out.mono ?_); rintro e w1 ⟨rfl, hb1⟩); have B1 := hid hb1; have HW1 := hid (HW.out.trans (hb1.mono HW.out.size)); clear hb1)
      | (go_at_call 38; ((with_reducible refine (c_values A l.length c w1).mono ?_); rintro e w2 ⟨rfl, rfl⟩); have HB2 := hid ((Below.refl w1.heap.size w1).alloc (Nat.le_refl _) (.cells #[.slice A l.length c] 33)); have HW2 := hid (HW1.out.trans (HB2.out.mono HW1.out.size)))
      | (go_at_call 37; ((refine (c_sortedQ w1.heap.size A c l (Nat.le_trans H8.out (by decide)) _ (cell_block (block_new1 w1 _ rfl) rfl) (by simp) (HA.out.below HW2.out (Nat.le_refl _))).mono ?_); rintro e w3 ⟨v, rfl, hb3, hr3⟩); obtain ⟨Av, cv, rfl⟩ := owns_slc hr3; have HB3 := hid hb3; have HR3 := hid hr3; clear hb3 hr3))
    have LW1 : w.heap.size + 1 ≤ w1.heap.size := by have := B1.out.size; simpa using this
    have HB12 : Hid (Below (w.heap.size + 1) (w.alloc (.cells (rcells r) 31)) (w1.alloc (.cells #[.slice A l.length c] 33))) := (B1.out.mono (by simp)).trans (HB2.out.mono LW1)
    have HB13 : Hid (Below (w.heap.size + 1) (w.alloc (.cells (rcells r) 31)) w3) := HB12.out.trans (HB3.out.mono (by simp; omega))
    have LW3 : w.heap.size + 1 ≤ w3.heap.size := by have := HB13.out.size; simpa using this
    have HR3' : Hid (RowQ (w.heap.size + 1) w3 (.slice Av (sortP l).length cv) (sortP l)) := World.ownsRow.mono HR3.out (by simp; omega)
    obtain ⟨bq, hbq⟩ : ∃ b, b = w3.heap.size := ⟨_, rfl⟩
    rw [← hbq]
    have HBX := hid (block_new1 w3 (.cells #[.slice Av (sortP l).length cv] 33) hbq)
    have HB4 := hid (HB13.out.trans ((Below.refl (w.heap.size + 1) w3).alloc LW3 (.cells #[.slice Av (sortP l).length cv] 33)))
    have HR4 : Hid (RowQ (w.heap.size + 1) (w3.alloc (.cells #[.slice Av (sortP l).length cv] 33)) (.slice Av (sortP l).length cv) (sortP l)) := World.ownsRow.alloc HR3'.out _
    have HOB : Hid (∀ g, (Value.slice Av (sortP l).length cv).ownBlock = some g → g < bq) := fun g hg => by rw [hbq]; exact (World.ownsRow.lt HR3'.out g hg).2
    have HN4 : Hid (RowQ (w.heap.size + 1) (w3.alloc (.cells #[.slice Av (sortP l).length cv] 33)) (.slice none 0 0) []) := World.ownsRow_nil _ _ _ _
    obtain ⟨W4, hW4⟩ : ∃ W4, W4 = w3.alloc (.cells #[.slice Av (sortP l).length cv] 33) := ⟨_, rfl⟩
    rw [← hW4] at HBX HB4 HR4 HN4 ⊢
    have LQ : Hid (w.heap.size + 1 ≤ bq) := by rw [hbq]; exact LW3
    have HL8 : Hid ((sortP l).length ≤ 8) := by rw [HSL.out]; exact H8.out
    clear hbq hW4 HR3 HR3' HB13 HB3 HB12 HB2 HW2 HW1 B1
    go_loopw [8] (fun vo wr => ∃ (Al : Option Addr) (cl : Nat) (out L : List (Int × Int)), Hid (wr.heap[bq]? = some (.cells #[.slice Al L.length cl] 33 (0, 0))) ∧ Hid (RowQ (w.heap.size + 1) wr (.slice Al L.length cl) L) ∧ Hid (RowQ (w.heap.size + 1) wr vo out) ∧
      Hid (∀ g, (Value.slice Al L.length cl).ownBlock = some g → g < bq) ∧ Hid (∀ g, vo.ownBlock = some g → bq < g) ∧ Hid (Below (w.heap.size + 1) (w.alloc (.cells (rcells r) 31)) wr) ∧ Hid (out ++ firL r L.length L = F) ∧ Hid (∀ p ∈ L, hasP r p = true) ∧ Hid (L.length ≤ 8) ∧ Hid (out.length ≤ 8 - L.length))
      (fun _ wr => match wr.cell? ⟨bq, 0, none⟩ with | some (.slice _ n _) => n | _ => 0)
    case atStart =>
      refine ⟨Av, cv, [], sortP l, HBX.out, HR4.out, HN4.out, HOB.out, fun g h => ?_, HB4.out, HF.out, HALL.out, HL8.out, Nat.zero_le _⟩
      simp [Value.ownBlock] at h
    case round =>
      clear HBX HR4 HN4 HOB HB4 HF HALL HL8
      obtain ⟨Al, cl, out, L, hbx, hrl, hro, hol, hoo, hb, hfe, hal, hl8, ho8⟩ := hrel
      have q0 : wr.cell? ⟨bq, 0, none⟩ = some (.slice Al L.length cl) := cell_block hbx.out rfl
      by_cases hL0 : L = []
      · have hd : decide ((L.length : Int) > 0) = false := by rw [hL0]; rfl
        have HE := hid (show out = F by have := hfe.out; rw [hL0] at this; simpa [firL] using this)
        obtain ⟨Ao, co, rfl⟩ := owns_slc hro.out
        have HRO : Hid (RowQ w.heap.size wr (.slice Ao out.length co) out) := World.ownsRow.mono hro.out (Nat.le_succ _)
        subst hL0
        simp only [List.length_nil] at q0 hd
        go_wp2_with fail
        go_ret2
        refine ⟨_, rfl, HW.out.trans (hb.out.mono (Nat.le_succ _)), ?_⟩
        rw [← HE.out]
        exact HRO.out
      · have hLp : 0 < L.length := List.length_pos_iff.2 hL0
        have hd : decide ((L.length : Int) > 0) = true := decide_eq_true (by omega)
        have HANY := hid (free_ex r hL0)
        have hidx := findIdx_lt HANY.out
        have HIP : Hid (idxP (freeIn r L) L = ((L.findIdx (freeIn r L) : Nat) : Int)) := by show _ = _; unfold idxP; rw [if_pos HANY.out]
        obtain ⟨idx, hie⟩ : ∃ i, i = L.findIdx (freeIn r L) := ⟨_, rfl⟩
        rw [← hie] at hidx HIP
        have HIE := hid hie
        have hp := List.getElem?_eq_getElem hidx
        obtain ⟨⟨p1, p2⟩, hpp⟩ : ∃ p, p = L[idx] := ⟨_, rfl⟩
        rw [← hpp] at hp
        have HPP := hid hp
        obtain ⟨Ao, co, rfl⟩ := owns_slc hro.out
        obtain ⟨g, cg, e, hgB, hgl, c0, c1, _, _⟩ := hrl.out.cell hp
        obtain ⟨rfl, -, rfl⟩ : Al = some ⟨g, 0, none⟩ ∧ L.length = L.length ∧ cl = cg := by simpa using e
        dsimp only at c0 c1
        have HXr := hid (block_below hb.out HX.out (by omega))
        have hgq := hol.out g rfl
        have hbl := block_lt hbx.out
        have LB : w.heap.size + 1 ≤ wr.heap.size := by have := hb.out.size; simpa using this
        have HT : Hid (TellsP 41 #[] #[.pointer (some ⟨bq, 0, none⟩), .pointer (some ⟨w.heap.size, 0, none⟩)] (freeIn r L) L wr) := by
          intro W p hp hbW
          exact c_firClo1 r hr HV.out p.1 p.2 (hal.out p hp) L hal.out (Nat.le_trans hl8.out (by decide)) _ _ bq w.heap.size W (block_below hbW HXr.out (block_lt HXr.out)) (block_below hbW hbx.out hbl) (hrl.out.below hbW (Nat.le_refl _)).pairs
        have HIF : Hid (Calls Try.prog 40 #[.slice (some ⟨g, 0, none⟩) L.length cl, .func (.func 41) #[] #[.pointer (some ⟨bq, 0, none⟩), .pointer (some ⟨w.heap.size, 0, none⟩)]] wr fun e w' => e = .returned (.int .i64 (idx : Int)) ∧ Below wr.heap.size wr w') :=
          (c_indexFP 41 #[] #[.pointer (some ⟨bq, 0, none⟩), .pointer (some ⟨w.heap.size, 0, none⟩)] (enters_of Try.func41 (by kernel_rfl) rfl) (freeIn r L) _ cl L (Nat.le_trans hl8.out (by decide)) wr hrl.out.pairs HT.out).mono fun e w' ⟨n, h1, h2, _, h3⟩ => ⟨by rw [h1, h3, HIP.out], h2⟩
        have hcast : ((idx + 1 : Nat) : Int) = (idx : Int) + 1 := by omega
        have HDEL := fun (W : World) (h : RowQ (w.heap.size + 1) W (.slice (some ⟨g, 0, none⟩) L.length cl) L) => hid (hcast ▸ c_deleteQ (w.heap.size + 1) g cl L (Nat.le_trans hl8.out (by decide)) idx (idx + 1) hidx rfl W h)
        have hiI : (idx : Int) < (L.length : Int) := by omega
        have hi0 : (0 : Int) ≤ (idx : Int) := by omega
        have hi8 : (idx : Int) ≤ 8 := by have := hl8.out; omega
        have e1 : IntKind.i64.wrap ((idx : Int) + 1) = (idx : Int) + 1 := IntWalk.i64_in _ (by omega)
        have HID := hid hidx
        have HLp := hid hLp
        have C0 := hid c0
        have C1 := hid c1
        clear hp hpp e c0 c1 HT hie hcast hidx hL0 hLp
        go_wp2_with (first
          | (go_at_call 40; ((with_reducible refine HIF.out.mono ?_); rintro e w5 ⟨rfl, hb5⟩); have HB5 := hid hb5; have LB5 := Nat.le_trans LB hb5.size; have q5 : w5.cell? ⟨bq, 0, none⟩ = some (.slice (some ⟨g, 0, none⟩) L.length cl) := (hb5.cell (p := ⟨bq, 0, none⟩) hbl).trans q0; have c05 := (hb5.cell (p := ⟨g, _, none⟩) hgl).trans C0.out; have c15 := (hb5.cell (p := ⟨g, _, none⟩) hgl).trans C1.out; have HRO5 := hid (hro.out.below hb5 (Nat.le_refl _)); have HRL5 := hid (hrl.out.below hb5 (Nat.le_refl _)); have HBX5 := hid (block_below hb5 hbx.out hbl); clear hb5)
          | ((with_reducible refine gate (N := 31) rfl ?_); (refine wp_app1Q rfl (.tmp 25) (.tmp 30) rfl (w.heap.size + 1) (.slice Ao out.length co) out p1 p2 HRO5.out rfl w5.heap.size rfl (Nat.le_trans ho8.out (by omega)) LB5 rfl ?_); intro v' w6 hown hg; obtain ⟨A6, c6, rfl⟩ := owns_slc hown; have HBX6 := hid (hg.block bq _ HBX5.out (fun e => by have := hoo.out bq e; omega)); have q6 : w6.cell? ⟨bq, 0, none⟩ = some (.slice (some ⟨g, 0, none⟩) L.length cl) := cell_block HBX6.out rfl; have HG6 := hid hg; have HRO6 := hid hown; have HRL6 : Hid (RowQ (w.heap.size + 1) w6 (.slice (some ⟨g, 0, none⟩) L.length cl) L) := hg.row HRL5.out (fun g' h1 h2 => by have := hol.out g' h1; have := hoo.out g' h2; omega); have HD6 := hid (HDEL w6 HRL6.out).out; clear hg hown)
          | (go_at_call 43; ((with_reducible refine HD6.out.mono ?_); rintro e w7 ⟨rfl, hb7, hk7, hr7⟩); have HB7 := hid hb7; have HK7 := hid hk7; have HR7 := hid hr7; have HBX7 := hid (hk7 bq _ (by omega) HBX6.out); have q7 : w7.cell? ⟨bq, 0, none⟩ = some (.slice (some ⟨g, 0, none⟩) L.length cl) := cell_block HBX7.out rfl; have f7 : w7.frozen? ⟨bq, 0, none⟩ = false := frozen_of_row _ _ _ _ _ HBX7.out; clear hb7 hk7 hr7))
        have hel : (L.eraseIdx idx).length = L.length - 1 := List.length_eraseIdx_of_lt HID.out
        have hLpos := HLp.out
        have hbxN := heap_setCell_same w7 bq 0 _ _ (.slice (some ⟨g, 0, none⟩) (L.length - 1) cl) HBX7.out
        have hown6 : ∀ g', (Value.slice A6 (out ++ [(p1, p2)]).length c6).ownBlock = some g' → bq < g' := fun g' h => by
          rcases HG6.out.own g' h with h1 | h1
          · exact hoo.out g' h1
          · have := HB5.out.size; omega
        have hb6 : Below (w.heap.size + 1) w5 w6 := HRO5.out.belowG HG6.out LB5
        have hbAll := ((hb.out.trans (HB5.out.mono LB)).trans hb6).trans HB7.out
        have hro7 : RowQ (w.heap.size + 1) w7 (.slice A6 (out ++ [(p1, p2)]).length c6) (out ++ [(p1, p2)]) := owns_keep HRO6.out (fun g' o h1 h2 => HK7.out g' o (by have := hown6 g' h1; omega) h2)
        refine ⟨⟨some ⟨g, 0, none⟩, cl, out ++ [(p1, p2)], L.eraseIdx idx, ?_, ?_, ?_, fun g' h => hol.out g' h, ?_, hbAll.setCell (p := ⟨bq, 0, none⟩) LQ.out _, ?_, fun p hp => hal.out p (List.mem_of_mem_eraseIdx hp), ?_, ?_⟩, ?_⟩
        · show _ = _
          rw [hel]; exact hbxN
        · show RowQ _ _ _ _
          rw [hel]
          exact HR7.out.setO (fun e => by have := hol.out bq e; omega) 0 _
        · have := hro7.setO (g := bq) (fun e => by have := hown6 bq e; omega) 0 (.slice (some ⟨g, 0, none⟩) (L.length - 1) cl)
          rw [List.length_append] at this
          exact this
        · intro g' h
          exact hown6 g' (by rw [List.length_append]; exact h)
        · show _ = _
          rw [List.append_assoc, ← hfe.out, firL_step r HIE.out HPP.out]; rfl
        · show _ ≤ _
          have := hl8.out; omega
        · show _ ≤ _
          have := ho8.out; have := hl8.out; rw [List.length_append, List.length_singleton]; omega
        · have m1 : (w7.setCell ⟨bq, 0, none⟩ (.slice (some ⟨g, 0, none⟩) (L.length - 1) cl)).cell? ⟨bq, 0, none⟩ = some (.slice (some ⟨g, 0, none⟩) (L.length - 1) cl) := cell_block hbxN rfl
          rw [m1, q0]
          show L.length - 1 < L.length
          omega
  · rw [if_neg h0]
    have hk := onceK_cases r l true
    obtain ⟨k, hkk⟩ : ∃ k, k = onceK r l true := ⟨_, rfl⟩
    rw [← hkk] at HC hk h0 ⊢
    have hk0 : (k == 0) = false := by rw [beq_eq_false_iff_ne]; exact h0
    have hk1 : (k != 0) = true := by unfold bne; rw [hk0]; rfl
    clear hkk hA hB hk h0
    go_enter Try.func17, Try.ntmps17
    go_wp2_with (first
      | ((with_reducible refine gate (N := 10) rfl ?_); refine wp_roof 31 Try.underlying31 rfl Try.infoRoof rfl (.tmp 2) rfl w.heap.size rfl r hr HX.out ?_)
      | (go_at_call 28; ((with_reducible refine (HC _ (HA.out.below HW.out (Nat.le_refl _))).out.mono ?_); rintro e w1 ⟨rfl, hb1⟩); have HW1 := hid (HW.out.trans (hb1.mono HW.out.size)); clear hb1))
    go_ret2
    exact ⟨_, rfl, HW1.out, World.ownsRow_nil _ _ _ _⟩
end Go.Proofs.Ytfbgldkdlmipoaa

/- FirstUpward, the reference's. -/
namespace Go.Proofs.Ytfbgldkdlmipoaa
open Go.RowKit
set_option linter.unusedSimpArgs false
set_option linter.unusedVariables false

/-- What the reference has found of the first m places. -/
def freeM (r : Rf) (S out : List (Int × Int)) (p : Int × Int) (m : Nat) : Bool := !decide (p ∈ out) && (S.take m).all fun q => decide (q ∈ out) || !overB r p q
theorem freeM_zero (r : Rf) (S out : List (Int × Int)) (p : Int × Int) : freeM r S out p 0 = !decide (p ∈ out) := by simp [freeM]
theorem freeM_succ (r : Rf) (S out : List (Int × Int)) (p : Int × Int) {m : Nat} {q : Int × Int} (hq : S[m]? = some q) (h : freeM r S out p m = true) : freeM r S out p (m + 1) = (decide (q ∈ out) || !overB r p q) := by
  obtain ⟨hm, rfl⟩ := List.getElem?_eq_some_iff.1 hq
  unfold freeM at h ⊢
  rw [Bool.and_eq_true] at h
  rw [h.1, List.take_succ_eq_append_getElem hm, List.all_append, h.2]
  simp
theorem freeM_all (r : Rf) (S out : List (Int × Int)) (p : Int × Int) : freeM r S out p S.length = freeS r S out p := by unfold freeM freeS; rw [List.take_length]
theorem freeM_no (r : Rf) (S out : List (Int × Int)) (p : Int × Int) {m : Nat} (h : freeM r S out p m = false) : freeS r S out p = false := by
  cases hf : freeS r S out p with
  | false => rfl
  | true =>
    unfold freeS at hf
    unfold freeM at h
    rw [Bool.and_eq_true] at hf
    rw [hf.1, Bool.true_and] at h
    rw [← h]
    rw [List.all_eq_true] at hf
    exact (List.all_eq_true.2 fun q hq => hf.2 q (List.mem_of_mem_take hq)).symm
theorem left_len (r : Rf) {S out : List (Int × Int)} (hn : S.Nodup) {k : Nat} {p : Int × Int} (hk : S[k]? = some p) (hf : freeS r S out p = true) (hb : ∀ j q, j < k → S[j]? = some q → freeS r S out q = false) (hl : out.length + (leftOf S out).length = S.length) {F : List (Int × Int)} (hF : out ++ firL r (leftOf S out).length (leftOf S out) = F) :
    (out ++ [p]) ++ firL r (leftOf S (out ++ [p])).length (leftOf S (out ++ [p])) = F ∧ (out ++ [p]).length + (leftOf S (out ++ [p])).length = S.length := by
  obtain ⟨hkl, rfl⟩ := List.getElem?_eq_some_iff.1 hk
  have h := pick_eq r hkl hf (fun j hj hjk => hb j _ hjk (List.getElem?_eq_getElem hj))
  obtain ⟨hi, he⟩ := List.getElem?_eq_some_iff.1 h
  have hs := left_snoc (out := out) hn hi
  rw [he] at hs
  rw [hs, List.append_assoc, List.length_append]
  constructor
  · rw [← hF, firL_step r rfl h]; rfl
  · rw [List.length_eraseIdx_of_lt hi]; simp only [List.length_singleton]; omega
set_option maxHeartbeats 6400000 in
set_option maxRecDepth 100000 in
theorem c_sFirstUpward (r : Rf) (hr : r.Ok) (A : Option Addr) (c : Nat) (l : List (Int × Int)) (hB : PlB l) (hlen : l.length ≤ 1048576) (hlc : l.length ≤ c) (w : World) (hA : PairsAt .i8 .i8 w A l) :
    Calls Try.prog 16 #[.agg (rcells r), .slice A l.length c] w (RetP w (firV r l) (onceK r l true)) := by
  have HX := hid (block_alloc (block_new1 w (.cells (rcells r) 31) rfl) (.cells #[] 50))
  have HW : Hid (Below w.heap.size w ((w.alloc (.cells (rcells r) 31)).alloc (.cells #[] 50))) := ((Below.refl _ w).alloc (Nat.le_refl _) _).alloc (by simp) _
  have HM := hid (RowQ.made (B := w.heap.size + 1) (w := w.alloc (.cells (rcells r) 31)) (by simp))
  have HM : Hid (RowQ (w.heap.size + 1) ((w.alloc (.cells (rcells r) 31)).alloc (.cells #[] 50)) (.slice (some ⟨w.heap.size + 1, 0, none⟩) 0 0) []) := hid (by have := HM.out; simpa using this)
  obtain ⟨W0, hW0⟩ : ∃ W0, W0 = (w.alloc (.cells (rcells r) 31)).alloc (.cells #[] 50) := ⟨_, rfl⟩
  have HS0 : Hid (w.heap.size + 2 ≤ W0.heap.size) := by rw [hW0]; simp [Hid]
  rw [← hW0] at HX HW HM
  have HA := hid hA
  have HC := fun W h1 h2 => hid (c_l04Once r hr w.heap.size A c l hB hlen hlc true W h1 h2)
  unfold firV
  by_cases h0 : onceK r l true = 0
  · rw [if_pos h0, h0]
    rw [h0] at HC
    obtain ⟨hv, hall, _, h8, hnd, _⟩ := onceK_zero h0
    have HV := hid hv
    have HPL : Hid (∀ p ∈ sortP l, (0 ≤ p.1 ∧ p.1 ≤ 7) ∧ (0 ≤ p.2 ∧ p.2 ≤ 7)) := fun p hp => all_pl hv hall p ((sortP_perm l).mem_iff.1 hp)
    have HND : Hid ((sortP l).Nodup) := (sortP_nodup l).2 hnd
    have HQ := fun W h => hid (c_l04Sorted A c l (by omega) W h)
    have hSL := sortP_lenQ l
    obtain ⟨F, hF⟩ : ∃ F, F = firL r l.length (sortP l) := ⟨_, rfl⟩
    have HF : Hid (firL r (sortP l).length (sortP l) = F) := by rw [hF, sortP_lenQ]; rfl
    rw [← hF]
    obtain ⟨S, hS⟩ : ∃ S, S = sortP l := ⟨_, rfl⟩
    rw [← hS] at HPL HND HQ hSL HF
    have hS8 : S.length ≤ 8 := by omega
    have HS8 := hid hS8
    clear h0 hv hall hA hB hlen hF h8 hnd hS hSL hS8
    go_enter Try.func16, Try.ntmps16
    go_wp2_with (first
      | (go_at_call 24; rw [← hW0]; ((with_reducible refine (HC _ HX.out (HA.out.below HW.out (Nat.le_refl _))).out.mono ?_); rintro e w1 ⟨rfl, hb1⟩); have B1 := hid hb1; have HX1 := hid (block_below hb1 HX.out (block_lt HX.out)); have HW1 := hid (HW.out.trans (hb1.mono HW.out.size)); clear hb1)
      | (go_at_call 35; ((with_reducible refine (HQ _ (HA.out.below HW1.out (Nat.le_refl _))).out.mono ?_); rintro e w2 ⟨v, rfl, hb2, hr2⟩); obtain ⟨As, cs, rfl⟩ := owns_slc hr2; have B2 := hid hb2; have HR2 := hid hr2; clear hb2 hr2))
    have L01 : w.heap.size + 2 ≤ w1.heap.size := Nat.le_trans HS0.out B1.out.size
    have hb02 := B1.out.trans (B2.out.mono B1.out.size)
    have HX2 := hid (block_below B2.out HX1.out (block_lt HX1.out))
    have HW2 := hid (HW1.out.trans (B2.out.mono HW1.out.size))
    have HO2 := hid (HM.out.below hb02 (Nat.le_refl _))
    have HSr : Hid (RowQ (w.heap.size + 1) w2 (.slice As S.length cs) S) := World.ownsRow.mono HR2.out (by omega)
    have HAP : Hid (Apart (.slice As S.length cs) (.slice (some ⟨w.heap.size + 1, 0, none⟩) 0 0)) := fun g h1 h2 => by
      have h3 := (World.ownsRow.lt HR2.out g h1).1
      simp [Value.ownBlock] at h2
      omega
    have HF0 : Hid ([] ++ firL r (leftOf S []).length (leftOf S []) = F) := by rw [left_nil]; exact HF.out
    have HL0 : Hid (([] : List (Int × Int)).length + (leftOf S []).length = S.length) := by rw [left_nil]; simp [Hid]
    clear HM HW1 HX1 B1 B2 HF hb02 L01 HR2
    go_loopw [6] (fun vo wr => ∃ out : List (Int × Int), Hid (RowQ (w.heap.size + 1) wr vo out) ∧ Hid (RowQ (w.heap.size + 1) wr (.slice As S.length cs) S) ∧ Hid (Apart (.slice As S.length cs) vo) ∧ Hid (Below w.heap.size w wr) ∧ Hid (wr.heap[w.heap.size]? = some (.cells (rcells r) 31 (0,0))) ∧ Hid (out ++ firL r (leftOf S out).length (leftOf S out) = F) ∧ Hid (out.length + (leftOf S out).length = S.length))
      (fun vo _ => match vo with | .slice _ n _ => S.length - n | _ => 0)
    case atStart => exact ⟨[], HO2.out, HSr.out, HAP.out, HW2.out, HX2.out, HF0.out, HL0.out⟩
    case round =>
      clear HO2 HSr HAP HW2 HX2 HF0 HL0
      obtain ⟨wo, rfl⟩ : ∃ W, W = wr := ⟨_, rfl⟩
      obtain ⟨out, hro, hsr, hap, hb, hx, hfe, hle⟩ := hrel
      obtain ⟨Ao, co, rfl⟩ := owns_slc hro.out
      have LX := hid (block_lt hx.out)
      have LW : w.heap.size + 1 ≤ wo.heap.size := LX.out
      by_cases hlt : out.length < S.length
      · have hd : decide ((out.length : Int) < (S.length : Int)) = true := decide_eq_true (by omega)
        have HLT := hid hlt
        go_wp2_with fail
        go_loopw [6, 9] (fun vo i wm => ∃ k : Nat, vo = .slice Ao out.length co ∧ k ≤ S.length ∧ i = .int .i64 k ∧ Hid (Below wo.heap.size wo wm) ∧ Hid (∀ j q, j < k → S[j]? = some q → freeS r S out q = false)) (fun _ i _ => S.length - (intOf i).toNat)
        case atStart => exact ⟨0, rfl, by omega, rfl, Below.refl _ _, fun j q h => absurd h (by omega)⟩
        case round =>
          obtain ⟨wm, rfl⟩ : ∃ W, W = wr := ⟨_, rfl⟩
          obtain ⟨k, rfl, hk, rfl, hbm, hno⟩ := hrel
          by_cases hkl : k < S.length
          · have hd1 : decide ((k : Int) < (S.length : Int)) = true := decide_eq_true (by omega)
            have hkI : (k : Int) < (S.length : Int) := by omega
            have hk0 : (0 : Int) ≤ (k : Int) := by omega
            have hk8 : (k : Int) ≤ 8 := by have := HS8.out; omega
            have hp := List.getElem?_eq_getElem hkl
            obtain ⟨⟨p1, p2⟩, hpp⟩ : ∃ p, p = S[k] := ⟨_, rfl⟩
            rw [← hpp] at hp
            have HP := hid hp
            have hpm := HPL.out (p1, p2) (List.mem_of_getElem? hp)
            dsimp only at hpm
            obtain ⟨g, cg, e, _, hgl, c0, c1, _, _⟩ := (hsr.out.below hbm.out (Nat.le_refl _)).cell hp
            obtain ⟨rfl, -, rfl⟩ : As = some ⟨g, 0, none⟩ ∧ S.length = S.length ∧ cs = cg := by simpa using e
            dsimp only at c0 c1
            have HAS := fun W h => hid (c_l01Has Ao co out (by have := HS8.out; omega) p1 p2 W h)
            have HM0 := hid (freeM_zero r S out (p1, p2))
            obtain ⟨b0, hb0⟩ : ∃ b, b = decide ((p1, p2) ∈ out) := ⟨_, rfl⟩
            rw [← hb0] at HAS HM0
            have HOm := hid (hro.out.below hbm.out (Nat.le_refl _)).pairs
            have HOV := fun q1 q2 hq W h => hid (c_l04Over r hr w.heap.size p1 p2 q1 q2 hpm hq W h)
            clear hp hpp e hb0 hpm
            go_wp2_with (go_at_call 36; ((refine (HAS _ HOm.out).out.mono ?_); rintro e w5 ⟨rfl, hb5⟩); have HB5 := hid (hbm.out.trans (hb5.mono hbm.out.size)); clear hb5)
            go_loopw [10, 11] (fun f q wq => ∃ m : Nat, m ≤ S.length ∧ q = .int .i64 m ∧ f = .bool (freeM r S out (p1, p2) m) ∧ Hid (Below wo.heap.size wo wq)) (fun _ q _ => S.length - (intOf q).toNat)
            case atStart => exact ⟨0, by omega, rfl, by rw [HM0.out], HB5.out⟩
            case round =>
              clear HB5 hgl c0 c1 HOm hbm
              obtain ⟨wq, rfl⟩ : ∃ W, W = wr := ⟨_, rfl⟩
              obtain ⟨m, hm, rfl, rfl, hbq⟩ := hrel
              have hbw := hid (hb.out.trans (hbq.out.mono hb.out.size))
              obtain ⟨fv, hfv⟩ : ∃ b, b = freeM r S out (p1, p2) m := ⟨_, rfl⟩
              rw [← hfv]
              by_cases hml : m < S.length
              · have hd2 : decide ((m : Int) < (S.length : Int)) = true := decide_eq_true (by omega)
                have hmI : (m : Int) < (S.length : Int) := by omega
                have hm0 : (0 : Int) ≤ (m : Int) := by omega
                have hm8 : (m : Int) ≤ 8 := by have := HS8.out; omega
                have hq := List.getElem?_eq_getElem hml
                obtain ⟨⟨q1, q2⟩, hqq⟩ : ∃ p, p = S[m] := ⟨_, rfl⟩
                rw [← hqq] at hq
                have hqm := HPL.out (q1, q2) (List.mem_of_getElem? hq)
                have hrow := hsr.out.below hbq.out (Nat.le_refl _)
                obtain ⟨g', cg', e', _, hgl, c0, c1, _, _⟩ := hrow.cell HP.out
                obtain ⟨rfl, -, rfl⟩ : g = g' ∧ S.length = S.length ∧ cs = cg' := by simpa using e'
                obtain ⟨g', cg', e2, _, _, d0, d1, _, _⟩ := hrow.cell hq
                obtain ⟨rfl, -, rfl⟩ : g = g' ∧ S.length = S.length ∧ cs = cg' := by simpa using e2
                dsimp only at c0 c1 d0 d1
                have HOq := hid (hro.out.below hbq.out (Nat.le_refl _)).pairs
                have HXq := hid (block_below hbq.out hx.out LX.out)
                have LXq := hid (block_lt HXq.out)
                cases fv with
                | false =>
                  have HNO := hid (freeM_no r S out (p1, p2) hfv.symm)
                  clear hfv hq hqq hrow e' e2
                  go_wp2_with fail
                  go_roundw
                  case rel =>
                    refine ⟨k + 1, rfl, by omega, by go_num, hbq.out, fun j q h1 h2 => ?_⟩
                    rcases Nat.lt_succ_iff_lt_or_eq.1 h1 with h3 | rfl
                    · exact hno.out j q h3 h2
                    · rw [HP.out] at h2; cases h2; exact HNO.out
                  case measure => simp [intOf]; omega
                | true =>
                  have HNX := hid (freeM_succ r S out (p1, p2) hq hfv.symm)
                  have HH := fun W h => hid (c_l01Has Ao co out (by have := HS8.out; omega) q1 q2 W h)
                  have HV1 := fun W h => hid (HOV q1 q2 hqm W h).out
                  obtain ⟨b2, hb2⟩ : ∃ b, b = decide ((q1, q2) ∈ out) := ⟨_, rfl⟩
                  obtain ⟨b3, hb3⟩ : ∃ b, b = overB r (p1, p2) (q1, q2) := ⟨_, rfl⟩
                  rw [← hb2] at HH HNX
                  rw [← hb3] at HV1 HNX
                  clear hfv hq hqq hrow e' e2 hqm hb2 hb3 HOV
                  cases b2 with
                  | true =>
                    go_wp2_with fail
                    refine wp_region_ext wq.heap.size (by kernel_rfl) (by kernel_rfl) ?_
                    repeat (go_big_quiet_step ((go_at_call 36; exact Calls.ext (Nat.le_refl _) (HH _ (HOq.out.below (Ext.below _) (Nat.le_refl _))).out)))
                    refine wpQuiet_nil ?_
                    intro x
                    go_wp2_with fail
                    go_roundw
                    case rel => exact ⟨m + 1, by omega, by go_num, by rw [HNX.out]; rfl, hbq.out.trans (x.below.mono hbq.out.size)⟩
                    case measure => simp [intOf]; omega
                  | false =>
                    go_wp2_with fail
                    refine wp_region_ext wq.heap.size (by kernel_rfl) (by kernel_rfl) ?_
                    repeat (go_big_quiet_step (first
                      | (go_at_call 36; exact Calls.ext (Nat.le_refl _) (HH _ (HOq.out.below (Ext.below _) (Nat.le_refl _))).out)
                      | (go_at_call 25; exact Calls.ext (Nat.le_refl _) (HV1 _ (block_below (Ext.below _) HXq.out LXq.out)).out)))
                    refine wpQuiet_nil ?_
                    intro x
                    go_wp2_with fail
                    go_roundw
                    case rel => exact ⟨m + 1, by omega, by go_num, by rw [HNX.out, Bool.false_or], hbq.out.trans (x.below.mono hbq.out.size)⟩
                    case measure => simp [intOf]; omega
              · obtain rfl : m = S.length := by omega
                have hd2 : decide ((S.length : Int) < (S.length : Int)) = false := decide_eq_false (by omega)
                rw [freeM_all] at hfv
                have hrow := hsr.out.below hbq.out (Nat.le_refl _)
                obtain ⟨g', cg', e', _, hgl, c0, c1, _, _⟩ := hrow.cell HP.out
                obtain ⟨rfl, -, rfl⟩ : g = g' ∧ S.length = S.length ∧ cs = cg' := by simpa using e'
                dsimp only at c0 c1
                cases fv with
                | false =>
                  have HNO := hid hfv.symm
                  clear hfv hrow e'
                  go_wp2_with fail
                  go_roundw
                  case rel =>
                    refine ⟨k + 1, rfl, by omega, by go_num, hbq.out, fun j q h1 h2 => ?_⟩
                    rcases Nat.lt_succ_iff_lt_or_eq.1 h1 with h3 | rfl
                    · exact hno.out j q h3 h2
                    · rw [HP.out] at h2; cases h2; exact HNO.out
                  case measure => simp [intOf]; omega
                | true =>
                  have HLL := hid (left_len r HND.out HP.out hfv.symm hno.out hle.out hfe.out)
                  have HROq := hid (hro.out.below hbq.out (Nat.le_refl _))
                  have HSRq := hid hrow
                  have LWq : w.heap.size + 1 ≤ wq.heap.size := Nat.le_trans LW hbq.out.size
                  have ho8 : out.length ≤ 1100000 := by have := HS8.out; omega
                  clear hfv hrow e'
                  go_wp2_with ((with_reducible refine gate (N := 73) rfl ?_); (refine wp_app1Q rfl (.tmp 67) (.tmp 72) rfl (w.heap.size + 1) (.slice Ao out.length co) out p1 p2 HROq.out rfl wq.heap.size rfl ho8 LWq rfl ?_); intro v' w6 hown hg; obtain ⟨A6, c6, rfl⟩ := owns_slc hown; have HG6 := hid hg; have HRO6 := hid hown; clear hg hown)
                  go_roundw
                  case rel =>
                    have hb6 : Below (w.heap.size + 1) wq w6 := HROq.out.belowG HG6.out LWq
                    refine ⟨out ++ [(p1, p2)], by rw [List.length_append] at *; exact HRO6.out, HG6.out.row HSRq.out hap.out, ?_, hbw.out.trans (HROq.out.belowG HG6.out LWq |>.mono (Nat.le_succ _)), block_below hb6 (block_below hbq.out hx.out LX.out) (Nat.lt_succ_self _), HLL.out.1, HLL.out.2⟩
                    have := HG6.out.apart HSRq.out hap.out
                    exact fun g' h1 h2 => this g' h1 (by rw [List.length_append]; exact h2)
                  case measure =>
                    show S.length - (out.length + 1) < S.length - out.length
                    have := HLT.out; omega
          · exfalso
            obtain ⟨j, hj, hf⟩ := left_free r HLT.out hle.out
            have := hno.out j _ (by omega) (List.getElem?_eq_getElem hj)
            rw [hf] at this; cases this
      · have hd : decide ((out.length : Int) < (S.length : Int)) = false := decide_eq_false (by omega)
        have HE := hid (show out = F by
          have h1 : leftOf S out = [] := List.eq_nil_of_length_eq_zero (by have := hle.out; omega)
          have := hfe.out
          rw [h1] at this
          simpa [firL] using this)
        have HRO : Hid (RowQ w.heap.size wo (.slice Ao out.length co) out) := World.ownsRow.mono hro.out (Nat.le_succ _)
        go_wp2_with fail
        go_ret2
        refine ⟨_, rfl, hb.out, ?_⟩
        rw [← HE.out]
        exact HRO.out
  · rw [if_neg h0]
    obtain ⟨k, hkk⟩ : ∃ k, k = onceK r l true := ⟨_, rfl⟩
    rw [← hkk] at HC h0 ⊢
    have hk0 : (k == 0) = false := by rw [beq_eq_false_iff_ne]; exact h0
    have hk1 : (k != 0) = true := by unfold bne; rw [hk0]; rfl
    clear hkk hA hB h0
    go_enter Try.func16, Try.ntmps16
    go_wp2_with (go_at_call 24; rw [← hW0]; ((with_reducible refine (HC _ HX.out (HA.out.below HW.out (Nat.le_refl _))).out.mono ?_); rintro e w1 ⟨rfl, hb1⟩); have B1 := hid hb1; have HW1 := hid (HW.out.trans (hb1.mono HW.out.size)); clear hb1)
    go_ret2
    exact ⟨_, rfl, HW1.out, World.ownsRow.mono (HM.out.below B1.out (Nat.le_refl _)) (Nat.le_succ _)⟩
end Go.Proofs.Ytfbgldkdlmipoaa

/- toPlaceS makes slices that are full. -/
namespace Go.Proofs.Ytfbgldkdlmipoaa
open Go.RowKit
set_option linter.unusedSimpArgs false
set_option linter.unusedVariables false
set_option maxHeartbeats 800000 in
set_option maxRecDepth 100000 in
theorem c_toPlaceSF (A : Option Addr) (c : Nat) (l : List (Int × Int)) (hlen : l.length ≤ 1048576) (w : World) (hA : PairsAt .i8 .i8 w A l) :
    Calls Try.prog 11 #[.slice A l.length c] w fun e w' => ∃ (A' : Option Addr), e = .returned (.slice A' l.length l.length) ∧ Below w.heap.size w w' ∧ OwQ w.heap.size w'.heap.size w' (.slice A' l.length l.length) l := by
  obtain ⟨i0, hi, hz0, hz1, hz2⟩ := toPlace_parts
  have HA := hid hA; clear hA
  go_enter Try.func11, Try.ntmps11
  go_wp2_with ((with_reducible refine gate (N := 7) rfl ?_); refine wpList_make_full _ rfl (.tmp 6) (.tmp 6) 33 rfl w.heap.size 50 i0 (.agg #[.int .i8 0, .int .i8 0]) 2 Try.underlying33 hi hz0 hz1 .i64 .i64 (l.length : Int) (l.length : Int) l.length rfl rfl rfl rfl (by rw [hz2]; omega) (Nat.le_trans hlen (by decide)) (Nat.le_refl _) ?_; intro w1 hown hgrow)
  have HB1 : Hid (Below w.heap.size w w1) := (Below.refl _ w).grown hgrow (Nat.le_refl _) (fun k hk => by cases hk)
  have HO1 : Hid (OwP w.heap.size w1.heap.size w1 (.slice (some ⟨w.heap.size, 0, none⟩) l.length l.length) (padQ l 0)) := by
    rw [padQ_zero]
    have := made_Q l.length hown
    simpa [Hid] using this
  have hS1 : Hid (w.heap.size ≤ w1.heap.size) := HB1.out.size
  clear hown hgrow
  go_loopw [4] (fun i wr => ∃ k : Nat, k ≤ l.length ∧ i = .int .i64 k ∧ Hid (Below w.heap.size w wr) ∧ Hid (w1.heap.size ≤ wr.heap.size) ∧ Hid (OwP w.heap.size w1.heap.size wr (.slice (some ⟨w.heap.size, 0, none⟩) l.length l.length) (padQ l k))) (fun i _ => l.length - (intOf i).toNat)
  case atStart => exact ⟨0, by omega, rfl, HB1, Nat.le_refl _, HO1⟩
  case round =>
    obtain ⟨k, hk, rfl, hb, hS, hO⟩ := hrel
    by_cases hkl : k < l.length
    · have hd : decide ((k : Int) < (l.length : Int)) = true := decide_eq_true (by omega)
      have hkI : (k : Int) < (l.length : Int) := by omega
      have hk0 : (0 : Int) ≤ (k : Int) := by omega
      have hp := List.getElem?_eq_getElem hkl
      obtain ⟨⟨p1, p2⟩, hpp⟩ : ∃ p, p = l[k] := ⟨_, rfl⟩
      rw [← hpp] at hp
      have HST : Hid ((padQ l k).set k (p1, p2) = padQ l (k + 1)) := padQ_step l k hkl _ hpp
      have HL := hid (padQ_len l k hk)
      obtain ⟨b, off, rfl, r1, r2, r3⟩ := HA.out k _ hp
      dsimp only at r2 r3
      have c0 := (hb.out.cell (p := ⟨b, _, none⟩) r1).trans r2
      have c1 := (hb.out.cell (p := ⟨b, _, none⟩) r1).trans r3
      clear hp hpp r2 r3
      go_wp2_with (go_at_call 27; refine (c_toPlace p1 p2 _).mono ?_; rintro e w2 ⟨rfl, hb2⟩; have O2 := hid (hO.out.below hb2 hS.out); have hb := hid (hb.out.trans (hb2.mono hb.out.size)); have hS := hid (Nat.le_trans hS.out hb2.size); clear hb2; obtain ⟨⟨v0, m0⟩, ⟨v1, m1⟩, m2, m3, m4⟩ := owQ_free O2.out (k := k) (by rw [HL.out]; exact hkl))
      refine ⟨⟨k + 1, by omega, by go_num, Below.setCell (Below.setCell hb.out (p := ⟨w.heap.size, k * 2, none⟩) (Nat.le_refl _) _) (p := ⟨w.heap.size, k * 2 + 1, none⟩) (Nat.le_refl _) _, ?_, ?_⟩, by simp [intOf]; omega⟩
      · have := hS.out; simpa [Hid] using this
      · have h1 := O2.out
        rw [← HL.out] at h1
        have h2 := OwP.put h1 (by rw [HL.out]; exact hkl) p1 p2
        rw [HST.out, HL.out] at h2
        exact h2
    · obtain rfl : k = l.length := by omega
      have hd : decide ((l.length : Int) < (l.length : Int)) = false := decide_eq_false (by omega)
      rw [padQ_all] at hO
      go_wp2_with fail
      go_ret
      exact ⟨_, rfl, hb.out, ⟨hO.out.hi (Nat.le_refl _) hS.out, hb.out.size, Nat.le_refl _⟩⟩
end Go.Proofs.Ytfbgldkdlmipoaa

/- The walk of FnExactFirstUpward. -/
namespace Go.Proofs.Ytfbgldkdlmipoaa
open Go.RowKit
set_option linter.unusedSimpArgs false
set_option linter.unusedVariables false
theorem firL_len (r : Rf) : ∀ (n : Nat) (L : List (Int × Int)), (firL r n L).length ≤ n
  | 0, L => by simp [firL]
  | n + 1, L => by
    unfold firL
    split
    · simp
    · have := firL_len r n (L.eraseIdx (L.findIdx (freeIn r L)))
      rw [List.length_cons]; omega
theorem firV_len (r : Rf) (l : List (Int × Int)) : (firV r l).length ≤ 1048576 := by
  unfold firV
  split
  · rename_i h
    obtain ⟨_, _, _, h8, _, _⟩ := onceK_zero h
    have := firL_len r l.length (sortP l)
    omega
  · simp
set_option maxHeartbeats 6400000 in
set_option maxRecDepth 100000 in
theorem w_FnExactFirstUpward {w : World} (r0 : Rf) (ok0 : r0.Ok) (A1 : Option Addr) (c1 : Nat) (l1 : List (Int × Int)) (lc1 : l1.length ≤ c1) (cm1 : c1 ≤ maxLen) (bz1 : ∀ p ∈ l1, (-128 ≤ p.1 ∧ p.1 ≤ 127) ∧ (-128 ≤ p.2 ∧ p.2 ≤ 127)) (rd1 : PairsAt .i8 .i8 w A1 l1) (_w : World) :
    Calls Try.prog 5 #[.agg (rcells r0), .slice A1 l1.length c1] w fun e w' => e = .returned (.bool true) ∧ Below w.heap.size w w' := by
  unfold maxLen at cm1
  by_cases hn1 : l1.length ≤ 1048576
  rotate_left
  · -- the law answers true at once
    have HZ0 := hid (c_szPlaceS A1 c1 l1.length (by omega) 1048576 (by omega))
    rw [if_neg (by omega)] at HZ0
    have T0 : Hid True := trivial
    clear rd1 bz1
    go_enter Try.func5, Try.ntmps5
    go_wp2_with (first
      | (go_at_call 8; clear T0; ((with_reducible refine (HZ0.out _).mono ?_); rintro e w1 ⟨rfl, rfl⟩)))
    go_ret
    exact ⟨rfl, (Below.refl _ w).alloc (Nat.le_refl _) _⟩
  have hlen1 : l1.length ≤ 1048576 := by omega
  obtain ⟨R0, hR0⟩ : ∃ x, x = firV r0 l1 := ⟨_, rfl⟩
  have lenR0 : R0.length ≤ 1048576 := by rw [hR0]; exact firV_len r0 l1
  obtain ⟨R1, hR1⟩ : ∃ x, x = onceK r0 l1 true := ⟨_, rfl⟩
  have Hs := fun (A1' : Option Addr)  (w' : World) (h1 : PairsAt .i8 .i8 w' A1' l1) => hid (c_sFirstUpward r0 ok0 A1' l1.length l1 bz1 hlen1 (Nat.le_refl _) w' h1)
  rw [← hR0] at Hs
  rw [← hR1] at Hs
  have Hi := fun (A1' : Option Addr)  (w' : World) (h1 : PairsAt .i8 .i8 w' A1' l1) => hid (c_FirstUpward r0 ok0 A1' l1.length l1 bz1 hlen1 w' h1)
  rw [← hR0] at Hi
  rw [← hR1] at Hi
  have HT1 := fun (w' : World) h => hid (c_toPlaceSF A1 c1 l1 hlen1 w' h)
  have HZ0 := hid (c_szPlaceS A1 c1 l1.length (by omega) 1048576 (by omega))
  rw [if_pos (by omega)] at HZ0
  obtain ⟨q0, hq0⟩ : ∃ q : Int, q = 1048576 - (l1.length : Int) := ⟨_, rfl⟩
  rw [← hq0] at HZ0
  have hz0 : decide (q0 < 0) = false := decide_eq_false (by omega)
  have hne1 : (R1 != R1) = false := by simp
  have RD1 := hid rd1
  have LE1 := hid hlen1
  have LER0 := hid lenR0
  obtain ⟨M0, hM0⟩ : ∃ m : Int, m = 1 + 2 * (l1.length : Int) := ⟨_, rfl⟩
  obtain ⟨M1, hM1⟩ : ∃ m : Int, m = 1 + 2 * (R0.length : Int) := ⟨_, rfl⟩
  have HMM0 : ∀ (lo hi : Nat) {v : Value} {w' : World}, OwQ lo hi w' v l1 → Calls Try.prog 18 #[v, .int .i64 1] w' fun e w2 => e = .returned (.int .i64 M0) ∧ Below lo w' w2 ∧ OutS lo hi w' w2 ∧ OwQ lo hi w2 v (mkL l1 1 l1.length) := fun lo hi v w' h => by rw [hM0]; exact m_PlaceS (by omega) LE1.out h
  have HHM0 : ∀ (lo hi : Nat) {v : Value} {w' : World}, OwQ lo hi w' v (mkL l1 1 l1.length) → Calls Try.prog 19 #[v, .int .i64 1] w' fun e w2 => e = .returned (.int .i64 M0) ∧ Below w'.heap.size w' w2 := fun lo hi v w' h => by rw [hM0]; exact h_PlaceS (by omega) LE1.out h
  have hmM00 : decide (M0 < 0) = false := decide_eq_false (by omega)
  have hmM01 : (M0 != M0) = false := by simp
  have HMM1 : ∀ (lo hi : Nat) {v : Value} {w' : World}, OwQ lo hi w' v R0 → Calls Try.prog 18 #[v, .int .i64 1] w' fun e w2 => e = .returned (.int .i64 M1) ∧ Below lo w' w2 ∧ OutS lo hi w' w2 ∧ OwQ lo hi w2 v (mkL R0 1 R0.length) := fun lo hi v w' h => by rw [hM1]; exact m_PlaceS (by omega) LER0.out h
  have HHM1 : ∀ (lo hi : Nat) {v : Value} {w' : World}, OwQ lo hi w' v (mkL R0 1 R0.length) → Calls Try.prog 19 #[v, .int .i64 1] w' fun e w2 => e = .returned (.int .i64 M1) ∧ Below w'.heap.size w' w2 := fun lo hi v w' h => by rw [hM1]; exact h_PlaceS (by omega) LER0.out h
  have hmM10 : decide (M1 < 0) = false := decide_eq_false (by omega)
  have hmM11 : (M1 != M1) = false := by simp
  have HHMM0 := hid HMM0; clear HMM0; have HHHM0 := hid HHM0; clear HHM0
  have HHMM1 := hid HMM1; clear HMM1; have HHHM1 := hid HHM1; clear HHM1
  have HX0 := hid (block_new1 w (.cells (rcells r0) 26) rfl)
  have HW : Hid (Below w.heap.size w (w.alloc (.cells (rcells r0) 26))) := (Below.refl _ w).alloc (Nat.le_refl _) _
  clear rd1 bz1 hn1 hlen1 hR0 hR1 lenR0 hM0 hM1 hq0
  have K1 : Hid True := trivial
  have K2 : Hid True := trivial
  have K3 : Hid True := trivial
  have K4 : Hid True := trivial
  have K5 : Hid True := trivial
  have K6 : Hid True := trivial
  have K7 : Hid True := trivial
  have K8 : Hid True := trivial
  have K9 : Hid True := trivial
  have K10 : Hid True := trivial
  have K11 : Hid True := trivial
  have K12 : Hid True := trivial
  have K13 : Hid True := trivial
  have K14 : Hid True := trivial
  have K15 : Hid True := trivial
  have K16 : Hid True := trivial
  have K17 : Hid True := trivial
  have K18 : Hid True := trivial
  have K19 : Hid True := trivial
  go_enter Try.func5, Try.ntmps5
  go_wp2_with (first
    | ((with_reducible refine gate (N := 22) rfl ?_); refine wp_roof 26 Try.underlying26 rfl Try.infoLRoof rfl (.tmp 2) rfl w.heap.size rfl r0 ok0 HX0.out ?_)
    | ((with_reducible refine gate (N := 32) rfl ?_); refine wp_roof 26 Try.underlying26 rfl Try.infoLRoof rfl (.tmp 2) rfl w.heap.size rfl r0 ok0 HX0.out ?_)
    | ((with_reducible refine gate (N := 80) rfl ?_); refine wp_roof 26 Try.underlying26 rfl Try.infoLRoof rfl (.tmp 2) rfl w.heap.size rfl r0 ok0 HX0.out ?_)
    | (go_at_call 8; clear K1; ((with_reducible refine (HZ0.out _).mono ?_); rintro e w1 ⟨rfl, rfl⟩))
    | (go_at_call 10; clear K2; ((with_reducible refine (c_toRoof r0 ok0 _).mono ?_); rintro e w1 ⟨rfl, hb1⟩); replace HX0 := hid (block_below hb1 HX0.out (block_lt HX0.out)); replace HW := hid (HW.out.trans (hb1.mono HW.out.size)); clear hb1)
    | (go_at_call 11; clear K3; (have HRD := hid (RD1.out.below HW.out (Nat.le_refl _))); ((with_reducible refine (HT1 _ HRD.out).out.mono ?_); rintro e w1 ⟨Ax2, rfl, hb1, ho1⟩); have HLox2 := hid HW.out.size; have LX0_x2 := hid (block_lt HX0.out); replace HX0 := hid (block_below hb1 HX0.out (block_lt HX0.out)); replace HW := hid (HW.out.trans (hb1.mono HW.out.size)); have Ox2 := hid ho1; clear hb1 ho1)
    | (go_at_call 16; clear K4; ((with_reducible refine (Hs _ _ Ox2.out.pairs).out.mono ?_); rintro e w1 ⟨vg3_0, rfl, hb1, ho0⟩); have Sx2_g3 := hid Ox2.out.2.2; have HLog3 := hid HW.out.size; have LX0_g3 := hid (block_lt HX0.out); replace Ox2 := hid (Ox2.out.below hb1); replace HX0 := hid (block_below hb1 HX0.out (block_lt HX0.out)); replace HW := hid (HW.out.trans (hb1.mono HW.out.size)); have Og3 := hid (OwQ.of ho0 hb1); obtain ⟨Ag3, cg3, rfl⟩ := owns_slc ho0; clear hb1 ho0)
    | (go_at_call 11; clear K5; (have HRD := hid (RD1.out.below HW.out (Nat.le_refl _))); ((with_reducible refine (HT1 _ HRD.out).out.mono ?_); rintro e w1 ⟨Ax4, rfl, hb1, ho1⟩); have Sx2_x4 := hid Ox2.out.2.2; have Sg3_x4 := hid Og3.out.2.2; have HLox4 := hid HW.out.size; have LX0_x4 := hid (block_lt HX0.out); replace Ox2 := hid (Ox2.out.below hb1); replace Og3 := hid (Og3.out.below hb1); replace HX0 := hid (block_below hb1 HX0.out (block_lt HX0.out)); replace HW := hid (HW.out.trans (hb1.mono HW.out.size)); have Ox4 := hid ho1; clear hb1 ho1)
    | (go_at_call 10; clear K6; ((with_reducible refine (c_toRoof r0 ok0 _).mono ?_); rintro e w1 ⟨rfl, hb1⟩); replace Ox2 := hid (Ox2.out.below hb1); replace Og3 := hid (Og3.out.below hb1); replace Ox4 := hid (Ox4.out.below hb1); replace HX0 := hid (block_below hb1 HX0.out (block_lt HX0.out)); replace HW := hid (HW.out.trans (hb1.mono HW.out.size)); clear hb1)
    | (go_at_call 17; clear K7; ((with_reducible refine (Hi _ _ Ox4.out.pairs).out.mono ?_); rintro e w1 ⟨vg6_0, rfl, hb1, ho0⟩); have Sx2_g6 := hid Ox2.out.2.2; have Sg3_g6 := hid Og3.out.2.2; have Sx4_g6 := hid Ox4.out.2.2; have HLog6 := hid HW.out.size; have LX0_g6 := hid (block_lt HX0.out); replace Ox2 := hid (Ox2.out.below hb1); replace Og3 := hid (Og3.out.below hb1); replace Ox4 := hid (Ox4.out.below hb1); replace HX0 := hid (block_below hb1 HX0.out (block_lt HX0.out)); replace HW := hid (HW.out.trans (hb1.mono HW.out.size)); have Og6 := hid (OwQ.of ho0 hb1); obtain ⟨Ag6, cg6, rfl⟩ := owns_slc ho0; clear hb1 ho0)
    | (go_at_call 13; clear K8; ((with_reducible refine (e_PlaceS LER0.out Og6.out Og3.out).mono ?_); rintro e w1 ⟨rfl, hb1⟩); replace Ox2 := hid (Ox2.out.below hb1); replace Og3 := hid (Og3.out.below hb1); replace Ox4 := hid (Ox4.out.below hb1); replace Og6 := hid (Og6.out.below hb1); replace HX0 := hid (block_below hb1 HX0.out (block_lt HX0.out)); replace HW := hid (HW.out.trans (hb1.mono HW.out.size)); clear hb1)
    | (go_at_call 11; clear K9; (have HRD := hid (RD1.out.below HW.out (Nat.le_refl _))); ((with_reducible refine (HT1 _ HRD.out).out.mono ?_); rintro e w1 ⟨Ax8, rfl, hb1, ho1⟩); have Sx2_x8 := hid Ox2.out.2.2; have Sg3_x8 := hid Og3.out.2.2; have Sx4_x8 := hid Ox4.out.2.2; have Sg6_x8 := hid Og6.out.2.2; have HLox8 := hid HW.out.size; have LX0_x8 := hid (block_lt HX0.out); replace Ox2 := hid (Ox2.out.below hb1); replace Og3 := hid (Og3.out.below hb1); replace Ox4 := hid (Ox4.out.below hb1); replace Og6 := hid (Og6.out.below hb1); replace HX0 := hid (block_below hb1 HX0.out (block_lt HX0.out)); replace HW := hid (HW.out.trans (hb1.mono HW.out.size)); have Ox8 := hid ho1; clear hb1 ho1)
    | (go_at_call 13; clear K10; ((with_reducible refine (e_PlaceS LE1.out Ox4.out Ox8.out).mono ?_); rintro e w1 ⟨rfl, hb1⟩); replace Ox2 := hid (Ox2.out.below hb1); replace Og3 := hid (Og3.out.below hb1); replace Ox4 := hid (Ox4.out.below hb1); replace Og6 := hid (Og6.out.below hb1); replace Ox8 := hid (Ox8.out.below hb1); replace HX0 := hid (block_below hb1 HX0.out (block_lt HX0.out)); replace HW := hid (HW.out.trans (hb1.mono HW.out.size)); clear hb1)
    | (go_at_call 18; clear K11; ((with_reducible refine (HHMM0.out _ _ Ox4.out).mono ?_); rintro e w1 ⟨rfl, hb1, hq1, ho1⟩); replace Ox2 := hid (Ox2.out.outS hq1 (.inl Sx2_x4.out)); replace Og3 := hid (Og3.out.outS hq1 (.inl Sg3_x4.out)); replace Og6 := hid (Og6.out.outS hq1 (.inr Sx4_g6.out)); replace Ox8 := hid (Ox8.out.outS hq1 (.inr Sx4_x8.out)); replace HX0 := hid (hq1.keep HX0.out (.inl LX0_x4.out)); replace HW := hid (HW.out.trans (hb1.mono HLox4.out)); replace Ox4 := hid ho1; clear hb1 hq1 ho1)
    | (go_at_call 13; clear K12; ((with_reducible refine (e_PlaceS LER0.out Og6.out Og3.out).mono ?_); rintro e w1 ⟨rfl, hb1⟩); replace Ox2 := hid (Ox2.out.below hb1); replace Og3 := hid (Og3.out.below hb1); replace Ox4 := hid (Ox4.out.below hb1); replace Og6 := hid (Og6.out.below hb1); replace Ox8 := hid (Ox8.out.below hb1); replace HX0 := hid (block_below hb1 HX0.out (block_lt HX0.out)); replace HW := hid (HW.out.trans (hb1.mono HW.out.size)); clear hb1)
    | (go_at_call 18; clear K13; ((with_reducible refine (HHMM1.out _ _ Og6.out).mono ?_); rintro e w1 ⟨rfl, hb1, hq1, ho1⟩); replace Ox2 := hid (Ox2.out.outS hq1 (.inl Sx2_g6.out)); replace Og3 := hid (Og3.out.outS hq1 (.inl Sg3_g6.out)); replace Ox4 := hid (Ox4.out.outS hq1 (.inl Sx4_g6.out)); replace Ox8 := hid (Ox8.out.outS hq1 (.inr Sg6_x8.out)); replace HX0 := hid (hq1.keep HX0.out (.inl LX0_g6.out)); replace HW := hid (HW.out.trans (hb1.mono HLog6.out)); replace Og6 := hid ho1; clear hb1 hq1 ho1)
    | (go_at_call 19; clear K14; ((with_reducible refine (HHHM1.out _ _ Og6.out).mono ?_); rintro e w1 ⟨rfl, hb1⟩); replace Ox2 := hid (Ox2.out.below hb1); replace Og3 := hid (Og3.out.below hb1); replace Ox4 := hid (Ox4.out.below hb1); replace Og6 := hid (Og6.out.below hb1); replace Ox8 := hid (Ox8.out.below hb1); replace HX0 := hid (block_below hb1 HX0.out (block_lt HX0.out)); replace HW := hid (HW.out.trans (hb1.mono HW.out.size)); clear hb1)
    | (go_at_call 10; clear K15; ((with_reducible refine (c_toRoof r0 ok0 _).mono ?_); rintro e w1 ⟨rfl, hb1⟩); replace Ox2 := hid (Ox2.out.below hb1); replace Og3 := hid (Og3.out.below hb1); replace Ox4 := hid (Ox4.out.below hb1); replace Og6 := hid (Og6.out.below hb1); replace Ox8 := hid (Ox8.out.below hb1); replace HX0 := hid (block_below hb1 HX0.out (block_lt HX0.out)); replace HW := hid (HW.out.trans (hb1.mono HW.out.size)); clear hb1)
    | (go_at_call 11; clear K16; (have HRD := hid (RD1.out.below HW.out (Nat.le_refl _))); ((with_reducible refine (HT1 _ HRD.out).out.mono ?_); rintro e w1 ⟨Ax15, rfl, hb1, ho1⟩); have Sx2_x15 := hid Ox2.out.2.2; have Sg3_x15 := hid Og3.out.2.2; have Sx4_x15 := hid Ox4.out.2.2; have Sg6_x15 := hid Og6.out.2.2; have Sx8_x15 := hid Ox8.out.2.2; have HLox15 := hid HW.out.size; have LX0_x15 := hid (block_lt HX0.out); replace Ox2 := hid (Ox2.out.below hb1); replace Og3 := hid (Og3.out.below hb1); replace Ox4 := hid (Ox4.out.below hb1); replace Og6 := hid (Og6.out.below hb1); replace Ox8 := hid (Ox8.out.below hb1); replace HX0 := hid (block_below hb1 HX0.out (block_lt HX0.out)); replace HW := hid (HW.out.trans (hb1.mono HW.out.size)); have Ox15 := hid ho1; clear hb1 ho1)
    | (go_at_call 17; clear K17; ((with_reducible refine (Hi _ _ Ox15.out.pairs).out.mono ?_); rintro e w1 ⟨vg16_0, rfl, hb1, ho0⟩); have Sx2_g16 := hid Ox2.out.2.2; have Sg3_g16 := hid Og3.out.2.2; have Sx4_g16 := hid Ox4.out.2.2; have Sg6_g16 := hid Og6.out.2.2; have Sx8_g16 := hid Ox8.out.2.2; have Sx15_g16 := hid Ox15.out.2.2; have HLog16 := hid HW.out.size; have LX0_g16 := hid (block_lt HX0.out); replace Ox2 := hid (Ox2.out.below hb1); replace Og3 := hid (Og3.out.below hb1); replace Ox4 := hid (Ox4.out.below hb1); replace Og6 := hid (Og6.out.below hb1); replace Ox8 := hid (Ox8.out.below hb1); replace Ox15 := hid (Ox15.out.below hb1); replace HX0 := hid (block_below hb1 HX0.out (block_lt HX0.out)); replace HW := hid (HW.out.trans (hb1.mono HW.out.size)); have Og16 := hid (OwQ.of ho0 hb1); obtain ⟨Ag16, cg16, rfl⟩ := owns_slc ho0; clear hb1 ho0)
    | (go_at_call 13; clear K18; ((with_reducible refine (e_PlaceS LER0.out Og16.out Og3.out).mono ?_); rintro e w1 ⟨rfl, hb1⟩); replace Ox2 := hid (Ox2.out.below hb1); replace Og3 := hid (Og3.out.below hb1); replace Ox4 := hid (Ox4.out.below hb1); replace Og6 := hid (Og6.out.below hb1); replace Ox8 := hid (Ox8.out.below hb1); replace Ox15 := hid (Ox15.out.below hb1); replace Og16 := hid (Og16.out.below hb1); replace HX0 := hid (block_below hb1 HX0.out (block_lt HX0.out)); replace HW := hid (HW.out.trans (hb1.mono HW.out.size)); clear hb1)
    | (go_at_call 19; clear K19; ((with_reducible refine (HHHM1.out _ _ Og6.out).mono ?_); rintro e w1 ⟨rfl, hb1⟩); replace Ox2 := hid (Ox2.out.below hb1); replace Og3 := hid (Og3.out.below hb1); replace Ox4 := hid (Ox4.out.below hb1); replace Og6 := hid (Og6.out.below hb1); replace Ox8 := hid (Ox8.out.below hb1); replace Ox15 := hid (Ox15.out.below hb1); replace Og16 := hid (Og16.out.below hb1); replace HX0 := hid (block_below hb1 HX0.out (block_lt HX0.out)); replace HW := hid (HW.out.trans (hb1.mono HW.out.size)); clear hb1))
  go_ret
  exact ⟨rfl, HW.out⟩
end Go.Proofs.Ytfbgldkdlmipoaa

/- The row of FnExactFirstUpward: for every input the law returns true, and its arguments read as before. -/
namespace Go.Proofs.Ytfbgldkdlmipoaa.fnExactFirstUpward
open Go.ChangeShapes Go.WideShapes Go.ChangeAt Go.RowKit
open Go.ChangeMaps (open_string shut_string)
set_option linter.unusedVariables false
set_option maxRecDepth 100000 in
theorem lifted (os : Os) (started : os.Started) (H : Type) (enc : TypeId × Value → H) :
    ReturnsInHanded {} Try.checked os 5 .any (Rows.fnExactFirstUpwardSpec.pre6 enc Try.prog Try.f5 Rows.fnExactFirstUpwardRow.domain false) (Rows.fnExactFirstUpwardSpec.post enc Try.prog Try.f5 false true false false) := by
  refine returnsInHanded_of_change_sized (C := Try.checked) Try.own started (by kernel_rfl) Try.func5
    (ChangeSpec.witness6 (enc := enc) (C := Try.checked) false ⟨#[], #[.agg (rcells Rf.zero), .slice none 0 0], []⟩ 8 (by kernel_rfl) (by kernel_rfl) (by kernel_rfl) (by kernel_rfl)) ?_
  intro W base args ds gs before hval0 hW hcnd hsz0 _
  have hsz : (DataW.weightsEach Try.prog (Try.f5.params.toList ++ Rows.fnExactFirstUpwardSpec.plain.varTypes Try.prog) (ds ++ gs)).all (· ≤ reachBytes) = true := hsz0
  have hval : ∀ (j : Nat) t v, Try.f5.params[j]? = some t → args[j]? = some v → Value.okWide Try.prog W .any base t v := hval0
  have hW' := hW
  obtain ⟨p, q, hA0, hV, rfl, hfz, hnd⟩ := hW
  have hA : DataW.TrodAll enc Try.prog W 0 (fun _ => true) true Try.f5.params.toList args.toList ds p := hA0
  rw [Try.params5] at hA hval hsz
  obtain ⟨v0, vs0, d0, ds0, p0, q0, hargs, rfl, rfl, h0, r0⟩ := trodAll_cons hA
  obtain ⟨v1, vs1, d1, ds1, p1, q1, rfl, rfl, rfl, h1, r1⟩ := trodAll_cons r0
  obtain ⟨rfl, rfl, rfl⟩ := trodAll_nil r1
  obtain rfl : args = #[v0, v1] := by cases args; simp_all
  obtain ⟨rfl, rfl⟩ := trodVars_none hV
  have h0k := h0
  obtain ⟨R0, rfl, ok0⟩ := open_roof (hval 0 _ v0 rfl rfl) h0
  have h1k := h1
  obtain ⟨A1, c1, zs1, rfl, lc1, cm1, bz1, rd1⟩ := open_places (hval 1 _ v1 rfl rfl) h1
  clear hA0 hval0 hsz0 hsz
  have hlt := fun x hx => hW'.lt x hx
  try simp only [List.append_nil, List.mem_append] at hlt
  refine (w_FnExactFirstUpward R0 ok0 A1 c1 zs1 lc1 cm1 bz1 rd1 W).mono fun e W' ⟨he, bel⟩ => ?_
  subst he
  exact ⟨_, rfl, _, _, _, [], p0 ++ (p1 ++ []), [], hW', trodAll_mk1 (shut_bool Try.underlying4 _), (trodAll_cons_mk (Below.trod Try.laidOut (by kernel_rfl) (of_decide_eq_true (by kernel_rfl)) h0k bel (fun x hx => hlt x (.inl hx))) (trodAll_cons_mk (Below.trod Try.laidOut (by kernel_rfl) (of_decide_eq_true (by kernel_rfl)) h1k bel (fun x hx => hlt x (.inr (hx)))) trodAll_mk0)), rfl, bel.frame _, fun h => by cases h⟩
set_option maxHeartbeats 8000000 in
theorem facts : joinedFacts Try.checked.prog 5 Try.f5 Rows.fnExactFirstUpwardSpec Rows.fnExactFirstUpwardRow = true := by
  unfold joinedFacts
  repeat (with_reducible refine and_mk ?_ (by as_aux_lemma => kernel_rfl))
  as_aux_lemma => kernel_rfl
set_option maxHeartbeats 8000000 in
theorem over : Rows.fnExactFirstUpwardRow.holds Try.pinned (OpenSpec.ofChange Rows.fnExactFirstUpwardSpec) :=
  OpenClaim.holds_of_wide 5 Try.f5 rfl rfl rfl rfl rfl rfl rfl ⟨rfl, rfl, rfl, rfl, rfl⟩ rfl rfl rfl rfl rfl (by as_aux_lemma => kernel_rfl) Try.func5 facts
    (of_decide_eq_true (by as_aux_lemma => kernel_rfl)) (by unfold Func.isWrapper; first | (rw [if_pos (by decide +kernel)]; kernel_rfl) | (rw [if_neg (by decide +kernel)]; exact ⟨rfl, rfl⟩))
    (fun os started H enc _ => lifted os started H enc)
theorem proved : Rows.FnExactFirstUpwardSaid := over
end Go.Proofs.Ytfbgldkdlmipoaa.fnExactFirstUpward
namespace Go.Proofs.Ytfbgldkdlmipoaa
theorem fnExactFirstUpward_holds : Rows.FnExactFirstUpwardSaid := fnExactFirstUpward.proved
end Go.Proofs.Ytfbgldkdlmipoaa
