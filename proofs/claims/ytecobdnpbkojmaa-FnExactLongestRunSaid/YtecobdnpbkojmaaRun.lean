/- LongestRun, the program's and the reference's. -/
import Derived.Test.YtecobdnpbkojmaaRunP
import Derived.Test.YtecobdnpbkojmaaLawP
namespace Go.Proofs.Ytecobdnpbkojmaa
open Go.RowKit
set_option linter.unusedSimpArgs false
set_option linter.unusedVariables false

/-- A result of three: a place, a length, a code. -/
def RetL (r : Rf) (n : Int) (w : World) (e : Ending) (w' : World) : Prop := ∃ c t m k : Int, IsLong r n c t m k ∧ e = .returned (.tuple #[.agg #[.int .i8 c, .int .i8 t], .int .i64 m, .int .i64 k]) ∧ Below w.heap.size w w'
theorem results_cell_tmp2' {fn : Func} {p u v : Tmp} {ty : TypeId} (h : fn.results = #[.cell p ty, .tmp u, .tmp v]) (tmps : Array Value) (P : Program) (w : World) :
    (results fn tmps).run P w =
      ((asAddr (tmps.getD p undef)).run P w).andThen fun a w₁ => ((loadVar ty a).run P w₁).andThen fun x w₂ => .ok (.tuple #[x, tmps.getD u undef, tmps.getD v undef]) w₂ := by
  simp only [results, h]
  simp [Sem.run_bind, Result.andThen]
theorem Try.infoPlace2 : (Try.prog.info? 43).map (·.size) = some 2 := by kernel_rfl
theorem res_place2 {fn : Func} {p u v : Tmp} (h : fn.results = #[.cell p 43, .tmp u, .tmp v]) (tmps : Array Value) (w : World) (g : Nat) (c t : Int) {T : TypeId} {fr : Nat × Nat} (x y : Value) (hp : tmps.getD p undef = .pointer (some ⟨g, 0, none⟩))
    (hg : w.heap[g]? = some (.cells #[.int .i8 c, .int .i8 t] T fr)) (hx : tmps.getD u undef = x) (hy : tmps.getD v undef = y) : (results fn tmps).run Try.prog w = .ok (.tuple #[.agg #[.int .i8 c, .int .i8 t], x, y]) w := by
  have hl := run_loadVar_mid (P := Try.prog) w g 0 43 [.int .i8 c, .int .i8 t] _ (by
    intro j v hv
    rw [cell_of_row w g (0 + j) _ _ _ hg]
    simpa using hv) Try.underlying43 rfl (by rw [Try.infoPlace2]; rfl)
  rw [results_cell_tmp2' h, hp, hx, hy]
  simp [asAddr, hl]
theorem block2_put {W : World} {b : Nat} {x y : Value} {T : TypeId} (h : W.heap[b]? = some (.cells #[x, y] T (0, 0))) (x' y' : Value) :
    ((W.setCell ⟨b, 0, none⟩ x').setCell ⟨b, 1, none⟩ y').heap[b]? = some (.cells #[x', y'] T (0, 0)) := by
  have h1 := heap_setCell_same W b 0 _ T x' h
  have h2 := heap_setCell_same _ b 1 _ T y' h1
  simpa using h2
set_option maxHeartbeats 1600000 in
set_option maxRecDepth 100000 in
theorem c_LongestRun (r : Rf) (hr : r.Ok) (n : Int) (hn : -9223372036854775808 ≤ n ∧ n ≤ 9223372036854775807) (w : World) : Calls Try.prog 23 #[.agg (rcells r), .int .i64 n] w (RetL r n w) := by
  have key : ∀ (k : Int) (g : Bool), inB n 0 3 = g → codeOf (validB r) g = k → (k = 1 ∨ k = 2 ∨ k = 0) → Calls Try.prog 23 #[.agg (rcells r), .int .i64 n] w (RetL r n w) := by
    intro k g hg hk hcs
    have HG := hid hg
    have HK := hid hk
    have HV0 : Hid (k = 0 → validB r = true ∧ IntKind.u8.wrap n = n) := by
      intro h0
      subst h0
      have := codeOf_zero hk
      rw [this.2, inB_iff] at hg
      refine ⟨this.1, ?_⟩
      simp [IntKind.wrap, IntKind.bits, IntKind.signed]; omega
    have HL0 : Hid (k ≠ 0 → IsLong r n 0 0 0 k) := fun h0 => .inl ⟨by rw [hg, hk]; exact h0, rfl, rfl, rfl, by rw [hg, hk]⟩
    have HK0 : Hid (k = 0 → codeOf (validB r) (inB n 0 3) = 0) := fun h0 => by rw [hg, hk]; exact h0
    clear hg hk hn
    have HP := hid (block_alloc (block_new1 w (.cells (rcells r) 27) rfl) (.cells #[.int .i8 0, .int .i8 0] 43))
    have HQ := hid (block_new1 (w.alloc (.cells (rcells r) 27)) (.cells #[.int .i8 0, .int .i8 0] 43) (n := w.heap.size + 1) (by simp))
    have HW : Hid (Below w.heap.size w ((w.alloc (.cells (rcells r) 27)).alloc (.cells #[.int .i8 0, .int .i8 0] 43))) := ((Below.refl _ w).alloc (Nat.le_refl _) _).alloc (by simp) _
    have L0 : ∀ x : Ext (w.heap.size + 2) ((w.alloc (.cells (rcells r) 27)).alloc (.cells #[.int .i8 0, .int .i8 0] 43)), (Instr.loadAt 27 (.pointer (some ⟨w.heap.size, 0, none⟩))).run Try.prog x.out = .ok (.agg (rcells r)) x.out := fun x =>
      run_load_roof 27 Try.underlying27 rfl Try.infoRoof hr (block_below x.below HP.out (by omega))
    have R0 := hid L0; clear L0
    have HB : Hid (w.heap.size + 2 ≤ ((w.alloc (.cells (rcells r) 27)).alloc (.cells #[.int .i8 0, .int .i8 0] 43)).heap.size) := by simp [Hid]
    have l0 : w.heap.size < w.heap.size + 2 := by omega
    have l1 : w.heap.size + 1 < w.heap.size + 2 := by omega
    rcases hcs with rfl | rfl | rfl
    case inr.inr =>
      have HU := hid (HV0.out rfl).2
      have HV := hid (HV0.out rfl).1
      have HKz := hid (HK0.out rfl)
      clear HV0 HL0 HK0
      have vh := valid_head HV.out
      obtain ⟨W, hW⟩ := Int.eq_ofNat_of_zero_le (by omega : 0 ≤ r.w)
      obtain ⟨H, hH⟩ := Int.eq_ofNat_of_zero_le (by omega : 0 ≤ r.h)
      have W8 : W ≤ 8 := by omega
      have H8 : H ≤ 8 := by omega
      have HWn : Hid (r.w.toNat = W) := by rw [Hid, hW]; simp
      have HHn : Hid (r.h.toNat = H) := by rw [Hid, hH]; simp
      have HRW := hid hW
      have HRH := hid hH
      clear hW hH vh
      go_enter Try.func23, Try.ntmps23
      go_wp2_with fail
      refine wp_region_ext (w.heap.size + 2) (by kernel_rfl) (by kernel_rfl) ?_
      repeat (first
        | ((with_reducible refine wpQuiet_run (N := 13) rfl rfl (.agg (rcells r)) ?_ ?_); (rintro _ ⟨x, rfl⟩; exact execOp_load rfl rfl (R0.out x)); go_simp)
        | go_big_quiet_step (first | (go_at_call 41; with_reducible exact Calls.ext_same (c_isKind n _ _ HG.out)) | (go_at_call 40; with_reducible exact Calls.ext HB.out (c_roofCodeK r hr _ _ HK.out _))))
      refine wpQuiet_nil ?_
      intro x
      have HPx := hid (block_below x.below HP.out (by omega))
      have HQx := hid (block_below x.below HQ.out (by omega))
      have HWx := hid (HW.out.trans (x.below.mono (by omega)))
      have hsx : w.heap.size + 2 ≤ x.out.heap.size := Nat.le_trans HB.out x.below.size
      obtain ⟨X, hX⟩ : ∃ X, X = x.out := ⟨_, rfl⟩
      rw [← hX] at HPx HQx HWx hsx ⊢
      clear hX
      have cW : X.cell? ⟨w.heap.size, 0, none⟩ = some (.int .i8 (W : Int)) := (cell_block HPx.out (rc0 r)).trans (by rw [HRW.out])
      have cH : X.cell? ⟨w.heap.size, 1, none⟩ = some (.int .i8 (H : Int)) := (cell_block HPx.out (rc1 r)).trans (by rw [HRH.out])
      have l2 : w.heap.size < X.heap.size := by omega
      have hu := HU.out
      go_wp2_with fail
      go_loopw [9, 23] (fun m i wr => ∃ (q M c t : Nat), q ≤ H ∧ i = .int .i8 q ∧ m = .int .i64 M ∧ M ≤ 8 ∧ Hid (Scan r n W H q 0 M c t) ∧ Hid (Below X.heap.size X wr) ∧ Hid (wr.heap[X.heap.size]? = some (.cells #[.int .i8 (c : Int), .int .i8 (t : Int)] 43 (0,0)))) (fun _ i _ => H - (intOf i).toNat)
      case atStart => exact ⟨0, 0, 0, 0, by omega, rfl, rfl, by omega, Scan.zero r n W H 0 0, (Below.refl _ X).alloc (Nat.le_refl _) _, block_new1 X _ rfl⟩
      case round =>
        obtain ⟨q, M, c, t, hq, rfl, rfl, hM8, hS, hb, hF⟩ := hrel
        have cWw := (hb.out.cell (p := ⟨w.heap.size, 0, none⟩) l2).trans cW
        by_cases hqH : q < H
        · have hd : decide ((q : Int) < (H : Int)) = true := decide_eq_true (by omega)
          go_wp2_with fail
          clear cWw
          go_loopw [9, 11, 28] (fun m nw i wr => ∃ (k N M c t : Nat), k ≤ W ∧ i = .int .i8 k ∧ m = .int .i64 M ∧ nw = .int .i64 N ∧ M ≤ 8 ∧ N ≤ k ∧ Hid (Scan r n W H q k M c t) ∧ Hid (Now r n q k N) ∧ Hid (Below X.heap.size X wr) ∧ Hid (wr.heap[X.heap.size]? = some (.cells #[.int .i8 (c : Int), .int .i8 (t : Int)] 43 (0,0)))) (fun _ _ i _ => W - (intOf i).toNat)
          case atStart => exact ⟨0, 0, M, c, t, by omega, rfl, rfl, rfl, hM8, by omega, hS, Now.zero r n q, hb, hF⟩
          case round =>
            clear hS hb hF hM8
            obtain ⟨k, N, M, c, t, hk, rfl, rfl, rfl, hM8, hN, hS, hNw, hb, hF⟩ := hrel
            by_cases hkW : k < W
            · have hd2 : decide ((k : Int) < (W : Int)) = true := decide_eq_true (by omega)
              have q8 : q < 8 := by omega
              have k8 : k < 8 := by omega
              have q8i : (q : Int) < 8 := by omega
              have k8i : (k : Int) < 8 := by omega
              have hcell : wr.cell? ⟨w.heap.size, 3 + q * 8 + k, none⟩ = some (.int .u8 (r.at q k)) := (hb.out.cell (p := ⟨w.heap.size, _, none⟩) l2).trans (roof_cell hr HPx.out q k q8 k8)
              have hNM := hS.out.now_le hNw.out hqH (by omega)
              by_cases ha : r.at q k = n
              · have HA := hid ha
                rw [ha] at hcell
                have hne : (n != n) = false := by simp
                clear ha
                by_cases hm : M < N + 1
                · have hm' : (M : Int) < (N : Int) + 1 := by omega
                  have f0 : wr.cell? ⟨X.heap.size, 0, none⟩ = some (.int .i8 (c : Int)) := cell_block hF.out rfl
                  have f1 : wr.cell? ⟨X.heap.size, 1, none⟩ = some (.int .i8 (t : Int)) := cell_block hF.out rfl
                  have f2 : wr.frozen? ⟨X.heap.size, 0, none⟩ = false := frozen_of_row _ _ _ _ _ hF.out
                  have f3 : wr.frozen? ⟨X.heap.size, 1, none⟩ = false := frozen_of_row _ _ _ _ _ hF.out
                  have ev : IntKind.i8.wrap ((N : Int) + 1) = (N : Int) + 1 := by simp [IntKind.wrap, IntKind.bits, IntKind.signed]; omega
                  have HB2 := hid (block2_put hF.out (.int .i8 (q : Int)) (.int .i8 ((k - N : Nat) : Int)))
                  have HS2 := hid (hS.out.hit_yes hNw.out HA.out hqH hkW hm)
                  have HN2 := hid (hNw.out.hit HA.out)
                  have hkN : ((k - N : Nat) : Int) = (k : Int) + 1 - ((N : Int) + 1) := by omega
                  rw [hkN] at HB2
                  have HKN := hid hkN
                  clear hkN
                  go_wp2_with fail
                  refine ⟨⟨k + 1, N + 1, N + 1, q, k - N, by omega, by go_num, by go_num, by go_num, by omega, by omega, HS2.out, HN2.out, ?_, ?_⟩, by simp [intOf]; omega⟩
                  · exact (hb.out.setCell (p := ⟨X.heap.size, 0, none⟩) (Nat.le_refl _) _).setCell (p := ⟨X.heap.size, 1, none⟩) (Nat.le_refl _) _
                  · show _ = _
                    rw [HKN.out]; exact HB2.out
                · have hm' : (N : Int) + 1 ≤ (M : Int) := by omega
                  have HS2 := hid (hS.out.hit_no hNw.out (by omega))
                  have HN2 := hid (hNw.out.hit HA.out)
                  go_wp2_with fail
                  exact ⟨⟨k + 1, N + 1, M, c, t, by omega, by go_num, rfl, by go_num, hM8, by omega, HS2.out, HN2.out, hb, hF⟩, by simp [intOf]; omega⟩
              · have HA := hid ha
                have hne : (r.at q k != n) = true := by simpa using ha
                clear ha
                go_wp2_with fail
                exact ⟨⟨k + 1, 0, M, c, t, by omega, by go_num, rfl, rfl, hM8, by omega, hS.out.miss HA.out, Now.miss HA.out, hb, hF⟩, by simp [intOf]; omega⟩
            · obtain rfl : k = W := by omega
              have hd2 : decide ((k : Int) < (k : Int)) = false := decide_eq_false (by omega)
              go_wp2_with fail
              exact ⟨⟨q + 1, M, c, t, by omega, by go_num, rfl, hM8, hS.out.row, hb, hF⟩, by simp [intOf]; omega⟩
        · obtain rfl : q = H := by omega
          have hd : decide ((q : Int) < (q : Int)) = false := decide_eq_false (by omega)
          clear cWw
          have HQw := hid (block_below hb.out HQx.out (by omega))
          have g0 : wr.cell? ⟨w.heap.size + 1, 0, none⟩ = some (.int .i8 0) := cell_block HQw.out rfl
          have g1 : wr.cell? ⟨w.heap.size + 1, 1, none⟩ = some (.int .i8 0) := cell_block HQw.out rfl
          have g2 : wr.frozen? ⟨w.heap.size + 1, 0, none⟩ = false := frozen_of_row _ _ _ _ _ HQw.out
          have g3 : wr.frozen? ⟨w.heap.size + 1, 1, none⟩ = false := frozen_of_row _ _ _ _ _ HQw.out
          have f0 : wr.cell? ⟨X.heap.size, 0, none⟩ = some (.int .i8 (c : Int)) := cell_block hF.out rfl
          have f1 : wr.cell? ⟨X.heap.size, 1, none⟩ = some (.int .i8 (t : Int)) := cell_block hF.out rfl
          have HBw := hid (HWx.out.trans (hb.out.mono (by omega)))
          by_cases hM0 : M = 0
          · subst hM0
            have HLo : Hid (IsLong r n 0 0 0 6) := by
              have := hS.out
              rw [← HWn.out, ← HHn.out] at this
              exact this.long0 HKz.out
            have HB2 := hid (block2_put HQw.out (.int .i8 0) (.int .i8 0))
            go_wp2_with fail
            exact bodyPost_ret (res_place2 rfl _ _ (w.heap.size + 1) 0 0 _ _ rfl HB2.out rfl rfl) rfl ⟨0, 0, 0, 6, HLo.out, rfl, (HBw.out.setCell (p := ⟨w.heap.size + 1, 0, none⟩) (by simp) _).setCell (p := ⟨w.heap.size + 1, 1, none⟩) (by simp) _⟩
          · have hM1 : ((M : Int) == 0) = false := by simpa using hM0
            have HLo : Hid (IsLong r n c t M 0) := by
              have := hS.out
              rw [← HWn.out, ← HHn.out] at this
              exact this.long hM0 HKz.out
            have HB2 := hid (block2_put HQw.out (.int .i8 (c : Int)) (.int .i8 (t : Int)))
            clear hM0
            go_wp2_with fail
            exact bodyPost_ret (res_place2 rfl _ _ (w.heap.size + 1) c t _ _ rfl HB2.out rfl rfl) rfl ⟨c, t, M, 0, HLo.out, rfl, (HBw.out.setCell (p := ⟨w.heap.size + 1, 0, none⟩) (by simp) _).setCell (p := ⟨w.heap.size + 1, 1, none⟩) (by simp) _⟩
    all_goals
      have HLo := hid (HL0.out (by decide))
      clear HV0 HL0 HK0
      go_enter Try.func23, Try.ntmps23
      go_wp2_with fail
      refine wp_region_ext (w.heap.size + 2) (by kernel_rfl) (by kernel_rfl) ?_
      repeat (first
        | ((with_reducible refine wpQuiet_run (N := 13) rfl rfl (.agg (rcells r)) ?_ ?_); (rintro _ ⟨x, rfl⟩; exact execOp_load rfl rfl (R0.out x)); go_simp)
        | go_big_quiet_step (first | (go_at_call 41; with_reducible exact Calls.ext_same (c_isKind n _ _ HG.out)) | (go_at_call 40; with_reducible exact Calls.ext HB.out (c_roofCodeK r hr _ _ HK.out _))))
      refine wpQuiet_nil ?_
      intro x
      have HQx := hid (block_below x.below HQ.out (by omega))
      have HWx := hid (HW.out.trans (x.below.mono (by omega)))
      have g0 : x.out.cell? ⟨w.heap.size + 1, 0, none⟩ = some (.int .i8 0) := cell_block HQx.out rfl
      have g1 : x.out.cell? ⟨w.heap.size + 1, 1, none⟩ = some (.int .i8 0) := cell_block HQx.out rfl
      have g2 : x.out.frozen? ⟨w.heap.size + 1, 0, none⟩ = false := frozen_of_row _ _ _ _ _ HQx.out
      have g3 : x.out.frozen? ⟨w.heap.size + 1, 1, none⟩ = false := frozen_of_row _ _ _ _ _ HQx.out
      have HB2 := hid (block2_put HQx.out (.int .i8 0) (.int .i8 0))
      go_wp2_with fail
      exact bodyPost_ret (res_place2 rfl _ _ (w.heap.size + 1) 0 0 _ _ rfl HB2.out rfl rfl) rfl ⟨0, 0, 0, _, HLo.out, rfl, (HWx.out.setCell (p := ⟨w.heap.size + 1, 0, none⟩) (by simp) _).setCell (p := ⟨w.heap.size + 1, 1, none⟩) (by simp) _⟩
  exact key _ _ rfl rfl (codeOf_012 _ _)
theorem OwQ.setCell {lo hi : Nat} {w : World} {v : Value} {l : List (Int × Int)} (h : OwQ lo hi w v l) {p : Addr} (hp : p.block < lo ∨ hi ≤ p.block) (x : Value) : OwQ lo hi (w.setCell p x) v l := by
  obtain ⟨⟨A, c, rfl, h1⟩, h2, h3⟩ := h
  refine ⟨⟨A, c, rfl, fun hl => ?_⟩, h2, by simpa [World.setCell] using h3⟩
  obtain ⟨b, cs, g1, g2, g3, g4, g5⟩ := h1 hl
  exact ⟨b, cs, g1, g2, g3, block_set_other g4 x (by omega), g5⟩
/-- What the search of the reference keeps: the best place's block, the places, all that lay before. -/
structure LS (hi : Nat) (w1 wr : World) (A : Option Addr) (c : Nat) (L : List (Int × Int)) (bc bt : Int) : Prop where
  below : Below w1.heap.size w1 wr
  best : wr.heap[w1.heap.size]? = some (.cells #[.int .i8 bc, .int .i8 bt] 43 (0,0))
  own : OwQ (w1.heap.size + 1) hi wr (.slice A L.length c) L
theorem LS.on {hi : Nat} {w1 wr w' : World} {A : Option Addr} {c : Nat} {L : List (Int × Int)} {bc bt : Int} (h : LS hi w1 wr A c L bc bt) (hb : Below wr.heap.size wr w') : LS hi w1 w' A c L bc bt :=
  ⟨h.below.trans (hb.mono h.below.size), block_below hb h.best (block_lt h.best), h.own.below hb⟩
theorem LS.alloc {hi : Nat} {w1 wr : World} {A : Option Addr} {c : Nat} {L : List (Int × Int)} {bc bt : Int} (h : LS hi w1 wr A c L bc bt) (o : Obj) : LS hi w1 (wr.alloc o) A c L bc bt := h.on ((Below.refl _ wr).alloc (Nat.le_refl _) o)
theorem LS.put {hi : Nat} {w1 wr : World} {A : Option Addr} {c : Nat} {L : List (Int × Int)} {bc bt : Int} (h : LS hi w1 wr A c L bc bt) (x y : Int) : LS hi w1 ((wr.setCell ⟨w1.heap.size, 0, none⟩ (.int .i8 x)).setCell ⟨w1.heap.size, 1, none⟩ (.int .i8 y)) A c L x y :=
  ⟨(h.below.setCell (p := ⟨w1.heap.size, 0, none⟩) (Nat.le_refl _) _).setCell (p := ⟨w1.heap.size, 1, none⟩) (Nat.le_refl _) _, block2_put h.best _ _, (h.own.setCell (p := ⟨w1.heap.size, 0, none⟩) (.inl (Nat.lt_succ_self _)) _).setCell (p := ⟨w1.heap.size, 1, none⟩) (.inl (Nat.lt_succ_self _)) _⟩
theorem LS.far {hi : Nat} {w1 wr : World} {A : Option Addr} {c : Nat} {L : List (Int × Int)} {bc bt : Int} (h : LS hi w1 wr A c L bc bt) {p : Addr} (hp : hi ≤ p.block) (x : Value) : LS hi w1 (wr.setCell p x) A c L bc bt :=
  ⟨h.below.setCell (Nat.le_trans (Nat.le_trans (Nat.le_succ _) h.own.2.1) hp) x, block_set_other h.best x (by have := h.own.2.1; omega), h.own.setCell (.inr hp) x⟩
theorem LS.facts {hi : Nat} {w1 wr : World} {ab c : Nat} {L : List (Int × Int)} {bc bt : Int} (h : LS hi w1 wr (some ⟨ab, 0, none⟩) c L bc bt) {j : Nat} {p : Int × Int} (hp : L[j]? = some p) :
    wr.cell? ⟨ab, j * 2, none⟩ = some (.int .i8 p.1) ∧ wr.cell? ⟨ab, j * 2 + 1, none⟩ = some (.int .i8 p.2) ∧ wr.cell? ⟨w1.heap.size, 0, none⟩ = some (.int .i8 bc) ∧ wr.cell? ⟨w1.heap.size, 1, none⟩ = some (.int .i8 bt) ∧
    wr.frozen? ⟨w1.heap.size, 0, none⟩ = false ∧ wr.frozen? ⟨w1.heap.size, 1, none⟩ = false := by
  obtain ⟨b, c1, e, _, _, _, q2, q3⟩ := h.own.1.cells hp
  obtain ⟨rfl, _⟩ : ab = b ∧ c = c1 := by simpa using e
  exact ⟨q2, q3, cell_block h.best rfl, cell_block h.best rfl, frozen_of_row _ _ _ _ _ h.best, frozen_of_row _ _ _ _ _ h.best⟩
set_option maxHeartbeats 3200000 in
set_option maxRecDepth 100000 in
theorem c_sLongestRun (r : Rf) (hr : r.Ok) (n : Int) (hn : -9223372036854775808 ≤ n ∧ n ≤ 9223372036854775807) (w : World) : Calls Try.prog 22 #[.agg (rcells r), .int .i64 n] w (RetL r n w) := by
  have key : ∀ (k : Int) (g : Bool), inB n 0 3 = g → codeOf (validB r) g = k → (k = 1 ∨ k = 2 ∨ k = 0) → Calls Try.prog 22 #[.agg (rcells r), .int .i64 n] w (RetL r n w) := by
    intro k g hg hk hcs
    have HG := hid hg
    have HK := hid hk
    have HV0 : Hid (k = 0 → validB r = true) := by
      intro h0
      subst h0
      exact (codeOf_zero hk).1
    have HL0 : Hid (k ≠ 0 → IsLong r n 0 0 0 k) := fun h0 => .inl ⟨by rw [hg, hk]; exact h0, rfl, rfl, rfl, by rw [hg, hk]⟩
    have HK0 : Hid (k = 0 → codeOf (validB r) (inB n 0 3) = 0) := fun h0 => by rw [hg, hk]; exact h0
    clear hg hk hn
    have HP := hid (block_alloc (block_new1 w (.cells (rcells r) 27) rfl) (.cells #[.int .i8 0, .int .i8 0] 43))
    have HQ := hid (block_new1 (w.alloc (.cells (rcells r) 27)) (.cells #[.int .i8 0, .int .i8 0] 43) (n := w.heap.size + 1) (by simp))
    have HW : Hid (Below w.heap.size w ((w.alloc (.cells (rcells r) 27)).alloc (.cells #[.int .i8 0, .int .i8 0] 43))) := ((Below.refl _ w).alloc (Nat.le_refl _) _).alloc (by simp) _
    have HB : Hid (w.heap.size + 2 ≤ ((w.alloc (.cells (rcells r) 27)).alloc (.cells #[.int .i8 0, .int .i8 0] 43)).heap.size) := by simp [Hid]
    have l0 : w.heap.size < w.heap.size + 2 := by omega
    have l1 : w.heap.size + 1 < w.heap.size + 2 := by omega
    rcases hcs with rfl | rfl | rfl
    case inr.inr =>
      have HV := hid (HV0.out rfl)
      have HKz := hid (HK0.out rfl)
      clear HV0 HL0 HK0
      have vh := valid_head HV.out
      obtain ⟨W, hW⟩ := Int.eq_ofNat_of_zero_le (by omega : 0 ≤ r.w)
      obtain ⟨H, hH⟩ := Int.eq_ofNat_of_zero_le (by omega : 0 ≤ r.h)
      have W8 : W ≤ 8 := by omega
      have H8 : H ≤ 8 := by omega
      have HWn : Hid (r.w.toNat = W) := by rw [Hid, hW]; simp
      have HHn : Hid (r.h.toNat = H) := by rw [Hid, hH]; simp
      have HRW := hid hW
      have HRH := hid hH
      clear hW hH vh
      go_enter Try.func22, Try.ntmps22
      go_wp2_with (first
        | (go_at_call 38; ((with_reducible refine (c_l01Kind n _ _ HG.out).mono ?_); rintro e w1 ⟨rfl, rfl⟩))
        | (go_at_call 37; ((with_reducible refine (c_l01ToldK r hr _ _ _ HK.out _ HP.out).mono ?_); rintro e w1 ⟨rfl, hb1⟩); have b1 := hid hb1; clear hb1)
        | (go_at_call 43; ((with_reducible refine (c_l01All r hr HV.out w.heap.size _ (block_alloc (block_below b1.out HP.out (by simp; omega)) _)).mono ?_); rintro e w2 ⟨va, rfl, hb2, ho2⟩); have b2 := hid hb2; have O2 := hid ho2; clear hb2 ho2))
      obtain ⟨L, hL⟩ : ∃ L, L = allUp r.w.toNat r.h.toNat 0 := ⟨_, rfl⟩
      have HL := hid hL
      rw [← hL] at O2
      have hlen : L.length = H * W := by rw [hL, allUp_len, HWn.out, HHn.out]; rfl
      have HG2 : Hid (∀ j, j < H * W → L[j]? = some (((j / W : Nat) : Int), ((j % W : Nat) : Int))) := fun j hj => by rw [hL, HWn.out, HHn.out]; exact allUp_get W H j hj
      have HP1 := hid (block_below b1.out HP.out (by simp; omega))
      have HQ1 := hid (block_below b1.out HQ.out (by simp))
      have HS1 : Hid (w.heap.size + 2 ≤ w1.heap.size) := Nat.le_trans HB.out b1.out.size
      have HW1 := hid (HW.out.trans (b1.out.mono HW.out.size))
      obtain ⟨A, c, rfl⟩ := owns_slice O2.out
      have HLS : Hid (LS w2.heap.size w1 w2 A c L 0 0) := by
        refine ⟨((Below.refl _ w1).alloc (Nat.le_refl _) _).trans (b2.out.mono (by simp)), block_below b2.out (block_new1 w1 _ rfl) (by simp), ?_⟩
        have := OwQ.of O2.out b2.out
        simpa using this
      have hL64 : L.length ≤ 64 := by have := Nat.mul_le_mul H8 W8; omega
      have HLen := hid hlen
      clear hlen
      clear hL b2 O2
      go_loopw [9, 11] (fun m i wr => ∃ (j M b : Nat) (bc bt : Int), j ≤ L.length ∧ i = .int .i64 j ∧ m = .int .i64 M ∧ M ≤ 8 ∧ Hid (Seek r n W H j M b) ∧ Hid ((M ≠ 0 → bc = ((b / W : Nat) : Int) ∧ bt = ((b % W : Nat) : Int)) ∧ (M = 0 → bc = 0 ∧ bt = 0)) ∧ Hid (LS w2.heap.size w1 wr A c L bc bt)) (fun _ i _ => L.length - (intOf i).toNat)
      case atStart => exact ⟨0, 0, 0, 0, 0, by omega, rfl, rfl, by omega, Seek.zero r n W H 0, ⟨fun h => absurd rfl h, fun _ => ⟨rfl, rfl⟩⟩, HLS⟩
      case round =>
        clear HLS
        obtain ⟨j, M, b, bc, bt, hj, rfl, rfl, hM8, hS, hbc, hLS⟩ := hrel
        by_cases hjl : j < L.length
        · have hd : decide ((j : Int) < (L.length : Int)) = true := decide_eq_true (by omega)
          have hjl' : j < H * W := by rw [← HLen.out]; exact hjl
          have hp := HG2.out j hjl'
          have hWp : 0 < W := by
            rcases Nat.eq_zero_or_pos W with h5 | h5
            · rw [h5, Nat.mul_zero] at hjl'; omega
            · exact h5
          obtain ⟨c0, hc0⟩ : ∃ x, x = j / W := ⟨_, rfl⟩
          obtain ⟨t0, ht0⟩ : ∃ x, x = j % W := ⟨_, rfl⟩
          have hcH : c0 < H := by rw [hc0]; exact (Nat.div_lt_iff_lt_mul hWp).2 hjl'
          have htW : t0 < W := by rw [ht0]; exact Nat.mod_lt _ hWp
          rw [← hc0, ← ht0] at hp
          obtain ⟨ab, c1, e1, r1, r2, q1, q2, q3⟩ := hLS.out.own.1.cells hp
          obtain ⟨rfl, rfl⟩ : A = some ⟨ab, 0, none⟩ ∧ c = c1 := by simpa using e1
          dsimp only at q2 q3
          have HPj := hid hp
          have HC0 := hid hc0
          have HT0 := hid ht0
          have hjL : (j : Int) < (L.length : Int) := by omega
          have hj0 : (0 : Int) ≤ (j : Int) := by omega
          have hlw : w2.heap.size ≤ wr.heap.size := hLS.out.own.2.2
          clear hp e1 hc0 ht0 hjl hjl'
          go_wp2_with fail
          have HR0 : Hid (RunAt r n W c0 t0 0) := RunAt.zero (by omega)
          go_loopw [12, 13] (fun nq pt wx => ∃ (q p : Nat), nq = .int .i64 q ∧ pt = .pointer (some ⟨p, 0, none⟩) ∧ Hid (RunAt r n W c0 t0 q) ∧ w2.heap.size ≤ p ∧ Hid (wx.heap[p]? = some (.cells #[.int .i8 (c0 : Int), .int .i8 ((t0 + q : Nat) : Int)] 43 (0,0))) ∧ Hid (LS w2.heap.size w1 wx (some ⟨ab, 0, none⟩) c L bc bt)) (fun nq _ _ => W - (intOf nq).toNat)
          case atStart => exact ⟨0, wr.heap.size, rfl, rfl, HR0, hlw, block_new1 wr _ rfl, hLS.out.alloc _⟩
          case round =>
            clear HR0 q2 q3
            obtain ⟨q, p, rfl, rfl, hR, hpl, hN, hX⟩ := hrel
            obtain ⟨u, hu⟩ : ∃ u, u = t0 + q := ⟨_, rfl⟩
            rw [← hu] at hN
            have HUu := hid hu; clear hu
            have huW : u ≤ W := by have := hR.out.1; have := HUu.out; omega
            have hqW : q ≤ W := by have := HUu.out; omega
            have RT := hid (block_below hX.out.below HP1.out (block_lt HP1.out))
            have k0 := cell_block hN.out (j := 0) rfl
            have k1 := cell_block hN.out (j := 1) rfl
            have lp := block_lt hN.out
            have c8 : (-128 : Int) ≤ (c0 : Int) ∧ (c0 : Int) ≤ 127 := by omega
            have u8 : (-128 : Int) ≤ (u : Int) ∧ (u : Int) ≤ 127 := by omega
            have C8 := hid c8; have U8 := hid u8
            clear c8 u8
            have hpj := HPj.out
            by_cases hq : u < W
            · have HI : Hid (isPl r c0 u = true) := isPl_true (by have := HRW.out; have := HRH.out; omega)
              have hat := hr.at c0 u
              have hqlt : q < W := by have := HUu.out; omega
              obtain ⟨a, ha⟩ : ∃ a, a = r.at c0 u := ⟨_, rfl⟩
              have HAt := hid ha
              rw [← ha] at hat
              clear ha hpj
              by_cases han : a = n
              · have hn1 : (a == n) = true := by simpa using han
                have HR1 : Hid (RunAt r n W c0 t0 (q + 1)) := hR.out.more (by have := HUu.out; omega) (by rw [← HUu.out, ← HAt.out]; exact han)
                clear han
                go_wp2_with (first
                  | (go_at_call 44; ((with_reducible refine (c_l01Is c0 u C8.out U8.out r hr w.heap.size _ RT.out _ HI.out).mono ?_); rintro e wa ⟨rfl, hba⟩); have BA := hid hba; have k0a := (hba.cell (p := ⟨p, 0, none⟩) lp).trans k0; have k1a := (hba.cell (p := ⟨p, 1, none⟩) lp).trans k1; have RTa := hid (block_below hba RT.out (block_lt RT.out)); have lpa := Nat.lt_of_lt_of_le lp hba.size; clear hba)
                  | (go_at_call 45; ((with_reducible refine (c_l01At r hr w.heap.size c0 u (by omega) (by omega) _ RTa.out).mono ?_); rintro e wb ⟨rfl, hbb⟩); simp only [Int.toNat_natCast]; rw [← HAt.out]; have BB := hid hbb; have k0b := (hbb.cell (p := ⟨p, 0, none⟩) lpa).trans k0a; have k1b := (hbb.cell (p := ⟨p, 1, none⟩) lpa).trans k1a; have lpb := Nat.lt_of_lt_of_le lpa hbb.size; clear hbb))
                refine ⟨⟨q + 1, wb.heap.size, by go_num, rfl, HR1.out, ?_, ?_, ?_⟩, by simp [intOf]; omega⟩
                · omega
                · show _ = _
                  have e : ((t0 + (q + 1) : Nat) : Int) = (u : Int) + 1 := by have := HUu.out; omega
                  rw [e]; exact block_new1 wb _ rfl
                · exact ((hX.out.on BA.out).on BB.out).alloc _
              · have hn1 : (a == n) = false := by simpa using han
                have HR1 : Hid (¬ RunAt r n W c0 t0 (q + 1)) := fun h => han (by have := h.2 q (by omega); rw [← HUu.out] at this; rw [HAt.out]; exact this)
                clear han
                by_cases hM : M < q
                · have hMi : (M : Int) < (q : Int) := by omega
                  have HSn := hid (hS.out.new (by rw [← HC0.out, ← HT0.out]; exact hR.out) (by rw [← HC0.out, ← HT0.out]; exact HR1.out) hM)
                  go_wp2_with (first
                    | (go_at_call 44; ((with_reducible refine (c_l01Is c0 u C8.out U8.out r hr w.heap.size _ RT.out _ HI.out).mono ?_); rintro e wa ⟨rfl, hba⟩); have BA := hid hba; have k0a := (hba.cell (p := ⟨p, 0, none⟩) lp).trans k0; have k1a := (hba.cell (p := ⟨p, 1, none⟩) lp).trans k1; have RTa := hid (block_below hba RT.out (block_lt RT.out)); have lpa := Nat.lt_of_lt_of_le lp hba.size; clear hba)
                    | (go_at_call 45; ((with_reducible refine (c_l01At r hr w.heap.size c0 u (by omega) (by omega) _ RTa.out).mono ?_); rintro e wb ⟨rfl, hbb⟩); simp only [Int.toNat_natCast]; rw [← HAt.out]; have HXb := hid ((hX.out.on BA.out).on hbb); obtain ⟨z0, z1, z2, z3, z4, z5⟩ := HXb.out.facts HPj.out; dsimp only at z0 z1; clear hbb))
                  exact ⟨⟨j + 1, q, j, _, _, by omega, by go_num, rfl, by omega, HSn.out, ⟨fun _ => ⟨by rw [← HC0.out], by rw [← HT0.out]⟩, fun h => by omega⟩, HXb.out.put _ _⟩, by simp [intOf]; omega⟩
                · have hMi : (q : Int) ≤ (M : Int) := by omega
                  have HSn := hid (hS.out.keep (by rw [← HC0.out, ← HT0.out]; exact HR1.out) (by omega))
                  go_wp2_with (first
                    | (go_at_call 44; ((with_reducible refine (c_l01Is c0 u C8.out U8.out r hr w.heap.size _ RT.out _ HI.out).mono ?_); rintro e wa ⟨rfl, hba⟩); have BA := hid hba; have k0a := (hba.cell (p := ⟨p, 0, none⟩) lp).trans k0; have k1a := (hba.cell (p := ⟨p, 1, none⟩) lp).trans k1; have RTa := hid (block_below hba RT.out (block_lt RT.out)); have lpa := Nat.lt_of_lt_of_le lp hba.size; clear hba)
                    | (go_at_call 45; ((with_reducible refine (c_l01At r hr w.heap.size c0 u (by omega) (by omega) _ RTa.out).mono ?_); rintro e wb ⟨rfl, hbb⟩); simp only [Int.toNat_natCast]; rw [← HAt.out]; have HXb := hid ((hX.out.on BA.out).on hbb); clear hbb))
                  exact ⟨⟨j + 1, M, b, bc, bt, by omega, by go_num, rfl, hM8, HSn.out, hbc.out, HXb.out⟩, by simp [intOf]; omega⟩
            · have HI : Hid (isPl r c0 u = false) := isPl_false (by have := HRW.out; have := HRH.out; omega)
              have HR1 : Hid (¬ RunAt r n W c0 t0 (q + 1)) := fun h => by have := h.1; have := HUu.out; omega
              clear hpj
              by_cases hM : M < q
              · have hMi : (M : Int) < (q : Int) := by omega
                have HSn := hid (hS.out.new (by rw [← HC0.out, ← HT0.out]; exact hR.out) (by rw [← HC0.out, ← HT0.out]; exact HR1.out) hM)
                go_wp2_with (go_at_call 44; ((with_reducible refine (c_l01Is c0 u C8.out U8.out r hr w.heap.size _ RT.out _ HI.out).mono ?_); rintro e wa ⟨rfl, hba⟩); have HXb := hid (hX.out.on hba); obtain ⟨z0, z1, z2, z3, z4, z5⟩ := HXb.out.facts HPj.out; dsimp only at z0 z1; clear hba)
                exact ⟨⟨j + 1, q, j, _, _, by omega, by go_num, rfl, by omega, HSn.out, ⟨fun _ => ⟨by rw [← HC0.out], by rw [← HT0.out]⟩, fun h => by omega⟩, HXb.out.put _ _⟩, by simp [intOf]; omega⟩
              · have hMi : (q : Int) ≤ (M : Int) := by omega
                have HSn := hid (hS.out.keep (by rw [← HC0.out, ← HT0.out]; exact HR1.out) (by omega))
                go_wp2_with (go_at_call 44; ((with_reducible refine (c_l01Is c0 u C8.out U8.out r hr w.heap.size _ RT.out _ HI.out).mono ?_); rintro e wa ⟨rfl, hba⟩); have HXb := hid (hX.out.on hba); clear hba)
                exact ⟨⟨j + 1, M, b, bc, bt, by omega, by go_num, rfl, hM8, HSn.out, hbc.out, HXb.out⟩, by simp [intOf]; omega⟩
        · obtain rfl : j = L.length := by omega
          have hd : decide ((L.length : Int) < (L.length : Int)) = false := decide_eq_false (by omega)
          have HQw := hid (block_below hLS.out.below HQ1.out (block_lt HQ1.out))
          have g0 : wr.cell? ⟨w.heap.size + 1, 0, none⟩ = some (.int .i8 0) := cell_block HQw.out rfl
          have g1 : wr.cell? ⟨w.heap.size + 1, 1, none⟩ = some (.int .i8 0) := cell_block HQw.out rfl
          have g2 : wr.frozen? ⟨w.heap.size + 1, 0, none⟩ = false := frozen_of_row _ _ _ _ _ HQw.out
          have g3 : wr.frozen? ⟨w.heap.size + 1, 1, none⟩ = false := frozen_of_row _ _ _ _ _ HQw.out
          have f0 : wr.cell? ⟨w1.heap.size, 0, none⟩ = some (.int .i8 bc) := cell_block hLS.out.best rfl
          have f1 : wr.cell? ⟨w1.heap.size, 1, none⟩ = some (.int .i8 bt) := cell_block hLS.out.best rfl
          have HBw := hid (HW1.out.trans (hLS.out.below.mono HW1.out.size))
          have HSk : Hid (Seek r n r.w.toNat r.h.toNat (r.h.toNat * r.w.toNat) M b) := by
            have := hS.out
            rw [HLen.out] at this
            rw [HWn.out, HHn.out]; exact this
          by_cases hM0 : M = 0
          · subst hM0
            have HLo : Hid (IsLong r n 0 0 0 6) := HSk.out.long0 HKz.out
            have HB2 := hid (block2_put HQw.out (.int .i8 0) (.int .i8 0))
            go_wp2_with fail
            exact bodyPost_ret (res_place2 rfl _ _ (w.heap.size + 1) 0 0 _ _ rfl HB2.out rfl rfl) rfl ⟨0, 0, 0, 6, HLo.out, rfl, (HBw.out.setCell (p := ⟨w.heap.size + 1, 0, none⟩) (by simp) _).setCell (p := ⟨w.heap.size + 1, 1, none⟩) (by simp) _⟩
          · have hM1 : ((M : Int) == 0) = false := by simpa using hM0
            have HLo : Hid (IsLong r n bc bt M 0) := by
              have := HSk.out.long hM0 HKz.out
              rw [HWn.out, ← (hbc.out.1 hM0).1, ← (hbc.out.1 hM0).2] at this
              exact this
            have HB2 := hid (block2_put HQw.out (.int .i8 bc) (.int .i8 bt))
            clear hM0
            go_wp2_with fail
            exact bodyPost_ret (res_place2 rfl _ _ (w.heap.size + 1) bc bt _ _ rfl HB2.out rfl rfl) rfl ⟨bc, bt, M, 0, HLo.out, rfl, (HBw.out.setCell (p := ⟨w.heap.size + 1, 0, none⟩) (by simp) _).setCell (p := ⟨w.heap.size + 1, 1, none⟩) (by simp) _⟩
    all_goals
      have HLo := hid (HL0.out (by decide))
      clear HV0 HL0 HK0
      go_enter Try.func22, Try.ntmps22
      go_wp2_with (first
        | (go_at_call 38; ((with_reducible refine (c_l01Kind n _ _ HG.out).mono ?_); rintro e w1 ⟨rfl, rfl⟩))
        | (go_at_call 37; ((with_reducible refine (c_l01ToldK r hr _ _ _ HK.out _ HP.out).mono ?_); rintro e w1 ⟨rfl, hb1⟩); have b1 := hid hb1; have HQx := hid (block_below hb1 HQ.out (by simp)); have g0 := cell_block HQx.out (j := 0) rfl; have g1 := cell_block HQx.out (j := 1) rfl; have g2 : w1.frozen? ⟨w.heap.size + 1, 0, none⟩ = false := frozen_of_row _ _ _ _ _ HQx.out; have g3 : w1.frozen? ⟨w.heap.size + 1, 1, none⟩ = false := frozen_of_row _ _ _ _ _ HQx.out; clear hb1))
      have HB2 := hid (block2_put HQx.out (.int .i8 0) (.int .i8 0))
      have HWx := hid (HW.out.trans (b1.out.mono HW.out.size))
      exact bodyPost_ret (res_place2 rfl _ _ (w.heap.size + 1) 0 0 _ _ rfl HB2.out rfl rfl) rfl ⟨0, 0, 0, _, HLo.out, rfl, (HWx.out.setCell (p := ⟨w.heap.size + 1, 0, none⟩) (by simp) _).setCell (p := ⟨w.heap.size + 1, 1, none⟩) (by simp) _⟩
  exact key _ _ rfl rfl (codeOf_012 _ _)
end Go.Proofs.Ytecobdnpbkojmaa
