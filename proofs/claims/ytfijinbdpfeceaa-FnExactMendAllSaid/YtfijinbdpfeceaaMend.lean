/- MendAll, the program's and the reference's. -/
import Derived.Test.YtfijinbdpfeceaaTiles
import Derived.Test.YtfijinbdpfeceaaWith
import Derived.Test.YtfijinbdpfeceaaList
import Derived.Deep.RegionHeld3
namespace Go.Proofs.Ytfijinbdpfeceaa
open Go.RowKit
set_option linter.unusedSimpArgs false
set_option linter.unusedVariables false

theorem set_at_eq {r : Rf} (h : r.Ok) {i k i' k' : Nat} (v : Int) (hi : i < 8) (hk : k < 8) (hk' : k' < 8) : (r.set i k v).at i' k' = if i = i' ∧ k = k' then v else r.at i' k' := by
  unfold Rf.set Rf.at
  simp only [List.getD_eq_getElem?_getD, List.getElem?_set]
  by_cases e : 8 * i + k = 8 * i' + k'
  · rw [if_pos e, if_pos (by rw [h.len]; omega), if_pos (by omega)]; rfl
  · rw [if_neg e, if_neg (by omega)]
/-- The roof with the places of a list made whole. -/
def mendL (r : Rf) (l : List (Int × Int)) : Rf := l.foldl (fun r p => r.set p.1.toNat p.2.toNat 0) r
theorem mendL_snoc (r : Rf) (l : List (Int × Int)) (p : Int × Int) : mendL r (l ++ [p]) = (mendL r l).set p.1.toNat p.2.toNat 0 := by simp [mendL]
/-- Places of a table of eight times eight. -/
def Pl8 (l : List (Int × Int)) : Prop := ∀ p ∈ l, (0 ≤ p.1 ∧ p.1 ≤ 7) ∧ (0 ≤ p.2 ∧ p.2 ≤ 7)
theorem mendL_ok {r : Rf} (h : r.Ok) : ∀ l : List (Int × Int), (mendL r l).Ok := by
  intro l
  unfold mendL
  induction l generalizing r with
  | nil => exact h
  | cons p l ih => exact ih (Rf.set_ok h _ _ ⟨by omega, by omega⟩)
theorem mendL_head (r : Rf) (l : List (Int × Int)) : (mendL r l).w = r.w ∧ (mendL r l).h = r.h ∧ (mendL r l).s = r.s := by
  unfold mendL
  induction l generalizing r with
  | nil => exact ⟨rfl, rfl, rfl⟩
  | cons p l ih => have := ih (r.set p.1.toNat p.2.toNat 0); simpa [Rf.set] using this
theorem mendL_at {r : Rf} (h : r.Ok) {l : List (Int × Int)} (hl : Pl8 l) {i k : Nat} (hk : k < 8) : (mendL r l).at i k = if ((i : Int), (k : Int)) ∈ l then 0 else r.at i k := by
  unfold mendL
  induction l generalizing r with
  | nil => simp
  | cons p l ih =>
    have hp := hl p (List.mem_cons_self ..)
    rw [List.foldl_cons, ih (Rf.set_ok h _ _ ⟨by omega, by omega⟩) (fun q hq => hl q (List.mem_cons_of_mem _ hq)), set_at_eq h 0 (by omega) (by omega) hk]
    by_cases h1 : ((i : Int), (k : Int)) ∈ l
    · rw [if_pos h1, if_pos (List.mem_cons_of_mem _ h1)]
    · rw [if_neg h1]
      by_cases h2 : p = ((i : Int), (k : Int))
      · subst h2; rw [if_pos ⟨by simp, by simp⟩, if_pos (List.mem_cons_self ..)]
      · rw [if_neg, if_neg (by intro h3; rcases List.mem_cons.1 h3 with h4 | h4; exact h2 h4.symm; exact h1 h4)]
        rintro ⟨h3, h4⟩
        apply h2
        obtain ⟨p1, p2⟩ := p
        have : p1 = (i : Int) := by have := hp.1; dsimp only at *; omega
        have : p2 = (k : Int) := by have := hp.2; dsimp only at *; omega
        simp_all
theorem mem_allUp {W H c t : Nat} (hc : c < H) (ht : t < W) : ((c : Int), (t : Int)) ∈ allUp W H 0 := by
  simp only [allUp, List.range_zero, List.map_nil, List.append_nil, List.mem_flatMap, List.mem_map, List.mem_range]
  exact ⟨c, hc, t, ht, rfl⟩
/-- Whether a tile is not whole. -/
def wrongAt (r : Rf) (c t : Int) : Bool := r.at c.toNat t.toNat != 0
/-- All tiles that are not whole. -/
def wrongL (r : Rf) : List (Int × Int) := pickL (wrongAt r) (allUp r.w.toNat r.h.toNat 0)
theorem wrongL_8 {r : Rf} (hv : validB r = true) : Pl8 (wrongL r) := fun p hp => by
  have := allUp_mem (List.mem_filter.1 hp).1
  have := valid_head hv
  omega
theorem wrongL_len {r : Rf} (hv : validB r = true) : (wrongL r).length ≤ 64 := by
  have := valid_head hv
  refine Nat.le_trans (pickL_len _ _) ?_
  rw [allUp_len]
  have := Nat.mul_le_mul (by omega : r.h.toNat ≤ 8) (by omega : r.w.toNat ≤ 8)
  omega
/-- A roof without a fault. -/
def Rf.blank (r : Rf) : Rf := { r with t := List.replicate 64 0 }
theorem Rf.blank_ok {r : Rf} (h : r.Ok) : r.blank.Ok := ⟨h.w1, h.w2, h.h1, h.h2, h.s1, h.s2, by simp [Rf.blank], fun n hn => by rw [List.eq_of_mem_replicate hn]; omega⟩
theorem blank_at (r : Rf) (i k : Nat) : r.blank.at i k = 0 := by
  simp only [Rf.blank, Rf.at, List.getD_eq_getElem?_getD, List.getElem?_replicate]
  split <;> rfl
theorem mend_all {r : Rf} (h : r.Ok) (hv : validB r = true) : mendL r (wrongL r) = r.blank := by
  have hh := mendL_head r (wrongL r)
  refine Rf.ext_at (mendL_ok h _) (Rf.blank_ok h) hh.1 hh.2.1 hh.2.2 fun i k hi hk => ?_
  rw [mendL_at h (wrongL_8 hv) hk, blank_at]
  by_cases hz : r.at i k = 0
  · rw [hz]; split <;> rfl
  · rw [if_pos]
    have ht := valid_tile hv hi hk
    have hin := mem_allUp (W := r.w.toNat) (H := r.h.toNat) (c := i) (t := k) (by omega) (by omega)
    refine List.mem_filter.2 ⟨hin, ?_⟩
    simp [wrongAt, hz]
theorem filter_not_len (p : Int × Int → Bool) (l : List (Int × Int)) : (l.filter p).length + (l.filter fun x => !p x).length = l.length := by
  induction l with
  | nil => rfl
  | cons x l ih => cases h : p x <;> simp [List.filter_cons, h] <;> omega
theorem wrong_count {r : Rf} (hv : validB r = true) : r.w * r.h - ((tilesL r 0 (allUp r.w.toNat r.h.toNat 0)).length : Int) = ((wrongL r).length : Int) := by
  have vh := valid_head hv
  have h1 := filter_not_len (fun p => decide (r.at p.1.toNat p.2.toNat = 0)) (allUp r.w.toNat r.h.toNat 0)
  rw [allUp_len] at h1
  have e : (wrongL r) = (allUp r.w.toNat r.h.toNat 0).filter fun x => !(decide (r.at x.1.toNat x.2.toNat = 0)) := by
    unfold wrongL pickL wrongAt
    apply List.filter_congr
    intro x _
    by_cases hx : r.at x.1.toNat x.2.toNat = 0 <;> simp [hx]
  rw [e]
  unfold tilesL
  have e2 : r.w * r.h = ((r.h.toNat * r.w.toNat : Nat) : Int) := by rw [Int.natCast_mul, Int.toNat_of_nonneg (by omega), Int.toNat_of_nonneg (by omega), Int.mul_comm]
  rw [e2]
  omega
theorem slp_of {w : World} {base : Nat} {v : Value} {l : List (Int × Int)} (h : w.ownsRow base 42 2 v l.length (pcells l)) : ∃ A c, v = .slice A l.length c ∧ SlP w A l := by
  obtain ⟨A, c, rfl⟩ := owns_slice h
  refine ⟨A, c, rfl, fun j p hj => ?_⟩
  obtain ⟨b, c', e, _, _, h1, h2, h3⟩ := (OwP.of_owns h).cells hj
  obtain ⟨rfl, _⟩ : A = some ⟨b, 0, none⟩ ∧ c = c' := by simpa using e
  exact ⟨b, 0, rfl, h1, by rw [Nat.zero_add]; exact h2, by rw [Nat.zero_add]; exact h3⟩
set_option maxRecDepth 100000 in
theorem c_isWrong (r : Rf) (hr : r.Ok) (c t : Int) (hc : 0 ≤ c ∧ c ≤ 7) (ht : 0 ≤ t ∧ t ≤ 7) (w : World) :
    Calls Try.prog 60 #[.agg (rcells r), .agg #[.int .i8 c, .int .i8 t]] w fun e w' => e = .returned (.bool (wrongAt r c t)) ∧ Below w.heap.size w w' := by
  have HR := hid (block_alloc (block_new1 w (.cells (rcells r) 27) rfl) (.cells #[.int .i8 c, .int .i8 t] 42))
  have HC := hid (c_kind r hr c t hc ht)
  have e : wrongAt r c t = (r.at c.toNat t.toNat != 0) := rfl
  obtain ⟨v, hv⟩ : ∃ v, v = r.at c.toNat t.toNat := ⟨_, rfl⟩
  rw [e, ← hv]
  rw [← hv] at HC
  clear hv e
  go_enter Try.func60, Try.ntmps60
  go_wp2_with (first
    | ((with_reducible refine gate (N := 5) rfl ?_); refine wp_roof 27 Try.underlying27 rfl Try.infoRoof rfl (.tmp 2) rfl w.heap.size rfl r hr HR.out ?_)
    | (go_at_call 42; ((with_reducible refine (HC.out _).mono ?_); rintro e w1 ⟨rfl, hb1⟩)))
  go_ret
  exact ⟨rfl, (((Below.refl _ w).alloc (Nat.le_refl _) _).alloc (by simp) _).trans (hb1.mono (by simp; omega))⟩
set_option maxRecDepth 100000 in
theorem c_wrong (r : Rf) (hr : r.Ok) (hv : validB r = true) (w : World) :
    Calls Try.prog 34 #[.agg (rcells r)] w fun e w' => ∃ v, e = .returned v ∧ Below w.heap.size w w' ∧ w'.ownsRow w.heap.size 42 2 v (wrongL r).length (pcells (wrongL r)) := by
  have vh := valid_head hv
  have HV := hid hv; clear hv
  have HR := hid (block_new1 w (.cells (rcells r) 27) rfl)
  have HT : Hid (Tells 60 #[.agg (rcells r)] #[] (wrongAt r) r (w.alloc (.cells (rcells r) 27))) := by
    intro W c t hc ht hb
    exact c_isWrong r hr c t (by omega) (by omega) W
  have HC := hid (c_places 60 _ _ (enters_of Try.func60 (by kernel_rfl) rfl) _ r hr HV.out _ HT.out)
  clear vh
  go_enter Try.func34, Try.ntmps34
  go_wp2_with (first
    | ((with_reducible refine gate (N := 3) rfl ?_); refine wp_roof 27 Try.underlying27 rfl Try.infoRoof rfl (.tmp 1) rfl w.heap.size rfl r hr HR.out ?_)
    | ((with_reducible refine gate (N := 4) rfl ?_); refine wp_roof 27 Try.underlying27 rfl Try.infoRoof rfl (.tmp 1) rfl w.heap.size rfl r hr HR.out ?_)
    | (go_at_call 40; ((with_reducible refine HC.out.mono ?_); rintro e w1 ⟨v, rfl, hb1, ho1⟩)))
  go_ret
  exact ⟨v, rfl, ((Below.refl _ w).alloc (Nat.le_refl _) _).trans (hb1.mono (by simp)), ho1.mono (by simp)⟩
set_option maxHeartbeats 800000 in
set_option maxRecDepth 100000 in
theorem c_mended (r : Rf) (hr : r.Ok) (A : Option Addr) (c : Nat) (l : List (Int × Int)) (h8 : Pl8 l) (hlen : l.length ≤ 1000000) (w : World) (hA : SlP w A l) :
    Calls Try.prog 35 #[.agg (rcells r), .slice A l.length c] w fun e w' => e = .returned (.agg (rcells (mendL r l))) ∧ Below w.heap.size w w' := by
  have HA := hid hA; clear hA
  have H8 := hid h8; clear h8
  have hz : (zeroValue 27).run Try.prog w = .ok (.agg (rcells Rf.zero)) w := Try.zeroRoof w
  have HW : Hid (Below w.heap.size w ((w.alloc (.cells (rcells r) 27)).alloc (.cells (rcells Rf.zero) 27))) := ((Below.refl _ w).alloc (Nat.le_refl _) _).alloc (by simp) _
  have HP := hid (block_alloc (block_new1 w (.cells (rcells r) 27) rfl) (.cells (rcells Rf.zero) 27))
  have HQ := hid (block_new1 (w.alloc (.cells (rcells r) 27)) (.cells (rcells Rf.zero) 27) (n := w.heap.size + 1) (by simp))
  clear hz
  go_enter Try.func35, Try.ntmps35
  go_wp2_with fail
  go_loopw [6, 9] (fun q i wr => ∃ k : Nat, k ≤ l.length ∧ i = .int .i64 k ∧ Hid (Below w.heap.size w wr) ∧ Hid (wr.heap[w.heap.size]? = some (.cells (rcells (mendL r (l.take k))) 27 (0,0))) ∧ Hid (wr.heap[w.heap.size + 1]? = some (.cells (rcells Rf.zero) 27 (0,0)))) (fun _ i _ => l.length - (intOf i).toNat)
  case atStart => exact ⟨0, by omega, rfl, HW, HP, HQ⟩
  case round =>
    clear HW HP HQ
    obtain ⟨k, hk, rfl, hb, hP, hQ⟩ := hrel
    by_cases hkl : k < l.length
    · have hd : decide ((k : Int) < (l.length : Int)) = true := decide_eq_true (by omega)
      have hp := List.getElem?_eq_getElem hkl
      obtain ⟨⟨p1, p2⟩, hpp⟩ : ∃ p, p = l[k] := ⟨_, rfl⟩
      rw [← hpp] at hp
      have HM := hid (H8.out (p1, p2) (by rw [hpp]; exact List.getElem_mem hkl))
      obtain ⟨b, off, rfl, q1, q2, q3⟩ := HA.out k (p1, p2) hp
      have HT : Hid (mendL r (l.take (k + 1)) = (mendL r (l.take k)).set p1.toNat p2.toNat 0) := by
        have : l.take (k + 1) = l.take k ++ [(p1, p2)] := by rw [List.take_succ_eq_append_getElem hkl, hpp]
        show _ = _
        rw [this, mendL_snoc]
      have hok := mendL_ok hr (l.take k)
      have hok2 : (((mendL r (l.take k)).set p1.toNat p2.toNat 0)).Ok := Rf.set_ok hok _ _ ⟨by omega, by omega⟩
      have HOK := hid hok
      have HOK2 := hid hok2
      clear hok hok2
      have k0 := (hb.out.cell (p := ⟨b, _, none⟩) q1).trans q2
      have k1 := (hb.out.cell (p := ⟨b, _, none⟩) q1).trans q3
      have lb : b < wr.heap.size := Nat.lt_of_lt_of_le q1 hb.out.size
      obtain ⟨S, hS⟩ : ∃ S, S = mendL r (l.take k) := ⟨_, rfl⟩
      rw [← hS] at hP HOK HOK2 HT
      clear hp hpp q2 q3 hS
      dsimp only at k0 k1
      go_wp2_with (first
        | ((with_reducible refine gate (N := 13) rfl ?_); refine wp_roof 27 Try.underlying27 rfl Try.infoRoof rfl (.tmp 2) rfl w.heap.size rfl S HOK.out (block_alloc hP.out _) ?_)
        | (go_at_call 61; ((with_reducible refine (c_with S HOK.out p1 p2 0 HM.out.1 HM.out.2 (by omega) _).mono ?_); rintro e w1 ⟨rfl, hb1⟩))
        | ((with_reducible refine gateN rfl ?_); refine wp_store_roof rfl (.tmp 2) (.tmp 15) rfl w.heap.size S _ HOK.out HOK2.out (block_below hb1 (block_alloc hP.out _) (by have := block_lt hP.out; simp; omega)) rfl rfl ?_; intro w2 hw2 hg hsz; have HV := hid hw2; clear hw2))
      have b1 := (hb.out.alloc hb.out.size (.cells #[.int .i8 p1, .int .i8 p2] 42)).trans (hb1.mono (by have := hb.out.size; simp; omega))
      refine ⟨⟨k + 1, by omega, by go_num, b1.grown hg b1.size (fun k hk => by cases hk; omega), ?_, ?_⟩, by simp [intOf]; omega⟩
      · show _ = _
        rw [HT.out]; exact HV.out
      · show _ = _
        rw [hg.block _ (block_lt (block_below hb1 (block_alloc hQ.out _) (by have := block_lt hQ.out; simp; omega))) (by simp)]
        exact block_below hb1 (block_alloc hQ.out _) (by have := block_lt hQ.out; simp; omega)
    · obtain rfl : k = l.length := by omega
      have hd : decide ((l.length : Int) < (l.length : Int)) = false := decide_eq_false (by omega)
      rw [List.take_length] at hP
      have hok := hid (mendL_ok hr l)
      go_wp2_with (first
        | ((with_reducible refine gate (N := 17) rfl ?_); refine wp_roof 27 Try.underlying27 rfl Try.infoRoof rfl (.tmp 2) rfl w.heap.size rfl _ hok.out hP.out ?_)
        | ((with_reducible refine gateN rfl ?_); refine wp_store_roof rfl (.tmp 4) (.tmp 17) rfl (w.heap.size + 1) Rf.zero _ Rf.zero_ok hok.out hQ.out rfl rfl ?_; intro w2 hw2 hg hsz; have HV := hid hw2; clear hw2))
      exact bodyPost_ret (results_cell_row rfl _ _ (w.heap.size + 1) _ _ _ _ rfl HV.out Try.underlying27 rfl (by rw [Try.infoRoof, size_rcells, hok.out.len])) rfl ⟨rfl, hb.out.grown hg hb.out.size (fun k hk => by cases hk; omega)⟩
/-- What MendAll returns. -/
def mendV (r : Rf) : Rf := if validB r = true then r.blank else Rf.zero
def mendN (r : Rf) : Int := if validB r = true then ((wrongL r).length : Int) else 0
def mendC (r : Rf) : Int := if validB r = true then 0 else 1
theorem mendV_ok {r : Rf} (h : r.Ok) : (mendV r).Ok := by unfold mendV; split; exact Rf.blank_ok h; exact Rf.zero_ok
theorem results_cell_tmp2 {fn : Func} {p u v : Tmp} {ty : TypeId} (h : fn.results = #[.cell p ty, .tmp u, .tmp v]) (tmps : Array Value) (P : Program) (w : World) :
    (results fn tmps).run P w =
      ((asAddr (tmps.getD p undef)).run P w).andThen fun a w₁ => ((loadVar ty a).run P w₁).andThen fun x w₂ => .ok (.tuple #[x, tmps.getD u undef, tmps.getD v undef]) w₂ := by
  simp only [results, h]
  simp [Sem.run_bind, Result.andThen]
theorem res_roof2 {fn : Func} {p u v : Tmp} (h : fn.results = #[.cell p 27, .tmp u, .tmp v]) (tmps : Array Value) (w : World) (g : Nat) (R : Rf) (hr : R.Ok) {T : TypeId} {fr : Nat × Nat} (x y : Value) (hp : tmps.getD p undef = .pointer (some ⟨g, 0, none⟩))
    (hg : w.heap[g]? = some (.cells (rcells R) T fr)) (hx : tmps.getD u undef = x) (hy : tmps.getD v undef = y) : (results fn tmps).run Try.prog w = .ok (.tuple #[.agg (rcells R), x, y]) w := by
  have hl := run_loadVar_mid (P := Try.prog) w g 0 27 (rcells R).toList _ (range_roof hg) Try.underlying27 rfl (by rw [Try.infoRoof]; simp [size_rcells, hr.len])
  have e : (rcells R).toList.toArray = rcells R := by simp
  rw [e] at hl
  rw [results_cell_tmp2 h, hp, hx, hy]
  simp [asAddr, hl]
set_option maxRecDepth 100000 in
theorem c_MendAll (r : Rf) (hr : r.Ok) (w : World) : Calls Try.prog 11 #[.agg (rcells r)] w fun e w' => e = .returned (.tuple #[.agg (rcells (mendV r)), .int .i64 (mendN r), .int .i64 (mendC r)]) ∧ Below w.heap.size w w' := by
  have HW : Hid (Below w.heap.size w ((w.alloc (.cells (rcells r) 27)).alloc (.cells (rcells Rf.zero) 27))) := ((Below.refl _ w).alloc (Nat.le_refl _) _).alloc (by simp) _
  have HP := hid (block_alloc (block_new1 w (.cells (rcells r) 27) rfl) (.cells (rcells Rf.zero) 27))
  have HQ := hid (block_new1 (w.alloc (.cells (rcells r) 27)) (.cells (rcells Rf.zero) 27) (n := w.heap.size + 1) (by simp))
  have HS : Hid (w.heap.size + 2 ≤ ((w.alloc (.cells (rcells r) 27)).alloc (.cells (rcells Rf.zero) 27)).heap.size) := by simp [Hid]
  have HC := hid (c_ValidRoof r hr)
  have HVv := hid (mendV_ok hr)
  cases hv : validB r with
  | true =>
    rw [hv] at HC
    have HV := hid hv
    have e1 : mendV r = r.blank := by unfold mendV; rw [if_pos hv]
    have e2 : mendN r = ((wrongL r).length : Int) := by unfold mendN; rw [if_pos hv]
    have e3 : mendC r = 0 := by unfold mendC; rw [if_pos hv]
    rw [e1, e2, e3]
    rw [e1] at HVv
    have HL := hid (wrongL_len hv)
    have H8 := hid (wrongL_8 hv)
    have HM := hid (mend_all hr hv)
    clear hv e1 e2 e3
    go_enter Try.func11, Try.ntmps11
    go_wp2_with (first
      | ((with_reducible refine gate (N := 6) rfl ?_); refine wp_roof 27 Try.underlying27 rfl Try.infoRoof rfl (.tmp 1) rfl w.heap.size rfl r hr HP.out ?_)
      | ((with_reducible refine gate (N := 10) rfl ?_); refine wp_roof 27 Try.underlying27 rfl Try.infoRoof rfl (.tmp 1) rfl w.heap.size rfl r hr (block_below b1.out HP.out (by have := HS.out; omega)) ?_)
      | ((with_reducible refine gate (N := 12) rfl ?_); refine wp_roof 27 Try.underlying27 rfl Try.infoRoof rfl (.tmp 1) rfl w.heap.size rfl r hr (block_below b2.out (block_below b1.out HP.out (by have := HS.out; omega)) (by have := HS.out; have := b1.out.size; omega)) ?_)
      | (go_at_call 33; ((with_reducible refine (HC.out _).mono ?_); rintro e w1 ⟨rfl, hb1⟩); have b1 := hid hb1; clear hb1)
      | (go_at_call 34; ((with_reducible refine (c_wrong r hr HV.out _).mono ?_); rintro e w2 ⟨v, rfl, hb2, ho2⟩); have b2 := hid hb2; have HA : Hid (∃ A c, v = .slice A (wrongL r).length c ∧ SlP w2 A (wrongL r)) := slp_of ho2; clear hb2 ho2; obtain ⟨A, c, rfl, ha⟩ := HA.out; have HA2 := hid ha; clear ha HA)
      | (go_at_call 35; ((with_reducible refine (c_mended r hr A c _ H8.out (Nat.le_trans HL.out (by decide)) _ HA2.out).mono ?_); rintro e w3 ⟨rfl, hb3⟩); rw [HM.out]; have b3 := hid hb3; clear hb3)
      | ((with_reducible refine gateN rfl ?_); refine wp_store_roof rfl (.tmp 2) (.tmp 14) rfl (w.heap.size + 1) Rf.zero _ Rf.zero_ok HVv.out (block_below b3.out (block_below b2.out (block_below b1.out HQ.out (by have := HS.out; omega)) (by have := HS.out; have := b1.out.size; omega)) (by have := HS.out; have := b1.out.size; have := b2.out.size; omega)) rfl rfl ?_; intro w4 hw4 hg hsz; have HV4 := hid hw4; clear hw4))
    have hb := ((HW.out.trans (b1.out.mono HW.out.size)).trans (b2.out.mono (Nat.le_trans HW.out.size b1.out.size))).trans (b3.out.mono (Nat.le_trans HW.out.size (Nat.le_trans b1.out.size b2.out.size)))
    exact bodyPost_ret (res_roof2 rfl _ _ (w.heap.size + 1) _ HVv.out _ _ rfl HV4.out rfl rfl) rfl ⟨rfl, hb.grown hg hb.size (fun k hk => by cases hk; omega)⟩
  | false =>
    rw [hv] at HC
    have e1 : mendV r = Rf.zero := by unfold mendV; rw [if_neg (by simp [hv])]
    have e2 : mendN r = 0 := by unfold mendN; rw [if_neg (by simp [hv])]
    have e3 : mendC r = 1 := by unfold mendC; rw [if_neg (by simp [hv])]
    rw [e1, e2, e3]
    clear hv e1 e2 e3
    go_enter Try.func11, Try.ntmps11
    go_wp2_with (first
      | ((with_reducible refine gate (N := 6) rfl ?_); refine wp_roof 27 Try.underlying27 rfl Try.infoRoof rfl (.tmp 1) rfl w.heap.size rfl r hr HP.out ?_)
      | (go_at_call 33; ((with_reducible refine (HC.out _).mono ?_); rintro e w1 ⟨rfl, hb1⟩); have b1 := hid hb1; clear hb1)
      | ((with_reducible refine gate (N := 9) rfl ?_); refine wpList_run rfl (.agg (rcells Rf.zero)) (by unfold execOp; go_simp; exact run_build_zero _) ?_)
      | ((with_reducible refine gateN rfl ?_); refine wp_store_roof rfl (.tmp 2) (.tmp 9) rfl (w.heap.size + 1) Rf.zero _ Rf.zero_ok Rf.zero_ok (block_below b1.out HQ.out (by have := HS.out; omega)) rfl rfl ?_; intro w4 hw4 hg hsz; have HV4 := hid hw4; clear hw4))
    have hb := HW.out.trans (b1.out.mono HW.out.size)
    exact bodyPost_ret (res_roof2 rfl _ _ (w.heap.size + 1) _ Rf.zero_ok _ _ rfl HV4.out rfl rfl) rfl ⟨rfl, hb.grown hg hb.size (fun k hk => by cases hk; omega)⟩
theorem execOp_build0 {P : Program} {o : Oper} {a : Act} {w : World} {t : TypeId} {v : Value} (ho : o.op = .build t #[]) (h : (Instr.build t #[]).run P w = .ok v w) : (execOp a.eval o).run P w = .ok (.value v) w := by
  unfold execOp; simp [ho, Sem.run_bind, h]
theorem run_build_tiles0 (w : World) : (Instr.build 24 #[]).run Try.prog w = .ok (.agg (tcells (List.replicate 64 0))) w := by kernel_rfl
set_option maxHeartbeats 800000 in
set_option maxRecDepth 100000 in
theorem c_sMendAll (r : Rf) (hr : r.Ok) (w : World) : Calls Try.prog 9 #[.agg (rcells r)] w fun e w' => e = .returned (.tuple #[.agg (rcells (mendV r)), .int .i64 (mendN r), .int .i64 (mendC r)]) ∧ Below w.heap.size w w' := by
  have HW : Hid (Below w.heap.size w ((w.alloc (.cells (rcells r) 27)).alloc (.cells (rcells Rf.zero) 27))) := ((Below.refl _ w).alloc (Nat.le_refl _) _).alloc (by simp) _
  have HP := hid (block_alloc (block_new1 w (.cells (rcells r) 27) rfl) (.cells (rcells Rf.zero) 27))
  have HQ := hid (block_new1 (w.alloc (.cells (rcells r) 27)) (.cells (rcells Rf.zero) 27) (n := w.heap.size + 1) (by simp))
  have HS : Hid (w.heap.size + 2 ≤ ((w.alloc (.cells (rcells r) 27)).alloc (.cells (rcells Rf.zero) 27)).heap.size) := by simp [Hid]
  have HC := hid (c_l01Ok r hr w.heap.size _ HP.out)
  have HVv := hid (mendV_ok hr)
  cases hv : validB r with
  | true =>
    rw [hv] at HC
    have HV := hid hv
    have e1 : mendV r = r.blank := by unfold mendV; rw [if_pos hv]
    have e2 : mendN r = r.w * r.h - ((tilesL r 0 (allUp r.w.toNat r.h.toNat 0)).length : Int) := by unfold mendN; rw [if_pos hv, wrong_count hv]
    have e3 : mendC r = 0 := by unfold mendC; rw [if_pos hv]
    rw [e1, e2, e3]
    rw [e1] at HVv
    have vh := valid_head hv
    have hlen : (tilesL r 0 (allUp r.w.toNat r.h.toNat 0)).length ≤ 64 := by
      refine Nat.le_trans (List.length_filter_le _ _) ?_
      rw [allUp_len]
      have := Nat.mul_le_mul (by omega : r.h.toNat ≤ 8) (by omega : r.w.toNat ≤ 8)
      omega
    clear hv e1 e2 e3
    obtain ⟨rW, hrw⟩ : ∃ x, x = r.w := ⟨_, rfl⟩
    obtain ⟨rH, hrh⟩ : ∃ x, x = r.h := ⟨_, rfl⟩
    have HRW := hid hrw
    have HRH := hid hrh
    obtain ⟨tl, htl⟩ : ∃ tl, tl = tilesL r 0 (allUp r.w.toNat r.h.toNat 0) := ⟨_, rfl⟩
    have HTL := hid htl
    rw [← htl] at hlen ⊢
    rw [← hrw, ← hrh] at vh ⊢
    have hp0 : 0 ≤ rW * rH ∧ rW * rH ≤ 64 := by
      refine ⟨Int.mul_nonneg (by omega) (by omega), ?_⟩
      have := Int.mul_le_mul (by omega : rW ≤ 8) (by omega : rH ≤ 8) (by omega) (by omega : (0:Int) ≤ 8)
      omega
    have w1' : IntKind.i64.wrap rW = rW := IntWalk.i64_in _ (by omega)
    have w2' : IntKind.i64.wrap rH = rH := IntWalk.i64_in _ (by omega)
    have w3' : IntKind.i64.wrap (rW * rH) = rW * rH := IntWalk.i64_in _ (by omega)
    have w4' : IntKind.i64.wrap (rW * rH - (tl.length : Int)) = rW * rH - (tl.length : Int) := IntWalk.i64_in _ (by omega)
    have l0 : w.heap.size < w.heap.size + 2 := by omega
    clear hrw hrh htl
    go_enter Try.func9, Try.ntmps9
    go_wp2_with (go_at_call 30; ((with_reducible refine HC.out.mono ?_); rintro e w1 ⟨rfl, hb1⟩); have b1 := hid hb1; have c0 : w1.cell? ⟨w.heap.size, 0, none⟩ = some (.int .i8 rW) := (cell_block (block_below hb1 HP.out (by simp; omega)) (rc0 r)).trans (by rw [HRW.out]); have c1 : w1.cell? ⟨w.heap.size, 1, none⟩ = some (.int .i8 rH) := (cell_block (block_below hb1 HP.out (by simp; omega)) (rc1 r)).trans (by rw [HRH.out]); clear hb1)
    have HP1 := hid (block_below b1.out HP.out (by have := HS.out; omega))
    go_region_held3 (fun w' => w'.cell? ⟨w.heap.size, 0, none⟩ = some (.int .i8 rW) ∧ w'.cell? ⟨w.heap.size, 1, none⟩ = some (.int .i8 rH))
      (first
        | go_keep
        | exact ⟨(b2.out.cell (p := ⟨w.heap.size, 0, none⟩) (by have := b1.out.size; have := HS.out; simp; omega)).trans c0, (b2.out.cell (p := ⟨w.heap.size, 1, none⟩) (by have := b1.out.size; have := HS.out; simp; omega)).trans c1⟩)
      ((go_at_call 31; (refine (c_l01Tiles r hr HV.out w.heap.size 0 _ (by exact HP1.out)).mono ?_; rintro e w2 ⟨v, rfl, hb2, ho2⟩); rw [← HTL.out] at ho2; obtain ⟨A, c, rfl⟩ := owns_slice ho2; have b2 := hid hb2; clear hb2 ho2))
    obtain ⟨Z, hZ⟩ : ∃ Z : List Int, Z = List.replicate 64 0 := ⟨_, rfl⟩
    have HBT : Hid (∀ w : World, (Instr.build 24 #[]).run Try.prog w = .ok (.agg (tcells Z)) w) := fun w => by rw [hZ]; exact run_build_tiles0 w
    have HZl : Hid (Z.length = 64) := by rw [hZ]; exact List.length_replicate
    have HST : Hid (setAll (rcells r) 3 (tcells Z).toList = rcells r.blank) := by
      have e : r.blank.t = Z := by rw [hZ]; rfl
      rw [← e]
      exact setAll_roof (Rf.blank_ok hr) (by rw [size_rcells, hr.len]) (rc0 r) (rc1 r) (rc2 r)
    clear hZ
    have HSz : Hid (w.heap.size + 2 ≤ w1.heap.size) := Nat.le_trans HS.out b1.out.size
    have HP2 : Hid (w2.heap[w.heap.size]? = some (.cells (rcells r) 27 (0,0))) := block_below b2.out (by exact HP1.out) (by have := HSz.out; simp; omega)
    have HQ2 : Hid (w2.heap[w.heap.size + 1]? = some (.cells (rcells Rf.zero) 27 (0,0))) := block_below b2.out (block_below b1.out HQ.out (by have := HS.out; omega)) (by have := HSz.out; simp; omega)
    go_wp2_with (first
      | ((with_reducible refine gate (N := 19) rfl ?_); refine wpList_run rfl (.agg (tcells Z)) (execOp_build0 rfl (HBT.out _)) ?_)
      | ((with_reducible refine gateN rfl ?_); refine wpList_store_block rfl 24 (.tmp 20) (.tmp 19) rfl w.heap.size 3 (rcells r) (tcells Z) (rcells r.blank) 27 HP2.out rfl rfl (by rw [size_rcells, size_tcells, hr.len, HZl.out]; decide) (by rw [Try.infoTiles, size_tcells, HZl.out]) (tcells_one _) HST.out ?_; intro w3 hw3 hg3 hsz3; have HP3 := hid hw3; clear hw3; have HQ3 := hid (block_grown hg3 HQ2.out (by simp)); have HG3 := hid hg3; clear hg3 hsz3)
      | ((with_reducible refine gate (N := 21) rfl ?_); refine wp_roof 27 Try.underlying27 rfl Try.infoRoof rfl (.tmp 1) rfl w.heap.size rfl r.blank HVv.out HP3.out ?_)
      | ((with_reducible refine gateN rfl ?_); refine wp_store_roof rfl (.tmp 2) (.tmp 21) rfl (w.heap.size + 1) Rf.zero _ Rf.zero_ok HVv.out HQ3.out rfl rfl ?_; intro w4 hw4 hg hsz; have HV4 := hid hw4; clear hw4))
    have hb := (HW.out.trans (b1.out.mono HW.out.size)).drew.trans (b2.out.mono (Nat.le_trans (Nat.le_add_right _ 2) HSz.out))
    have hb3 := hb.grown HG3.out hb.size (fun k hk => by cases hk; omega)
    exact bodyPost_ret (res_roof2 rfl _ _ (w.heap.size + 1) _ HVv.out _ _ rfl HV4.out rfl rfl) rfl ⟨rfl, hb3.grown hg hb3.size (fun k hk => by cases hk; omega)⟩
  | false =>
    rw [hv] at HC
    have e1 : mendV r = Rf.zero := by unfold mendV; rw [if_neg (by simp [hv])]
    have e2 : mendN r = 0 := by unfold mendN; rw [if_neg (by simp [hv])]
    have e3 : mendC r = 1 := by unfold mendC; rw [if_neg (by simp [hv])]
    rw [e1, e2, e3]
    clear hv e1 e2 e3
    go_enter Try.func9, Try.ntmps9
    go_wp2_with (first
      | (go_at_call 30; ((with_reducible refine HC.out.mono ?_); rintro e w1 ⟨rfl, hb1⟩); have b1 := hid hb1; clear hb1)
      | ((with_reducible refine gate (N := 8) rfl ?_); refine wpList_run rfl (.agg (rcells Rf.zero)) (by unfold execOp; go_simp; exact run_build_zero _) ?_)
      | ((with_reducible refine gateN rfl ?_); refine wp_store_roof rfl (.tmp 2) (.tmp 8) rfl (w.heap.size + 1) Rf.zero _ Rf.zero_ok Rf.zero_ok (block_below b1.out HQ.out (by have := HS.out; omega)) rfl rfl ?_; intro w4 hw4 hg hsz; have HV4 := hid hw4; clear hw4))
    have hb := HW.out.trans (b1.out.mono HW.out.size)
    exact bodyPost_ret (res_roof2 rfl _ _ (w.heap.size + 1) _ Rf.zero_ok _ _ rfl HV4.out rfl rfl) rfl ⟨rfl, hb.grown hg hb.size (fun k hk => by cases hk; omega)⟩
end Go.Proofs.Ytfijinbdpfeceaa
