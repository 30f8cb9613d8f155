/- The row of FnExactPiecesIn: for every input the law returns true, and its arguments read as before. -/
import Derived.Test.YtgbihaliiogboaaWExactPiecesIn
import Derived.Test.YtgbihaliiogboaaOpenL
import Derived.ChangeOld
namespace Go.Proofs.Ytgbihaliiogboaa.fnExactPiecesIn
open Go.ChangeShapes Go.WideShapes Go.ChangeAt Go.RowKit
open Go.ChangeMaps (open_string shut_string)
set_option linter.unusedVariables false
set_option maxRecDepth 100000 in
theorem lifted (os : Os) (started : os.Started) (H : Type) (enc : TypeId × Value → H) :
    ReturnsInHanded {} Try.checked os 3 .any (Rows.fnExactPiecesInSpec.pre6 enc Try.prog Try.f3 Rows.fnExactPiecesInRow.domain false) (Rows.fnExactPiecesInSpec.post enc Try.prog Try.f3 false true false false) := by
  refine returnsInHanded_of_change_sized (C := Try.checked) Try.own started (by kernel_rfl) Try.func3
    (ChangeSpec.witness6 (enc := enc) (C := Try.checked) false ⟨#[], #[.agg #[.int .u8 0, .slice none 0 0], .int .i64 0], []⟩ 8 (by kernel_rfl) (by kernel_rfl) (by kernel_rfl) (by kernel_rfl)) ?_
  intro W base args ds gs before hval0 hW hcnd hsz0 _
  have hsz : (DataW.weightsEach Try.prog (Try.f3.params.toList ++ Rows.fnExactPiecesInSpec.plain.varTypes Try.prog) (ds ++ gs)).all (· ≤ reachBytes) = true := hsz0
  have hval : ∀ (j : Nat) t v, Try.f3.params[j]? = some t → args[j]? = some v → Value.okWide Try.prog W .any base t v := hval0
  have hW' := hW
  obtain ⟨p, q, hA0, hV, rfl, hfz, hnd⟩ := hW
  have hA : DataW.TrodAll enc Try.prog W 0 (fun _ => true) true Try.f3.params.toList args.toList ds p := hA0
  rw [Try.params3] at hA hval hsz
  obtain ⟨v0, vs0, d0, ds0, p0, q0, hargs, rfl, rfl, h0, r0⟩ := trodAll_cons hA
  obtain ⟨v1, vs1, d1, ds1, p1, q1, rfl, rfl, rfl, h1, r1⟩ := trodAll_cons r0
  obtain ⟨rfl, rfl, rfl⟩ := trodAll_nil r1
  obtain rfl : args = #[v0, v1] := by cases args; simp_all
  obtain ⟨rfl, rfl⟩ := trodVars_none hV
  have h0k := h0
  obtain ⟨s0, A0, c0, zs0, rfl, bs0, lc0, cm0, bz0, rd0⟩ := open_shape (hval 0 _ v0 rfl rfl) h0
  have h1k := h1
  obtain ⟨n1, rfl, _, _, wf1⟩ := open_int Try.underlying2 (hval 1 _ v1 rfl rfl) h1
  clear hA0 hval0 hsz0 hsz
  have hlt := fun x hx => hW'.lt x hx
  try simp only [List.append_nil, List.mem_append] at hlt
  refine (w_FnExactPiecesIn s0 A0 c0 zs0 bs0 lc0 cm0 bz0 rd0 n1 (bounds_i64 wf1) W).mono fun e W' ⟨he, bel⟩ => ?_
  subst he
  exact ⟨_, rfl, _, _, _, [], p0 ++ (p1 ++ []), [], hW', trodAll_mk1 (shut_bool Try.underlying4 _), (trodAll_cons_mk (Below.trod Try.laidOut (by kernel_rfl) (of_decide_eq_true (by kernel_rfl)) h0k bel (fun x hx => hlt x (.inl hx))) (trodAll_cons_mk (Below.trod Try.laidOut (by kernel_rfl) (of_decide_eq_true (by kernel_rfl)) h1k bel (fun x hx => hlt x (.inr (hx)))) trodAll_mk0)), rfl, bel.frame _, fun h => by cases h⟩
set_option maxHeartbeats 8000000 in
theorem facts : joinedFacts Try.checked.prog 3 Try.f3 Rows.fnExactPiecesInSpec Rows.fnExactPiecesInRow = true := by
  unfold joinedFacts
  repeat (with_reducible refine and_mk ?_ (by as_aux_lemma => kernel_rfl))
  as_aux_lemma => kernel_rfl
set_option maxHeartbeats 8000000 in
theorem over : Rows.fnExactPiecesInRow.holds Try.pinned (OpenSpec.ofChange Rows.fnExactPiecesInSpec) :=
  OpenClaim.holds_of_wide 3 Try.f3 rfl rfl rfl rfl rfl rfl rfl ⟨rfl, rfl, rfl, rfl, rfl⟩ rfl rfl rfl rfl rfl (by as_aux_lemma => kernel_rfl) Try.func3 facts
    (of_decide_eq_true (by as_aux_lemma => kernel_rfl)) (by unfold Func.isWrapper; first | (rw [if_pos (by decide +kernel)]; kernel_rfl) | (rw [if_neg (by decide +kernel)]; exact ⟨rfl, rfl⟩))
    (fun os started H enc _ => lifted os started H enc)
theorem proved : Rows.FnExactPiecesInSaid := over
end Go.Proofs.Ytgbihaliiogboaa.fnExactPiecesIn
namespace Go.Proofs.Ytgbihaliiogboaa
theorem fnExactPiecesIn_holds : Rows.FnExactPiecesInSaid := fnExactPiecesIn.proved
end Go.Proofs.Ytgbihaliiogboaa
