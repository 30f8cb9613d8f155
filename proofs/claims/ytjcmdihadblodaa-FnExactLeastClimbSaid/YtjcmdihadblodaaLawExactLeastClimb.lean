/- The row of FnExactLeastClimb: for every input the law returns true, and its arguments read as before. -/
import Derived.Test.YtjcmdihadblodaaWExactLeastClimb
import Derived.Test.YtjcmdihadblodaaOpenL
import Derived.ChangeOld
namespace Go.Proofs.Ytjcmdihadblodaa.fnExactLeastClimb
open Go.ChangeShapes Go.WideShapes Go.ChangeAt Go.RowKit
open Go.ChangeMaps (open_string shut_string)
set_option linter.unusedVariables false
set_option maxRecDepth 100000 in
theorem lifted (os : Os) (started : os.Started) (H : Type) (enc : TypeId × Value → H) :
    ReturnsInHanded {} Try.checked os 6 .any (Rows.fnExactLeastClimbSpec.pre6 enc Try.prog Try.f6 Rows.fnExactLeastClimbRow.domain false) (Rows.fnExactLeastClimbSpec.post enc Try.prog Try.f6 false true false false) := by
  refine returnsInHanded_of_change_sized (C := Try.checked) Try.own started (by kernel_rfl) Try.func6
    (ChangeSpec.witness6 (enc := enc) (C := Try.checked) false ⟨#[], #[.agg (rcells Rf.zero), .slice none 0 0, .int .i64 0], []⟩ 8 (by kernel_rfl) (by kernel_rfl) (by kernel_rfl) (by kernel_rfl)) ?_
  intro W base args ds gs before hval0 hW hcnd hsz0 _
  have hsz : (DataW.weightsEach Try.prog (Try.f6.params.toList ++ Rows.fnExactLeastClimbSpec.plain.varTypes Try.prog) (ds ++ gs)).all (· ≤ reachBytes) = true := hsz0
  have hval : ∀ (j : Nat) t v, Try.f6.params[j]? = some t → args[j]? = some v → Value.okWide Try.prog W .any base t v := hval0
  have hW' := hW
  obtain ⟨p, q, hA0, hV, rfl, hfz, hnd⟩ := hW
  have hA : DataW.TrodAll enc Try.prog W 0 (fun _ => true) true Try.f6.params.toList args.toList ds p := hA0
  rw [Try.params6] at hA hval hsz
  obtain ⟨v0, vs0, d0, ds0, p0, q0, hargs, rfl, rfl, h0, r0⟩ := trodAll_cons hA
  obtain ⟨v1, vs1, d1, ds1, p1, q1, rfl, rfl, rfl, h1, r1⟩ := trodAll_cons r0
  obtain ⟨v2, vs2, d2, ds2, p2, q2, rfl, rfl, rfl, h2, r2⟩ := trodAll_cons r1
  obtain ⟨rfl, rfl, rfl⟩ := trodAll_nil r2
  obtain rfl : args = #[v0, v1, v2] := by cases args; simp_all
  obtain ⟨rfl, rfl⟩ := trodVars_none hV
  have h0k := h0
  obtain ⟨R0, rfl, ok0⟩ := open_roof (hval 0 _ v0 rfl rfl) h0
  have h1k := h1
  obtain ⟨A1, c1, zs1, rfl, lc1, cm1, bz1, rd1⟩ := open_places (hval 1 _ v1 rfl rfl) h1
  have h2k := h2
  obtain ⟨n2, rfl, _, _, wf2⟩ := open_int Try.underlying2 (hval 2 _ v2 rfl rfl) h2
  clear hA0 hval0 hsz0 hsz
  have hlt := fun x hx => hW'.lt x hx
  try simp only [List.append_nil, List.mem_append] at hlt
  refine (w_FnExactLeastClimb R0 ok0 A1 c1 zs1 lc1 cm1 bz1 rd1 n2 (bounds_i64 wf2) W).mono fun e W' ⟨he, bel⟩ => ?_
  subst he
  exact ⟨_, rfl, _, _, _, [], p0 ++ (p1 ++ (p2 ++ [])), [], hW', trodAll_mk1 (shut_bool Try.underlying4 _), (trodAll_cons_mk (Below.trod Try.laidOut (by kernel_rfl) (of_decide_eq_true (by kernel_rfl)) h0k bel (fun x hx => hlt x (.inl hx))) (trodAll_cons_mk (Below.trod Try.laidOut (by kernel_rfl) (of_decide_eq_true (by kernel_rfl)) h1k bel (fun x hx => hlt x (.inr (.inl hx)))) (trodAll_cons_mk (Below.trod Try.laidOut (by kernel_rfl) (of_decide_eq_true (by kernel_rfl)) h2k bel (fun x hx => hlt x (.inr (.inr (hx))))) trodAll_mk0))), rfl, bel.frame _, fun h => by cases h⟩
set_option maxHeartbeats 8000000 in
theorem facts : joinedFacts Try.checked.prog 6 Try.f6 Rows.fnExactLeastClimbSpec Rows.fnExactLeastClimbRow = true := by
  unfold joinedFacts
  repeat (with_reducible refine and_mk ?_ (by as_aux_lemma => kernel_rfl))
  as_aux_lemma => kernel_rfl
set_option maxHeartbeats 8000000 in
theorem over : Rows.fnExactLeastClimbRow.holds Try.pinned (OpenSpec.ofChange Rows.fnExactLeastClimbSpec) :=
  OpenClaim.holds_of_wide 6 Try.f6 rfl rfl rfl rfl rfl rfl rfl ⟨rfl, rfl, rfl, rfl, rfl⟩ rfl rfl rfl rfl rfl (by as_aux_lemma => kernel_rfl) Try.func6 facts
    (of_decide_eq_true (by as_aux_lemma => kernel_rfl)) (by unfold Func.isWrapper; first | (rw [if_pos (by decide +kernel)]; kernel_rfl) | (rw [if_neg (by decide +kernel)]; exact ⟨rfl, rfl⟩))
    (fun os started H enc _ => lifted os started H enc)
theorem proved : Rows.FnExactLeastClimbSaid := over
end Go.Proofs.Ytjcmdihadblodaa.fnExactLeastClimb
namespace Go.Proofs.Ytjcmdihadblodaa
theorem fnExactLeastClimb_holds : Rows.FnExactLeastClimbSaid := fnExactLeastClimb.proved
end Go.Proofs.Ytjcmdihadblodaa
