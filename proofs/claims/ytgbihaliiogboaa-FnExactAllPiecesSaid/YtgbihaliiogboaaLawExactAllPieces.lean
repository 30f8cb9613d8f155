/- The row of FnExactAllPieces: for every input the law returns true, and its arguments read as before. -/
import Derived.Test.YtgbihaliiogboaaWExactAllPieces
import Derived.Test.YtgbihaliiogboaaOpenL
import Derived.ChangeOld
namespace Go.Proofs.Ytgbihaliiogboaa.fnExactAllPieces
open Go.ChangeShapes Go.WideShapes Go.ChangeAt Go.RowKit
open Go.ChangeMaps (open_string shut_string)
set_option linter.unusedVariables false
set_option maxRecDepth 100000 in
theorem lifted (os : Os) (started : os.Started) (H : Type) (enc : TypeId × Value → H) :
    ReturnsInHanded {} Try.checked os 4 .any (Rows.fnExactAllPiecesSpec.pre6 enc Try.prog Try.f4 Rows.fnExactAllPiecesRow.domain false) (Rows.fnExactAllPiecesSpec.post enc Try.prog Try.f4 false true false false) := by
  refine returnsInHanded_of_change_sized (C := Try.checked) Try.own started (by kernel_rfl) Try.func4
    (ChangeSpec.witness6 (enc := enc) (C := Try.checked) false ⟨#[], #[.agg #[.int .u8 0, .slice none 0 0]], []⟩ 8 (by kernel_rfl) (by kernel_rfl) (by kernel_rfl) (by kernel_rfl)) ?_
  intro W base args ds gs before hval0 hW hcnd hsz0 _
  have hsz : (DataW.weightsEach Try.prog (Try.f4.params.toList ++ Rows.fnExactAllPiecesSpec.plain.varTypes Try.prog) (ds ++ gs)).all (· ≤ reachBytes) = true := hsz0
  have hval : ∀ (j : Nat) t v, Try.f4.params[j]? = some t → args[j]? = some v → Value.okWide Try.prog W .any base t v := hval0
  have hW' := hW
  obtain ⟨p, q, hA0, hV, rfl, hfz, hnd⟩ := hW
  have hA : DataW.TrodAll enc Try.prog W 0 (fun _ => true) true Try.f4.params.toList args.toList ds p := hA0
  rw [Try.params4] at hA hval hsz
  obtain ⟨v0, vs0, d0, ds0, p0, q0, hargs, rfl, rfl, h0, r0⟩ := trodAll_cons hA
  obtain ⟨rfl, rfl, rfl⟩ := trodAll_nil r0
  obtain rfl : args = #[v0] := by cases args; simp_all
  obtain ⟨rfl, rfl⟩ := trodVars_none hV
  have h0k := h0
  obtain ⟨s0, A0, c0, zs0, rfl, bs0, lc0, cm0, bz0, rd0⟩ := open_shape (hval 0 _ v0 rfl rfl) h0
  clear hA0 hval0 hsz0 hsz
  have hlt := fun x hx => hW'.lt x hx
  try simp only [List.append_nil, List.mem_append] at hlt
  refine (w_FnExactAllPieces s0 A0 c0 zs0 bs0 lc0 cm0 bz0 rd0 W).mono fun e W' ⟨he, bel⟩ => ?_
  subst he
  exact ⟨_, rfl, _, _, _, [], p0 ++ [], [], hW', trodAll_mk1 (shut_bool Try.underlying4 _), (trodAll_cons_mk (Below.trod Try.laidOut (by kernel_rfl) (of_decide_eq_true (by kernel_rfl)) h0k bel (fun x hx => hlt x (hx))) trodAll_mk0), rfl, bel.frame _, fun h => by cases h⟩
set_option maxHeartbeats 8000000 in
theorem facts : joinedFacts Try.checked.prog 4 Try.f4 Rows.fnExactAllPiecesSpec Rows.fnExactAllPiecesRow = true := by
  unfold joinedFacts
  repeat (with_reducible refine and_mk ?_ (by as_aux_lemma => kernel_rfl))
  as_aux_lemma => kernel_rfl
set_option maxHeartbeats 8000000 in
theorem over : Rows.fnExactAllPiecesRow.holds Try.pinned (OpenSpec.ofChange Rows.fnExactAllPiecesSpec) :=
  OpenClaim.holds_of_wide 4 Try.f4 rfl rfl rfl rfl rfl rfl rfl ⟨rfl, rfl, rfl, rfl, rfl⟩ rfl rfl rfl rfl rfl (by as_aux_lemma => kernel_rfl) Try.func4 facts
    (of_decide_eq_true (by as_aux_lemma => kernel_rfl)) (by unfold Func.isWrapper; first | (rw [if_pos (by decide +kernel)]; kernel_rfl) | (rw [if_neg (by decide +kernel)]; exact ⟨rfl, rfl⟩))
    (fun os started H enc _ => lifted os started H enc)
theorem proved : Rows.FnExactAllPiecesSaid := over
end Go.Proofs.Ytgbihaliiogboaa.fnExactAllPieces
namespace Go.Proofs.Ytgbihaliiogboaa
theorem fnExactAllPieces_holds : Rows.FnExactAllPiecesSaid := fnExactAllPieces.proved
end Go.Proofs.Ytgbihaliiogboaa
