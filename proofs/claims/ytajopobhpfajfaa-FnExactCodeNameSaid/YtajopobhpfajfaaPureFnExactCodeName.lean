/- FnExactCodeName returns true for every code. -/
import Derived.Test.YtajopobhpfajfaaPFnExactCodeNamex1
namespace Go.Proofs.Ytajopobhpfajfaa.Pure
open Go.RowKit Go.Proofs.Ytajopobhpfajfaa.PFnExactCodeName Go.Proofs.YtajopobhpfajfaaW.PrintWords Go.Proofs.YtajopobhpfajfaaW.PrintLast

/-- YOURS: ∀ (a0 : Int), (Lit.int .i64 a0).wf = true → laws_FnExactCodeName.f a0 = some true
What it reaches (each with k first where it has rounds; `.mono`: more rounds tell the same; `.l0`, ..: its loops, with `.mono_l`): spec_l00In.f, spec_CodeName.f, impl_within_int64.f, impl_CodeName.f, laws_FnExactCodeName.f -/
theorem FnExactCodeName : laws_FnExactCodeName.Pure := by
  intro a0 _
  unfold laws_FnExactCodeName.f spec_CodeName.f impl_CodeName.f spec_l00In.f impl_within_int64.f
  by_cases h1 : 0 ≤ a0
  · by_cases h2 : a0 ≤ 8
    · have h3 : a0 < 9 := by omega
      simp [h1, h2, h3]
    · simp [h1, h2]
  · simp [h1]

end Go.Proofs.Ytajopobhpfajfaa.Pure
