/- FnExactConstants returns true. -/
import Derived.Test.YtajopobhpfajfaaPFnExactConstantsx1
namespace Go.Proofs.Ytajopobhpfajfaa.Pure
open Go.RowKit Go.Proofs.Ytajopobhpfajfaa.PFnExactConstants Go.Proofs.YtajopobhpfajfaaW.PrintWords Go.Proofs.YtajopobhpfajfaaW.PrintLast

/-- YOURS: laws_FnExactConstants.f  = some true
What it reaches (each with k first where it has rounds; `.mono`: more rounds tell the same; `.l0`, ..: its loops, with `.mono_l`): laws_FnExactConstants.f -/
theorem FnExactConstants : laws_FnExactConstants.Pure := by
  rfl

end Go.Proofs.Ytajopobhpfajfaa.Pure
