-- PRINTED BY print.sh 35421559b90ae4d0a3588c463048766b98c2df88dd9212a6774a882060cdf62d: not written by this session
import Derived.Test.YtajopobhpfajfaaProg
import Derived.Below
import Derived.Deep.Draws
import Derived.Deep.AppendLies
import Derived.Maps.AppendAt
import Derived.OwnWalk
import Derived.Laws.BytesArg
import Derived.Laws.MakeOwn
import Derived.Laws.OwnMore
import Derived.Deep.OwnRows
import Derived.Tactics
import Derived.Lib.ConvBytes
import Derived.Laws.Slices
import Derived.WalkKit
import Derived.KernelRfl
import Derived.RowKit3
import Derived.Deep.LoopGhost
import Derived.Deep.QuietTactic
import Derived.BigQuiet
import Derived.WideLaws
import Derived.Deep.DeepCutAuto
import Derived.Deep.CutBlock
import Derived.Deep.RegionHeld3
import Derived.Laws.Rows
import Derived.Lib.AppendStr
import Derived.ArgAppend
import Derived.Laws.IdiomCopy
import Derived.OrdersHeld
import Derived.Laws.BitsLemmas
import Derived.RowKit
import Derived.Test.YtajopobhpfajfaaWWords
import Derived.Test.YtajopobhpfajfaaWLast
import Derived.Test.YtajopobhpfajfaaWTab
import Derived.Test.YtajopobhpfajfaaWFour
import Derived.Test.YtajopobhpfajfaaWQPut
import Derived.Test.YtajopobhpfajfaaWApart
import Derived.Test.YtajopobhpfajfaaWArr
import Derived.Test.YtajopobhpfajfaaWZeros
import Derived.Test.YtajopobhpfajfaaWFoot
import Derived.Test.YtajopobhpfajfaaWKept
import Derived.Test.YtajopobhpfajfaaWShare
import Derived.Test.YtajopobhpfajfaaWN
import Derived.Test.YtajopobhpfajfaaWFootNe
import Derived.Test.YtajopobhpfajfaaWAt
import Derived.Test.YtajopobhpfajfaaWEqStruct
import Derived.Test.YtajopobhpfajfaaWRepsOne
import Derived.Test.YtajopobhpfajfaaWInv
import Derived.Test.YtajopobhpfajfaaWInvWords
import Derived.Test.YtajopobhpfajfaaWGuard
import Derived.Test.YtajopobhpfajfaaWNEv
import Derived.Test.YtajopobhpfajfaaWMore
namespace Go.Proofs.Ytajopobhpfajfaa.PFnExactCodeName
open Go.RowKit Go.Proofs.YtajopobhpfajfaaW.PrintWords Go.Proofs.YtajopobhpfajfaaW.PrintLast Go.Proofs.YtajopobhpfajfaaW.PrintMore
attribute [local go_sem] max2_int min2_int max_two min_two max_three min_three max_four min_four   -- for this text's walks alone
set_option linter.unusedVariables false
set_option linter.unusedSimpArgs false



def errW : Option Int → Value
  | none => .nilIface
  | some c => .iface 0 (.int .i64 c)
theorem errW_none : errW none = .nilIface := rfl
theorem errW_some (c : Int) : errW (some c) = .iface 0 (.int .i64 c) := rfl

theorem info9 : (Try.prog.info? 9).map (fun i => (i.zero, i.size, i.bytes)) = some (some (.string ⟨#[]⟩), 1, 16) := by kernel_rfl
-- the values' own types

end Go.Proofs.Ytajopobhpfajfaa.PFnExactCodeName
