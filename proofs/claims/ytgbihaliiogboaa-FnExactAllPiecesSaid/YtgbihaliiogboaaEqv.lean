/- The laws' own comparisons of roofs, at one roof and itself. -/
import Derived.Test.YtgbihaliiogboaaConv
namespace Go.Proofs.Ytgbihaliiogboaa
open Go.RowKit
set_option linter.unusedSimpArgs false
set_option linter.unusedVariables false
end Go.Proofs.Ytgbihaliiogboaa
