/- The laws' own comparisons of roofs, at one roof and itself. -/
import Derived.Test.YtjcmdihadblodaaConv
namespace Go.Proofs.Ytjcmdihadblodaa
open Go.RowKit
set_option linter.unusedSimpArgs false
set_option linter.unusedVariables false
end Go.Proofs.Ytjcmdihadblodaa
