/- WalConfined, walked. -/
import Derived.Test.YtbknpbihgfphaaaDoorCrWr
set_option linter.unusedSimpArgs false
set_option linter.unusedVariables false
namespace Go.Proofs.YtbknpbihgfphaaaDoor
open Go Go.RowKit Go.Own
end Go.Proofs.YtbknpbihgfphaaaDoor
