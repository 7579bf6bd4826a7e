/- Pools: plain law of what is looked at. -/
import Derived.Test.YtncmdbpoceilgaaPN
set_option linter.unusedVariables false
set_option linter.unusedSimpArgs false
namespace Go.Proofs.Ytncmdbpoceilgaa.T
open Go Go.RowKit Go.Proofs
set_option maxRecDepth 10000

end Go.Proofs.Ytncmdbpoceilgaa.T
