/- From the machine to a law's walk. Nothing of one program. -/
import Derived.Test.YtahilinkfnchaaaDoorTG
set_option linter.unusedVariables false
set_option linter.unusedSimpArgs false
namespace Go.Proofs.YtahilinkfnchaaaDoor.T
open Go Go.RowKit
open Glo (N)

end Go.Proofs.YtahilinkfnchaaaDoor.T
