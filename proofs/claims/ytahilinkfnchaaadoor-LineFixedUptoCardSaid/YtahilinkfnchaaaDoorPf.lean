/- Printed by mp.py: functions of the program as plain Lean, each by the kernel. -/
import Derived.Test.YtahilinkfnchaaaDoorPf1
import Derived.Test.YtahilinkfnchaaaDoorPf2
set_option linter.unusedVariables false
set_option linter.unusedSimpArgs false
namespace Go.Proofs.YtahilinkfnchaaaDoor.T
end Go.Proofs.YtahilinkfnchaaaDoor.T
