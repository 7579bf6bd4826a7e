/- Printed by mp.py: functions of the program as plain Lean, each by the kernel. -/
import Derived.Test.YtbekpkapkaifiaaPc1
import Derived.Test.YtbekpkapkaifiaaPc2
import Derived.Test.YtbekpkapkaifiaaPc3
set_option linter.unusedVariables false
set_option linter.unusedSimpArgs false
namespace Go.Proofs.Ytbekpkapkaifiaa.T
end Go.Proofs.Ytbekpkapkaifiaa.T
