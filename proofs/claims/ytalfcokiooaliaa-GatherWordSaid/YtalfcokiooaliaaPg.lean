/- Printed by mp.py: functions of the program as plain Lean, each by the kernel. -/
import Derived.Test.YtalfcokiooaliaaPg1
import Derived.Test.YtalfcokiooaliaaPg2
set_option linter.unusedVariables false
set_option linter.unusedSimpArgs false
namespace Go.Proofs.Ytalfcokiooaliaa.T
end Go.Proofs.Ytalfcokiooaliaa.T
