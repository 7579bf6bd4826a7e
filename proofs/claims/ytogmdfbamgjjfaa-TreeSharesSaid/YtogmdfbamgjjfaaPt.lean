/- Printed by mp.py: functions of the program as plain Lean, each by the kernel. -/
import Derived.Test.YtogmdfbamgjjfaaPt1
import Derived.Test.YtogmdfbamgjjfaaPt2
set_option linter.unusedVariables false
set_option linter.unusedSimpArgs false
namespace Go.Proofs.Ytogmdfbamgjjfaa.T
end Go.Proofs.Ytogmdfbamgjjfaa.T
