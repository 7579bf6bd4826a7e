/- Printed by mp.py: functions of the program as plain Lean, each by the kernel. -/
import Derived.Test.YtdjbhonncjcbjaaPb1
import Derived.Test.YtdjbhonncjcbjaaPb2
set_option linter.unusedVariables false
set_option linter.unusedSimpArgs false
namespace Go.Proofs.Ytdjbhonncjcbjaa.T
end Go.Proofs.Ytdjbhonncjcbjaa.T
