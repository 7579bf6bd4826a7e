/- Printed by mp.py: functions of the program as plain Lean, each by the kernel. -/
import Derived.Test.YtncmdbpoceilgaaPp1
import Derived.Test.YtncmdbpoceilgaaPp2
import Derived.Test.YtncmdbpoceilgaaPp3
set_option linter.unusedVariables false
set_option linter.unusedSimpArgs false
namespace Go.Proofs.Ytncmdbpoceilgaa.T
end Go.Proofs.Ytncmdbpoceilgaa.T
