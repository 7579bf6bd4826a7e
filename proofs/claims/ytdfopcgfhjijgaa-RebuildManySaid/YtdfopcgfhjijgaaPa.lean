/- Printed by mp.py: functions of the program as plain Lean, each by the kernel. -/
import Derived.Test.YtdfopcgfhjijgaaPa1
import Derived.Test.YtdfopcgfhjijgaaPa2
import Derived.Test.YtdfopcgfhjijgaaPa3
set_option linter.unusedVariables false
set_option linter.unusedSimpArgs false
namespace Go.Proofs.Ytdfopcgfhjijgaa.T
end Go.Proofs.Ytdfopcgfhjijgaa.T
