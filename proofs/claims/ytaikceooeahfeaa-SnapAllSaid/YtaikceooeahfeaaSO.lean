/- The sort's contract, laid at this program. -/
import Derived.Test.YtaikceooeahfeaaTO
import Derived.Test.YtaikceooeahfeaaPs
import Derived.Shelf.Lay
set_option linter.unusedVariables false
set_option linter.unusedSimpArgs false
namespace Go.Proofs
open Go.Shelf
shelf_lay Lays.n189 Nm 189 at Try as Try.lays189
end Go.Proofs
namespace Go.Proofs.Ytaikceooeahfeaa.T
open Go Go.RowKit Go.Proofs
theorem orcs : OrcsOk Try.prog keepT := orcs_one (l := keepL) (f := 17) (q := (true, [1])) (by kernel_rfl) (orc_sort Try.lays189)
end Go.Proofs.Ytaikceooeahfeaa.T
