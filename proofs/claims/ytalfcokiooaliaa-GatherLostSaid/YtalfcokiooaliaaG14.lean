import Derived.Test.YtalfcokiooaliaaG13
set_option linter.unusedVariables false
set_option linter.unusedSimpArgs false
namespace Go.Proofs.Ytalfcokiooaliaa.T
open Go Go.RowKit Go.Proofs

end Go.Proofs.Ytalfcokiooaliaa.T
