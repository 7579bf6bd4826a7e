import Derived.Test.YtdjbhonncjcbjaaS8d
set_option linter.unusedVariables false
set_option linter.unusedSimpArgs false
namespace Go.Proofs.Ytdjbhonncjcbjaa.T
open Go Go.RowKit Go.Proofs
theorem ColumnsApart_run (h : AHeap) (nx : Nat) (a0 : Int) (_ : (Lit.int .i64 a0).wf = true) (a1 : Int) (_ : (Lit.int .i64 a1).wf = true) (a2 : Int) (_ : (Lit.int .i64 a2).wf = true) (a3 : Int) (_ : (Lit.int .i64 a3).wf = true) :
    ∃ h' nx', callP Try.prog keepT 40 8 [.int .i64 a0, .int .i64 a1, .int .i64 a2, .int .i64 a3] h nx = some (.bool true, h', nx') := apart a0 a1 a2 a3 nx h
end Go.Proofs.Ytdjbhonncjcbjaa.T
