/- A place in code, with what is still to come: for the prints. Nothing of a program. -/
import Derived.Test.YtdfopcgfhjijgaaTE
set_option linter.unusedVariables false
set_option linter.unusedSimpArgs false
namespace Go.Proofs.Ytdfopcgfhjijgaa.T
open Go Go.RowKit

variable {R : Type}

/-- From a place in code on. At a loop: 9 is its head, 0 its body; ns: the turns left. -/
def goK (W J : StepF R → StepF R) (D : DrawF R) (M : Mach) (call : CallF) (kp : Keep) (lf : Nat) : Code → List Nat → List Nat → (AOut → Option R) → StepF R
  | .seq a b, i :: p, ns, K => if i = 0 then goK W J D M call kp lf a p ns (seqK (fun fr h nx => jumpC J kp b (aexec J D M call kp lf b K) (cutC kp b fr) h nx) K) else goK W J D M call kp lf b p ns K
  | .cond _ a b, i :: p, ns, K => if i = 0 then goK W J D M call kp lf a p ns K else goK W J D M call kp lf b p ns K
  | .block id a, _ :: p, ns, K => goK W J D M call kp lf a p ns (blockK id K)
  | .loop a, i :: p, n :: ns, K => if i = 9 then W (iterK J (cutC kp a) (aexec J D M call kp lf a) n K) else goK W J D M call kp lf a p ns (backK (fun fr h nx => J (iterK J (cutC kp a) (aexec J D M call kp lf a) n K) (cutC kp a fr) h nx) K)
  | c, _, _, K => W (aexec J D M call kp lf c K)

end Go.Proofs.Ytdfopcgfhjijgaa.T
