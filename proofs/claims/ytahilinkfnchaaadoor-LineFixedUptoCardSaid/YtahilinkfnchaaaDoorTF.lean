/- A place in code, with what is still to come: for the prints. Nothing of a program. -/
import Derived.Test.YtahilinkfnchaaaDoorTE
set_option linter.unusedVariables false
set_option linter.unusedSimpArgs false
namespace Go.Proofs.YtahilinkfnchaaaDoor.T
open Go Go.RowKit
open Glo (N)

/-- From a place in code on. At a loop: 9 is its head, 0 its body; at a range over a function: 8 is its round, 1 the round's body; ns: the turns left, the rounds' loops. -/
noncomputable def goK (W J : StepF Res → StepF Res) (D : DrawF Res) (M : Mach) (cy : YldF → CallF) (Y : YldF) (kp : Keep) (lf : Nat) : Code → List Nat → List Nat → (AOut → Option Res) → StepF Res
  | .seq a b, i :: p, ns, K => if i = 0 then goK W J D M cy Y kp lf a p ns (seqK (fun fr h nx => jumpC J kp b (aexec J D M cy Y kp lf b K) (cutC kp b fr) h nx) K) else goK W J D M cy Y kp lf b p ns K
  | .cond _ a b, i :: p, ns, K => if i = 0 then goK W J D M cy Y kp lf a p ns K else goK W J D M cy Y kp lf b p ns K
  | .block id a, _ :: p, ns, K => goK W J D M cy Y kp lf a p ns (blockK id K)
  | .loop a, i :: p, n :: ns, K => if i = 9 then W (iterK J (cutC kp a) (aexec J D M cy Y kp lf a) n K) else goK W J D M cy Y kp lf a p ns (backK (fun fr h nx => J (iterK J (cutC kp a) (aexec J D M cy Y kp lf a) n K) (cutC kp a fr) h nx) K)
  | .rangeFunc _ _ a b, i :: p, l :: ns, _ => if i = 8 then W (roundStep l (cutC kp b) (aexec J D M cy Y kp lf a) (aexec J D M cy Y kp lf b)) else goK W J D M cy Y kp lf b p ns (roundEnd l)
  | c, _, _, K => W (aexec J D M cy Y kp lf c K)

end Go.Proofs.YtahilinkfnchaaaDoor.T
