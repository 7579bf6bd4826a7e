/- Pools: PoolBack, the walk. -/
import Derived.Test.YtncmdbpoceilgaaPS
set_option linter.unusedVariables false
set_option linter.unusedSimpArgs false
namespace Go.Proofs.Ytncmdbpoceilgaa.T
open Go Go.RowKit Go.Proofs
set_option maxRecDepth 10000

theorem getT_ok {s : Pl} (w : s.Ok) (k : ByteArray) : (getT s.obj k).data.length ≤ 2000 ∧ (getT s.obj k).names.length ≤ 2000 := by
  have := step_small w (cF k)
  rw [fetch_step] at this
  exact this
end Go.Proofs.Ytncmdbpoceilgaa.T
