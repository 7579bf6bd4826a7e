/- Desk: LineFixed, as the row wants it. -/
import Derived.Test.YtahilinkfnchaaaDoorDP
set_option linter.unusedVariables false
set_option linter.unusedSimpArgs false
namespace Go.Proofs.YtahilinkfnchaaaDoor.T
open Go Go.RowKit Go.Proofs

theorem LineFixed_run (h : AHeap) (nx : Nat) (hx : 0 < nx) (hg : h 0 = some ⟨wordsC, 2, false⟩) (s : ByteArray) (y : s.size ≤ 1048576) :
    ∃ f h' nx', callP Tryd.prog keepT f Y0 5 [.str s] h nx = some (.bool true, h', nx') := by
  obtain ⟨h', nx', e⟩ := fixed_run (n := s.size + 3000100) Y0 (s := s) (Nat.le_refl _) (by omega) hx hg
  exact ⟨_, h', nx', e⟩
end Go.Proofs.YtahilinkfnchaaaDoor.T
