/- Pools: plain law of what is looked at. -/
import Derived.Test.YtncmdbpoceilgaaPN
set_option linter.unusedVariables false
set_option linter.unusedSimpArgs false
namespace Go.Proofs.Ytncmdbpoceilgaa.T
open Go Go.RowKit Go.Proofs
set_option maxRecDepth 10000

def cK (k : ByteArray) : Cmd := ⟨8, k, nS, 0, 2000, []⟩
theorem look_step {s : Pl} {l : Objs} (h : getO nS s.snaps = some l) (k : ByteArray) : stepP s (cK k) = (getT l k, s) := by
  have e : stepP s (cK k) = snapP s (cK k) := by
    unfold stepP
    rw [if_neg (show ¬ (cK k).kind = 1 by simp [cK]), if_neg (show ¬ (cK k).kind = 6 by simp [cK]), if_neg (show ¬ (cK k).kind = 11 by simp [cK]), if_pos (.inr (.inl rfl))]
  rw [e]
  unfold snapP getT
  rw [if_neg (show ¬ (cK k).kind = 7 by simp [cK]), show getO (cK k).other s.snaps = some l from h]
  simp only
  rw [if_neg (show ¬ (cK k).kind = 9 by simp [cK]), if_neg (show ¬ (cK k).kind = 10 by simp [cK])]
  show (match getO k l with | none => _ | some x => _) = _
  cases getO k l <;> rfl
theorem snaps_law {s : Pl} (w : SnOk s) (k : ByteArray) {m : List Cmd} (hm : ∀ c ∈ m, ¬ (c.kind = 10 ∧ c.other = nS)) :
    ∃ a b mid, playP s ([cU nS, cU nT, cS, cF k] ++ m ++ [cK k]) = [a, b, noT 0, getT s.obj k] ++ mid ++ [getT s.obj k] ∧ mid.length = m.length := by
  obtain ⟨s1, hs1, ho, hsnap, _⟩ := snap_taken w
  obtain ⟨s2, hs2⟩ : ∃ s2 : Pl, s2 = { s1 with snaps := setO nS s.obj s1.snaps } := ⟨_, rfl⟩
  rw [← hs2] at hsnap
  have ho2 : s2.obj = s.obj := by rw [hs2]; exact ho
  have hg2 : getO nS (endP s2 m).snaps = some s.obj := end_keep (by rw [hs2]; exact getO_set) hm
  refine ⟨(stepP s (cU nS)).1, (stepP (stepP s (cU nS)).2 (cU nT)).1, playP s2 m, ?_, playP_len _ _⟩
  rw [playP_append, playP_append]
  have e5 : playP s [cU nS, cU nT, cS, cF k] = [(stepP s (cU nS)).1, (stepP (stepP s (cU nS)).2 (cU nT)).1, noT 0, getT s.obj k] ∧ endP s [cU nS, cU nT, cS, cF k] = s2 := by
    simp only [playP, endP]
    rw [← hs1, hsnap]
    simp only
    rw [fetch_step, ho2]
    exact ⟨rfl, rfl⟩
  rw [e5.1, endP_append, e5.2]
  congr 1
  simp only [playP]
  rw [look_step hg2]
end Go.Proofs.Ytncmdbpoceilgaa.T
