/- DriveDead. -/
import Derived.Test.YtbekpkapkaifiaaD15
set_option linter.unusedVariables false
set_option linter.unusedSimpArgs false
namespace Go.Proofs.Ytbekpkapkaifiaa.T
open Go Go.RowKit Go.Proofs

def mk (k : Int) (i : Nat) (d : List Int) : Job := ⟨k, (i : Int), 0, d⟩
/-- The eleven jobs. -/
def deadJ (i : Nat) (v : List Int) : List Job := [⟨3, 0, 0, []⟩, mk 5 i [], mk 2 i [], mk 1 i v, ⟨3, 0, 0, []⟩, mk 2 i [], ⟨7, 0, 0, []⟩, mk 2 i [], ⟨3, 0, 0, []⟩, ⟨8, 0, 0, []⟩, mk 2 i []]

theorem dead_run {s : DS} (g : Gd s) {i : Nat} (hi : i < 8) {v : List Int} (hv : v.length = 128) :
    ∃ a b c d e q f, runL s (deadJ i v) = [a, b, (12, c), d, e, (0, v), q, (13, []), (13, []), f, (0, noughts 128)] := by
  have d3 : ∀ t : DS, t.dead = false → (doL t ⟨3, 0, 0, []⟩) = (⟨settleL (fun _ => true) t.waits 0 t.plate, [], t.dead⟩, (0, [])) := fun t h => by
    unfold doL; rw [if_neg (by rw [h]; simp)]; simp
  have d5 : ∀ t : DS, t.dead = false → (doL t (mk 5 i [])) = (⟨markL t.plate i, t.waits, t.dead⟩, (0, [])) := fun t h => by
    unfold doL; rw [if_neg (by rw [h]; simp)]; simp [mk]
  have d2 : ∀ t : DS, t.dead = false → (doL t (mk 2 i [])) = (t, getL t i) := fun t h => by
    unfold doL; rw [if_neg (by rw [h]; simp)]; simp [mk]
  have d1 : ∀ t : DS, t.dead = false → (doL t (mk 1 i v)) = (⟨t.plate, t.waits ++ [(i, v)], t.dead⟩, (0, [])) := fun t h => by
    unfold doL; rw [if_neg (by rw [h]; simp)]; simp [mk]
  have d7 : ∀ t : DS, t.dead = false → (doL t ⟨7, 0, 0, []⟩) = (⟨t.plate, t.waits, true⟩, (0, [])) := fun t h => by
    unfold doL; rw [if_neg (by rw [h]; simp)]; simp
  have d2d : ∀ t : DS, t.dead = true → (doL t (mk 2 i [])) = (t, (13, [])) := fun t h => by
    unfold doL; rw [if_pos ⟨h, by simp [mk]⟩]
  have d3d : ∀ t : DS, t.dead = true → (doL t ⟨3, 0, 0, []⟩) = (t, (13, [])) := fun t h => by
    unfold doL; rw [if_pos ⟨h, by simp⟩]
  have d8 : ∀ t : DS, (doL t ⟨8, 0, 0, []⟩) = (freshL t.plate.length, (0, [])) := fun t => by
    unfold doL; rw [if_neg (by simp)]; simp
  -- the states
  have g1 := settle_gd g (fun _ => true)
  generalize hs1 : (⟨settleL (fun _ => true) s.waits 0 s.plate, [], s.dead⟩ : DS) = s1 at *
  have hw1 : s1.waits = [] := by rw [← hs1]
  obtain ⟨sc, hsc⟩ : ∃ sc, s1.plate[i]? = some sc := ⟨_, List.getElem?_eq_getElem (by rw [g1.2.1]; exact hi)⟩
  have hm : markL s1.plate i = s1.plate.set i ⟨sc.data, true⟩ := by simp only [markL, hsc]
  have hp8 : (s1.plate.set i ⟨sc.data, true⟩).length = 8 := by rw [List.length_set]; exact g1.2.1
  have r3 : getL ⟨s1.plate.set i ⟨sc.data, true⟩, s1.waits, s1.dead⟩ i = (12, []) := by
    unfold getL
    simp only [hw1, lastL]
    rw [List.getElem?_set_self (by rw [g1.2.1]; exact hi)]
    simp
  generalize hP : s1.plate.set i ⟨sc.data, true⟩ = P at *
  have r6 : getL ⟨settleL (fun _ => true) (s1.waits ++ [(i, v)]) 0 P, [], s1.dead⟩ i = (0, v) := by
    unfold getL
    simp only [lastL]
    rw [settle_get _ i _ _ _ (by omega), lastS_true, lastL_snoc, if_pos rfl]
    simp
  have r11 : getL (freshL 8) i = (0, noughts 128) := by rw [(getL_good fresh_gd hi).1, fresh_V]
  have hd1 := g1.1
  have hpl : (settleL (fun _ => true) (s1.waits ++ [(i, v)]) 0 P).length = 8 := by rw [settleL_len]; exact hp8
  refine ⟨(0, []), (0, []), [], (0, []), (0, []), (0, []), (0, []), ?_⟩
  unfold deadJ
  simp only [runL]
  rw [d3 s g.1, hs1, d5 s1 hd1]
  simp only [hm]
  rw [d2 ⟨P, s1.waits, s1.dead⟩ hd1, r3]
  simp only
  rw [d1 ⟨P, s1.waits, s1.dead⟩ hd1]
  simp only
  rw [d3 ⟨P, s1.waits ++ [(i, v)], s1.dead⟩ hd1]
  simp only
  rw [d2 ⟨settleL (fun _ => true) (s1.waits ++ [(i, v)]) 0 P, [], s1.dead⟩ hd1, r6]
  simp only
  rw [d7 ⟨settleL (fun _ => true) (s1.waits ++ [(i, v)]) 0 P, [], s1.dead⟩ hd1]
  simp only
  rw [d2d ⟨settleL (fun _ => true) (s1.waits ++ [(i, v)]) 0 P, [], true⟩ rfl]
  simp only
  rw [d3d ⟨settleL (fun _ => true) (s1.waits ++ [(i, v)]) 0 P, [], true⟩ rfl]
  simp only
  rw [d8]
  simp only
  rw [hpl, d2 (freshL 8) rfl, r11]

end Go.Proofs.Ytbekpkapkaifiaa.T
