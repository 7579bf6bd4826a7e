/- Snaps, plain law: the ways of a move. -/
import Derived.Test.YtaikceooeahfeaaS12
set_option linter.unusedVariables false
set_option linter.unusedSimpArgs false
namespace Go.Proofs.Ytaikceooeahfeaa.T
open Go Go.RowKit Go.Proofs

inductive Step (K : PK) (m : Int × Int) : PK × Int × List Int → Prop
  | no (e : Int) (he : e ≠ 0) : Step K m (tickP K, e, [])
  | born (hm : m.1 = 1) : Step K m ({ tickP K with blocks := K.blocks ++ [(K.now + 1, true)] }, 0, [])
  | keep (hm : m.1 = 3) : Step K m ({ tickP K with shots := K.shots ++ [⟨K.kept, K.now + 1, []⟩], kept := K.kept + 1 }, 0, [])
  | kill (hm : m.1 = 2) (b : Nat) (hb : m.2 = b) (at_ : Int) (hk : K.blocks[b]? = some (at_, true)) (hl : ∀ s, K.shots.getLast? = some s → s.made < at_) : Step K m ({ tickP K with blocks := K.blocks.set b (at_, false) }, 0, [(b : Int)])
  | bury (hm : m.1 = 2) (b : Nat) (hb : m.2 = b) (at_ : Int) (hk : K.blocks[b]? = some (at_, true)) (s : PS) (hs : K.shots.getLast? = some s) (hl : ¬ s.made < at_) : Step K m ({ tickP K with blocks := K.blocks.set b (at_, false), shots := K.shots.set (K.shots.length - 1) ⟨s.num, s.made, s.dead ++ [(b : Int)]⟩ }, 0, [])
  | drop (hm : m.1 = 4) (i : Nat) (s : PS) (hi : K.shots[i]? = some s) (hs : s.num = m.2) : Step K m ({ tickP K with shots := (buryP K.shots (i - 1) (s.dead.filter fun b => !decide (aheadP K.shots i < bornOf K.blocks b))).eraseIdx i }, 0, sortL (s.dead.filter fun b => decide (aheadP K.shots i < bornOf K.blocks b)))

theorem step_ways (K : PK) (m : Int × Int) : Step K m (stepP K m) := by
  unfold stepP moveP
  by_cases k1 : m.1 = 1
  · rw [if_pos k1]
    split
    · exact .no 8 (by decide)
    · exact .born k1
  rw [if_neg k1]
  by_cases k2 : m.1 = 2
  · rw [if_pos k2]
    unfold killP
    split
    · exact .no 6 (by decide)
    rename_i hb
    split
    · exact .no 6 (by decide)
    · exact .no 6 (by decide)
    · rename_i at_ e
      have hb' : m.2 = (m.2.toNat : Int) := by omega
      split
      · rename_i hl
        have hl' : K.shots.getLast? = none := hl
        have := Step.kill (K := K) k2 m.2.toNat hb' at_ e (fun s hs => by rw [hl'] at hs; cases hs)
        rw [← hb'] at this
        exact this
      · rename_i s hs
        have hs' : K.shots.getLast? = some s := hs
        split
        · rename_i c
          have := Step.kill (K := K) k2 m.2.toNat hb' at_ e (fun s' q => by rw [hs'] at q; cases q; exact c)
          rw [← hb'] at this
          exact this
        · rename_i c
          have := Step.bury (K := K) k2 m.2.toNat hb' at_ e s hs' c
          rw [← hb'] at this
          exact this
  rw [if_neg k2]
  by_cases k3 : m.1 = 3
  · rw [if_pos k3]
    split
    · exact .no 8 (by decide)
    · exact .keep k3
  rw [if_neg k3]
  by_cases k4 : m.1 = 4
  · rw [if_pos k4]
    unfold dropP
    split
    · exact .no 6 (by decide)
    rename_i hn
    split
    · exact .no 6 (by decide)
    · rename_i s hs
      rcases idxP_cases (tickP K).shots m.2 0 with q | ⟨i, s', q1, q2, q3⟩
      · rw [q] at hn; omega
      · rw [Nat.zero_add] at q1
        rw [q1, Int.toNat_natCast] at hs ⊢
        rw [q2] at hs; obtain rfl := Option.some.inj hs
        exact .drop k4 i s' q2 q3
  · rw [if_neg k4]
    exact .no 3 (by decide)

/-! ### which snapshots are there -/
def liveT : List (Int × Bool) → Nat → List (Int × Int)
  | [], _ => []
  | x :: l, k => if x.2 = true then ((k : Int), x.1 + 1) :: liveT l (k + 1) else liveT l (k + 1)
theorem liveT_app : ∀ (l : List (Int × Bool)) (x : Int × Bool) (k : Nat), liveT (l ++ [x]) k = liveT l k ++ (if x.2 = true then [(((k + l.length : Nat) : Int), x.1 + 1)] else [])
  | [], x, k => by simp [liveT]
  | y :: l, x, k => by
    simp only [List.cons_append, liveT, liveT_app l x (k + 1), List.length_cons]
    rw [show k + 1 + l.length = k + (l.length + 1) by omega]
    split <;> simp
theorem liveT_ge : ∀ {l : List (Int × Bool)} {k i : Nat} {p : Int × Int}, (liveT l k)[i]? = some p → ∃ j, p.1 = ((k + j : Nat) : Int) ∧ l[j]? = some (p.2 - 1, true)
  | [], k, i, p, h => by simp [liveT] at h
  | x :: l, k, i, p, h => by
    unfold liveT at h
    split at h
    · rename_i c
      cases i with
      | zero =>
        simp at h
        exact ⟨0, by rw [← h]; rfl, by rw [← h]; simp only [List.getElem?_cons_zero]; rw [← c]; simp⟩
      | succ i =>
        obtain ⟨j, q1, q2⟩ := liveT_ge (by simpa using h)
        exact ⟨j + 1, by rw [q1]; congr 1; omega, by simpa using q2⟩
    · obtain ⟨j, q1, q2⟩ := liveT_ge h
      exact ⟨j + 1, by rw [q1]; congr 1; omega, by simpa using q2⟩
theorem liveT_drop : ∀ {l : List (Int × Bool)} {k i j : Nat} {p : Int × Int}, (liveT l k)[i]? = some p → p.1 = ((k + j : Nat) : Int) → liveT (l.set j ((l[j]?.map (·.1)).getD 0, false)) k = (liveT l k).eraseIdx i
  | [], k, i, j, p, h, _ => by simp [liveT] at h
  | x :: l, k, i, j, p, h, hp => by
    unfold liveT at h ⊢
    split at h
    · rename_i c
      rw [if_pos c]
      cases i with
      | zero =>
        simp at h
        have : j = 0 := by rw [← h] at hp; simp only at hp; omega
        subst this
        simp [liveT]
      | succ i =>
        have h' : (liveT l (k + 1))[i]? = some p := by simpa using h
        obtain ⟨j', q1, _⟩ := liveT_ge h'
        obtain ⟨j, rfl⟩ : ∃ j2, j = j2 + 1 := ⟨j - 1, by omega⟩
        have ih := liveT_drop (j := j) h' (by rw [hp]; congr 1; omega)
        simp only [List.set_cons_succ, List.getElem?_cons_succ, List.eraseIdx_cons_succ]
        rw [← ih, if_pos c]
    · rename_i c
      rw [if_neg c]
      obtain ⟨j', q1, _⟩ := liveT_ge h
      obtain ⟨j, rfl⟩ : ∃ j2, j = j2 + 1 := ⟨j - 1, by omega⟩
      have ih := liveT_drop (j := j) h (by rw [hp]; congr 1; omega)
      simp only [List.set_cons_succ, List.getElem?_cons_succ]
      rw [← ih, if_neg c]
theorem bury_key (l : List PS) (j : Nat) (r : List Int) : (buryP l j r).map (fun s => (s.num, s.made)) = l.map fun s => (s.num, s.made) := by
  unfold buryP
  split
  · rename_i t e
    obtain ⟨hlt, rfl⟩ := List.getElem?_eq_some_iff.1 e
    rw [List.map_set]
    apply List.ext_getElem?
    intro i
    rw [List.getElem?_set]
    split
    · rename_i c; subst c; simp [hlt]
    · rfl
  · rfl
theorem set_key {l : List PS} {j : Nat} {s : PS} (h : l[j]? = some s) (d : List Int) : (l.set j ⟨s.num, s.made, d⟩).map (fun s => (s.num, s.made)) = l.map fun s => (s.num, s.made) := by
  obtain ⟨hlt, rfl⟩ := List.getElem?_eq_some_iff.1 h
  rw [List.map_set]
  apply List.ext_getElem?
  intro i
  rw [List.getElem?_set]
  split
  · rename_i c; subst c; simp [hlt]
  · rfl

end Go.Proofs.Ytaikceooeahfeaa.T
