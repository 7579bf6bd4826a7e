/- Snaps: a keeper stays one that may be; moves, one by one. -/
import Derived.Test.YtaikceooeahfeaaS9
set_option linter.unusedVariables false
set_option linter.unusedSimpArgs false
namespace Go.Proofs.Ytaikceooeahfeaa.T
open Go Go.RowKit Go.Proofs

theorem dsum_set : ∀ {l : List PS} {j : Nat} {s t : PS}, l[j]? = some s → dsum (l.set j t) + s.dead.length = dsum l + t.dead.length
  | [], j, s, t, h => by simp at h
  | a :: l, 0, s, t, h => by simp at h; subst h; simp [dsum]; omega
  | a :: l, j + 1, s, t, h => by
    have := dsum_set (t := t) (l := l) (j := j) (by simpa using h)
    unfold dsum at *
    simp only [List.set_cons_succ, List.map_cons, List.sum_cons]; omega
theorem dsum_erase : ∀ {l : List PS} {j : Nat} {s : PS}, l[j]? = some s → dsum (l.eraseIdx j) + s.dead.length = dsum l
  | [], j, s, h => by simp at h
  | a :: l, 0, s, h => by simp at h; subst h; simp [dsum]; omega
  | a :: l, j + 1, s, h => by
    have := dsum_erase (l := l) (j := j) (s := s) (by simpa using h)
    unfold dsum at *
    simp only [List.eraseIdx_cons_succ, List.map_cons, List.sum_cons]; omega
theorem dsum_app (l : List PS) (s : PS) : dsum (l ++ [s]) = dsum l + s.dead.length := by simp [dsum]
theorem buryP_mem {l : List PS} {j : Nat} {r : List Int} {t : PS} (h : t ∈ buryP l j r) : t ∈ l ∨ ∃ t0 ∈ l, t = ⟨t0.num, t0.made, t0.dead ++ r⟩ := by
  unfold buryP at h
  split at h
  · rename_i t0 e
    rcases List.mem_or_eq_of_mem_set h with h | h
    · exact .inl h
    · exact .inr ⟨t0, List.mem_of_getElem? e, h⟩
  · exact .inl h
theorem buryP_len (l : List PS) (j : Nat) (r : List Int) : (buryP l j r).length = l.length := by unfold buryP; split <;> simp
theorem buryP_erase {l : List PS} {i : Nat} {s : PS} (hs : l[i]? = some s) {r : List Int} (hr : r.length ≤ s.dead.length) : dsum ((buryP l (i - 1) r).eraseIdx i) ≤ dsum l := by
  have hi := (List.getElem?_eq_some_iff.1 hs).1
  have hj : l[i - 1]? = some l[i - 1] := List.getElem?_eq_getElem (by omega)
  unfold buryP
  rw [hj]
  simp only
  have h1 := dsum_set (t := (⟨l[i - 1].num, l[i - 1].made, l[i - 1].dead ++ r⟩ : PS)) hj
  simp only [List.length_append] at h1
  by_cases c : i = 0
  · subst c
    simp only [Nat.zero_sub] at h1 ⊢
    have h2 := dsum_erase (l := l.set 0 ⟨l[0].num, l[0].made, l[0].dead ++ r⟩) (j := 0) (s := ⟨l[0].num, l[0].made, l[0].dead ++ r⟩) (by rw [List.getElem?_set_self hi])
    simp only [List.length_append] at h2
    omega
  · have h2 := dsum_erase (l := l.set (i - 1) ⟨l[i - 1].num, l[i - 1].made, l[i - 1].dead ++ r⟩) (j := i) (s := s) (by rw [List.getElem?_set_ne (by omega)]; exact hs)
    omega

theorem kill_pw {K : PK} (w : PW 1 K) (b : Int) : PW 0 (killP K b).1 := by
  have w0 : PW 0 K := ⟨w.n0, by have := w.k0; omega, w.bl, w.sl, by have := w.ds; omega, w.dv, w.bv⟩
  unfold killP
  split
  · exact w0
  rename_i hb
  split
  · exact w0
  · exact w0
  · rename_i born e
    have hbl := (List.getElem?_eq_some_iff.1 e).1
    have w1 : PW 0 { K with blocks := K.blocks.set b.toNat (born, false) } := {
      n0 := w0.n0, k0 := w0.k0, sl := w0.sl, ds := w0.ds
      bl := by simpa using w0.bl
      dv := by simpa using w0.dv
      bv := fun x hx => by
        rcases List.mem_or_eq_of_mem_set hx with hx | rfl
        · exact w0.bv x hx
        · have := w0.bv _ (List.mem_of_getElem? e); exact this }
    split
    · exact w1
    · rename_i s hs
      split
      · exact w1
      · have hl : K.shots[K.shots.length - 1]? = some s := by rw [← List.getLast?_eq_getElem?]; exact hs
        have h1 := dsum_set (t := (⟨s.num, s.made, s.dead ++ [b]⟩ : PS)) hl
        simp only [List.length_append, List.length_cons, List.length_nil] at h1
        exact {
          n0 := w1.n0, k0 := w1.k0, bl := w1.bl, bv := w1.bv
          sl := by simpa using w0.sl
          ds := by
            have := w.ds
            show ((dsum (K.shots.set (K.shots.length - 1) ⟨s.num, s.made, s.dead ++ [b]⟩) : Nat) : Int) + 0 ≤ K.now
            omega
          dv := fun t ht c hc => by
            show 0 ≤ c ∧ c.toNat < (K.blocks.set b.toNat (born, false)).length
            rw [List.length_set]
            rcases List.mem_or_eq_of_mem_set ht with ht | rfl
            · exact w0.dv t ht c hc
            · rcases List.mem_append.1 hc with hc | hc
              · exact w0.dv s (List.mem_of_getElem? hl) c hc
              · simp at hc; subst hc; exact ⟨by omega, hbl⟩ }

theorem drop_pw {K : PK} (w : PW 1 K) (x : Int) : PW 0 (dropP K x).1 := by
  have w0 : PW 0 K := ⟨w.n0, by have := w.k0; omega, w.bl, w.sl, by have := w.ds; omega, w.dv, w.bv⟩
  unfold dropP
  split
  · exact w0
  split
  · exact w0
  · rename_i s hs
    have hm := List.mem_of_getElem? hs
    generalize (idxP K.shots x 0).toNat = i at *
    generalize aheadP K.shots i = A
    have hr : (s.dead.filter fun b => !decide (A < bornOf K.blocks b)).length ≤ s.dead.length := List.length_filter_le _ _
    have hb := buryP_erase hs hr
    exact {
      n0 := w0.n0, k0 := w0.k0, bl := w0.bl, bv := w0.bv
      sl := by
        have h1 : ((buryP K.shots (i - 1) (s.dead.filter fun b => !decide (A < bornOf K.blocks b))).eraseIdx i).length ≤ (buryP K.shots (i - 1) (s.dead.filter fun b => !decide (A < bornOf K.blocks b))).length := List.length_eraseIdx_le _ _
        rw [buryP_len] at h1
        exact Nat.le_trans h1 w0.sl
      ds := by
        have := w0.ds
        show ((dsum ((buryP K.shots (i - 1) (s.dead.filter fun b => !decide (A < bornOf K.blocks b))).eraseIdx i) : Nat) : Int) + 0 ≤ K.now
        omega
      dv := fun t ht c hc => by
        rcases buryP_mem (List.mem_of_mem_eraseIdx ht) with ht | ⟨t0, ht0, rfl⟩
        · exact w0.dv t ht c hc
        · rcases List.mem_append.1 hc with hc | hc
          · exact w0.dv t0 ht0 c hc
          · exact w0.dv s hm c (List.mem_filter.1 hc).1 }

theorem move_pw {K : PK} (w : PW 1 K) (kind which : Int) : PW 0 (moveP K kind which).1 := by
  have w0 : PW 0 K := ⟨w.n0, by have := w.k0; omega, w.bl, w.sl, by have := w.ds; omega, w.dv, w.bv⟩
  unfold moveP
  split
  · split
    · exact w0
    · rename_i c
      exact {
        n0 := w0.n0, k0 := w0.k0, sl := w0.sl, ds := w0.ds
        bl := by show (K.blocks ++ [(K.now, true)]).length ≤ 200; have := w0.bl; simp; omega
        dv := fun s hs b hb => by have := w0.dv s hs b hb; show 0 ≤ b ∧ b.toNat < (K.blocks ++ [(K.now, true)]).length; simp; omega
        bv := fun x hx => by
          rcases List.mem_append.1 hx with hx | hx
          · exact w0.bv x hx
          · simp at hx; subst hx; exact w0.n0.1 }
  split
  · exact kill_pw w which
  split
  · split
    · exact w0
    · rename_i c
      exact {
        n0 := w0.n0, bl := w0.bl, bv := w0.bv
        k0 := by have := w.k0; show 0 ≤ K.kept + 1 ∧ K.kept + 1 + 0 ≤ K.now; omega
        sl := by show (K.shots ++ [(⟨K.kept, K.now, []⟩ : PS)]).length ≤ 9; have := w0.sl; simp; omega
        ds := by
          show ((dsum (K.shots ++ [(⟨K.kept, K.now, []⟩ : PS)]) : Nat) : Int) + 0 ≤ K.now
          rw [dsum_app]; have := w0.ds; simp only [List.length_nil]; omega
        dv := fun s hs b hb => by
          rcases List.mem_append.1 hs with hs | hs
          · exact w0.dv s hs b hb
          · simp at hs; subst hs; cases hb }
  split
  · exact drop_pw w which
  · exact w0

def tickP (K : PK) : PK := { K with now := K.now + 1 }
theorem tick_pw {K : PK} (w : PW 0 K) (h : K.now < 400) : PW 1 (tickP K) := ⟨by have := w.n0; show 0 ≤ K.now + 1 ∧ K.now + 1 ≤ 400; omega, by have := w.k0; show 0 ≤ K.kept ∧ K.kept + 1 ≤ K.now + 1; omega, w.bl, w.sl, by have := w.ds; show (dsum K.shots : Int) + 1 ≤ K.now + 1; omega, w.dv, w.bv⟩
def stepP (K : PK) (m : Int × Int) : PK × Int × List Int := moveP (tickP K) m.1 m.2
theorem step_pw {K : PK} (w : PW 0 K) (h : K.now < 400) (m : Int × Int) : PW 0 (stepP K m).1 := move_pw (tick_pw w h) m.1 m.2
theorem kill_now (K : PK) (b : Int) : (killP K b).1.now = K.now := by
  unfold killP; repeat' split
  all_goals rfl
theorem drop_now (K : PK) (b : Int) : (dropP K b).1.now = K.now := by
  unfold dropP; repeat' split
  all_goals rfl
theorem step_now (K : PK) (m : Int × Int) : (stepP K m).1.now = K.now + 1 := by
  unfold stepP moveP
  repeat' split
  all_goals first | rfl | exact kill_now _ _ | exact drop_now _ _
def playP : PK → List (Int × Int) → List (Int × List Int)
  | _, [] => []
  | K, m :: l => (stepP K m).2 :: playP (stepP K m).1 l
theorem playP_len : ∀ (l : List (Int × Int)) (K : PK), (playP K l).length = l.length
  | [], _ => rfl
  | m :: l, K => by simp [playP, playP_len l]

end Go.Proofs.Ytaikceooeahfeaa.T
