/- Snaps: SnapSafe, plain law: nothing that is needed is gone. -/
import Derived.Test.YtaikceooeahfeaaS16
set_option linter.unusedVariables false
set_option linter.unusedSimpArgs false
namespace Go.Proofs.Ytaikceooeahfeaa.T
open Go Go.RowKit Go.Proofs

structure SI (K : PK) (lives goneL : List Bool) (T : List (Int × Bool)) (S : List (List Bool)) : Prop where
  key : K.shots.map keyS = liveT T 0
  kept : K.kept = (T.length : Int)
  lv : lives = K.blocks.map (·.2)
  gl : goneL.length = K.blocks.length
  sl : S.length = T.length
  cnt : ∀ (b : Nat) (at_ : Int) (l g : Bool), K.blocks[b]? = some (at_, l) → goneL[b]? = some g → (deads K.shots).count (b : Int) = (if l = false ∧ g = false then 1 else 0) ∧ (l = true → g = false)
  dv : ∀ s ∈ K.shots, ∀ b ∈ s.dead, 0 ≤ b ∧ b.toNat < K.blocks.length
  mono : K.shots.Pairwise fun s t => s.made < t.made
  sn : ∀ s ∈ K.shots, s.made ≤ K.now
  bn : ∀ x ∈ K.blocks, 1 ≤ x.1 ∧ x.1 ≤ K.now
  born : ∀ s ∈ K.shots, ∀ l, S[s.num.toNat]? = some l → ∀ (b : Nat) (at_ : Int) (y : Bool), l[b]? = some true → K.blocks[b]? = some (at_, y) → at_ ≤ s.made
  dead : K.shots.Pairwise fun s t => ∀ b ∈ s.dead, ∀ l, S[t.num.toNat]? = some l → l[b.toNat]? ≠ some true

/-- What the law asks of an answer. -/
structure AnsOk (lives goneL : List Bool) (T : List (Int × Bool)) (S : List (List Bool)) (bs : List Int) : Prop where
  nd : bs.Nodup
  ok : ∀ b ∈ bs, 0 ≤ b ∧ lives[b.toNat]? = some false ∧ goneL[b.toNat]? = some false ∧ ∀ (s : Nat) (m : Int) (l : List Bool), T[s]? = some (m, true) → S[s]? = some l → l[b.toNat]? ≠ some true

theorem liveT_mem : ∀ {l : List (Int × Bool)} {k j : Nat} {m : Int}, l[j]? = some (m, true) → (((k + j : Nat) : Int), m + 1) ∈ liveT l k
  | [], k, j, m, h => by simp at h
  | x :: l, k, 0, m, h => by
    simp at h; subst h
    simp [liveT]
  | x :: l, k, j + 1, m, h => by
    have := liveT_mem (k := k + 1) (l := l) (j := j) (m := m) (by simpa using h)
    rw [show k + 1 + j = k + (j + 1) by omega] at this
    unfold liveT
    split
    · exact List.mem_cons_of_mem _ this
    · exact this

variable {K : PK} {lives goneL : List Bool} {T : List (Int × Bool)} {S : List (List Bool)}
theorem SI.shot (w : SI K lives goneL T S) {s : Nat} {m : Int} (h : T[s]? = some (m, true)) : ∃ t ∈ K.shots, t.num = (s : Int) ∧ t.made = m + 1 := by
  have := liveT_mem (k := 0) h
  rw [Nat.zero_add, ← w.key] at this
  obtain ⟨t, h1, h2⟩ := List.mem_map.1 this
  unfold keyS at h2
  simp only [Prod.mk.injEq] at h2
  exact ⟨t, h1, h2.1, h2.2⟩

theorem SI.tick (w : SI K lives goneL T S) : SI (tickP K) lives goneL T S :=
  { w with sn := fun s hs => by have := w.sn s hs; show s.made ≤ K.now + 1; omega, bn := fun x hx => by have := w.bn x hx; show 1 ≤ x.1 ∧ x.1 ≤ K.now + 1; omega }

theorem SI.birth (w : SI K lives goneL T S) (hn : 0 ≤ K.now) (hS : ∀ l ∈ S, l.length ≤ K.blocks.length) : SI { tickP K with blocks := K.blocks ++ [(K.now + 1, true)] } (lives ++ [true]) (goneL ++ [false]) T S where
  key := w.key
  kept := w.kept
  lv := by rw [w.lv]; show _ = (K.blocks ++ [(K.now + 1, true)]).map _; simp
  gl := by show (goneL ++ [false]).length = (K.blocks ++ [(K.now + 1, true)]).length; simp [w.gl]
  sl := w.sl
  cnt := fun b at_ l g hb hg => by
    show (deads K.shots).count (b : Int) = _ ∧ _
    have hb' : (K.blocks ++ [(K.now + 1, true)])[b]? = some (at_, l) := hb
    by_cases c : b < K.blocks.length
    · rw [List.getElem?_append_left c] at hb'
      rw [List.getElem?_append_left (by rw [w.gl]; exact c)] at hg
      exact w.cnt b at_ l g hb' hg
    · have hlen := (List.getElem?_eq_some_iff.1 hb').1
      have : b = K.blocks.length := by simp at hlen; omega
      subst this
      rw [List.getElem?_append_right (Nat.le_refl _), Nat.sub_self] at hb'
      rw [List.getElem?_append_right (by rw [w.gl]; exact Nat.le_refl _), w.gl, Nat.sub_self] at hg
      simp at hb' hg
      obtain ⟨_, rfl⟩ := hb'
      subst hg
      refine ⟨?_, fun _ => rfl⟩
      rw [if_neg (by simp)]
      apply List.count_eq_zero_of_not_mem
      intro hm
      obtain ⟨d, hd, hx⟩ := List.mem_flatten.1 hm
      obtain ⟨s, hs, rfl⟩ := List.mem_map.1 hd
      have := w.dv s hs _ hx
      omega
  dv := fun s hs b hb => by have := w.dv s hs b hb; show 0 ≤ b ∧ b.toNat < (K.blocks ++ [(K.now + 1, true)]).length; simp; omega
  mono := w.mono
  sn := w.tick.sn
  bn := fun x hx => by
    rcases List.mem_append.1 hx with hx | hx
    · exact w.tick.bn x hx
    · simp at hx; subst hx; show 1 ≤ K.now + 1 ∧ K.now + 1 ≤ K.now + 1; omega
  born := fun s hs l hl b at_ y h1 h2 => by
    have h2' : (K.blocks ++ [(K.now + 1, true)])[b]? = some (at_, y) := h2
    have hlb := (List.getElem?_eq_some_iff.1 h1).1
    have := hS l (List.mem_of_getElem? hl)
    rw [List.getElem?_append_left (by omega)] at h2'
    exact w.born s hs l hl b at_ y h1 h2'
  dead := w.dead

theorem SI.snap (w : SI K lives goneL T S) : SI { tickP K with shots := K.shots ++ [⟨K.kept, K.now + 1, []⟩], kept := K.kept + 1 } lives goneL (T ++ [(K.now, true)]) (S ++ [lives]) where
  key := by
    show (K.shots ++ [(⟨K.kept, K.now + 1, []⟩ : PS)]).map keyS = _
    rw [liveT_app, List.map_append, w.key, if_pos rfl, Nat.zero_add, ← w.kept]; rfl
  kept := by show K.kept + 1 = ((T ++ [(K.now, true)]).length : Int); rw [w.kept]; simp
  lv := w.lv
  gl := w.gl
  sl := by simp [w.sl]
  cnt := fun b at_ l g hb hg => by
    have : deads (K.shots ++ [(⟨K.kept, K.now + 1, []⟩ : PS)]) = deads K.shots := by simp [deads]
    show (deads (K.shots ++ [(⟨K.kept, K.now + 1, []⟩ : PS)])).count (b : Int) = _ ∧ _
    rw [this]; exact w.cnt b at_ l g hb hg
  dv := fun s hs b hb => by
    rcases List.mem_append.1 hs with hs | hs
    · exact w.dv s hs b hb
    · simp at hs; subst hs; cases hb
  mono := by
    show (K.shots ++ [(⟨K.kept, K.now + 1, []⟩ : PS)]).Pairwise _
    rw [List.pairwise_append]
    refine ⟨w.mono, List.pairwise_singleton _ _, fun s hs t ht => ?_⟩
    simp at ht; subst ht
    have := w.sn s hs
    show s.made < K.now + 1; omega
  sn := fun s hs => by
    rcases List.mem_append.1 hs with hs | hs
    · exact w.tick.sn s hs
    · simp at hs; subst hs; exact Int.le_refl _
  bn := w.tick.bn
  born := fun s hs l hl b at_ y h1 h2 => by
    rcases List.mem_append.1 hs with hs | hs
    · have hn : ∃ j : Nat, s.num = (j : Int) ∧ j < T.length := by
        have hm : keyS s ∈ liveT T 0 := by rw [← w.key]; exact List.mem_map_of_mem hs
        obtain ⟨i, hi⟩ := List.getElem?_of_mem hm
        obtain ⟨j, q1, q2⟩ := liveT_ge hi
        exact ⟨j, by rw [Nat.zero_add] at q1; exact q1, (List.getElem?_eq_some_iff.1 q2).1⟩
      obtain ⟨j, hj, hjl⟩ := hn
      rw [hj, Int.toNat_natCast, List.getElem?_append_left (by rw [w.sl]; exact hjl)] at hl
      exact w.born s hs l (by rw [hj, Int.toNat_natCast]; exact hl) b at_ y h1 h2
    · simp at hs; subst hs
      have := (w.bn _ (List.mem_of_getElem? h2)).2
      show at_ ≤ K.now + 1
      simp only at this; omega
  dead := by
    show (K.shots ++ [(⟨K.kept, K.now + 1, []⟩ : PS)]).Pairwise _
    rw [List.pairwise_append]
    refine ⟨?_, List.pairwise_singleton _ _, fun s hs t ht b hb l hl => ?_⟩
    · refine w.dead.imp_of_mem fun {s t} hs ht q b hb l hl => ?_
      have hm : keyS t ∈ liveT T 0 := by rw [← w.key]; exact List.mem_map_of_mem ht
      obtain ⟨i, hi⟩ := List.getElem?_of_mem hm
      obtain ⟨j, q1, q2⟩ := liveT_ge hi
      rw [Nat.zero_add] at q1
      have hjl := (List.getElem?_eq_some_iff.1 q2).1
      have hj : t.num = (j : Int) := q1
      rw [hj, Int.toNat_natCast, List.getElem?_append_left (by rw [w.sl]; exact hjl)] at hl
      exact q b hb l (by rw [hj, Int.toNat_natCast]; exact hl)
    · simp at ht; subst ht
      have hl' : l = lives := by
        have h1 : (K.kept).toNat = T.length := by rw [w.kept]; rfl
        have hl2 : (S ++ [lives])[(K.kept).toNat]? = some l := hl
        rw [h1, ← w.sl, List.getElem?_append_right (Nat.le_refl _), Nat.sub_self] at hl2
        simpa using hl2.symm
      subst hl'
      have hv := w.dv s hs b hb
      have hpos := count_mem hs hb
      obtain ⟨at0, l0, hbl⟩ : ∃ at0 l0, K.blocks[b.toNat]? = some (at0, l0) := ⟨_, _, List.getElem?_eq_getElem hv.2⟩
      obtain ⟨g0, hgl⟩ : ∃ g0, goneL[b.toNat]? = some g0 := ⟨_, List.getElem?_eq_getElem (by rw [w.gl]; exact hv.2)⟩
      have hc := (w.cnt b.toNat at0 l0 g0 hbl hgl).1
      rw [show ((b.toNat : Nat) : Int) = b by omega] at hc
      rw [w.lv, List.getElem?_map, hbl]
      intro q
      simp only [Option.map_some, Option.some.injEq] at q
      subst q
      simp at hc
      omega

end Go.Proofs.Ytaikceooeahfeaa.T
