/- Snaps: SnapSafe, plain law: kills. -/
import Derived.Test.YtaikceooeahfeaaS17
set_option linter.unusedVariables false
set_option linter.unusedSimpArgs false
namespace Go.Proofs.Ytaikceooeahfeaa.T
open Go Go.RowKit Go.Proofs

variable {K : PK} {lives goneL : List Bool} {T : List (Int × Bool)} {S : List (List Bool)}

theorem last_max {l : List PS} (h : l.Pairwise fun s t => s.made < t.made) {u : PS} (hu : l.getLast? = some u) {t : PS} (ht : t ∈ l) : t.made ≤ u.made := by
  rw [List.getLast?_eq_getElem?] at hu
  obtain ⟨hl, rfl⟩ := List.getElem?_eq_some_iff.1 hu
  obtain ⟨i, hi, rfl⟩ := List.getElem_of_mem ht
  by_cases c : i = l.length - 1
  · subst c; exact Int.le_refl _
  · have := List.pairwise_iff_getElem.1 h i (l.length - 1) hi hl (by omega)
    omega

theorem SI.kill (w : SI K lives goneL T S) {b : Nat} {at_ : Int} (hb : K.blocks[b]? = some (at_, true)) (hl : ∀ s, K.shots.getLast? = some s → s.made < at_) :
    SI { tickP K with blocks := K.blocks.set b (at_, false) } (lives.set b false) (marks goneL [(b : Int)]) T S ∧ AnsOk (lives.set b false) goneL T S [(b : Int)] := by
  have hbl := (List.getElem?_eq_some_iff.1 hb).1
  have hmk : marks goneL [(b : Int)] = goneL.set b true := rfl
  have hgb : ∃ g, goneL[b]? = some g := ⟨_, List.getElem?_eq_getElem (by rw [w.gl]; exact hbl)⟩
  obtain ⟨g0, hg0⟩ := hgb
  have hg0' := (w.cnt b at_ true g0 hb hg0).2 rfl
  subst hg0'
  refine ⟨{
    key := w.key
    kept := w.kept
    lv := by rw [w.lv]; show _ = (K.blocks.set b (at_, false)).map _; rw [List.map_set]
    gl := by rw [hmk, List.length_set]; show _ = (K.blocks.set b (at_, false)).length; rw [List.length_set]; exact w.gl
    sl := w.sl
    cnt := fun c at0 l g hc hg => by
      have hc' : (K.blocks.set b (at_, false))[c]? = some (at0, l) := hc
      rw [hmk] at hg
      show (deads K.shots).count (c : Int) = _ ∧ _
      by_cases e : c = b
      · subst e
        rw [List.getElem?_set_self hbl] at hc'
        rw [List.getElem?_set_self (by rw [w.gl]; exact hbl)] at hg
        simp at hc' hg
        obtain ⟨rfl, rfl⟩ := hc'
        subst hg
        have := (w.cnt c at_ true false hb hg0).1
        simp at this ⊢
        exact this
      · rw [List.getElem?_set_ne (fun q => e q.symm)] at hc' hg
        exact w.cnt c at0 l g hc' hg
    dv := fun s hs c hc => by have := w.dv s hs c hc; show 0 ≤ c ∧ c.toNat < (K.blocks.set b (at_, false)).length; rw [List.length_set]; exact this
    mono := w.mono
    sn := w.tick.sn
    bn := fun x hx => by
      rcases List.mem_or_eq_of_mem_set hx with hx | rfl
      · exact w.tick.bn x hx
      · have := w.tick.bn _ (List.mem_of_getElem? hb); exact this
    born := fun s hs l hl c at0 y h1 h2 => by
      have h2' : (K.blocks.set b (at_, false))[c]? = some (at0, y) := h2
      by_cases e : c = b
      · subst e
        rw [List.getElem?_set_self hbl] at h2'
        simp at h2'
        obtain ⟨rfl, _⟩ := h2'
        exact w.born s hs l hl c at_ true h1 hb
      · rw [List.getElem?_set_ne (fun q => e q.symm)] at h2'
        exact w.born s hs l hl c at0 y h1 h2'
    dead := w.dead }, ⟨by simp, fun c hc => ?_⟩⟩
  simp at hc
  subst hc
  refine ⟨by omega, ?_, by rw [Int.toNat_natCast]; exact hg0, fun s m l hT hS q => ?_⟩
  · rw [Int.toNat_natCast, w.lv, List.getElem?_set_self (by rw [List.length_map]; exact hbl)]
  · obtain ⟨t, ht, hn, _⟩ := w.shot hT
    rw [Int.toNat_natCast] at q
    have h1 := w.born t ht l (by rw [hn, Int.toNat_natCast]; exact hS) b at_ true q hb
    cases hu : K.shots.getLast? with
    | none =>
      rw [List.getLast?_eq_none_iff] at hu
      rw [hu] at ht; cases ht
    | some u =>
      have h2 := hl u hu
      have h3 := last_max w.mono hu ht
      omega

theorem SI.bury (w : SI K lives goneL T S) {b : Nat} {at_ : Int} (hb : K.blocks[b]? = some (at_, true)) {s : PS} (hs : K.shots.getLast? = some s) :
    SI { tickP K with blocks := K.blocks.set b (at_, false), shots := K.shots.set (K.shots.length - 1) ⟨s.num, s.made, s.dead ++ [(b : Int)]⟩ } (lives.set b false) goneL T S := by
  have hbl := (List.getElem?_eq_some_iff.1 hb).1
  have hl : K.shots[K.shots.length - 1]? = some s := by rw [← List.getLast?_eq_getElem?]; exact hs
  obtain ⟨hll, hle⟩ := List.getElem?_eq_some_iff.1 hl
  have hmem : ∀ t ∈ K.shots.set (K.shots.length - 1) ⟨s.num, s.made, s.dead ++ [(b : Int)]⟩, ∃ t0 ∈ K.shots, t.num = t0.num ∧ t.made = t0.made ∧ ∀ c ∈ t.dead, c ∈ t0.dead ∨ c = (b : Int) := fun t ht => by
    rcases List.mem_or_eq_of_mem_set ht with ht | rfl
    · exact ⟨t, ht, rfl, rfl, fun c hc => .inl hc⟩
    · exact ⟨s, List.mem_of_getElem? hl, rfl, rfl, fun c hc => by simpa using List.mem_append.1 hc⟩
  exact {
    key := by show (K.shots.set (K.shots.length - 1) ⟨s.num, s.made, s.dead ++ [(b : Int)]⟩).map keyS = _; rw [← w.key]; exact set_key hl _
    kept := w.kept
    lv := by rw [w.lv]; show _ = (K.blocks.set b (at_, false)).map _; rw [List.map_set]
    gl := by rw [w.gl]; show _ = (K.blocks.set b (at_, false)).length; rw [List.length_set]
    sl := w.sl
    cnt := fun c at0 l g hc hg => by
      have hc' : (K.blocks.set b (at_, false))[c]? = some (at0, l) := hc
      show (deads (K.shots.set (K.shots.length - 1) ⟨s.num, s.made, s.dead ++ [(b : Int)]⟩)).count (c : Int) = _ ∧ _
      rw [count_set hl]
      by_cases e : c = b
      · subst e
        rw [List.getElem?_set_self hbl] at hc'
        simp at hc'
        obtain ⟨rfl, rfl⟩ := hc'
        have h1 := w.cnt c at_ true g hb hg
        have hg' := h1.2 rfl
        subst hg'
        have := h1.1
        simp at this ⊢
        exact this
      · rw [List.getElem?_set_ne (fun q => e q.symm)] at hc'
        have h0 : [(b : Int)].count (c : Int) = 0 := by
          apply List.count_eq_zero_of_not_mem
          simp; omega
        rw [h0, Nat.add_zero]
        exact w.cnt c at0 l g hc' hg
    dv := fun t ht c hc => by
      show 0 ≤ c ∧ c.toNat < (K.blocks.set b (at_, false)).length
      rw [List.length_set]
      obtain ⟨t0, h0, _, _, h3⟩ := hmem t ht
      rcases h3 c hc with q | q
      · exact w.dv t0 h0 c q
      · subst q; exact ⟨by omega, by rw [Int.toNat_natCast]; exact hbl⟩
    mono := by
      show (K.shots.set (K.shots.length - 1) ⟨s.num, s.made, s.dead ++ [(b : Int)]⟩).Pairwise _
      have pw := List.pairwise_iff_getElem.1 w.mono
      rw [List.pairwise_iff_getElem]
      intro i j hi hj hij
      rw [List.length_set] at hi hj
      rw [List.getElem_set_ne (by omega) (by rw [List.length_set]; exact hi), List.getElem_set]
      split
      · rename_i c
        have := pw i j hi hj hij
        subst c
        rw [hle] at this
        exact this
      · exact pw i j hi hj hij
    sn := fun t ht => by
      obtain ⟨t0, h0, _, h2, _⟩ := hmem t ht
      rw [h2]; exact w.tick.sn t0 h0
    bn := fun x hx => by
      rcases List.mem_or_eq_of_mem_set hx with hx | rfl
      · exact w.tick.bn x hx
      · have := w.tick.bn _ (List.mem_of_getElem? hb); exact this
    born := fun t ht l hS c at0 y h1 h2 => by
      obtain ⟨t0, h0, h3, h4, _⟩ := hmem t ht
      rw [h3] at hS
      rw [h4]
      have h2' : (K.blocks.set b (at_, false))[c]? = some (at0, y) := h2
      by_cases e : c = b
      · subst e
        rw [List.getElem?_set_self hbl] at h2'
        simp at h2'
        obtain ⟨rfl, _⟩ := h2'
        exact w.born t0 h0 l hS c at_ true h1 hb
      · rw [List.getElem?_set_ne (fun q => e q.symm)] at h2'
        exact w.born t0 h0 l hS c at0 y h1 h2'
    dead := by
      show (K.shots.set (K.shots.length - 1) ⟨s.num, s.made, s.dead ++ [(b : Int)]⟩).Pairwise _
      have pw := List.pairwise_iff_getElem.1 w.dead
      rw [List.pairwise_iff_getElem]
      intro i j hi hj hij
      rw [List.length_set] at hi hj
      rw [List.getElem_set_ne (by omega) (by rw [List.length_set]; exact hi), List.getElem_set]
      split
      · rename_i c
        have := pw i j hi hj hij
        subst c
        rw [hle] at this
        exact this
      · exact pw i j hi hj hij }

end Go.Proofs.Ytaikceooeahfeaa.T
