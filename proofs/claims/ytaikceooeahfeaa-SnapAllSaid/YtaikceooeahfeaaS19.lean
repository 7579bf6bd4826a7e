/- Snaps: SnapSafe, plain law: drops. -/
import Derived.Test.YtaikceooeahfeaaS18
set_option linter.unusedVariables false
set_option linter.unusedSimpArgs false
namespace Go.Proofs.Ytaikceooeahfeaa.T
open Go Go.RowKit Go.Proofs

variable {K : PK} {lives goneL : List Bool} {T : List (Int × Bool)} {S : List (List Bool)}

theorem bury_at {l : List PS} {i : Nat} (hi : i < l.length) (r : List Int) {q : Nat} (hq : q < l.length) : ∃ t, (buryP l (i - 1) r)[q]? = some t ∧ t.num = l[q].num ∧ t.made = l[q].made ∧ (∀ b ∈ t.dead, b ∈ l[q].dead ∨ (q = i - 1 ∧ b ∈ r)) := by
  have hj : l[i - 1]? = some l[i - 1] := List.getElem?_eq_getElem (by omega)
  unfold buryP
  rw [hj]
  simp only
  by_cases c : q = i - 1
  · subst c
    refine ⟨_, List.getElem?_set_self (by omega), rfl, rfl, fun b hb => ?_⟩
    rcases List.mem_append.1 hb with hb | hb
    · exact .inl hb
    · exact .inr ⟨rfl, hb⟩
  · exact ⟨l[q], by rw [List.getElem?_set_ne (fun e => c e.symm)]; exact List.getElem?_eq_getElem hq, rfl, rfl, fun b hb => .inl hb⟩

/-- Which of the old ones a new one is. -/
theorem erase_at {l : List PS} {i : Nat} (hi : i < l.length) (r : List Int) {m : Nat} {t : PS} (h : ((buryP l (i - 1) r).eraseIdx i)[m]? = some t) : ∃ q, q = (if m < i then m else m + 1) ∧ ∃ hq : q < l.length, t.num = l[q].num ∧ t.made = l[q].made ∧ (∀ b ∈ t.dead, b ∈ l[q].dead ∨ (q = i - 1 ∧ i ≠ 0 ∧ b ∈ r) ∨ (i = 0 ∧ q = 0)) := by
  have hlen := (List.getElem?_eq_some_iff.1 h).1
  have hle : ((buryP l (i - 1) r).eraseIdx i).length = l.length - 1 := by rw [List.length_eraseIdx, buryP_len, if_pos hi]
  rw [List.getElem?_eraseIdx] at h
  refine ⟨_, rfl, ?_⟩
  by_cases c : m < i
  · rw [if_pos c] at h ⊢
    obtain ⟨t', h1, h2, h3, h4⟩ := bury_at hi r (q := m) (by omega)
    rw [h1] at h; obtain rfl := Option.some.inj h
    exact ⟨by omega, h2, h3, fun b hb => (h4 b hb).imp id fun q => .inl ⟨q.1, by omega, q.2⟩⟩
  · rw [if_neg c] at h ⊢
    obtain ⟨t', h1, h2, h3, h4⟩ := bury_at hi r (q := m + 1) (by omega)
    rw [h1] at h; obtain rfl := Option.some.inj h
    exact ⟨by omega, h2, h3, fun b hb => (h4 b hb).imp id fun q => by omega⟩

theorem SI.drop (w : SI K lives goneL T S) {i : Nat} {s : PS} (hi : K.shots[i]? = some s) :
    ∃ j : Nat, s.num = (j : Int) ∧ j < T.length ∧ (T[j]?).map (·.2) = some true ∧
      SI { tickP K with shots := (buryP K.shots (i - 1) (s.dead.filter fun b => !decide (aheadP K.shots i < bornOf K.blocks b))).eraseIdx i } lives (marks goneL (sortL (s.dead.filter fun b => decide (aheadP K.shots i < bornOf K.blocks b)))) (T.set j ((T[j]?.map (·.1)).getD 0, false)) S ∧
      AnsOk lives goneL (T.set j ((T[j]?.map (·.1)).getD 0, false)) S (sortL (s.dead.filter fun b => decide (aheadP K.shots i < bornOf K.blocks b))) := by
  have hk : (liveT T 0)[i]? = some (keyS s) := by rw [← w.key, List.getElem?_map, hi]; rfl
  obtain ⟨j, q1, q2⟩ := liveT_ge hk
  rw [Nat.zero_add] at q1
  have hnum : s.num = (j : Int) := q1
  have hjl := (List.getElem?_eq_some_iff.1 q2).1
  obtain ⟨hil, hie⟩ := List.getElem?_eq_some_iff.1 hi
  have hsm := List.mem_of_getElem? hi
  obtain ⟨A, hA⟩ : ∃ A, A = aheadP K.shots i := ⟨_, rfl⟩
  rw [← hA]
  obtain ⟨p, hp⟩ : ∃ p : Int → Bool, p = fun b => decide (A < bornOf K.blocks b) := ⟨_, rfl⟩
  have hpn : (fun b => !decide (A < bornOf K.blocks b)) = fun b => !p b := by rw [hp]
  rw [hpn, ← hp]
  have hbo : ∀ b ∈ s.dead, ∃ at_ l, K.blocks[b.toNat]? = some (at_, l) ∧ bornOf K.blocks b = at_ := fun b hb => by
    have hv := w.dv s hsm b hb
    refine ⟨_, _, List.getElem?_eq_getElem hv.2, ?_⟩
    unfold bornOf
    rw [List.getElem?_eq_getElem hv.2]; rfl
  have h0 : i = 0 → ∀ b ∈ s.dead, p b = true := fun e b hb => by
    obtain ⟨at_, l, h1, h2⟩ := hbo b hb
    rw [hp]
    apply decide_eq_true
    rw [h2, hA]
    unfold aheadP
    rw [if_pos e]
    have := (w.bn _ (List.mem_of_getElem? h1)).1
    simp only at this; omega
  have hcnt := count_drop hi p h0
  obtain ⟨r, hr⟩ : ∃ r, r = s.dead.filter fun b => !p b := ⟨_, rfl⟩
  have hrs : ∀ b ∈ r, b ∈ s.dead := fun b hb => by rw [hr] at hb; exact (List.mem_filter.1 hb).1
  rw [← hr] at hcnt ⊢
  -- of the dead ones what is told
  have dead1 : ∀ b ∈ s.dead, ∃ at_, K.blocks[b.toNat]? = some (at_, false) ∧ goneL[b.toNat]? = some false ∧ (deads K.shots).count b = 1 ∧ 0 ≤ b := fun b hb => by
    have hv := w.dv s hsm b hb
    obtain ⟨at_, l, hbl, _⟩ := hbo b hb
    obtain ⟨g, hg⟩ : ∃ g, goneL[b.toNat]? = some g := ⟨_, List.getElem?_eq_getElem (by rw [w.gl]; exact hv.2)⟩
    have hc := (w.cnt b.toNat at_ l g hbl hg).1
    rw [show ((b.toNat : Nat) : Int) = b by omega] at hc
    have hpos := count_mem hsm hb
    by_cases c : l = false ∧ g = false
    · obtain ⟨rfl, rfl⟩ := c
      exact ⟨at_, hbl, hg, by simpa using hc, hv.1⟩
    · rw [if_neg c] at hc; omega
  have gmem : ∀ b, b ∈ sortL (s.dead.filter p) ↔ b ∈ s.dead ∧ p b = true := fun b => by rw [sortL_mem, List.mem_filter]
  have gpos : ∀ b ∈ sortL (s.dead.filter p), 0 ≤ b := fun b hb => by
    obtain ⟨_, _, _, _, h⟩ := dead1 b ((gmem b).1 hb).1; exact h
  refine ⟨j, hnum, hjl, by rw [q2]; rfl, ?_, ⟨?_, fun b hb => ?_⟩⟩
  · have mem : ∀ t ∈ (buryP K.shots (i - 1) r).eraseIdx i, ∃ q, ∃ hq : q < K.shots.length, q ≠ i ∧ t.num = K.shots[q].num ∧ t.made = K.shots[q].made ∧ ∀ b ∈ t.dead, b ∈ K.shots[q].dead ∨ b ∈ s.dead := fun t ht => by
      obtain ⟨m, hm⟩ := List.getElem?_of_mem ht
      obtain ⟨q, e1, e2, e3, e4, e5⟩ := erase_at hil r hm
      refine ⟨q, e2, by split at e1 <;> omega, e3, e4, fun b hb => ?_⟩
      rcases e5 b hb with z | ⟨_, _, z⟩ | ⟨z1, z2⟩
      · exact .inl z
      · exact .inr (hrs b z)
      · exfalso; split at e1 <;> omega
    exact {
      key := by
        show ((buryP K.shots (i - 1) r).eraseIdx i).map keyS = _
        rw [← map_erase, show (buryP K.shots (i - 1) r).map keyS = K.shots.map keyS from bury_key _ _ _, w.key, liveT_drop hk (by rw [Nat.zero_add]; exact q1)]
      kept := by rw [List.length_set]; exact w.kept
      lv := w.lv
      gl := by rw [marks_len]; exact w.gl
      sl := by rw [List.length_set]; exact w.sl
      cnt := fun c at0 l g hc hg => by
        show (deads ((buryP K.shots (i - 1) r).eraseIdx i)).count (c : Int) = _ ∧ _
        have hc : K.blocks[c]? = some (at0, l) := hc
        have h1 := hcnt (c : Int)
        rw [marks_get _ _ _ gpos] at hg
        have hcl := (List.getElem?_eq_some_iff.1 hc).1
        obtain ⟨g0, hg0⟩ : ∃ g0, goneL[c]? = some g0 := ⟨_, List.getElem?_eq_getElem (by rw [w.gl]; exact hcl)⟩
        have h2 := w.cnt c at0 l g0 hc hg0
        by_cases cg : (c : Int) ∈ sortL (s.dead.filter p)
        · rw [if_pos cg, hg0] at hg
          simp at hg
          subst hg
          obtain ⟨z1, z2⟩ := (gmem _).1 cg
          obtain ⟨at1, y1, y2, y3, _⟩ := dead1 _ z1
          rw [Int.toNat_natCast] at y1 y2
          rw [hc] at y1
          simp at y1
          obtain ⟨_, rfl⟩ := y1
          have hf : 0 < (s.dead.filter p).count (c : Int) := by rw [List.count_pos_iff, List.mem_filter]; exact ⟨z1, z2⟩
          simp
          omega
        · rw [if_neg cg] at hg
          have hf : (s.dead.filter p).count (c : Int) = 0 := by
            apply List.count_eq_zero_of_not_mem
            intro q; exact cg ((sortL_mem _ _).2 q)
          rw [hg] at hg0
          obtain rfl := Option.some.inj hg0
          rw [hf, Nat.add_zero] at h1
          rw [h1]; exact h2
      dv := fun t ht b hb => by
        obtain ⟨q, hq, _, _, _, h5⟩ := mem t ht
        rcases h5 b hb with z | z
        · exact w.dv _ (List.getElem_mem hq) b z
        · exact w.dv s hsm b z
      mono := by
        show ((buryP K.shots (i - 1) r).eraseIdx i).Pairwise _
        rw [List.pairwise_iff_getElem]
        intro a b ha hb hab
        obtain ⟨qa, e1, e2, _, e4, _⟩ := erase_at hil r (List.getElem?_eq_getElem ha)
        obtain ⟨qb, f1, f2, _, f4, _⟩ := erase_at hil r (List.getElem?_eq_getElem hb)
        rw [e4, f4]
        exact List.pairwise_iff_getElem.1 w.mono qa qb e2 f2 (by split at e1 <;> split at f1 <;> omega)
      sn := fun t ht => by
        obtain ⟨q, hq, _, _, h4, _⟩ := mem t ht
        rw [h4]; exact w.tick.sn _ (List.getElem_mem hq)
      bn := w.tick.bn
      born := fun t ht l hS b at_ y h1 h2 => by
        obtain ⟨q, hq, _, h3, h4, _⟩ := mem t ht
        rw [h3] at hS
        rw [h4]
        exact w.born _ (List.getElem_mem hq) l hS b at_ y h1 h2
      dead := by
        show ((buryP K.shots (i - 1) r).eraseIdx i).Pairwise _
        rw [List.pairwise_iff_getElem]
        intro a b ha hb hab c hc l hl
        obtain ⟨qa, e1, e2, _, _, e5⟩ := erase_at hil r (List.getElem?_eq_getElem ha)
        obtain ⟨qb, f1, f2, f3, _, _⟩ := erase_at hil r (List.getElem?_eq_getElem hb)
        rw [f3] at hl
        have pw := List.pairwise_iff_getElem.1 w.dead
        have hqb : qb ≠ i := by split at f1 <;> omega
        rcases e5 c hc with z | ⟨z1, z2, z3⟩ | ⟨z1, z2⟩
        · exact pw qa qb e2 f2 (by split at e1 <;> split at f1 <;> omega) c z l hl
        · exact pw i qb hil f2 (by split at e1 <;> split at f1 <;> omega) c (by rw [hie]; exact hrs c z3) l hl
        · exfalso; split at e1 <;> omega }
  · rw [List.nodup_iff_count]
    intro b
    rw [sortL_count]
    by_cases c : b ∈ s.dead.filter p
    · obtain ⟨_, _, _, h1, _⟩ := dead1 b (List.mem_filter.1 c).1
      have := hcnt b
      omega
    · rw [List.count_eq_zero_of_not_mem c]; omega
  · obtain ⟨z1, z2⟩ := (gmem b).1 hb
    obtain ⟨at_, y1, y2, _, y4⟩ := dead1 b z1
    refine ⟨y4, by rw [w.lv, List.getElem?_map, y1]; rfl, y2, fun q m l hT hS ht => ?_⟩
    by_cases cq : q = j
    · subst cq
      rw [List.getElem?_set_self hjl] at hT
      simp at hT
    · rw [List.getElem?_set_ne (fun e => cq e.symm)] at hT
      obtain ⟨t, ht1, ht2, _⟩ := w.shot hT
      obtain ⟨n, hn, rfl⟩ := List.getElem_of_mem ht1
      have hni : n ≠ i := fun e => by subst e; rw [hie] at ht2; omega
      have hSt : S[(K.shots[n].num).toNat]? = some l := by rw [ht2, Int.toNat_natCast]; exact hS
      rcases Nat.lt_or_gt_of_ne hni with c | c
      · have h1 := w.born _ (List.getElem_mem hn) l hSt b.toNat at_ false ht y1
        have h2 : K.shots[n].made ≤ K.shots[i - 1].made := by
          by_cases c2 : n = i - 1
          · subst c2; exact Int.le_refl _
          · have := List.pairwise_iff_getElem.1 w.mono n (i - 1) hn (by omega) (by omega); omega
        have h3 : A = K.shots[i - 1].made := by rw [hA]; unfold aheadP; rw [if_neg (by omega), List.getElem?_eq_getElem (by omega)]; rfl
        obtain ⟨at2, l2, x1, x2⟩ := hbo b z1
        rw [y1] at x1
        simp at x1
        rw [hp] at z2
        have := of_decide_eq_true z2
        omega
      · exact List.pairwise_iff_getElem.1 w.dead i n hil hn c b (by rw [hie]; exact z1) l hSt ht

end Go.Proofs.Ytaikceooeahfeaa.T
