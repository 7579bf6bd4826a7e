/- Labels, plain law: a word that is changed is seen. -/
import Derived.Test.YtkidbgfegnmhdaaK9
set_option linter.unusedVariables false
set_option linter.unusedSimpArgs false
namespace Go.Proofs.Ytkidbgfegnmhdaa.T
open Go Go.RowKit Go.Proofs

theorem fold_a (ws : List Int) : ∀ s : Sm, (s.fold ws).a = s.a + ws.sum := by
  induction ws with
  | nil => intro s; simp [Sm.fold]
  | cons w ws ih =>
    intro s
    have := ih (s.step w)
    simp only [Sm.fold, List.foldl_cons, List.sum_cons] at this ⊢
    rw [this]; simp only [Sm.step]; omega
theorem wrap_inj {a b : Int} (h : wrapA .i64 a = wrapA .i64 b) (hd : -18446744073709551616 < a - b ∧ a - b < 18446744073709551616) : a = b := by
  rw [wrapA_def, wrapA_def] at h
  have h' : wrap64 a = wrap64 b := h
  unfold wrap64 at h'; omega
theorem sum_app (a b : List Int) : (a ++ b).sum = a.sum + b.sum := by simp

theorem drop8 {l : List Int} (h : l.length = 128) : l.drop 96 = (l.drop (96 + 8 * 0)).take 8 ++ (l.drop (96 + 8 * 1)).take 8 ++ (l.drop (96 + 8 * 2)).take 8 ++ (l.drop (96 + 8 * 3)).take 8 := by
  have e : ∀ n, n + 8 ≤ 128 → l.drop n = (l.drop n).take 8 ++ l.drop (n + 8) := fun n hn => by rw [← List.drop_drop, List.take_append_drop]
  have e3 : (l.drop (96 + 8 * 3)).take 8 = l.drop 120 := by rw [List.take_of_length_le (by rw [List.length_drop]; omega)]
  have a1 : l.drop 96 = (l.drop 96).take 8 ++ l.drop 104 := e 96 (by omega)
  have a2 : l.drop 104 = (l.drop 104).take 8 ++ l.drop 112 := e 104 (by omega)
  have a3 : l.drop 112 = (l.drop 112).take 8 ++ l.drop 120 := e 112 (by omega)
  rw [e3, List.append_assoc, List.append_assoc]
  show l.drop 96 = (l.drop 96).take 8 ++ ((l.drop 104).take 8 ++ ((l.drop 112).take 8 ++ l.drop 120))
  rw [← a3, ← a2, ← a1]
/-- A sector that bears its seal is told by what is sealed. -/
theorem seal_only {b c : List Int} (hb : b.length = 128) (hc : c.length = 128) (Bb : Bytes b) (Bc : Bytes c) (ht : c.take 96 = b.take 96) (hs : decS c = decS b) : c = b := by
  have g : ∀ i, i < 4 → vS c i = vS b i → (c.drop (96 + 8 * i)).take 8 = (b.drop (96 + 8 * i)).take 8 := fun i hi e => by
    have B1 : Bytes ((c.drop (96 + 8 * i)).take 8) := fun x hx => Bc x (List.mem_of_mem_drop (List.mem_of_mem_take hx))
    have B2 : Bytes ((b.drop (96 + 8 * i)).take 8) := fun x hx => Bb x (List.mem_of_mem_drop (List.mem_of_mem_take hx))
    have L1 : ((c.drop (96 + 8 * i)).take 8).length = 8 := by rw [List.length_take, List.length_drop]; omega
    have L2 : ((b.drop (96 + 8 * i)).take 8).length = 8 := by rw [List.length_take, List.length_drop]; omega
    have p1 := valL_pos B1
    have p2 := valL_pos B2
    have q1 := valL_lt B1
    have q2 := valL_lt B2
    rw [L1] at q1
    rw [L2] at q2
    have p8 : p256 8 = 18446744073709551616 := by decide
    rw [p8] at q1 q2
    exact valL_inj B1 B2 (by rw [L1, L2]) (wrap_inj e ⟨by omega, by omega⟩)
  simp only [decS, List.cons.injEq, and_true] at hs
  obtain ⟨s0, s1, s2, s3⟩ := hs
  have e : c.drop 96 = b.drop 96 := by rw [drop8 hc, drop8 hb, g 0 (by omega) s0, g 1 (by omega) s1, g 2 (by omega) s2, g 3 (by omega) s3]
  rw [← List.take_append_drop 96 c, ← List.take_append_drop 96 b, ht, e]

theorem touched {x : Lb} {c : List Int} (hc : c.length = 128) (Bc : Bytes c) {w : Nat} (hw : w < 32) (same : ∀ j, j < 4 * w ∨ 4 * w + 4 ≤ j → c[j]? = (encL x)[j]?) (hne : c ≠ encL x) : decR c = (lb0, 11) := by
  have hb := encL_len x
  have Bb := encL_bytes x
  have hds := decS_enc x
  have htk := take_enc x
  rw [← htk] at hds
  generalize encL x = b at *
  clear htk
  have key : sealS (c.take 96) ≠ decS c := by
    intro hs
    by_cases h1 : w < 24
    · have hd : c.drop 96 = b.drop 96 := by
        apply List.ext_getElem?
        intro j
        rw [List.getElem?_drop, List.getElem?_drop]
        exact same _ (.inr (by omega))
      have hS : decS c = decS b := by
        unfold decS vS
        have : ∀ i, (c.drop (96 + 8 * i)) = b.drop (96 + 8 * i) := fun i => by rw [← List.drop_drop, ← List.drop_drop, hd]
        rw [this 0, this 1, this 2, this 3]
      rw [hS, hds] at hs
      -- the first sums
      have hp : c.take (4 * w) = b.take (4 * w) := by
        apply List.ext_getElem?
        intro j
        rw [List.getElem?_take, List.getElem?_take]
        split
        · exact same _ (.inl (by omega))
        · rfl
      have hr : (c.take 96).drop (4 * w + 4) = (b.take 96).drop (4 * w + 4) := by
        apply List.ext_getElem?
        intro j
        rw [List.getElem?_drop, List.getElem?_drop, List.getElem?_take, List.getElem?_take]
        split
        · exact same _ (.inr (by omega))
        · rfl
      have split3 : ∀ l : List Int, l.length = 128 → l.take 96 = l.take (4 * w) ++ ((l.drop (4 * w)).take 4 ++ (l.take 96).drop (4 * w + 4)) := fun l hl => by
        have e1 : (l.drop (4 * w)).take 4 = ((l.take 96).drop (4 * w)).take 4 := by
          apply List.ext_getElem?
          intro j
          rw [List.getElem?_take, List.getElem?_take]
          split
          · rw [List.getElem?_drop, List.getElem?_drop, List.getElem?_take, if_pos (by omega)]
          · rfl
        have e2 : l.take (4 * w) = (l.take 96).take (4 * w) := by rw [List.take_take, Nat.min_eq_left (by omega)]
        rw [e1, e2, ← List.drop_drop, List.take_append_drop, List.take_append_drop]
      have four : ∀ l : List Int, l.length = 128 → Bytes l → ∃ p q r s : Int, (l.drop (4 * w)).take 4 = [p, q, r, s] ∧ (0 ≤ p ∧ p < 256) ∧ (0 ≤ q ∧ q < 256) ∧ (0 ≤ r ∧ r < 256) ∧ (0 ≤ s ∧ s < 256) := fun l hl Bl => by
        have L : ((l.drop (4 * w)).take 4).length = 4 := by rw [List.length_take, List.length_drop]; omega
        have B : Bytes ((l.drop (4 * w)).take 4) := fun x hx => Bl x (List.mem_of_mem_drop (List.mem_of_mem_take hx))
        generalize (l.drop (4 * w)).take 4 = m at *
        match m, L with
        | [p, q, r, s], _ => exact ⟨p, q, r, s, rfl, B p (by simp), B q (by simp), B r (by simp), B s (by simp)⟩
      obtain ⟨p, q, r, s, hcm, hp1, hq1, hr1, hs1⟩ := four c hc Bc
      obtain ⟨p', q', r', s', hbm, hp2, hq2, hr2, hs2⟩ := four b hb Bb
      have sumOf : ∀ l : List Int, l.length = 128 → ∀ a b c d : Int, (l.drop (4 * w)).take 4 = [a, b, c, d] → (Sm.zero.fold (wordsOf (l.take 96))).a = (wordsOf (l.take (4 * w))).sum + (wordOf a b c d + (wordsOf ((l.take 96).drop (4 * w + 4))).sum) := fun l hl a b c d e => by
        obtain ⟨T, hT⟩ : ∃ T, T = (l.take 96).drop (4 * w + 4) := ⟨_, rfl⟩
        have s3 := split3 l hl
        rw [← hT] at s3 ⊢
        rw [fold_a, s3, wordsOf_append w _ _ (by rw [List.length_take]; omega), sum_app, e]
        simp only [List.cons_append, List.nil_append, wordsOf, List.sum_cons, Sm.zero]
        omega
      have sc := sumOf c hc p q r s hcm
      have sb := sumOf b hb p' q' r' s' hbm
      rw [hp, hr] at sc
      simp only [sealS, List.cons.injEq] at hs
      have ha := hs.1
      rw [sc, sb] at ha
      unfold wordOf at ha
      have e := wrap_inj ha ⟨by omega, by omega⟩
      have hm : (c.drop (4 * w)).take 4 = (b.drop (4 * w)).take 4 := by
        rw [hcm, hbm]
        have : p = p' ∧ q = q' ∧ r = r' ∧ s = s' := by omega
        obtain ⟨rfl, rfl, rfl, rfl⟩ := this; rfl
      apply hne
      apply List.ext_getElem?
      intro j
      by_cases cj : j < 4 * w ∨ 4 * w + 4 ≤ j
      · exact same j cj
      · have : ((c.drop (4 * w)).take 4)[j - 4 * w]? = ((b.drop (4 * w)).take 4)[j - 4 * w]? := by rw [hm]
        rw [List.getElem?_take, List.getElem?_take, if_pos (by omega), if_pos (by omega), List.getElem?_drop, List.getElem?_drop, show 4 * w + (j - 4 * w) = j by omega] at this
        exact this
    · have ht : c.take 96 = b.take 96 := by
        apply List.ext_getElem?
        intro j
        rw [List.getElem?_take, List.getElem?_take]
        split
        · exact same _ (.inl (by omega))
        · rfl
      rw [ht, ← hds] at hs
      exact hne (seal_only hb hc Bb Bc ht hs.symm)
  unfold decR
  rw [if_neg (by omega), if_pos key]

end Go.Proofs.Ytkidbgfegnmhdaa.T
