/- Rows: several appended at once, at any free number. -/
import Derived.Test.YtncmdbpoceilgaaPQ
set_option linter.unusedVariables false
set_option linter.unusedSimpArgs false
namespace Go.Proofs.Ytncmdbpoceilgaa.T
open Go Go.RowKit Go.Proofs
set_option maxRecDepth 10000

theorem OwnRows.many' {α : Type} {Q : α → List AV → Prop} {h : AHeap} {nx m : Nat} {a : Option (Nat × Nat)} {es : Nat} {l l2 : List α} {rows2 : List (List AV)} (w : OwnRows Q h nx a es l) (c : Option Nat) {bytes id : Nat} {rd : List Nat} (q2 : All2 Q l2 rows2) (len2 : ∀ r ∈ rows2, r.length = es) (h0 : l2 ≠ []) (hg : growOk (l.length + l2.length) bytes = true) (hid : ¬ ownOf a id) (hm : nx ≤ m) (him : id < m) (hes : 0 < es := by decide) :
    ∃ e, appD h a l.length c es bytes id (l2.length, rows2.flatten, rd) = some e ∧ e.n = (l ++ l2).length ∧ OwnRows Q (h.puts e.sets) m e.a es (l ++ l2) ∧ (∀ x ∈ idsOf e.sets, ownOf a x ∨ x = id) ∧ ∀ j, ownOf e.a j → ownOf a j ∨ j = id := by
  -- the block of a, moved below: the numbers play no part
  have w' : OwnRows Q h (max nx m) a es l := w.go (D := fun _ => False) ⟨by omega, fun _ _ _ => rfl⟩ (fun _ _ q => q) fun _ _ q => q
  obtain ⟨rows, q, len, s⟩ := w
  have hl := flat_len len
  rw [q.len] at hl
  have hl2 := flat_len len2
  rw [q2.len] at hl2
  have hne : l2.length ≠ 0 := fun e => h0 (List.length_eq_zero_iff.1 e)
  have hfl : (rows ++ rows2).flatten = rows.flatten ++ rows2.flatten := List.flatten_append
  have hlen : ∀ r ∈ rows ++ rows2, r.length = es := fun r hr => by
    rcases List.mem_append.1 hr with hr | hr
    · exact len r hr
    · exact len2 r hr
  have fin : ∀ e, appD h a l.length c es bytes id (l2.length, rows2.flatten, rd) = some e → e.n = l.length + l2.length → (∃ b, e.a = some (b, 0) ∧ b < m ∧ (h.puts e.sets) b = some ⟨rows.flatten ++ rows2.flatten, es, true⟩) →
      ∃ e, appD h a l.length c es bytes id (l2.length, rows2.flatten, rd) = some e ∧ e.n = (l ++ l2).length ∧ OwnRows Q (h.puts e.sets) m e.a es (l ++ l2) ∧ (∀ x ∈ idsOf e.sets, ownOf a x ∨ x = id) ∧ ∀ j, ownOf e.a j → ownOf a j ∨ j = id := fun e he hn ⟨b, b1, b2, b3⟩ =>
    ⟨e, he, by rw [hn, List.length_append], ⟨rows ++ rows2, q.append q2, hlen, .inr ⟨b, b1, b2, by rw [b3, hfl]⟩⟩, app_own he⟩
  rcases s with ⟨rfl, rfl⟩ | ⟨b, rfl, b1, b2⟩
  · have hr : rows = [] := by simpa [All2] using q
    subst hr
    refine fin ⟨some (id, 0), 0 + l2.length, none, [(id, some ⟨rows2.flatten, es, true⟩)], rd⟩ ?_ rfl ⟨id, rfl, him, by simp⟩
    unfold appD
    rw [if_neg hne, if_pos hg]; rfl
  · have hbid : b ≠ id := fun e => hid ⟨0, by rw [e]⟩
    have hc : ((⟨rows.flatten, es, true⟩ : ABlk).es == es && decide (0 + l.length * es ≤ rows.flatten.length)) = true := by simp [hl]
    have htk : (rows.flatten.drop 0).take (l.length * es) = rows.flatten := by rw [List.drop_zero, ← hl, List.take_length]
    by_cases cl : capLt c (l.length + l2.length) = true
    · refine fin ⟨some (id, 0), l.length + l2.length, none, [(id, some ⟨rows.flatten ++ rows2.flatten, es, true⟩)], b :: rd⟩ ?_ rfl ⟨id, rfl, him, by simp⟩
      unfold appD
      rw [if_neg hne, if_pos hg]
      simp only
      rw [b2, some_bind, if_pos hc, if_pos cl, htk]
    · have ci : capIn c (l.length + l2.length) (0 + (l.length + l2.length) * es) rows.flatten.length = true → False := fun q => by
        unfold capIn at q
        split at q
        · rw [Bool.and_eq_true, Nat.ble_eq, Nat.ble_eq, hl, Nat.add_mul] at q
          have := Nat.mul_pos (Nat.pos_of_ne_zero hne) hes
          omega
        · cases q
      refine fin ⟨some (id, 0), l.length + l2.length, none, [(b, none), (id, some ⟨rows.flatten ++ rows2.flatten, es, true⟩)], b :: rd⟩ ?_ rfl ⟨id, rfl, him, by simp⟩
      unfold appD
      rw [if_neg hne, if_pos hg]
      simp only
      rw [b2, some_bind, if_pos hc, if_neg cl, if_pos rfl, if_neg ci, htk]
end Go.Proofs.Ytncmdbpoceilgaa.T
