/- Rows: several appended at once. -/
import Derived.Test.YtncmdbpoceilgaaPF
set_option linter.unusedVariables false
set_option linter.unusedSimpArgs false
namespace Go.Proofs.Ytncmdbpoceilgaa.T
open Go Go.RowKit Go.Proofs
set_option maxRecDepth 10000

theorem app_own {h : AHeap} {a : Option (Nat × Nat)} {n es : Nat} {c : Option Nat} {bytes id : Nat} {q : Nat × List AV × List Nat} {e : AE} (he : appD h a n c es bytes id q = some e) : (∀ x ∈ idsOf e.sets, ownOf a x ∨ x = id) ∧ ∀ j, ownOf e.a j → ownOf a j ∨ j = id := by
  have hid : ∀ j, ownOf (some (id, 0)) j → j = id := fun j ⟨o, e⟩ => (Prod.mk.inj (Option.some.inj e)).1.symm
  unfold appD at he
  split at he
  · obtain rfl := Option.some.inj he; exact ⟨fun x hx => (by cases hx), fun j hj => .inl hj⟩
  · split at he
    · split at he
      · obtain rfl := Option.some.inj he
        exact ⟨fun x hx => (by simp [idsOf] at hx; exact .inr hx), fun j hj => .inr (hid j hj)⟩
      · rename_i a
        obtain ⟨b, hb, he⟩ := Option.bind_eq_some_iff.1 he
        have ha : ownOf (some a) a.1 := ⟨a.2, rfl⟩
        split at he
        · split at he
          · obtain rfl := Option.some.inj he
            exact ⟨fun x hx => (by simp [idsOf] at hx; exact .inr hx), fun j hj => .inr (hid j hj)⟩
          · split at he
            · split at he
              · obtain rfl := Option.some.inj he
                exact ⟨fun x hx => (by simp [idsOf] at hx; rw [hx]; exact .inl ha), fun j hj => .inl hj⟩
              · obtain rfl := Option.some.inj he
                refine ⟨fun x hx => ?_, fun j hj => .inr (hid j hj)⟩
                simp [idsOf] at hx
                rcases hx with rfl | rfl
                · exact .inl ha
                · exact .inr rfl
            · cases he
        · cases he
    · cases he

theorem OwnRows.many {α : Type} {Q : α → List AV → Prop} {h : AHeap} {nx : Nat} {a : Option (Nat × Nat)} {es : Nat} {l l2 : List α} {rows2 : List (List AV)} (w : OwnRows Q h nx a es l) (c : Option Nat) {bytes id : Nat} {rd : List Nat} (q2 : All2 Q l2 rows2) (len2 : ∀ r ∈ rows2, r.length = es) (h0 : l2 ≠ []) (hg : growOk (l.length + l2.length) bytes = true) (hid : nx ≤ id) :
    ∃ e, appD h a l.length c es bytes id (l2.length, rows2.flatten, rd) = some e ∧ e.n = (l ++ l2).length ∧ OwnRows Q (h.puts e.sets) (id + 1) e.a es (l ++ l2) ∧ (∀ x ∈ idsOf e.sets, ownOf a x ∨ x = id) ∧ ∀ j, ownOf e.a j → ownOf a j ∨ j = id := by
  obtain ⟨rows, q, len, s⟩ := w
  have hl := flat_len len
  rw [q.len] at hl
  have hl2 := flat_len len2
  rw [q2.len] at hl2
  have hne : l2.length ≠ 0 := fun e => h0 (List.length_eq_zero_iff.1 e)
  have os : OwnSl h 0 nx a l.length es rows.flatten := ⟨hl, by
    rcases s with ⟨e, hn⟩ | ⟨b, e, b1, b2⟩
    · exact .inl ⟨e, by rw [hn]; rfl⟩
    · exact .inr ⟨b, e, Nat.zero_le _, b1, b2⟩⟩
  obtain ⟨e, f1, f2, f3, _⟩ := os.append (c := c) (bytes := bytes) (id := id) (k := l2.length) (ws := rows2.flatten) (rd := rd) hne hl2 hg (Nat.zero_le _) hid
  refine ⟨e, f1, by rw [f2, List.length_append], ⟨rows ++ rows2, q.append q2, fun r hr => ?_, ?_⟩, app_own f1⟩
  · rcases List.mem_append.1 hr with hr | hr
    · exact len r hr
    · exact len2 r hr
  · rcases f3.2 with ⟨_, z⟩ | ⟨i, e1, _, e2, e3⟩
    · omega
    · exact .inr ⟨i, e1, e2, by rw [e3, List.flatten_append]⟩
end Go.Proofs.Ytncmdbpoceilgaa.T
