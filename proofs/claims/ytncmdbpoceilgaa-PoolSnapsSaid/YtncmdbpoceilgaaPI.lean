import Derived.Test.YtncmdbpoceilgaaPE
set_option linter.unusedVariables false
set_option linter.unusedSimpArgs false
/- Pools: plain law of stores. -/
namespace Go.Proofs.Ytncmdbpoceilgaa.T
open Go Go.RowKit Go.Proofs
set_option maxRecDepth 10000
variable {β : Type}

theorem playP_append : ∀ (l1 l2 : List Cmd) (s : Pl), playP s (l1 ++ l2) = playP s l1 ++ playP (endP s l1) l2
  | [], _, _ => rfl
  | c :: l1, l2, s => by simp [playP, endP, playP_append l1 l2]
theorem endP_append : ∀ (l1 l2 : List Cmd) (s : Pl), endP s (l1 ++ l2) = endP (endP s l1) l2
  | [], _, _ => rfl
  | c :: l1, l2, s => by simp [endP, endP_append l1 l2]
theorem endP_ok : ∀ (l : List Cmd) {s : Pl}, s.Ok → (endP s l).Ok
  | [], _, w => w
  | c :: l, _, w => endP_ok l (step_ok w c)
theorem getO_set {k : ByteArray} {v : β} : ∀ {l : List (ByteArray × β)}, getO k (setO k v l) = some v
  | [] => by simp [setO, getO]
  | p :: l => by
    unfold setO
    by_cases q : p.1 = k
    · simp [q, getO]
    · simp [q, getO, getO_set]
theorem step_obj {s : Pl} {c : Cmd} (hk : c.kind = 2 ∨ c.kind = 3 ∨ c.kind = 4 ∨ c.kind = 5) : (∀ x, getO c.name s.obj = some x → stepP s c = objectP s x c) ∧ (getO c.name s.obj = none → stepP s c = (noT 6, s)) := by
  have h1 : ¬ c.kind = 1 := by omega
  have h6 : ¬ c.kind = 6 := by omega
  have h11 : ¬ c.kind = 11 := by omega
  have hs : ¬ (c.kind = 7 ∨ c.kind = 8 ∨ c.kind = 9 ∨ c.kind = 10) := by omega
  refine ⟨fun x hx => ?_, fun hx => ?_⟩
  · unfold stepP; rw [if_neg h1, if_neg h6, if_neg h11, if_neg hs, if_pos hk, hx]
  · unfold stepP; rw [if_neg h1, if_neg h6, if_neg h11, if_neg hs, if_pos hk, hx]

end Go.Proofs.Ytncmdbpoceilgaa.T

/- Rows: several appended at once. -/
namespace Go.Proofs.Ytncmdbpoceilgaa.T
open Go Go.RowKit Go.Proofs
set_option maxRecDepth 10000

theorem app_own {h : AHeap} {a : Option (Nat × Nat)} {n es : Nat} {c : Option Nat} {bytes id : Nat} {q : Nat × List AV × List Nat} {e : AE} (he : appD h a n c es bytes id q = some e) : (∀ x ∈ idsOf e.sets, ownOf a x ∨ x = id) ∧ ∀ j, ownOf e.a j → ownOf a j ∨ j = id := by
  have hid : ∀ j, ownOf (some (id, 0)) j → j = id := fun j ⟨o, e⟩ => (Prod.mk.inj (Option.some.inj e)).1.symm
  unfold appD at he
  split at he
  · obtain rfl := Option.some.inj he; exact ⟨fun x hx => (by cases hx), fun j hj => .inl hj⟩
  · split at he
    · split at he
      · obtain rfl := Option.some.inj he
        exact ⟨fun x hx => (by simp [idsOf] at hx; exact .inr hx), fun j hj => .inr (hid j hj)⟩
      · rename_i a
        obtain ⟨b, hb, he⟩ := Option.bind_eq_some_iff.1 he
        have ha : ownOf (some a) a.1 := ⟨a.2, rfl⟩
        split at he
        · split at he
          · obtain rfl := Option.some.inj he
            exact ⟨fun x hx => (by simp [idsOf] at hx; exact .inr hx), fun j hj => .inr (hid j hj)⟩
          · split at he
            · split at he
              · obtain rfl := Option.some.inj he
                exact ⟨fun x hx => (by simp [idsOf] at hx; rw [hx]; exact .inl ha), fun j hj => .inl hj⟩
              · obtain rfl := Option.some.inj he
                refine ⟨fun x hx => ?_, fun j hj => .inr (hid j hj)⟩
                simp [idsOf] at hx
                rcases hx with rfl | rfl
                · exact .inl ha
                · exact .inr rfl
            · cases he
        · cases he
    · cases he

end Go.Proofs.Ytncmdbpoceilgaa.T

/- Pools: PoolStores. -/
namespace Go.Proofs.Ytncmdbpoceilgaa.T
open Go Go.RowKit Go.Proofs
set_option maxRecDepth 10000

end Go.Proofs.Ytncmdbpoceilgaa.T

/- Pools: PoolStores, the walk. -/
namespace Go.Proofs.Ytncmdbpoceilgaa.T
open Go Go.RowKit Go.Proofs
set_option maxRecDepth 10000

end Go.Proofs.Ytncmdbpoceilgaa.T
