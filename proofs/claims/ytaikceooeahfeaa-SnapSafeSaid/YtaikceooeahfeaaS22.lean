/- Snaps: SnapSafe, turns of the law's lists. -/
import Derived.Test.YtaikceooeahfeaaS21
set_option linter.unusedVariables false
set_option linter.unusedSimpArgs false
namespace Go.Proofs.Ytaikceooeahfeaa.T
open Go Go.RowKit Go.Proofs

variable {h0 h : AHeap} {n0 nx : Nat} {lives goneL : List Bool} {T : List (Int × Bool)} {S : List (List Bool)} {x6a x7a x8a x9a : Option (Nat × Nat)} {x6c x7c x8c x9c : Option Nat}

theorem SM.dies (w : SM h0 n0 h nx lives goneL T S x6a x7a x8a x9a x6c x7c x8c x9c) {i : Nat} {b : Bool} (hi : lives[i]? = some b) :
    ∃ tb bk, x6a = some (tb, 0) ∧ (∀ Kc : ABlk → Option Res, (stA h tb (0 + i * 1) (.bool false) 1).bind Kc = Kc bk) ∧ SM h0 n0 (h.put tb (some bk)) nx (lives.set i false) goneL T S x6a x7a x8a x9a x6c x7c x8c x9c := by
  have hrow : (lives.map brw1)[i]? = some (brw1 b) := by rw [List.getElem?_map, hi]; rfl
  obtain ⟨tb, sp, e1, e2, e3, e4⟩ := w.l.turn (R := Res) (f := 0) (v := .bool false) hrow (by omega) rfl
  have hset : (lives.map brw1).set i ((brw1 b).set 0 (.bool false)) = (lives.set i false).map brw1 := by rw [List.map_set]; rfl
  rw [hset] at e3 e4
  rw [Nat.add_zero] at e3
  refine ⟨tb, _, e1, e3, ?_⟩
  have own : ∀ j, ownOf x6a j ↔ j = tb := fun j => ⟨fun ⟨o, q⟩ => by rw [e1] at q; cases q; rfl, fun q => ⟨0, by rw [e1, q]⟩⟩
  have fr : ∀ bk, Frm (fun j => j = tb) h nx (h.put tb (some bk)) nx := fun bk => ⟨Nat.le_refl _, fun j _ hj => put_ne hj⟩
  obtain ⟨rows, s1, s2⟩ := w.s
  exact { w with
    l := e4
    g := w.g.go (fr _) fun j hj q => (w.a6 j ((own j).2 q)).1 hj
    t := w.t.go (fr _) fun j hj q => (w.a6 j ((own j).2 q)).2.2 hj
    s := ⟨rows, s1.go (fr _) fun j hj q => (w.a6 j ((own j).2 q)).2.1 hj, s2.mono fun l r q => q.go (fr _) (fun j _ z => .inl ((own j).2 z)) fun _ _ z => z⟩
    x := ⟨w.x.1, fun j hj => by rw [put_ne (fun q => by have := w.low j (.inl ((own j).2 q)); omega)]; exact w.x.2 j hj⟩ }

theorem SM.leaves (w : SM h0 n0 h nx lives goneL T S x6a x7a x8a x9a x6c x7c x8c x9c) {i : Nat} (hi : i < T.length) :
    ∃ tb bk, x9a = some (tb, 0) ∧ (∀ Kc : ABlk → Option Res, (stA h tb (0 + i * 1) (.bool false) 1).bind Kc = Kc bk) ∧ SM h0 n0 (h.put tb (some bk)) nx lives goneL (T.set i ((T[i]?.map (·.1)).getD 0, false)) S x6a x7a x8a x9a x6c x7c x8c x9c := by
  have hrow : ((T.map (·.2)).map brw1)[i]? = some (brw1 T[i].2) := by simp [hi]
  obtain ⟨tb, sp, e1, e2, e3, e4⟩ := w.t.turn (R := Res) (f := 0) (v := .bool false) hrow (by omega) rfl
  have hset : ((T.map (·.2)).map brw1).set i ((brw1 T[i].2).set 0 (.bool false)) = ((T.set i ((T[i]?.map (·.1)).getD 0, false)).map (·.2)).map brw1 := by rw [List.map_set, List.map_set]; rfl
  rw [hset] at e3 e4
  rw [Nat.add_zero] at e3
  refine ⟨tb, _, e1, e3, ?_⟩
  have own : ∀ j, ownOf x9a j ↔ j = tb := fun j => ⟨fun ⟨o, q⟩ => by rw [e1] at q; cases q; rfl, fun q => ⟨0, by rw [e1, q]⟩⟩
  have fr : ∀ bk, Frm (fun j => j = tb) h nx (h.put tb (some bk)) nx := fun bk => ⟨Nat.le_refl _, fun j _ hj => put_ne hj⟩
  obtain ⟨rows, s1, s2⟩ := w.s
  exact { w with
    l := w.l.go (fr _) fun j hj q => (w.a6 j hj).2.2 ((own j).2 q)
    g := w.g.go (fr _) fun j hj q => (w.a7 j hj).2 ((own j).2 q)
    t := e4
    s := ⟨rows, s1.go (fr _) fun j hj q => w.a8 j hj ((own j).2 q), s2.mono fun l r q => q.go (fr _) (fun j _ z => .inr (.inr (.inr ((own j).2 z)))) fun _ _ z => z⟩
    x := ⟨w.x.1, fun j hj => by rw [put_ne (fun q => by have := w.low j (.inr (.inr (.inr ((own j).2 q)))); omega)]; exact w.x.2 j hj⟩ }

end Go.Proofs.Ytaikceooeahfeaa.T
