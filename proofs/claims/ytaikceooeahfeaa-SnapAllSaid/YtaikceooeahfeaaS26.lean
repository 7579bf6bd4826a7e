import Derived.Test.YtaikceooeahfeaaS19
set_option linter.unusedVariables false
set_option linter.unusedSimpArgs false
/- Snaps: SnapSafe, the loop over the snapshots. -/
namespace Go.Proofs.Ytaikceooeahfeaa.T
open Go Go.RowKit Go.Proofs

/-- A list of truths that a slice holds. -/
def Bl (h : AHeap) (nx : Nat) (A : Nat → Prop) (l : List Bool) (r : List AV) : Prop :=
  ∃ a c, r = [.slice a l.length c] ∧ Sl h nx a l.length 1 (l.map brw1).flatten ∧ Av A a l.length
theorem Bl.go {h h' : AHeap} {nx nx' : Nat} {A A' D : Nat → Prop} {l : List Bool} {r : List AV} (b : Bl h nx A l r) (f : Frm D h nx h' nx') (d : ∀ i, i < nx → D i → A i) (g : ∀ i, i < nx → A' i → A i) : Bl h' nx' A' l r := by
  obtain ⟨a, c, e, s, v⟩ := b
  have v' : Av D a l.length := v.go s d
  exact ⟨a, c, e, s.fr v' f, v.go s g⟩
end Go.Proofs.Ytaikceooeahfeaa.T

/- Snaps: SnapSafe, the loop over what is gone. -/
namespace Go.Proofs.Ytaikceooeahfeaa.T
open Go Go.RowKit Go.Proofs

def own4 (x6a x7a x8a x9a : Option (Nat × Nat)) (j : Nat) : Prop := ownOf x6a j ∨ ownOf x7a j ∨ ownOf x8a j ∨ ownOf x9a j
/-- The law's lists in memory. -/
structure SM (h0 : AHeap) (n0 : Nat) (h : AHeap) (nx : Nat) (lives goneL : List Bool) (T : List (Int × Bool)) (S : List (List Bool)) (x6a x7a x8a x9a : Option (Nat × Nat)) (x6c x7c x8c x9c : Option Nat) : Prop where
  l : Spr h nx x6a x6c 1 (lives.map brw1)
  g : Spr h nx x7a x7c 1 (goneL.map brw1)
  t : Spr h nx x9a x9c 1 ((T.map (·.2)).map brw1)
  s : ∃ rows, Spr h nx x8a x8c 1 rows ∧ All2 (fun l r => Bl h nx (own4 x6a x7a x8a x9a) l r) S rows
  a6 : ∀ j, ownOf x6a j → ¬ ownOf x7a j ∧ ¬ ownOf x8a j ∧ ¬ ownOf x9a j
  a7 : ∀ j, ownOf x7a j → ¬ ownOf x8a j ∧ ¬ ownOf x9a j
  a8 : ∀ j, ownOf x8a j → ¬ ownOf x9a j
  low : ∀ j, own4 x6a x7a x8a x9a j → n0 ≤ j
  x : Ext h0 n0 h nx

variable {h0 h : AHeap} {n0 nx : Nat} {lives goneL : List Bool} {T : List (Int × Bool)} {S : List (List Bool)} {x6a x7a x8a x9a : Option (Nat × Nat)} {x6c x7c x8c x9c : Option Nat}
theorem SM.le (w : SM h0 n0 h nx lives goneL T S x6a x7a x8a x9a x6c x7c x8c x9c) {N : Nat} (hN : nx ≤ N) : SM h0 n0 h N lives goneL T S x6a x7a x8a x9a x6c x7c x8c x9c := by
  have fr := (Frm.refl (fun _ => False) h nx).le hN
  obtain ⟨rows, s1, s2⟩ := w.s
  exact { w with l := w.l.go fr fun _ _ q => q, g := w.g.go fr fun _ _ q => q, t := w.t.go fr fun _ _ q => q, s := ⟨rows, s1.go fr fun _ _ q => q, s2.mono fun l r q => q.go fr (fun _ _ q => q.elim) fun _ _ q => q⟩, x := w.x.le hN }
/-- A truth is turned in place, in one of the lists: what becomes of the others. -/
theorem SM.mark (w : SM h0 n0 h nx lives goneL T S x6a x7a x8a x9a x6c x7c x8c x9c) {i : Nat} {b : Bool} (hi : goneL[i]? = some b) :
    ∃ tb bk, x7a = some (tb, 0) ∧ (∀ Kc : ABlk → Option Res, (stA h tb (0 + i * 1) (.bool true) 1).bind Kc = Kc bk) ∧ SM h0 n0 (h.put tb (some bk)) nx lives (goneL.set i true) T S x6a x7a x8a x9a x6c x7c x8c x9c := by
  have hrow : (goneL.map brw1)[i]? = some (brw1 b) := by rw [List.getElem?_map, hi]; rfl
  obtain ⟨tb, sp, e1, e2, e3, e4⟩ := w.g.turn (R := Res) (f := 0) (v := .bool true) hrow (by omega) rfl
  have hset : (goneL.map brw1).set i ((brw1 b).set 0 (.bool true)) = (goneL.set i true).map brw1 := by rw [List.map_set]; rfl
  rw [hset] at e3 e4
  rw [Nat.add_zero] at e3
  refine ⟨tb, _, e1, e3, ?_⟩
  have own : ∀ j, ownOf x7a j ↔ j = tb := fun j => ⟨fun ⟨o, q⟩ => by rw [e1] at q; cases q; rfl, fun q => ⟨0, by rw [e1, q]⟩⟩
  have fr : ∀ bk, Frm (fun j => j = tb) h nx (h.put tb (some bk)) nx := fun bk => ⟨Nat.le_refl _, fun j _ hj => put_ne hj⟩
  obtain ⟨rows, s1, s2⟩ := w.s
  exact { w with
    l := w.l.go (fr _) fun j hj q => (w.a6 j hj).1 ((own j).2 q)
    g := e4
    t := w.t.go (fr _) fun j hj q => (w.a7 j ((own j).2 q)).2 hj
    s := ⟨rows, s1.go (fr _) fun j hj q => (w.a7 j ((own j).2 q)).1 hj, s2.mono fun l r q => q.go (fr _) (fun j _ z => .inr (.inl ((own j).2 z))) fun _ _ z => z⟩
    x := ⟨w.x.1, fun j hj => by rw [put_ne (fun q => by have := w.low j (.inr (.inl ((own j).2 q))); omega)]; exact w.x.2 j hj⟩ }

end Go.Proofs.Ytaikceooeahfeaa.T

/- Snaps: SnapSafe, turns of the law's lists. -/
namespace Go.Proofs.Ytaikceooeahfeaa.T
open Go Go.RowKit Go.Proofs

variable {h0 h : AHeap} {n0 nx : Nat} {lives goneL : List Bool} {T : List (Int × Bool)} {S : List (List Bool)} {x6a x7a x8a x9a : Option (Nat × Nat)} {x6c x7c x8c x9c : Option Nat}

end Go.Proofs.Ytaikceooeahfeaa.T

/- Snaps: SnapSafe, the law's lists grow. -/
namespace Go.Proofs.Ytaikceooeahfeaa.T
open Go Go.RowKit Go.Proofs

variable {h0 h : AHeap} {n0 nx : Nat} {lives goneL : List Bool} {T : List (Int × Bool)} {S : List (List Bool)} {x6a x7a x8a x9a : Option (Nat × Nat)} {x6c x7c x8c x9c : Option Nat}

end Go.Proofs.Ytaikceooeahfeaa.T

/- Snaps: SnapSafe, a snapshot of the law's own. -/
namespace Go.Proofs.Ytaikceooeahfeaa.T
open Go Go.RowKit Go.Proofs

variable {h0 h : AHeap} {n0 nx : Nat} {lives goneL : List Bool} {T : List (Int × Bool)} {S : List (List Bool)} {x6a x7a x8a x9a : Option (Nat × Nat)} {x6c x7c x8c x9c : Option Nat}

end Go.Proofs.Ytaikceooeahfeaa.T

/- Snaps: SnapSafe. -/
namespace Go.Proofs.Ytaikceooeahfeaa.T
open Go Go.RowKit Go.Proofs

end Go.Proofs.Ytaikceooeahfeaa.T

/- Snaps: SnapSafe, the law. -/
namespace Go.Proofs.Ytaikceooeahfeaa.T
open Go Go.RowKit Go.Proofs

theorem pk0_si : SI pk0 [] [] [] [] where
  key := rfl
  kept := rfl
  lv := rfl
  gl := rfl
  sl := rfl
  cnt := fun b at_ l g h _ => by simp [pk0] at h
  dv := fun s hs => by cases hs
  mono := List.Pairwise.nil
  sn := fun s hs => by cases hs
  bn := fun s hs => by cases hs
  born := fun s hs => by cases hs
  dead := List.Pairwise.nil

end Go.Proofs.Ytaikceooeahfeaa.T

/- Snaps: SnapAll, plain law: where nothing lives and no snapshot is there, all is gone. -/
namespace Go.Proofs.Ytaikceooeahfeaa.T
open Go Go.RowKit Go.Proofs

theorem all_gone {K : PK} {lives goneL : List Bool} {T : List (Int × Bool)} {S : List (List Bool)} (w : SI K lives goneL T S) (hs : K.shots = []) (hl : ∀ x ∈ K.blocks, x.2 = false) {b : Nat} (hb : b < K.blocks.length) : goneL[b]? = some true := by
  obtain ⟨at_, l, hk⟩ : ∃ at_ l, K.blocks[b]? = some (at_, l) := ⟨_, _, List.getElem?_eq_getElem hb⟩
  obtain ⟨g, hg⟩ : ∃ g, goneL[b]? = some g := ⟨_, List.getElem?_eq_getElem (by rw [w.gl]; exact hb)⟩
  have h1 := (w.cnt b at_ l g hk hg).1
  have h2 : l = false := hl _ (List.mem_of_getElem? hk)
  rw [hs] at h1
  cases g with
  | true => exact hg
  | false => simp [deads, h2] at h1

end Go.Proofs.Ytaikceooeahfeaa.T
