/- Snaps: SnapSafe, the law. -/
import Derived.Test.YtaikceooeahfeaaS25
set_option linter.unusedVariables false
set_option linter.unusedSimpArgs false
namespace Go.Proofs.Ytaikceooeahfeaa.T
open Go Go.RowKit Go.Proofs

theorem pk0_si : SI pk0 [] [] [] [] where
  key := rfl
  kept := rfl
  lv := rfl
  gl := rfl
  sl := rfl
  cnt := fun b at_ l g h _ => by simp [pk0] at h
  dv := fun s hs => by cases hs
  mono := List.Pairwise.nil
  sn := fun s hs => by cases hs
  bn := fun s hs => by cases hs
  born := fun s hs => by cases hs
  dead := List.Pairwise.nil

theorem SnapSafe_run (h : AHeap) (nx : Nat) (a : Option (Nat × Nat)) (c : List (List AV)) (_ : c.length * 16 ≤ 140737488351232) (each : ∀ v ∈ c, Ty h nx (.st [.int .i64, .int .i64]) v) (sl : Sl h nx a c.length (Sh.st [.int .i64, .int .i64]).n c.flatten) :
    ∃ f h' nx', callP Try.prog keepT f Y0 3 [.slice a c.length none] h nx = some (.bool true, h', nx') := by
  obtain ⟨ts, rfl⟩ := turns_of c each
  rw [List.length_map] at sl ⊢
  refine ⟨3001, ?_⟩
  rw [F3_eq]
  obtain ⟨oa, oc, h1, n1, r1, r2, r3, r4⟩ := moves_spec (f := 3000) (by omega) none (ts := ts) (n := 150) (nx := nx + 4) (by omega) (sl.ext ⟨by omega, fun _ _ => rfl⟩)
  rw [show ((150 : Nat) : Int) = 150 from rfl] at r1
  rw [r1]
  simp only [mst_]
  have hml : (movesP ts 150).length ≤ 150 := by unfold movesP; rw [List.length_map, List.length_take]; omega
  have sm : Sl h1 n1 oa (movesP ts 150).length 2 ((movesP ts 150).map mrow).flatten := by
    obtain ⟨rows, q, len, _, _⟩ := r2.rows (A := fun _ => False) (fun _ _ q => q)
    have hr := rows_moves _ _ q
    subst hr
    assumption
  obtain ⟨ga, gc, h2, n2, p1, p2, p3, p4⟩ := snapped_spec (f := 3000) (by omega) oc (ms := movesP ts 150) (nx := n1 + 7) (by omega) (sm.ext ⟨by omega, fun _ _ => rfl⟩)
  rw [p1]
  simp only [mst_]
  rw [if_pos (by decide)]
  have hgl := playP_len (movesP ts 150) pk0
  rw [← hgl]
  have sg : Rows (fun g r => Gon h2 (n2 + 4) (fun _ => False) r g) h2 (n2 + 4) (fun _ => False) ga 2 (playP pk0 (movesP ts 150)) :=
    (p2.rows (A := fun _ => False) (fun _ _ q => q)).go (D := fun _ => False) ((Frm.refl _ _ _).le (by omega)) (fun _ _ q => q) (fun _ _ q => q) fun g r q => q.go (D := fun _ => False) ((Frm.refl _ _ _).le (by omega)) (fun _ _ q => q.elim) fun _ _ q => q.elim
  have sm2 : Sl h2 (n2 + 4) oa (movesP ts 150).length 2 ((movesP ts 150).map mrow).flatten := sm.ext ⟨by have := p3.1; omega, fun i hi => p3.2 i (by omega)⟩
  have W : SM h2 (n2 + 4) (h2.put (n2 + 4) (some ⟨madeA [.slice none 0 none] (Int.toNat 0 * 1), 1, true⟩)) (n2 + 8) [] [] [] [] none none (some (n2 + 4, 0)) none none none (some (Int.toNat 0)) none := {
    l := Spr.nil _ _ _
    g := Spr.nil _ _ _
    t := Spr.nil _ _ _
    s := ⟨[], ⟨fun r hr => (by cases hr), fun k hk => Nat.zero_le _, .inr ⟨n2 + 4, [], rfl, by omega, put_same _ _ _⟩⟩, rfl⟩
    a6 := fun j ⟨o, q⟩ => by cases q
    a7 := fun j ⟨o, q⟩ => by cases q
    a8 := fun j _ ⟨o, q⟩ => by cases q
    low := fun j hj => by
      rcases hj with ⟨o, q⟩ | ⟨o, q⟩ | ⟨o, q⟩ | ⟨o, q⟩
      · cases q
      · cases q
      · cases q; exact Nat.le_refl _
      · cases q
    x := ⟨by omega, fun j hj => put_ne (by omega)⟩ }
  have fin := safe_loop (f := 3000) (lf := 3000) (by omega) (by omega) (mc := oc) (gc := gc) (by omega) hgl sm2 sg (movesP ts 150).length 3000 0 _ (n2 + 8) pk0 [] [] [] [] none none (some (n2 + 4, 0)) none none none (some (Int.toNat 0)) none (by omega) (by omega) rfl rfl pk0_si pk0_pw (fun l hl => by cases hl) W
  rw [hgl] at fin ⊢
  exact fin

end Go.Proofs.Ytaikceooeahfeaa.T
