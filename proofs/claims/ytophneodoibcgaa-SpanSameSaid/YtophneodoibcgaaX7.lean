/- Cut, Both. -/
import Derived.Test.YtophneodoibcgaaX6
set_option linter.unusedVariables false
set_option linter.unusedSimpArgs false
namespace Go.Proofs.Ytophneodoibcgaa.T
open Go Go.RowKit Go.Proofs

theorem cut_j1 {f lf : Nat} (hf : 1100 ≤ f) (Y : YldF) {h : AHeap} {nx px m : Nat} {a : Option (Nat × Nat)} (c : Option Nat) {l : RL} (hm : m ≤ 199) (w : Set' MAXC m l) {r : Int × Int} (hr : 0 ≤ r.1 ∧ r.1 < r.2 ∧ r.2 ≤ MAXC) (s : RS h nx a l) (hp : h px = some ⟨[.int .i64 r.1, .int .i64 r.2], 2, true⟩) (hpx : px < nx) :
    ∃ oa oc h' nx', F12_J1 (callP Try.prog keepT f) Y lf a l.length c (some (px, 0)) h nx = some (.tuple [.slice oa (cutL l r).length oc, .int .i64 0], h', nx') ∧ OwnSl h' nx nx' oa (cutL l r).length 2 (pairCells (cutL l r)) ∧ Ext h nx h' nx' := by
  have hl := w.n
  obtain ⟨oa1, oc1, h1, n1, run1, own1, x1⟩ := edges_spec (f := f) hf Y c (l := l) (by omega) (nx := nx + 12) (s.ext ⟨by omega, fun _ _ => rfl⟩) (b := 1) (.inl rfl) (D := fun j => j = nx + 3) (fun j hj => by subst hj; exact ⟨by omega, s.ne (by omega)⟩)
  have r1 := run1 [] (fun p hp => by cases hp)
  have r1 : callP Try.prog keepT f Y 21 [.slice a l.length c, .int .i64 1] h (nx + 12) = some (.slice oa1 (edgesL l 1).length oc1, h1, n1) := r1
  have hx1 := x1.1
  rw [F12_J1_eq, r1]
  simp only [mst_]
  have hp1 := (x1.2 px (by omega)).trans hp
  rw [ldr_all hp1 (n := 2) rfl]
  simp only [mst_]
  obtain ⟨h8, hh8⟩ : ∃ h8, h8 = h1.put (nx + 3) (some ⟨[.int .i64 r.1, .int .i64 r.2], 2, true⟩) := ⟨_, rfl⟩
  rw [← hh8]
  have s8 : RS h8 n1 (some (nx + 3, 0)) [r] := RS.single (by rw [hh8, put_same]) (by omega)
  obtain ⟨oa2, oc2, h9, n9, run9, own9, x9⟩ := edges_spec (f := f) hf Y (some 1) (l := [r]) (by simp) (nx := n1) s8 (b := -1) (.inr rfl) (D := fun _ => False) (fun j hj => hj.elim)
  have r9 := run9 [] (fun p hp => by cases hp)
  have r9 : callP Try.prog keepT f Y 21 [.slice (some (nx + 3, 0)) 1 (some 1), .int .i64 (-1)] h8 n1 = some (.slice oa2 (edgesL [r] (-1)).length oc2, h9, n9) := r9
  have hx9 := x9.1
  rw [r9]
  simp only [mst_]
  obtain ⟨rd, src⟩ := own9.sl.src'
  rw [src]
  simp only [mst_]
  have own8 : OwnSl h8 (nx + 12) n1 oa1 (edgesL l 1).length 2 (pairCells (edgesL l 1)) := ⟨own1.1, own1.2.imp id fun ⟨i, e1, e2, e3, e4⟩ => ⟨i, e1, e2, e3, by rw [hh8, put_ne (by omega)]; exact e4⟩⟩
  have own1' : OwnSl h9 (nx + 12) n9 oa1 (edgesL l 1).length 2 (pairCells (edgesL l 1)) := own8.ext ⟨by omega, x9.2⟩
  have el1 := edgesL_len l 1
  have el2 := edgesL_len [r] (-1)
  have pl2 := pairCells_len (edgesL [r] (-1))
  rw [List.length_singleton] at el2
  obtain ⟨e12, q1, q2, q3, q4⟩ := own1'.append2 oc1 (bytes := 16) (id := nx + 5) (k := (edgesL [r] (-1)).length) (ws := pairCells (edgesL [r] (-1))) rd pl2 (growOk_of (by omega) (by omega)) (by omega) (by omega)
  rw [q1]
  simp only [mst_]
  rw [q2]
  have hl2 : (edgesL l 1).length + (edgesL [r] (-1)).length = (edgesL l 1 ++ edgesL [r] (-1)).length := by rw [List.length_append]
  have hf2 : pairCells (edgesL l 1) ++ pairCells (edgesL [r] (-1)) = pairCells (edgesL l 1 ++ edgesL [r] (-1)) := by rw [pairCells_app]
  rw [hl2] at q3 ⊢
  rw [hf2] at q3
  obtain ⟨oa3, oc3, h14, n14, z1, z2, z3⟩ := swept_spec (f := f) hf (Y := Y) (g := 23) (W := wantPos) (fun f dd h nx hf => want23 Y f dd h nx hf) (n0 := nx + 5) (nx := n9) (by omega) e12.c (d := edgesL l 1 ++ edgesL [r] (-1)) (by rw [List.length_append]; omega) (by rw [List.length_append]; omega) (edges_by (.inl rfl) (.inr rfl)) q3
  have hx14 := z3.1
  rw [z1]
  simp only [mst_]
  have ws := (cut_set w hr).1.n
  have z2' : OwnSl h14 n9 n14 oa3 (cutL l r).length 2 (pairCells (cutL l r)) := z2
  rw [show (sweptL wantPos (edgesL l 1 ++ edgesL [r] (-1))).length = (cutL l r).length from rfl, told_spec (f := f) (by omega) Y _ _ _ _ (by omega)]
  simp only [mst_]
  rw [ifKept_pos (by exact ⟨fun x hx => by simp at hx; subst hx; exact x1.2 _ (by omega), trivial⟩), ifRob_pos (by exact ⟨fun ss hss => by
    simp only [callC_fn]
    exact run1 ss fun p hp => by have := hss p hp; simpa using this, trivial⟩)]
  refine ⟨oa3, oc3, h14, n14 + 8, rfl, (z2'.from (by omega)).le (by omega), ⟨by omega, fun j hj => ?_⟩⟩
  rw [z3.2 j (by omega), q4.2 j (by omega), x9.2 j (by omega), hh8, put_ne (by omega), x1.2 j (by omega)]

theorem cut_spec {f : Nat} (hf : 1200 ≤ f) (Y : YldF) {h : AHeap} {nx m : Nat} {a : Option (Nat × Nat)} (c : Option Nat) {l : RL} (hm : m ≤ 199) (w : Set' MAXC m l) {r : Int × Int} (hr : 0 ≤ r.1 ∧ r.1 < r.2 ∧ r.2 ≤ MAXC) (s : RS h nx a l) :
    ∃ oa oc h' nx', callP Try.prog keepT f Y 12 [.slice a l.length c, .agg [.int .i64 r.1, .int .i64 r.2]] h nx = some (.tuple [.slice oa (cutL l r).length oc, .int .i64 0], h', nx') ∧ OwnSl h' nx nx' oa (cutL l r).length 2 (pairCells (cutL l r)) ∧ Ext h nx h' nx' := by
  obtain ⟨f, rfl⟩ : ∃ m, f = m + 1 := ⟨f - 1, by omega⟩
  rw [F12_eq]
  dsimp only
  obtain ⟨h1, hh1⟩ : ∃ h1, h1 = h.put nx (some ⟨[.int .i64 r.1, .int .i64 r.2], 2, true⟩) := ⟨_, rfl⟩
  rw [← hh1]
  have x1 : Ext h nx h1 (nx + 11) := ⟨by omega, fun j hj => by rw [hh1, put_ne (by omega)]⟩
  have e1 : h1 nx = some ⟨[.int .i64 r.1, .int .i64 r.2], 2, true⟩ := by rw [hh1, put_same]
  obtain ⟨h2, n2, r2, x2⟩ := may_spec (f := f) (by omega) Y c (by omega) w (s.ext x1)
  have hx2 := x2.1
  rw [r2]
  simp only [mst_]
  have e2 := (x2.2 nx (by omega)).trans e1
  rw [ldr_all e2 (n := 2) rfl]
  simp only [mst_]
  rw [one_spec (by omega) Y hr]
  simp only [mst_]
  obtain ⟨h3, hh3⟩ : ∃ h3, h3 = h2.put n2 (some ⟨[.int .i64 r.1, .int .i64 r.2], 2, true⟩) := ⟨_, rfl⟩
  rw [← hh3]
  have x3 : Ext h nx h3 (n2 + 18) := ⟨by omega, fun j hj => by rw [hh3, put_ne (by omega), x2.2 j (by omega)]; exact x1.2 j hj⟩
  obtain ⟨oa, oc, h', nx', z1, z2, z3⟩ := cut_j1 (f := f) (lf := f) (by omega) Y c hm w hr (s.ext x3) (px := nx) (by rw [hh3, put_ne (by omega)]; exact e2) (by omega)
  exact ⟨oa, oc, h', nx', z1, z2.from (by omega), ⟨by have := z3.1; omega, fun j hj => (z3.2 j (by omega)).trans (x3.2 j hj)⟩⟩

theorem both_spec {f : Nat} (hf : 1200 ≤ f) (Y : YldF) {h : AHeap} {nx m k : Nat} {a b : Option (Nat × Nat)} (c d : Option Nat) {l v : RL} (hm : m + k ≤ 200) (w : Set' MAXC m l) (u : Set' MAXC k v) (s : RS h nx a l) (s2 : RS h nx b v) :
    ∃ oa oc h' nx', callP Try.prog keepT f Y 13 [.slice a l.length c, .slice b v.length d] h nx = some (.tuple [.slice oa (bothL l v).length oc, .int .i64 0], h', nx') ∧ OwnSl h' nx nx' oa (bothL l v).length 2 (pairCells (bothL l v)) ∧ Ext h nx h' nx' := by
  obtain ⟨f, rfl⟩ : ∃ m, f = m + 1 := ⟨f - 1, by omega⟩
  have hl := w.n
  have hv := u.n
  rw [F13_eq]
  obtain ⟨h1, n1, r1, x1⟩ := may_spec (f := f) (by omega) Y c (by omega) w (s.ext (nx' := nx + 10) ⟨by omega, fun _ _ => rfl⟩)
  have hx1 := x1.1
  have x1' : Ext h nx h1 n1 := ⟨by omega, fun j hj => x1.2 j (by omega)⟩
  rw [r1]
  simp only [mst_]
  obtain ⟨h2, n2, r2, x2⟩ := may_spec (f := f) (by omega) Y d (by omega) u (s2.ext x1')
  have hx2 := x2.1
  have x2' : Ext h nx h2 n2 := x1'.trans x2
  rw [r2]
  simp only [mst_]
  rw [F13_J1_eq]
  obtain ⟨oa1, oc1, h3, n3, run3, own3, x3⟩ := edges_spec (f := f) (by omega) Y c (l := l) (by omega) (nx := n2 + 11) (s.ext (x2'.le (by omega))) (b := 1) (.inl rfl) (D := fun _ => False) (fun j hj => hj.elim)
  have r3 := run3 [] (fun p hp => by cases hp)
  have r3 : callP Try.prog keepT f Y 21 [.slice a l.length c, .int .i64 1] h2 (n2 + 11) = some (.slice oa1 (edgesL l 1).length oc1, h3, n3) := r3
  have hx3 := x3.1
  rw [r3]
  simp only [mst_]
  have x3' : Ext h nx h3 n3 := ⟨by omega, fun j hj => (x3.2 j (by omega)).trans (x2'.2 j hj)⟩
  obtain ⟨oa2, oc2, h9, n9, run9, own9, x9⟩ := edges_spec (f := f) (by omega) Y d (l := v) (by omega) (nx := n3) (s2.ext x3') (b := 1) (.inl rfl) (D := fun _ => False) (fun j hj => hj.elim)
  have r9 := run9 [] (fun p hp => by cases hp)
  have r9 : callP Try.prog keepT f Y 21 [.slice b v.length d, .int .i64 1] h3 n3 = some (.slice oa2 (edgesL v 1).length oc2, h9, n9) := r9
  have hx9 := x9.1
  rw [r9]
  simp only [mst_]
  obtain ⟨rd, src⟩ := own9.sl.src'
  rw [src]
  simp only [mst_]
  have own1' : OwnSl h9 (n2 + 11) n9 oa1 (edgesL l 1).length 2 (pairCells (edgesL l 1)) := own3.ext ⟨by omega, x9.2⟩
  have el1 := edgesL_len l 1
  have el2 := edgesL_len v 1
  have pl2 := pairCells_len (edgesL v 1)
  obtain ⟨e12, q1, q2, q3, q4⟩ := own1'.append2 oc1 (bytes := 16) (id := n2 + 4) (k := (edgesL v 1).length) (ws := pairCells (edgesL v 1)) rd pl2 (growOk_of (by omega) (by omega)) (by omega) (by omega)
  rw [q1]
  simp only [mst_]
  rw [q2]
  have hl2 : (edgesL l 1).length + (edgesL v 1).length = (edgesL l 1 ++ edgesL v 1).length := by rw [List.length_append]
  have hf2 : pairCells (edgesL l 1) ++ pairCells (edgesL v 1) = pairCells (edgesL l 1 ++ edgesL v 1) := by rw [pairCells_app]
  rw [hl2] at q3 ⊢
  rw [hf2] at q3
  obtain ⟨oa3, oc3, h14, n14, z1, z2, z3⟩ := swept_spec (f := f) (by omega) (Y := Y) (g := 24) (W := wantTwo) (fun f dd h nx hf => want24 Y f dd h nx hf) (n0 := n2 + 4) (nx := n9) (by omega) e12.c (d := edgesL l 1 ++ edgesL v 1) (by rw [List.length_append]; omega) (by rw [List.length_append]; omega) (edges_by (.inl rfl) (.inl rfl)) q3
  have hx14 := z3.1
  rw [z1]
  simp only [mst_]
  have ws := (both_set w u).1.n
  have z2' : OwnSl h14 n9 n14 oa3 (bothL l v).length 2 (pairCells (bothL l v)) := z2
  rw [show (sweptL wantTwo (edgesL l 1 ++ edgesL v 1)).length = (bothL l v).length from rfl, told_spec (f := f) (by omega) Y _ _ _ _ (by omega)]
  simp only [mst_]
  refine ⟨oa3, oc3, h14, n14 + 8, rfl, (z2'.from (by omega)).le (by omega), ⟨by omega, fun j hj => ?_⟩⟩
  rw [z3.2 j (by omega), q4.2 j (by omega), x9.2 j (by omega), x3'.2 j (by omega)]

end Go.Proofs.Ytophneodoibcgaa.T
