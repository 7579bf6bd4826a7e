/- Add, Cut, Both. -/
import Derived.Test.YtophneodoibcgaaX5
set_option linter.unusedVariables false
set_option linter.unusedSimpArgs false
namespace Go.Proofs.Ytophneodoibcgaa.T
open Go Go.RowKit Go.Proofs

/-- An append behind calls: the new block may bear a lower number. -/
theorem OwnSl.append2 {h : AHeap} {nx0 nx : Nat} {a : Option (Nat × Nat)} {n es : Nat} {vs : List AV} (s : OwnSl h nx0 nx a n es vs) (c : Option Nat) {bytes id k : Nat} {ws : List AV} (rd : List Nat) (hw : ws.length = k * es) (hg : growOk (n + k) bytes = true) (hid : id < nx0) (h0 : nx0 ≤ nx) :
    ∃ e, appD h a n c es bytes id (k, ws, rd) = some e ∧ e.n = n + k ∧ OwnSl (h.puts e.sets) id nx e.a (n + k) es (vs ++ ws) ∧ Ext h id (h.puts e.sets) nx := by
  by_cases hk : k = 0
  · subst hk
    have : ws = [] := by rw [Nat.zero_mul] at hw; exact List.length_eq_zero_iff.1 hw
    subst this
    rw [Nat.add_zero, List.append_nil]
    refine ⟨⟨a, n, c, [], rd⟩, by simp [appD], rfl, ?_, ⟨by omega, fun _ _ => rfl⟩⟩
    exact s.from (by omega)
  · have hl : (vs ++ ws).length = (n + k) * es := by rw [List.length_append, s.1, hw, Nat.add_mul]
    rcases s.2 with ⟨rfl, rfl⟩ | ⟨i, rfl, hi0, hi1, e⟩
    · have : vs = [] := by have := s.1; simp at this; exact this
      subst this
      refine ⟨⟨some (id, 0), 0 + k, none, [(id, some ⟨ws, es, true⟩)], rd⟩, by simp only [appD, if_neg hk, if_pos hg], rfl, ⟨hl, .inr ⟨id, rfl, by omega, by omega, by simp⟩⟩, ?_⟩
      exact ⟨by omega, fun j hj => by simp only [puts_cons, puts_nil]; exact put_ne (by omega)⟩
    · have hc : (({ cells := vs, es := es, own := true } : ABlk).es == es && decide (0 + n * es ≤ vs.length)) = true := by simp [s.1]
      have htk : (vs.drop 0).take (n * es) = vs := by rw [List.drop_zero, ← s.1, List.take_length]
      by_cases cl : capLt c (n + k) = true
      · refine ⟨⟨some (id, 0), n + k, none, [(id, some ⟨vs ++ ws, es, true⟩)], i :: rd⟩, ?_, rfl, ⟨hl, .inr ⟨id, rfl, by omega, by omega, by simp⟩⟩, ⟨by omega, fun j hj => by simp only [puts_cons, puts_nil]; exact put_ne (by omega)⟩⟩
        simp only [appD, if_neg hk, if_pos hg, e, Option.bind_some, if_pos hc, if_pos cl, htk]
      · by_cases ci : capIn c (n + k) (0 + (n + k) * es) vs.length = true
        · refine ⟨⟨some (i, 0), n + k, c, [(i, some ⟨vs ++ ws, es, true⟩)], i :: rd⟩, ?_, rfl, ⟨hl, .inr ⟨i, rfl, by omega, by omega, by simp⟩⟩, ⟨by omega, fun j hj => by simp only [puts_cons, puts_nil]; exact put_ne (by omega)⟩⟩
          have hsp : splice vs (0 + n * es) ws = vs ++ ws := by
            unfold splice
            rw [Nat.zero_add, ← s.1, List.take_length, List.drop_of_length_le (by omega), List.append_nil]
          simp only [appD, if_neg hk, if_pos hg, e, Option.bind_some, if_pos hc, if_neg cl, if_pos ci, hsp]
          rfl
        · refine ⟨⟨some (id, 0), n + k, none, [(i, none), (id, some ⟨vs ++ ws, es, true⟩)], i :: rd⟩, ?_, rfl, ⟨hl, .inr ⟨id, rfl, by omega, by omega, by simp⟩⟩, ⟨by omega, fun j hj => by simp only [puts_cons, puts_nil]; rw [put_ne (by omega), put_ne (by omega)]⟩⟩
          simp only [appD, if_neg hk, if_pos hg, e, Option.bind_some, if_pos hc, if_neg cl, if_neg ci, htk]
          rfl

theorem want22 (Y : YldF) (f : Nat) (dd : Int) (h : AHeap) (nx : Nat) (hf : 1 ≤ f) : callP Try.prog keepT f Y 22 [.int .i64 dd] h nx = some (.bool (wantPos dd), h, nx + 4) := by
  obtain ⟨f, rfl⟩ : ∃ m, f = m + 1 := ⟨f - 1, by omega⟩
  rw [F22_eq]; rfl
theorem want23 (Y : YldF) (f : Nat) (dd : Int) (h : AHeap) (nx : Nat) (hf : 1 ≤ f) : callP Try.prog keepT f Y 23 [.int .i64 dd] h nx = some (.bool (wantPos dd), h, nx + 4) := by
  obtain ⟨f, rfl⟩ : ∃ m, f = m + 1 := ⟨f - 1, by omega⟩
  rw [F23_eq]; rfl
theorem want24 (Y : YldF) (f : Nat) (dd : Int) (h : AHeap) (nx : Nat) (hf : 1 ≤ f) : callP Try.prog keepT f Y 24 [.int .i64 dd] h nx = some (.bool (wantTwo dd), h, nx + 4) := by
  obtain ⟨f, rfl⟩ : ∃ m, f = m + 1 := ⟨f - 1, by omega⟩
  rw [F24_eq]; rfl

theorem edges_by {l m : RL} {b c : Int} (hb : b = 1 ∨ b = -1) (hc : c = 1 ∨ c = -1) : ∀ e ∈ edgesL l b ++ edgesL m c, -1 ≤ e.2 ∧ e.2 ≤ 1 := fun e he => by
  rcases List.mem_append.1 he with he | he
  · have := (edgesL_mem he).2; omega
  · have := (edgesL_mem he).2; omega

theorem RS.single {h : AHeap} {N i : Nat} {r : Int × Int} (hb : h i = some ⟨[.int .i64 r.1, .int .i64 r.2], 2, true⟩) (hi : i < N) : RS h N (some (i, 0)) [r] :=
  ⟨rfl, fun j _ => ⟨(i, 0), _, rfl, hi, hb, rfl, by show 0 + 1 * 2 ≤ 2; decide, fun q _ => by rw [Nat.zero_add]; rfl⟩⟩
theorem RS.ne {h : AHeap} {nx : Nat} {a : Option (Nat × Nat)} {l : RL} (s : RS h nx a l) {j : Nat} (hj : nx ≤ j) : 0 < l.length → ∀ o, a ≠ some (j, o) := fun hn o e => by
  obtain ⟨p, b, e1, e2, _⟩ := s.2 0 hn
  rw [e] at e1; cases e1
  simp only at e2; omega

theorem add_j1 {f lf : Nat} (hf : 1100 ≤ f) (Y : YldF) {h : AHeap} {nx px m : Nat} {a : Option (Nat × Nat)} (c : Option Nat) {l : RL} (hm : m ≤ 199) (w : Set' MAXC m l) {r : Int × Int} (hr : 0 ≤ r.1 ∧ r.1 < r.2 ∧ r.2 ≤ MAXC) (s : RS h nx a l) (hp : h px = some ⟨[.int .i64 r.1, .int .i64 r.2], 2, true⟩) (hpx : px < nx) :
    ∃ oa oc h' nx', F11_J1 (callP Try.prog keepT f) Y lf a l.length c (some (px, 0)) h nx = some (.tuple [.slice oa (addL l r).length oc, .int .i64 0], h', nx') ∧ OwnSl h' nx nx' oa (addL l r).length 2 (pairCells (addL l r)) ∧ Ext h nx h' nx' := by
  have hl := w.n
  obtain ⟨oa1, oc1, h1, n1, run1, own1, x1⟩ := edges_spec (f := f) hf Y c (l := l) (by omega) (nx := nx + 12) (s.ext ⟨by omega, fun _ _ => rfl⟩) (b := 1) (.inl rfl) (D := fun j => j = nx + 3) (fun j hj => by subst hj; exact ⟨by omega, s.ne (by omega)⟩)
  have r1 := run1 [] (fun p hp => by cases hp)
  have r1 : callP Try.prog keepT f Y 21 [.slice a l.length c, .int .i64 1] h (nx + 12) = some (.slice oa1 (edgesL l 1).length oc1, h1, n1) := r1
  have hx1 := x1.1
  rw [F11_J1_eq, r1]
  simp only [mst_]
  have hp1 := (x1.2 px (by omega)).trans hp
  rw [ldr_all hp1 (n := 2) rfl]
  simp only [mst_]
  obtain ⟨h8, hh8⟩ : ∃ h8, h8 = h1.put (nx + 3) (some ⟨[.int .i64 r.1, .int .i64 r.2], 2, true⟩) := ⟨_, rfl⟩
  rw [← hh8]
  have s8 : RS h8 n1 (some (nx + 3, 0)) [r] := RS.single (by rw [hh8, put_same]) (by omega)
  obtain ⟨oa2, oc2, h9, n9, run9, own9, x9⟩ := edges_spec (f := f) hf Y (some 1) (l := [r]) (by simp) (nx := n1) s8 (b := 1) (.inl rfl) (D := fun _ => False) (fun j hj => hj.elim)
  have r9 := run9 [] (fun p hp => by cases hp)
  have r9 : callP Try.prog keepT f Y 21 [.slice (some (nx + 3, 0)) 1 (some 1), .int .i64 1] h8 n1 = some (.slice oa2 (edgesL [r] 1).length oc2, h9, n9) := r9
  have hx9 := x9.1
  rw [r9]
  simp only [mst_]
  obtain ⟨rd, src⟩ := own9.sl.src'
  rw [src]
  simp only [mst_]
  have own8 : OwnSl h8 (nx + 12) n1 oa1 (edgesL l 1).length 2 (pairCells (edgesL l 1)) := ⟨own1.1, own1.2.imp id fun ⟨i, e1, e2, e3, e4⟩ => ⟨i, e1, e2, e3, by rw [hh8, put_ne (by omega)]; exact e4⟩⟩
  have own1' : OwnSl h9 (nx + 12) n9 oa1 (edgesL l 1).length 2 (pairCells (edgesL l 1)) := own8.ext ⟨by omega, x9.2⟩
  have el1 := edgesL_len l 1
  have el2 := edgesL_len [r] 1
  have pl2 := pairCells_len (edgesL [r] 1)
  rw [List.length_singleton] at el2
  obtain ⟨e12, q1, q2, q3, q4⟩ := own1'.append2 oc1 (bytes := 16) (id := nx + 5) (k := (edgesL [r] 1).length) (ws := pairCells (edgesL [r] 1)) rd pl2 (growOk_of (by omega) (by omega)) (by omega) (by omega)
  rw [q1]
  simp only [mst_]
  rw [q2]
  have hl2 : (edgesL l 1).length + (edgesL [r] 1).length = (edgesL l 1 ++ edgesL [r] 1).length := by rw [List.length_append]
  have hf2 : pairCells (edgesL l 1) ++ pairCells (edgesL [r] 1) = pairCells (edgesL l 1 ++ edgesL [r] 1) := by rw [pairCells_app]
  rw [hl2] at q3 ⊢
  rw [hf2] at q3
  obtain ⟨oa3, oc3, h14, n14, z1, z2, z3⟩ := swept_spec (f := f) hf (Y := Y) (g := 22) (W := wantPos) (fun f dd h nx hf => want22 Y f dd h nx hf) (n0 := nx + 5) (nx := n9) (by omega) e12.c (d := edgesL l 1 ++ edgesL [r] 1) (by rw [List.length_append]; omega) (by rw [List.length_append]; omega) (edges_by (.inl rfl) (.inl rfl)) q3
  have hx14 := z3.1
  rw [z1]
  simp only [mst_]
  have ws := (add_set w hr).1.n
  have z2' : OwnSl h14 n9 n14 oa3 (addL l r).length 2 (pairCells (addL l r)) := z2
  rw [show (sweptL wantPos (edgesL l 1 ++ edgesL [r] 1)).length = (addL l r).length from rfl, told_spec (f := f) (by omega) Y _ _ _ _ (by omega)]
  simp only [mst_]
  rw [ifKept_pos (by exact ⟨fun x hx => by simp at hx; subst hx; exact x1.2 _ (by omega), trivial⟩), ifRob_pos (by exact ⟨fun ss hss => by
    simp only [callC_fn]
    exact run1 ss fun p hp => by have := hss p hp; simpa using this, trivial⟩)]
  refine ⟨oa3, oc3, h14, n14 + 8, rfl, (z2'.from (by omega)).le (by omega), ⟨by omega, fun j hj => ?_⟩⟩
  rw [z3.2 j (by omega), q4.2 j (by omega), x9.2 j (by omega), hh8, put_ne (by omega), x1.2 j (by omega)]

theorem add_spec {f : Nat} (hf : 1200 ≤ f) (Y : YldF) {h : AHeap} {nx m : Nat} {a : Option (Nat × Nat)} (c : Option Nat) {l : RL} (hm : m ≤ 199) (w : Set' MAXC m l) {r : Int × Int} (hr : 0 ≤ r.1 ∧ r.1 < r.2 ∧ r.2 ≤ MAXC) (s : RS h nx a l) :
    ∃ oa oc h' nx', callP Try.prog keepT f Y 11 [.slice a l.length c, .agg [.int .i64 r.1, .int .i64 r.2]] h nx = some (.tuple [.slice oa (addL l r).length oc, .int .i64 0], h', nx') ∧ OwnSl h' nx nx' oa (addL l r).length 2 (pairCells (addL l r)) ∧ Ext h nx h' nx' := by
  obtain ⟨f, rfl⟩ : ∃ m, f = m + 1 := ⟨f - 1, by omega⟩
  rw [F11_eq]
  dsimp only
  obtain ⟨h1, hh1⟩ : ∃ h1, h1 = h.put nx (some ⟨[.int .i64 r.1, .int .i64 r.2], 2, true⟩) := ⟨_, rfl⟩
  rw [← hh1]
  have x1 : Ext h nx h1 (nx + 11) := ⟨by omega, fun j hj => by rw [hh1, put_ne (by omega)]⟩
  have e1 : h1 nx = some ⟨[.int .i64 r.1, .int .i64 r.2], 2, true⟩ := by rw [hh1, put_same]
  obtain ⟨h2, n2, r2, x2⟩ := may_spec (f := f) (by omega) Y c (by omega) w (s.ext x1)
  have hx2 := x2.1
  rw [r2]
  simp only [mst_]
  have e2 := (x2.2 nx (by omega)).trans e1
  rw [ldr_all e2 (n := 2) rfl]
  simp only [mst_]
  rw [one_spec (by omega) Y hr]
  simp only [mst_]
  obtain ⟨h3, hh3⟩ : ∃ h3, h3 = h2.put n2 (some ⟨[.int .i64 r.1, .int .i64 r.2], 2, true⟩) := ⟨_, rfl⟩
  rw [← hh3]
  have x3 : Ext h nx h3 (n2 + 18) := ⟨by omega, fun j hj => by rw [hh3, put_ne (by omega), x2.2 j (by omega)]; exact x1.2 j hj⟩
  obtain ⟨oa, oc, h', nx', z1, z2, z3⟩ := add_j1 (f := f) (lf := f) (by omega) Y c hm w hr (s.ext x3) (px := nx) (by rw [hh3, put_ne (by omega)]; exact e2) (by omega)
  exact ⟨oa, oc, h', nx', z1, z2.from (by omega), ⟨by have := z3.1; omega, fun j hj => (z3.2 j (by omega)).trans (x3.2 j hj)⟩⟩

end Go.Proofs.Ytophneodoibcgaa.T
