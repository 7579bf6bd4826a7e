/- Edges. -/
import Derived.Test.YtophneodoibcgaaX3
set_option linter.unusedVariables false
set_option linter.unusedSimpArgs false
namespace Go.Proofs.Ytophneodoibcgaa.T
open Go Go.RowKit Go.Proofs

theorem puts_out : ∀ (ss : List (Nat × Option ABlk)) {h : AHeap} {j : Nat}, (∀ p ∈ ss, p.1 ≠ j) → (h.puts ss) j = h j
  | [], _, _, _ => rfl
  | p :: ss, h, j, H => by
    show ((h.put p.1 p.2).puts ss) j = _
    rw [puts_out ss fun q hq => H q (List.mem_cons_of_mem _ hq), put_ne (fun e => H p List.mem_cons_self e.symm)]
theorem puts_put : ∀ (ss : List (Nat × Option ABlk)) {h : AHeap} {i : Nat} {b : Option ABlk}, (∀ p ∈ ss, p.1 ≠ i) → (h.puts ss).put i b = (h.put i b).puts ss
  | [], _, _, _, _ => rfl
  | p :: ss, h, i, b, H => by
    show ((h.put p.1 p.2).puts ss).put i b = ((h.put i b).put p.1 p.2).puts ss
    rw [puts_put ss fun q hq => H q (List.mem_cons_of_mem _ hq)]
    congr 1
    have hne := H p List.mem_cons_self
    funext j
    unfold AHeap.put
    by_cases c1 : j = i
    · rw [if_pos c1, if_neg (fun e => hne (e.symm.trans c1)), if_pos c1]
    · rw [if_neg c1]
      by_cases c2 : j = p.1
      · rw [if_pos c2, if_pos c2]
      · rw [if_neg c2, if_neg c2, if_neg c1]
theorem puts_puts : ∀ (es ss : List (Nat × Option ABlk)) {h : AHeap}, (∀ e ∈ es, ∀ p ∈ ss, p.1 ≠ e.1) → (h.puts ss).puts es = (h.puts es).puts ss
  | [], _, _, _ => rfl
  | e :: es, ss, h, H => by
    show ((h.puts ss).put e.1 e.2).puts es = ((h.put e.1 e.2).puts es).puts ss
    rw [puts_put ss (H e List.mem_cons_self), puts_puts es ss fun x hx => H x (List.mem_cons_of_mem _ hx)]
theorem appD_same {h h' : AHeap} {a : Option (Nat × Nat)} (e : ∀ p, a = some p → h' p.1 = h p.1) (n : Nat) (c : Option Nat) (es bytes id : Nat) (q : Nat × List AV × List Nat) : appD h' a n c es bytes id q = appD h a n c es bytes id q := by
  unfold appD
  cases a with
  | none => rfl
  | some p => simp only [e p rfl]
theorem Sl.puts {h : AHeap} {nx : Nat} {a : Option (Nat × Nat)} {n es : Nat} {vs : List AV} (s : Sl h nx a n es vs) {ss : List (Nat × Option ABlk)} (H : 0 < n → ∀ p ∈ ss, ∀ o, a ≠ some (p.1, o)) : Sl (h.puts ss) nx a n es vs :=
  ⟨s.1, fun j hj => by
    obtain ⟨p, b, e1, e2, e3, r⟩ := s.2 j hj
    exact ⟨p, b, e1, e2, (puts_out ss fun q hq e => H (by omega) q hq p.2 (by rw [e1, e])).trans e3, r⟩⟩

theorem pairCells_app (a b : RL) : pairCells (a ++ b) = pairCells a ++ pairCells b := by unfold pairCells; simp
theorem edgesL_app (a b : RL) (x : Int) : edgesL (a ++ b) x = edgesL a x ++ edgesL b x := by unfold edgesL; simp

theorem edges_loop {f lf : Nat} (Y : YldF) {h0 : AHeap} {n0 : Nat} {a : Option (Nat × Nat)} {c : Option Nat} {l : RL} (hl : l.length ≤ 1000) (s : RS h0 n0 a l) {b : Int} (hb : b = 1 ∨ b = -1) {D : Nat → Prop} (hD : ∀ j, D j → j < n0 ∧ (0 < l.length → ∀ o, a ≠ some (j, o))) (d : Nat) :
    ∀ (k i : Nat) (h : AHeap) (nx : Nat) (oa : Option (Nat × Nat)) (oc : Option Nat), i + d = l.length → d < k → Ext h0 n0 h nx → OwnSl h n0 nx oa (edgesL (l.take i) b).length 2 (pairCells (edgesL (l.take i) b)) →
      ∃ oa' oc' h' nx', (∀ ss : List (Nat × Option ABlk), (∀ p ∈ ss, D p.1) → F21_L1 (callP Try.prog keepT f) Y lf k b oa (edgesL (l.take i) b).length oc a l.length c ((l.length : Nat) : Int) (i : Int) (h.puts ss) nx = some (.slice oa' (edgesL l b).length oc', h'.puts ss, nx')) ∧
        OwnSl h' n0 nx' oa' (edgesL l b).length 2 (pairCells (edgesL l b)) ∧ Ext h0 n0 h' nx' := by
  induction d with
  | zero =>
    intro k i h nx oa oc e hk x w
    obtain ⟨k, rfl⟩ : ∃ m, k = m + 1 := ⟨k - 1, by omega⟩
    have ht : l.take i = l := List.take_of_length_le (by omega)
    rw [ht] at w ⊢
    refine ⟨oa, oc, h, nx + 3, fun ss _ => ?_, w.le (by omega), x.le (by omega)⟩
    rw [F21_L1_eq, if_neg (by rw [decide_eq_true_eq]; omega)]
  | succ d ih =>
    intro k i h nx oa oc e hk x w
    obtain ⟨k, rfl⟩ : ∃ m, k = m + 1 := ⟨k - 1, by omega⟩
    have hi : i < l.length := by omega
    have hx1 := x.1
    have hr : l[i]? = some l[i] := List.getElem?_eq_getElem hi
    have htk : l.take (i + 1) = l.take i ++ [l[i]] := List.take_succ_eq_append_getElem hi
    have hel := edgesL_len (l.take i) b
    rw [List.length_take] at hel
    have hws : wrapA .i64 (0 - b) = -b := by rw [wA (by omega) (by omega)]; omega
    obtain ⟨A, hA⟩ : ∃ A : Option ABlk, A = some ⟨[.int .i64 l[i].1, .int .i64 l[i].2], 2, true⟩ := ⟨_, rfl⟩
    obtain ⟨B, hB⟩ : ∃ B : Option ABlk, B = some ⟨[.int .i64 l[i].1, .int .i64 b, .int .i64 l[i].2, .int .i64 (-b)], 2, true⟩ := ⟨_, rfl⟩
    have w13 : OwnSl ((h.put (nx + 3) A).put (nx + 15) B) n0 (nx + 16) oa (edgesL (l.take i) b).length 2 (pairCells (edgesL (l.take i) b)) := (w.put (nx' := nx + 4) (by omega) (by omega)).put (by omega) (by omega)
    obtain ⟨e3, p1, p2, p3, p4⟩ := w13.append (c := oc) (bytes := 16) (id := nx + 16) (k := 2) (ws := [.int .i64 l[i].1, .int .i64 b, .int .i64 l[i].2, .int .i64 (-b)]) (rd := [nx + 15]) (by decide) rfl (growOk_of (by omega) (by omega)) (by omega) (by omega)
    have pid := w13.append_ids (by omega) p1
    have hl2 : (edgesL (l.take i) b).length + 2 = (edgesL (l.take (i + 1)) b).length := by rw [htk, edgesL_app, List.length_append]; rfl
    have hf2 : pairCells (edgesL (l.take i) b) ++ [.int .i64 l[i].1, .int .i64 b, .int .i64 l[i].2, .int .i64 (-b)] = pairCells (edgesL (l.take (i + 1)) b) := by
      rw [htk, edgesL_app, pairCells_app]; rfl
    rw [hl2] at p2 p3
    rw [hf2] at p3
    have x16 : Ext h0 n0 (((h.put (nx + 3) A).put (nx + 15) B).puts e3.sets) (nx + 20) := by
      refine ⟨by omega, fun j hj => ?_⟩
      rw [p4.2 j hj, put_ne (by omega), put_ne (by omega)]; exact x.2 j hj
    obtain ⟨oa', oc', h', nx', run, z2, z3⟩ := ih k (i + 1) _ (nx + 20) e3.a e3.c (by omega) (by omega) x16 (p3.le (by omega))
    refine ⟨oa', oc', h', nx', fun ss hss => ?_, z2, z3⟩
    have hlt : ∀ p ∈ ss, p.1 < n0 := fun p hp => (hD p.1 (hss p hp)).1
    have sH : RS (h.puts ss) nx a l := Sl.puts (s.ext x) fun hn p hp o => (hD p.1 (hss p hp)).2 hn o
    obtain ⟨_, _, r3⟩ := sH.rd (R := Res) hr
    rw [F21_L1_eq, if_pos (decide_eq_true (by omega)), r3]
    simp only [mst_]
    rw [st_all (put_same _ _ _) (by rfl) (by rfl) (by rfl), put_put, ← hA]
    have eA : ((h.puts ss).put (nx + 3) A) (nx + 3) = some ⟨[.int .i64 l[i].1, .int .i64 l[i].2], 2, true⟩ := by rw [put_same, hA]
    rw [ld_at eA (v := .int .i64 l[i].1) rfl]
    simp only [mst_]
    rw [ld_at eA (v := .int .i64 l[i].2) rfl]
    simp only [mst_]
    rw [hws, ← hB]
    have src : srcS (((h.puts ss).put (nx + 3) A).put (nx + 15) B) (some (nx + 15, 0)) 2 2 = some (2, [.int .i64 l[i].1, .int .i64 b, .int .i64 l[i].2, .int .i64 (-b)], [nx + 15]) := by rw [hB]; simp [srcS]
    rw [src]
    simp only [mst_]
    have hc : ((h.puts ss).put (nx + 3) A).put (nx + 15) B = ((h.put (nx + 3) A).put (nx + 15) B).puts ss := by
      rw [puts_put ss (fun p hp => by have := hlt p hp; omega), puts_put ss (fun p hp => by have := hlt p hp; omega)]
    rw [hc, appD_same (h := (h.put (nx + 3) A).put (nx + 15) B) (fun p ep => puts_out ss fun q hq => by
      rcases w.2 with ⟨e1, _⟩ | ⟨j, e1, j0, _⟩
      · rw [e1] at ep; cases ep
      · rw [e1] at ep; cases ep; have := hlt q hq; simp only; omega), p1]
    simp only [mst_]
    rw [wsucc (i := i) (by omega), p2, puts_puts e3.sets ss fun x hx p hp => by
      have h1 := pid x.1 (List.mem_map_of_mem hx)
      have := hlt p hp; omega]
    exact run ss hss

theorem edges_spec {f : Nat} (hf : 1100 ≤ f) (Y : YldF) {h : AHeap} {nx : Nat} {a : Option (Nat × Nat)} (c : Option Nat) {l : RL} (hl : l.length ≤ 1000) (s : RS h nx a l) {b : Int} (hb : b = 1 ∨ b = -1) {D : Nat → Prop} (hD : ∀ j, D j → j < nx ∧ (0 < l.length → ∀ o, a ≠ some (j, o))) :
    ∃ oa oc h' nx', (∀ ss : List (Nat × Option ABlk), (∀ p ∈ ss, D p.1) → callP Try.prog keepT f Y 21 [.slice a l.length c, .int .i64 b] (h.puts ss) nx = some (.slice oa (edgesL l b).length oc, h'.puts ss, nx')) ∧
      OwnSl h' nx nx' oa (edgesL l b).length 2 (pairCells (edgesL l b)) ∧ Ext h nx h' nx' := by
  obtain ⟨f, rfl⟩ : ∃ m, f = m + 1 := ⟨f - 1, by omega⟩
  obtain ⟨oa, oc, h', nx', r1, r2, r3⟩ := edges_loop (f := f) (lf := f) Y (c := c) hl s hb hD l.length f 0 h (nx + 5) none none (by omega) (by omega) ⟨by omega, fun _ _ => rfl⟩ (OwnSl.nil _ _ _ _)
  refine ⟨oa, oc, h', nx', fun ss hss => ?_, r2, r3⟩
  rw [F21_eq]
  exact r1 ss hss

end Go.Proofs.Ytophneodoibcgaa.T
