import Derived.Test.YtdfopcgfhjijgaaGB
set_option linter.unusedVariables false
set_option linter.unusedSimpArgs false
namespace Go.Proofs.Ytdfopcgfhjijgaa.T
open Go Go.RowKit Go.Proofs

theorem Mat.some {h : AHeap} {nx w : Nat} {k : IntKind} {a : Option (Nat × Nat)} {M : List (List Nat)} (m : Mat h nx k a M w) (hn : 1 ≤ M.length) : ∃ p, a = some p ∧ p.1 < nx := by
  obtain ⟨qs, r, s⟩ := m
  obtain ⟨p, b, e1, e2, _⟩ := s.2 0 (by omega)
  exact ⟨p, e1, e2⟩

theorem rank_spec {f : Nat} (hf : 2010 ≤ f) {L : List (List Nat)} {n w : Nat} (hL : L.length = n) (hn1 : 1 ≤ n) (hn : n ≤ 8) (hw1 : 1 ≤ w) (hw : w ≤ 8) (hs : SmallM L) {a : Option (Nat × Nat)} (c : Bool) {h : AHeap} {nx : Nat} (mt : Mat h nx .i64 a L w) :
    ∃ h' nx', callP Try.prog keepT f Y0 33 [.slice a n c] h nx = some (.tuple [.int .i64 ((rk n w (ent L) : Nat) : Int), .int .i64 0], h', nx') ∧ Ext h nx h' nx' := by
  obtain ⟨f, rfl⟩ : ∃ m, f = m + 1 := ⟨f - 1, by omega⟩
  obtain ⟨n1, l1, e1⟩ := may_spec (f := f) (by omega) (M := L) (w := w) (by omega) (by omega) hw1 hw hs c mt (nx + 5)
  rw [hL] at e1
  have x1 : Ext h nx h (n1 + 9) := ⟨by omega, fun _ _ => rfl⟩
  obtain ⟨oa, oc, h2, n2, e2, wm, x2⟩ := bes_spec (f := f) (by omega) hL (by omega) hw1 (by omega) (more := 0) (.inl rfl) c (mt.ext x1)
  have y2 := x2.1
  rw [show ((0 : Nat) : Int) = 0 from rfl, Nat.add_zero] at e2
  rw [show w + 0 = w from rfl] at wm
  obtain ⟨hd, bl, cl, rfl, g⟩ := wm.gm hw1 (by rw [lst_len]; omega)
  rw [lst_len] at g
  have hF : F8 (besF w 0 (ent L)) := fun i j => by
    unfold besF; split
    · exact ent_F8 hs _ _
    · split
      · omega
      · exact dl_lt _ _
  obtain ⟨bl', cl', h3, n3, e3, l3, g3, k3⟩ := reduce_spec (f := f) (by omega) (by omega) (by omega) oc (C := w) (Nat.le_refl _) (ent_F8 (lst_small hF)) (nx := n2) (Nat.le_refl _) g
  have er : rk n w (ent (lst n w (besF w 0 (ent L)))) = rk n w (ent L) := rk_congr fun i j hi hj => by
    rw [lst_ent hi hj]; unfold besF; rw [if_pos hj]
  obtain ⟨p, rfl, hp⟩ := mt.some (by omega)
  obtain ⟨q, q1, q2, q3⟩ := ((mt.ext x1).ext x2).row (R := AV × AHeap × Nat) (i := 0) (by omega)
  rw [hL, show ((0 : Nat) : Int) = 0 from rfl] at q3
  simp only [bind_some'] at q3
  rw [F33_eq, e1]
  simp only [bind_some', asI_int, asB_bool, asStr_str, asP_ptr, asSl_sl, asAgg_1, asAgg_2, asAgg_3, asAgg_4, asTup_0, asTup_2, asTup_3, asTup_4, if_true', if_false', if_not_true', if_not_false', getD_0, getD_1, getD_2, getD_3]
  rw [e2]
  simp only [bind_some', asI_int, asB_bool, asStr_str, asP_ptr, asSl_sl, asAgg_1, asAgg_2, asAgg_3, asAgg_4, asTup_0, asTup_2, asTup_3, asTup_4, if_true', if_false', if_not_true', if_not_false', getD_0, getD_1, getD_2, getD_3]
  rw [q3]
  simp only [bind_some', asI_int, asB_bool, asStr_str, asP_ptr, asSl_sl, asAgg_1, asAgg_2, asAgg_3, asAgg_4, asTup_0, asTup_2, asTup_3, asTup_4, if_true', if_false', if_not_true', if_not_false', getD_0, getD_1, getD_2, getD_3]
  rw [e3]
  simp only [bind_some', asI_int, asB_bool, asStr_str, asP_ptr, asSl_sl, asAgg_1, asAgg_2, asAgg_3, asAgg_4, asTup_0, asTup_2, asTup_3, asTup_4, if_true', if_false', if_not_true', if_not_false', getD_0, getD_1, getD_2, getD_3]
  rw [ifKept_pos (by exact ⟨fun x hx => by simp at hx; subst hx; exact x2.2 _ (by omega), trivial⟩), show (red n w 0 0 (ent (lst n w (besF w 0 (ent L))))).2 = rk n w (ent L) from er]
  exact ⟨h3, n3, rfl, by omega, fun j hj => by rw [k3 j (by omega) (by omega), x2.2 j (by omega)]⟩

theorem clone_spec {f : Nat} (hf : 1 ≤ f) {l : List Nat} {k : Nat} (hl : l.length = k) (hk1 : 1 ≤ k) (hk : k ≤ 1000000) {a : Option (Nat × Nat)} (c : Bool) {h : AHeap} {nx : Nat} (s : Sl h nx a k 1 (ints .i64 (nints l))) :
    ∃ id cc h' nx', callP Try.prog keepT f Y0 53 [.slice a k c] h nx = some (.slice (some (id, 0)) k cc, h', nx') ∧ nx ≤ id ∧ id < nx' ∧ h' id = some ⟨ints .i64 (nints l), 1, true⟩ ∧ Ext h nx h' nx' := by
  obtain ⟨f, rfl⟩ : ∃ m, f = m + 1 := ⟨f - 1, by omega⟩
  obtain ⟨p, b, rfl, _⟩ := s.2 0 (by omega)
  have x1 : Ext h nx (h.put (nx + 3) (some ⟨[], 1, true⟩)) (nx + 4) := ⟨by omega, fun j hj => put_ne (by omega)⟩
  obtain ⟨rd, e1⟩ := (s.ext x1).src'
  have o : OwnSl (h.put (nx + 3) (some ⟨[], 1, true⟩)) nx (nx + 4) (some (nx + 3, 0)) 0 1 [] := ⟨by simp, .inr ⟨nx + 3, rfl, by omega, by omega, put_same _ _ _⟩⟩
  obtain ⟨e, f1, f2, f3, f4, _⟩ := o.appendS true (bytes := 8) (id := nx + 5) (k := k) (ws := ints .i64 (nints l)) (rd := rd) s.1 (growOk_of (by omega) (by omega)) (by omega) (by omega)
  rw [Nat.zero_add] at f2 f3
  rw [List.nil_append] at f3
  have ha := appD_a f1 (by omega)
  rcases f3.2 with ⟨_, z⟩ | ⟨id, g1, g2, g3, g4⟩
  · omega
  rw [F53_eq, if_neg (by simp)]
  dsimp only
  rw [e1, some_bind, f1, some_bind, f2, g1]
  exact ⟨id, e.c, _, nx + 7, rfl, g2, by omega, g4, ⟨by omega, fun j hj => by rw [f4.2 j (by omega), put_ne (by omega)]⟩⟩

theorem out_loop {k0 : Nat} (hk0 : 2 ≤ k0) (lf : Nat) {h0 : AHeap} {lo nm n0 n hd : Nat} (hn1 : 1 ≤ n) (hn : n ≤ 16) (hnm : nm ≤ n0) {bl : Nat → Nat} {cl : Nat → Bool} {M : Fm} (g : GM h0 lo nm n (n + n) hd bl cl M) (cc : Bool) (k : Nat) :
    ∀ (f i : Nat) (oa : Option (Nat × Nat)) (oc : Bool) (h : AHeap) (nx : Nat), i + k = n → k < f → Ext h0 n0 h nx → WMat h n0 nx .i64 oa (lst i n fun i j => M i (n + j)) n →
    ∃ oa' oc' h' nx', F32_L1 (callP Try.prog keepT k0) Y0 lf f ((n : Nat) : Int) oa i oc (some (hd, 0)) n cc ((n : Nat) : Int) (i : Int) h nx = some (.tuple [.slice oa' n oc', .int .i64 0], h', nx') ∧ WMat h' n0 nx' .i64 oa' (lst n n fun i j => M i (n + j)) n ∧ Ext h0 n0 h' nx' := by
  induction k with
  | zero =>
    intro f i oa oc h nx e hf hx wm
    obtain ⟨f, rfl⟩ : ∃ m, f = m + 1 := ⟨f - 1, by omega⟩
    obtain rfl : i = n := by omega
    rw [F32_L1_eq, if_neg (by simp)]
    exact ⟨oa, oc, h, nx + 4, rfl, wm.ext ⟨by omega, fun _ _ => rfl⟩, hx.le (by omega)⟩
  | succ k ih =>
    intro f i oa oc h nx e hf hx wm
    obtain ⟨f, rfl⟩ : ∃ m, f = m + 1 := ⟨f - 1, by omega⟩
    have hi : i < n := by omega
    have y := hx.1
    have gh := g.keep (h' := h) fun j _ hj => hx.2 j (by omega)
    have sr : Sl h nm (some (bl i, 0)) (n + n) 1 (irow (n + n) (M i)) := Sl.ofBlk (gh.row i hi) (by rw [irow_len, Nat.mul_one]) (gh.blm i hi)
    obtain ⟨c1, c2, _⟩ := sr.cut (cl i) (lo := n) (hi := n + n) (l := some (.int .i64 ((n : Nat) : Int))) (r := none) (by omega) (Nat.le_refl _) (bound_some (by omega)) bound_none
    have hv : ((irow (n + n) (M i)).drop (n * 1)).take ((n + n - n) * 1) = ints .i64 (nints ((List.range n).map fun j => M i (n + j))) := by
      rw [irow_lst, Nat.mul_one, Nat.mul_one, Nat.add_sub_cancel]
      apply List.ext_getElem
      · simp [irow_len]
      · intro j h1 h2
        simp [irow]
    rw [hv, Nat.add_sub_cancel] at c2
    rw [Nat.add_sub_cancel] at c1
    obtain ⟨id, cb, h5, n5, e5, l5, l6, b5, x5⟩ := clone_spec (f := k0) (by omega) (l := (List.range n).map fun j => M i (n + j)) (k := n) (by simp) hn1 (by omega) (cl i && n + n == n + n) (h := h) (nx := nx + 12) (c2.ext ⟨by omega, fun _ _ => rfl⟩)
    have y5 := x5.1
    obtain ⟨e, f1, f2, f3, f4⟩ := (wm.ext (nx' := nx) ⟨by omega, fun _ _ => rfl⟩).pushAt (n2 := n5) (n3 := n5 + 2) (x := ⟨by omega, fun q hq => x5.2 q (by omega)⟩) (c := oc) (bytes := 24) (id := nx + 9) (id2 := nx + 10) (q := (some (id, 0), cb)) (r := (List.range n).map fun j => M i (n + j))
      ⟨by simp, .inr ⟨id, rfl, by omega, l6, b5⟩⟩ (fun q hq => by
        obtain rfl : id = q := by simpa using hq
        omega) (growOk_of (by rw [lst_len]; omega) (by omega)) (by omega) (by omega) (by omega) (by omega) (by omega)
    rw [lst_len] at f1 f2
    have es : lst i n (fun i j => M i (n + j)) ++ [(List.range n).map fun j => M i (n + j)] = lst (i + 1) n fun i j => M i (n + j) := (lst_succ i n fun i j => M i (n + j)).symm
    rw [es] at f3
    rw [F32_L1_eq, if_pos (by simpa using hi)]
    simp only [bind_some', asI_int, asB_bool, asStr_str, asP_ptr, asSl_sl, asAgg_1, asAgg_2, asAgg_3, asAgg_4, asTup_0, asTup_2, asTup_3, asTup_4, if_true', if_false', if_not_true', if_not_false', getD_0, getD_1, getD_2, getD_3]
    rw [gh.rd hi]
    simp only [bind_some', asI_int, asB_bool, asStr_str, asP_ptr, asSl_sl, asAgg_1, asAgg_2, asAgg_3, asAgg_4, asTup_0, asTup_2, asTup_3, asTup_4, if_true', if_false', if_not_true', if_not_false', getD_0, getD_1, getD_2, getD_3]
    rw [c1]
    simp only [bind_some', asI_int, asB_bool, asStr_str, asP_ptr, asSl_sl, asAgg_1, asAgg_2, asAgg_3, asAgg_4, asTup_0, asTup_2, asTup_3, asTup_4, if_true', if_false', if_not_true', if_not_false', getD_0, getD_1, getD_2, getD_3]
    rw [e5]
    simp only [bind_some', asI_int, asB_bool, asStr_str, asP_ptr, asSl_sl, asAgg_1, asAgg_2, asAgg_3, asAgg_4, asTup_0, asTup_2, asTup_3, asTup_4, if_true', if_false', if_not_true', if_not_false', getD_0, getD_1, getD_2, getD_3]
    rw [src_lit1, some_bind, f1, some_bind, f2, wsucc (by omega)]
    exact ih f (i + 1) e.a e.c _ (n5 + 2) (by omega) (by omega) (hx.then f4) f3

theorem inv_matrix {f : Nat} (hf : 2010 ≤ f) {L : List (List Nat)} {n : Nat} (hL : L.length = n) (hn1 : 1 ≤ n) (hn : n ≤ 8) (hs : SmallM L) {a : Option (Nat × Nat)} (c : Bool) {h : AHeap} {nx : Nat} (mt : Mat h nx .i64 a L n) :
    (rk n n (ent L) < n → ∃ h' nx', callP Try.prog keepT f Y0 32 [.slice a n c] h nx = some (.tuple [.slice none 0 false, .int .i64 10], h', nx') ∧ Ext h nx h' nx') ∧
    (rk n n (ent L) = n → ∃ oa oc h' nx', callP Try.prog keepT f Y0 32 [.slice a n c] h nx = some (.tuple [.slice oa n oc, .int .i64 0], h', nx') ∧ WMat h' nx nx' .i64 oa (lst n n (invF n (ent L))) n ∧ Ext h nx h' nx') := by
  obtain ⟨f, rfl⟩ : ∃ m, f = m + 1 := ⟨f - 1, by omega⟩
  obtain ⟨n1, l1, e1⟩ := may_spec (f := f) (by omega) (M := L) (w := n) (by omega) (by omega) hn1 hn hs c mt (nx + 5)
  rw [hL] at e1
  have x1 : Ext h nx h (n1 + 13) := ⟨by omega, fun _ _ => rfl⟩
  obtain ⟨oa, oc, h2, n2, e2, wm, x2⟩ := bes_spec (f := f) (by omega) hL (by omega) hn1 (by omega) (more := n) (.inr ⟨Nat.le_refl _, by omega⟩) c (mt.ext x1)
  have y2 := x2.1
  obtain ⟨hd, bl, cl, rfl, g⟩ := wm.gm (by omega) (by rw [lst_len]; omega)
  rw [lst_len] at g
  have hF : F8 (besF n n (ent L)) := fun i j => by
    unfold besF; split
    · exact ent_F8 hs _ _
    · split
      · omega
      · exact dl_lt _ _
  obtain ⟨bl', cl', h3, n3, e3, l3, g3, k3⟩ := reduce_spec (f := f) (by omega) (by omega) (by omega) oc (C := n) (by omega) (ent_F8 (lst_small hF)) (nx := n2 + 5) (by omega) g
  have ag : ∀ i j, i < n → j < n + n → ent (lst n (n + n) (besF n n (ent L))) i j = aug n (ent L) i j := fun i j hi hj => by
    rw [lst_ent hi hj]; unfold besF aug
    by_cases hjn : j < n
    · rw [if_pos hjn, if_pos hjn]
    · rw [if_neg hjn, if_neg hjn, if_neg (by omega)]
  have ra := red_agree (n := n) (C := n + n) n 0 0 _ _ (by omega) ag
  have er : (red n n 0 0 (ent (lst n (n + n) (besF n n (ent L))))).2 = rk n n (ent L) := by rw [ra.1]; exact rk_aug
  obtain ⟨q, q1, q2, q3⟩ := mt.row (R := AV × AHeap × Nat) (i := 0) (by omega)
  rw [hL, show ((0 : Nat) : Int) = 0 from rfl] at q3
  have xx : Ext h nx h3 n3 := ⟨by omega, fun j hj => by rw [k3 j (by omega) (by omega), x2.2 j (by omega)]⟩
  rw [F32_eq, e1]
  simp only [bind_some', asI_int, asB_bool, asStr_str, asP_ptr, asSl_sl, asAgg_1, asAgg_2, asAgg_3, asAgg_4, asTup_0, asTup_2, asTup_3, asTup_4, if_true', if_false', if_not_true', if_not_false', getD_0, getD_1, getD_2, getD_3]
  rw [q3]
  simp only [bind_some', asI_int, asB_bool, asStr_str, asP_ptr, asSl_sl, asAgg_1, asAgg_2, asAgg_3, asAgg_4, asTup_0, asTup_2, asTup_3, asTup_4, if_true', if_false', if_not_true', if_not_false', getD_0, getD_1, getD_2, getD_3]
  rw [if_neg (by simp), e2]
  simp only [bind_some', asI_int, asB_bool, asStr_str, asP_ptr, asSl_sl, asAgg_1, asAgg_2, asAgg_3, asAgg_4, asTup_0, asTup_2, asTup_3, asTup_4, if_true', if_false', if_not_true', if_not_false', getD_0, getD_1, getD_2, getD_3]
  rw [e3]
  simp only [bind_some', asI_int, asB_bool, asStr_str, asP_ptr, asSl_sl, asAgg_1, asAgg_2, asAgg_3, asAgg_4, asTup_0, asTup_2, asTup_3, asTup_4, if_true', if_false', if_not_true', if_not_false', getD_0, getD_1, getD_2, getD_3]
  rw [er]
  constructor
  · intro hr
    rw [if_pos (by simpa using hr)]
    exact ⟨h3, n3 + 2, rfl, xx.le (by omega)⟩
  · intro hr
    rw [if_neg (by rw [hr]; simp)]
    obtain ⟨oa', oc', h', nx', e', w', x'⟩ := out_loop (k0 := f) (by omega) f hn1 (by omega) (n0 := n3 + 4) (by omega) g3 oc n f 0 none false h3 (n3 + 4) (by omega) (by omega) (Ext.refl _ _) (WMat.nil _ _ _ _ _)
    rw [show ((0 : Nat) : Int) = 0 from rfl] at e'
    rw [e']
    have el : lst n n (fun i j => (red n n 0 0 (ent (lst n (n + n) (besF n n (ent L))))).1 i (n + j)) = lst n n (invF n (ent L)) := by
      unfold lst
      refine List.map_congr_left fun i hi => List.map_congr_left fun j hj => ?_
      have hi := List.mem_range.1 hi
      have hj := List.mem_range.1 hj
      exact ra.2 i (n + j) hi (by omega)
    rw [el] at w'
    exact ⟨oa', oc', h', nx', rfl, w'.from (by omega), ⟨by have := x'.1; omega, fun j hj => by rw [x'.2 j (by omega), xx.2 j hj]⟩⟩

end Go.Proofs.Ytdfopcgfhjijgaa.T
