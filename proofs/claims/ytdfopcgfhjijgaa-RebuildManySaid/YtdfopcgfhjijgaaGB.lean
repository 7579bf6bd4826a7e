import Derived.Test.YtdfopcgfhjijgaaGQ
set_option linter.unusedVariables false
set_option linter.unusedSimpArgs false
namespace Go.Proofs.Ytdfopcgfhjijgaa.T
open Go Go.RowKit Go.Proofs

abbrev ent (L : List (List Nat)) : Fm := fun i j => (L.getD i []).getD j 0
theorem ent_F8 {L : List (List Nat)} (h : SmallM L) : F8 (ent L) := fun i j => entD_lt h i j
def lst (n W : Nat) (f : Fm) : List (List Nat) := (List.range n).map fun i => (List.range W).map (f i)
theorem lst_len (n W : Nat) (f : Fm) : (lst n W f).length = n := by simp [lst]
theorem lst_succ (n W : Nat) (f : Fm) : lst (n + 1) W f = lst n W f ++ [(List.range W).map (f n)] := by simp [lst, List.range_succ]
theorem lst_get {n W : Nat} {f : Fm} {i : Nat} (hi : i < n) : (lst n W f)[i]'(by rw [lst_len]; exact hi) = (List.range W).map (f i) := by simp [lst]
theorem getD_at {α : Type} {l : List α} {i : Nat} {d : α} (h : i < l.length) : l.getD i d = l[i] := by
  simp [List.getD, List.getElem?_eq_getElem h]
theorem lst_ent {n W : Nat} {f : Fm} {i j : Nat} (hi : i < n) (hj : j < W) : ent (lst n W f) i j = f i j := by
  show ((lst n W f).getD i []).getD j 0 = _
  rw [getD_at (l := lst n W f) (by rw [lst_len]; exact hi), lst_get hi, getD_at (by simpa using hj)]; simp
theorem lst_row (n W : Nat) (f : Fm) : ∀ r ∈ lst n W f, r.length = W := by
  intro r hr
  obtain ⟨i, _, rfl⟩ := List.mem_map.1 hr
  simp
theorem lst_small {n W : Nat} {f : Fm} (h : F8 f) : SmallM (lst n W f) := by
  intro r hr x hx
  obtain ⟨i, _, rfl⟩ := List.mem_map.1 hr
  obtain ⟨j, _, rfl⟩ := List.mem_map.1 hx
  exact h _ _
theorem irow_lst (W : Nat) (f : Nat → Nat) : ints .i64 (nints ((List.range W).map f)) = irow W f := by simp [ints, nints, irow]
theorem irow_row {L : List Nat} {W : Nat} (h : L.length = W) : ints .i64 (nints L) = irow W fun j => L.getD j 0 := by
  apply List.ext_getElem
  · simp [ints, nints, irow, h]
  · intro i h1 h2
    have : i < L.length := by simp [ints, nints] at h1; exact h1
    simp [ints, nints, irow, List.getElem?_eq_getElem this]
theorem eq_lst {L : List (List Nat)} {n W : Nat} {f : Fm} (hn : L.length = n) (hW : ∀ r ∈ L, r.length = W) (h : ∀ i j, i < n → j < W → ent L i j = f i j) : L = lst n W f := by
  apply List.ext_getElem
  · rw [lst_len, hn]
  · intro i h1 h2
    have hi : i < n := by omega
    have hl : L[i].length = W := hW _ (List.getElem_mem _)
    rw [lst_get hi]
    apply List.ext_getElem
    · simp [hl]
    · intro j h3 h4
      have := h i j hi (by omega)
      rw [show ent L i j = L[i][j] from by show (L.getD i []).getD j 0 = _; rw [getD_at h1, getD_at h3]] at this
      simp [this]

/-- Blocks of a matrix of one's own. -/
theorem WMat.gm {h : AHeap} {nx0 nx W : Nat} {a : Option (Nat × Nat)} {L : List (List Nat)} (m : WMat h nx0 nx .i64 a L W) (hW : 1 ≤ W) (hn : 1 ≤ L.length) : ∃ hd bl cl, a = some (hd, 0) ∧ GM h nx0 nx L.length W hd bl cl (ent L) := by
  obtain ⟨qs, ro, s, nn, d⟩ := m
  rcases s.2 with ⟨_, z⟩ | ⟨hd, rfl, l0, l1, b⟩
  · omega
  have hq : ∀ i (hi : i < L.length), ∃ ri c, qs[i]? = some (some (ri, 0), c) ∧ nx0 ≤ ri ∧ ri < nx ∧ h ri = some ⟨ints .i64 (nints L[i]), 1, true⟩ ∧ L[i].length = W := by
    intro i hi
    obtain ⟨⟨q1, q2⟩, e1, w1, ⟨_, z⟩ | ⟨ri, e2, r0, r1, rb⟩⟩ := ro.getO hi
    · omega
    · obtain rfl : q1 = some (ri, 0) := e2
      exact ⟨ri, q2, e1, r0, r1, rb, w1⟩
  have hlen : qs.length = L.length := ro.rows.length
  refine ⟨hd, fun i => ((qs[i]?.bind (·.1)).map Prod.fst).getD 0, fun i => (qs[i]?.map (·.2)).getD false, rfl, ?_, fun i hi => ?_, fun i j hi hj e => ?_, fun i hi => ?_, l0, l1, fun i hi => ?_, fun i hi => ?_⟩
  · rw [b]
    congr 2
    apply List.ext_getElem
    · simp [hrow, hlen]
    · intro i h1 h2
      have hi : i < L.length := by simp at h1; omega
      obtain ⟨ri, c, e1, _⟩ := hq i hi
      have e2 : qs[i]'(by omega) = (some (ri, 0), c) := by
        have := List.getElem?_eq_getElem (show i < qs.length by omega)
        rw [e1] at this; exact (Option.some.inj this).symm
      simp [hrow, rcell, e1, e2]
  · obtain ⟨ri, c, e1, _, _, e4, e5⟩ := hq i hi
    simp only [e1, Option.bind_some, Option.map_some, Option.getD_some]
    rw [e4, irow_row e5]
    congr 2
    exact irow_congr fun j _ => by show _ = (L.getD i []).getD j 0; rw [getD_at hi]
  · obtain ⟨ri, c, e1, _⟩ := hq i hi
    obtain ⟨rj, c', e2, _⟩ := hq j hj
    simp only [e1, e2, Option.bind_some, Option.map_some, Option.getD_some] at e
    subst e
    have g1 : qs[i]'(by omega) = (some (ri, 0), c) := by
      have := List.getElem?_eq_getElem (show i < qs.length by omega)
      rw [e1] at this; exact (Option.some.inj this).symm
    have g2 : qs[j]'(by omega) = (some (ri, 0), c') := by
      have := List.getElem?_eq_getElem (show j < qs.length by omega)
      rw [e2] at this; exact (Option.some.inj this).symm
    have pw := List.pairwise_iff_getElem.1 d
    by_cases hij : i < j
    · exact absurd (by rw [g2]) (pw i j (by omega) (by omega) hij ri (by rw [g1]))
    · by_cases hji : j < i
      · exact absurd (by rw [g1]) (pw j i (by omega) (by omega) hji ri (by rw [g2]))
      · omega
  · obtain ⟨ri, c, e1, _⟩ := hq i hi
    simp only [e1, Option.bind_some, Option.map_some, Option.getD_some]
    intro q
    exact nn _ (List.mem_of_getElem? e1) hd (by rw [q]) rfl
  · obtain ⟨ri, c, e1, e2, _⟩ := hq i hi
    simp only [e1, Option.bind_some, Option.map_some, Option.getD_some]; exact e2
  · obtain ⟨ri, c, e1, _, e3, _⟩ := hq i hi
    simp only [e1, Option.bind_some, Option.map_some, Option.getD_some]; exact e3

/-! ### a matrix and what stands beside it -/
theorem copy_spec {h : AHeap} {nx d n k : Nat} {a : Option (Nat × Nat)} {cells vs : List AV} (hk : 1 ≤ k) (hkn : k ≤ n) (hb : h d = some ⟨cells, 1, true⟩) (hc : cells.length = n) (s : Sl h nx a k 1 vs) :
    ∃ rd, copD h (some (d, 0)) n a k 1 = some (k, [(d, some ⟨vs ++ cells.drop k, 1, true⟩)], rd) := by
  obtain ⟨p, b, rfl, _, e3, e4, e5, e6⟩ := s.2 0 (by omega)
  have hd : (b.cells.drop p.2).take (k * 1) = vs := by
    apply List.ext_getElem?
    intro q
    rw [List.getElem?_take]
    by_cases hq : q < k * 1
    · rw [if_pos hq, List.getElem?_drop]; exact e6 q hq
    · rw [if_neg hq, List.getElem?_eq_none (by rw [s.1]; omega)]
  have hm : min k n = k := Nat.min_eq_left hkn
  have hvl : vs.length = k := by have := s.1; omega
  refine ⟨[d, p.1], ?_⟩
  unfold copD
  rw [hm, if_neg (by omega), Option.bind_some, Option.bind_some, hb, Option.bind_some, e3, Option.bind_some, if_pos (by simp [e4, hc]; omega), hd]
  simp [splice, hvl]

def besF (w more : Nat) (f : Fm) : Fm := fun i j => if j < w then f i j else if more = 0 then 0 else dl i (j - w)

theorem madeI (n : Nat) : madeA [AV.int .i64 0] n = irow n fun _ => 0 := by
  simp only [madeA, irow]
  apply List.ext_getElem
  · simp
  · intro i h1 h2; simp

theorem bes_loop (call : YldF → CallF) (lf : Nat) {L : List (List Nat)} {n w more : Nat} (hL : L.length = n) (hn : n ≤ 16) (hw1 : 1 ≤ w) (hw : w ≤ 16) (hm : more = 0 ∨ (n ≤ more ∧ more ≤ 16)) {a : Option (Nat × Nat)} (c : Bool) {h0 : AHeap} {n0 : Nat} (mt : Mat h0 n0 .i64 a L w) (k : Nat) :
    ∀ (f i : Nat) (oa : Option (Nat × Nat)) (oc : Bool) (h : AHeap) (nx : Nat), i + k = n → k < f → Ext h0 n0 h nx → WMat h n0 nx .i64 oa (lst i (w + more) (besF w more (ent L))) (w + more) →
    ∃ oa' oc' h' nx', F51_L1 call Y0 lf f (more : Int) oa i oc a n c ((n : Nat) : Int) (i : Int) h nx = some (.slice oa' n oc', h', nx') ∧ WMat h' n0 nx' .i64 oa' (lst n (w + more) (besF w more (ent L))) (w + more) ∧ Ext h0 n0 h' nx' := by
  induction k with
  | zero =>
    intro f i oa oc h nx e hf hx wm
    obtain ⟨f, rfl⟩ : ∃ m, f = m + 1 := ⟨f - 1, by omega⟩
    obtain rfl : i = n := by omega
    rw [F51_L1_eq, if_neg (by simp)]
    exact ⟨oa, oc, h, nx + 3, rfl, wm.ext ⟨by omega, fun _ _ => rfl⟩, hx.le (by omega)⟩
  | succ k ih =>
    intro f i oa oc h nx e hf hx wm
    obtain ⟨f, rfl⟩ : ∃ m, f = m + 1 := ⟨f - 1, by omega⟩
    have hi : i < n := by omega
    have y := hx.1
    obtain ⟨q, q1, q2, q3⟩ := (mt.ext hx).row (R := AV × AHeap × Nat) (i := i) (by omega)
    rw [hL] at q3
    have x4 : Ext h nx (h.put (nx + 10) (some ⟨irow (w + more) fun _ => 0, 1, true⟩)) (nx + 11) := ⟨by omega, fun j hj => put_ne (by omega)⟩
    obtain ⟨rd, cp⟩ := copy_spec (h := h.put (nx + 10) (some ⟨irow (w + more) fun _ => 0, 1, true⟩)) (d := nx + 10) (n := w + more) hw1 (by omega) (put_same _ _ _) (irow_len _ _) (q2.ext x4)
    have hcell : ints .i64 (nints L[i]) ++ (irow (w + more) fun _ => 0).drop w = irow (w + more) fun j => if j < w then ent L i j else 0 := by
      rw [irow_row q1]
      apply List.ext_getElem
      · simp [irow_len]
      · intro j h1 h2
        by_cases hj : j < w
        · rw [List.getElem_append_left (by rw [irow_len]; exact hj)]
          simp only [irow, List.getElem_map, List.getElem_range, if_pos hj]
          show _ = AV.int .i64 (((L.getD i []).getD j 0 : Nat) : Int)
          rw [getD_at (show i < L.length by omega)]
        · rw [List.getElem_append_right (by rw [irow_len]; omega)]
          simp only [irow, List.getElem_drop, List.getElem_map, List.getElem_range, if_neg hj]
    rw [hcell] at cp
    have ww : wrapA .i64 ((w : Int) + (more : Int)) = ((w + more : Nat) : Int) := by rw [wA (by omega) (by omega)]; omega
    have wi : wrapA .i64 ((w : Int) + (i : Int)) = ((w + i : Nat) : Int) := by clear ww; rw [wA (by omega) (by omega)]; omega
    -- what the push gives
    have push : ∀ (hh : AHeap) (m : Nat), nx + 11 ≤ m → Ext h nx hh m → hh (nx + 10) = some ⟨irow (w + more) (besF w more (ent L) i), 1, true⟩ → ∃ oa' oc' h' nx', F51_J2 call Y0 lf f (more : Int) oa i oc (some (nx + 10, 0)) (w + more) true a n c ((n : Nat) : Int) (i : Int) hh m = some (.slice oa' n oc', h', nx') ∧ WMat h' n0 nx' .i64 oa' (lst n (w + more) (besF w more (ent L))) (w + more) ∧ Ext h0 n0 h' nx' := by
      intro hh m hm' xm bm
      clear ww wi
      obtain ⟨e, g1, g2, g3, g4⟩ := wm.pushNew (x := xm) (c := oc) (bytes := 24) (id := m + 2) (id2 := m + 3) (q := (some (nx + 10, 0), true)) (r := (List.range (w + more)).map (besF w more (ent L) i)) ⟨by simp, .inr ⟨nx + 10, rfl, by omega, by omega, by rw [irow_lst]; exact bm⟩⟩ (growOk_of (by rw [lst_len]; omega) (by omega)) (by omega) (by omega) (by omega)
      rw [lst_len] at g1 g2
      rw [← lst_succ] at g3
      rw [F51_J2_eq]
      dsimp only
      rw [src_lit1, some_bind, g1, some_bind, g2, wsucc (by omega)]
      exact ih f (i + 1) e.a e.c _ (m + 7) (by omega) (by omega) ((hx.then g4).le (by omega)) (g3.ext ⟨by omega, fun _ _ => rfl⟩)
    rw [F51_L1_eq, if_pos (by clear ww wi; simpa using hi), q3]
    simp only [bind_some', asI_int, asB_bool, asStr_str, asP_ptr, asSl_sl, asAgg_1, asAgg_2, asAgg_3, asAgg_4, asTup_0, asTup_2, asTup_3, asTup_4, if_true', if_false', if_not_true', if_not_false', getD_0, getD_1, getD_2, getD_3]
    rw [ww, wi]
    clear ww wi
    rw [if_pos (by simp; omega), Nat.mul_one, Int.toNat_natCast, madeI, cp]
    simp only [bind_some', asI_int, asB_bool, asStr_str, asP_ptr, asSl_sl, asAgg_1, asAgg_2, asAgg_3, asAgg_4, asTup_0, asTup_2, asTup_3, asTup_4, if_true', if_false', if_not_true', if_not_false', getD_0, getD_1, getD_2, getD_3]
    simp only [puts_cons, puts_nil]
    rw [put_put, show (((w + more : Nat) : Int) == ((w + more : Nat) : Int)) = true from by simp]
    rcases hm with rfl | ⟨hm1, hm2⟩
    · rw [if_neg (by decide)]
      exact push _ (nx + 17) (by omega) ⟨by omega, fun j hj => put_ne (by omega)⟩ (by
        rw [put_same]
        exact congrArg (fun c => some (ABlk.mk c 1 true)) (irow_congr fun j hj => by unfold besF; rw [if_pos (by omega), if_pos (by omega)]))
    · rw [if_pos (by simp; omega), if_pos ⟨by omega, by omega⟩, ix0, show (AV.int .i64 1) = AV.int .i64 ((1 : Nat) : Int) from rfl, st_to (put_same _ _ _) rfl (by rw [irow_len]; omega) irow_set, put_put]
      exact push _ (nx + 24) (by omega) ⟨by omega, fun j hj => put_ne (by omega)⟩ (by
        rw [put_same]
        refine congrArg (fun c => some (ABlk.mk c 1 true)) (irow_congr fun j hj => ?_)
        unfold besF
        by_cases e1 : j = w + i
        · subst e1; rw [if_pos rfl, if_neg (by omega), if_neg (by omega), dl, if_pos (by omega)]
        · rw [if_neg e1]
          by_cases e2 : j < w
          · rw [if_pos e2, if_pos e2]
          · rw [if_neg e2, if_neg e2, if_neg (by omega), dl, if_neg (by omega)])

theorem bes_spec {f : Nat} (hf : 300 ≤ f) {L : List (List Nat)} {n w more : Nat} (hL : L.length = n) (hn : n ≤ 16) (hw1 : 1 ≤ w) (hw : w ≤ 16) (hm : more = 0 ∨ (n ≤ more ∧ more ≤ 16)) {a : Option (Nat × Nat)} (c : Bool) {h : AHeap} {nx : Nat} (mt : Mat h nx .i64 a L w) :
    ∃ oa oc h' nx', callP Try.prog keepT f Y0 51 [.slice a n c, .int .i64 (more : Int)] h nx = some (.slice oa n oc, h', nx') ∧ WMat h' nx nx' .i64 oa (lst n (w + more) (besF w more (ent L))) (w + more) ∧ Ext h nx h' nx' := by
  obtain ⟨f, rfl⟩ : ∃ m, f = m + 1 := ⟨f - 1, by omega⟩
  obtain ⟨oa, oc, h', nx', e', w', x'⟩ := bes_loop (callP Try.prog keepT f) f hL hn hw1 hw hm c mt n f 0 none false h (nx + 5) (by omega) (by omega) ⟨by omega, fun _ _ => rfl⟩ (WMat.nil _ _ _ _ _)
  rw [show ((0 : Nat) : Int) = 0 from rfl] at e'
  rw [F51_eq, e']
  exact ⟨oa, oc, h', nx', rfl, w', x'⟩

end Go.Proofs.Ytdfopcgfhjijgaa.T
