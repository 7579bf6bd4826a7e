import Derived.Test.YtdfopcgfhjijgaaGI
import Derived.Test.YtdfopcgfhjijgaaM7
set_option linter.unusedVariables false
set_option linter.unusedSimpArgs false
namespace Go.Proofs.Ytdfopcgfhjijgaa.T
open Go Go.RowKit Go.Proofs

theorem mulM_eq {A B : List (List Nat)} {n m w : Nat} (hA : A.length = n) (hB : B.length = m) : mulM A B w = lst n w (mulF m (ent A) (ent B)) := by
  refine eq_lst (by rw [mulM_len, hA]) (fun r hr => ?_) fun i j hi hj => ?_
  · obtain ⟨q, _, rfl⟩ := List.mem_map.1 hr
    simp [mulRow]
  · show ((mulM A B w).getD i []).getD j 0 = _
    rw [mulM_get (by omega), mulRow_get hj]
    subst hB; rfl
theorem mulM_row (A B : List (List Nat)) (w : Nat) : ∀ r ∈ mulM A B w, r.length = w := by
  intro r hr
  obtain ⟨q, _, rfl⟩ := List.mem_map.1 hr
  simp [mulRow]
def oneM (n : Nat) : List (List Nat) := lst n n dl
theorem lst_congr {n W : Nat} {f g : Fm} (h : ∀ i j, i < n → j < W → f i j = g i j) : lst n W f = lst n W g :=
  List.map_congr_left fun i hi => List.map_congr_left fun j hj => h i j (List.mem_range.1 hi) (List.mem_range.1 hj)

theorem mul_n {k : Nat} (hk : 100 ≤ k) {n : Nat} {xa ba : Option (Nat × Nat)} (xc bcl : Bool) {A B : List (List Nat)} (hA : A.length = n) (hB : B.length = n) (hn1 : 1 ≤ n) (hn : n ≤ 8) (hsA : SmallM A) (hsB : SmallM B)
    {h : AHeap} {nx : Nat} (ma : Mat h nx .i64 xa A n) (mb : Mat h nx .i64 ba B n) :
    ∃ (oa' : Option (Nat × Nat)) (oc' : Bool) (h' : AHeap) (nx' : Nat), callP Try.prog keepT k 25 [.slice xa n xc, .slice ba n bcl] h nx = some (.tuple [.slice oa' n oc', .int .i64 0], h', nx') ∧ Mat h' nx' .i64 oa' (mulM A B n) n ∧ Ext h nx h' nx' := by
  obtain ⟨oa, oc, h', nx', e, m, x⟩ := mul_spec hk xc bcl (A := A) (B := B) (w := n) (by omega) (by omega) hn1 hn (by omega) (by omega) hsA hsB (h := h) (nx := nx) (xa := xa) (ba := ba) (by rw [hB]; exact ma) mb
  rw [mulM_len, hA, hB] at e
  exact ⟨oa, oc, h', nx', e, m, x⟩

theorem one_loop (call : CallF) (lf : Nat) {n : Nat} (hn1 : 1 ≤ n) (hn : n ≤ 8) {h0 : AHeap} {n0 : Nat} (k : Nat) :
    ∀ (f i : Nat) (oa : Option (Nat × Nat)) (oc : Bool) (h : AHeap) (nx : Nat), i + k = n → k < f → Ext h0 n0 h nx → WMat h n0 nx .i64 oa (lst i n dl) n →
    ∃ oa' oc' h' nx', F34_L1 call lf f ((n : Nat) : Int) oa i oc (i : Int) h nx = some (.slice oa' n oc', h', nx') ∧ WMat h' n0 nx' .i64 oa' (oneM n) n ∧ Ext h0 n0 h' nx' := by
  induction k with
  | zero =>
    intro f i oa oc h nx e hf hx wm
    obtain ⟨f, rfl⟩ : ∃ m, f = m + 1 := ⟨f - 1, by omega⟩
    obtain rfl : i = n := by omega
    rw [F34_L1_eq, if_neg (by simp)]
    exact ⟨oa, oc, h, nx + 5, rfl, wm.ext ⟨by omega, fun _ _ => rfl⟩, hx.le (by omega)⟩
  | succ k ih =>
    intro f i oa oc h nx e hf hx wm
    obtain ⟨f, rfl⟩ : ∃ m, f = m + 1 := ⟨f - 1, by omega⟩
    have hi : i < n := by omega
    have y := hx.1
    obtain ⟨e, g1, g2, g3, g4⟩ := wm.pushNew (h2 := h.put (nx + 4) (some ⟨irow n (dl i), 1, true⟩)) (n2 := nx + 5) (x := ⟨by omega, fun j hj => put_ne (by omega)⟩) (c := oc) (bytes := 24) (id := nx + 12) (id2 := nx + 13) (q := (some (nx + 4, 0), true)) (r := (List.range n).map (dl i)) ⟨by simp, .inr ⟨nx + 4, rfl, by omega, by omega, by rw [irow_lst]; exact put_same _ _ _⟩⟩ (growOk_of (by rw [lst_len]; omega) (by omega)) (by omega) (by omega) (by omega)
    rw [lst_len] at g1 g2
    rw [← lst_succ] at g3
    have hst : (irow n fun _ => 0).set i (.int .i64 ((1 : Nat) : Int)) = irow n (dl i) := by
      rw [irow_set]
      refine irow_congr fun j _ => ?_
      unfold dl
      by_cases q : j = i
      · rw [if_pos q, if_pos q.symm]
      · rw [if_neg q, if_neg (fun z => q z.symm)]
    rw [F34_L1_eq, if_pos (by simpa using hi), if_pos (by simp; omega), Int.toNat_natCast, Nat.mul_one, madeI]
    dsimp only
    rw [if_pos ⟨by omega, by omega⟩, ix0, show (AV.int .i64 1) = AV.int .i64 ((1 : Nat) : Int) from rfl, st_to (put_same _ _ _) rfl (by rw [irow_len]; exact hi) hst, put_put, show (((n : Nat) : Int) == ((n : Nat) : Int)) = true from by simp, src_lit1, some_bind, g1, some_bind, g2, wsucc (by omega)]
    exact ih f (i + 1) e.a e.c _ (nx + 18) (by omega) (by omega) ((hx.then g4).le (by omega)) (g3.ext ⟨by omega, fun _ _ => rfl⟩)
theorem one_spec {f : Nat} (hf : 100 ≤ f) {n : Nat} (hn1 : 1 ≤ n) (hn : n ≤ 8) (h : AHeap) (nx : Nat) :
    ∃ oa oc h' nx', callP Try.prog keepT f 34 [.int .i64 (n : Int)] h nx = some (.slice oa n oc, h', nx') ∧ WMat h' nx nx' .i64 oa (oneM n) n ∧ Ext h nx h' nx' := by
  obtain ⟨f, rfl⟩ : ∃ m, f = m + 1 := ⟨f - 1, by omega⟩
  obtain ⟨oa, oc, h', nx', e', w', x'⟩ := one_loop (callP Try.prog keepT f) f hn1 hn n f 0 none false h (nx + 3) (by omega) (by omega) ⟨by omega, fun _ _ => rfl⟩ (WMat.nil h nx (nx + 3) n .i64)
  rw [show ((0 : Nat) : Int) = 0 from rfl] at e'
  rw [F34_eq, e']
  exact ⟨oa, oc, h', nx', rfl, w', x'⟩

theorem MatBoth_run (h : AHeap) (nx : Nat) (l1 : List Int) (hl1 : l1.length * 8 ≤ 140737488351232) (_ : ∀ n ∈ l1, (Lit.int .i64 n).wf = true) (a1 : Option (Nat × Nat)) (s1 : Sl h nx a1 l1.length 1 (l1.map (AV.int .i64)))
    (xn : Int) (_ : (Lit.int .i64 xn).wf = true) :
    ∃ f h' nx', callP Try.prog keepT f 11 [.slice a1 l1.length false, .int .i64 xn] h nx = some (.bool true, h', nx') := by
  refine ⟨3000 + 1, ?_⟩
  obtain ⟨k, hk⟩ : ∃ k, k = 3000 := ⟨_, rfl⟩
  rw [← hk]
  obtain ⟨n, -, n1, n8, ea⟩ := side_spec (f := k) (by omega) xn
  rw [F11_eq]
  obtain ⟨i1, m1, e1⟩ := ea h (nx + 8)
  obtain ⟨i2, m2, e2⟩ := ea h i1
  obtain ⟨X, oX, cX, h3, n3, e3, X1, X2, X3, X4, X5⟩ := mo_spec (k := k) (by omega) l1 (by omega) false (h := h) (nx := i2) ((show Sl h nx a1 l1.length 1 (ints .i64 l1) from s1).ext ⟨by omega, fun _ _ => rfl⟩) n n n8 n1 n8
  have y3 := X5.1
  rw [X1] at e3
  rw [e1]
  simp only [bind_some', asI_int, asB_bool, asStr_str, asP_ptr, asSl_sl, asAgg_1, asAgg_2, asAgg_3, asAgg_4, asTup_0, asTup_2, asTup_3, asTup_4, if_true', if_false', if_not_true', if_not_false', getD_0, getD_1, getD_2, getD_3]
  rw [e2]
  simp only [bind_some', asI_int, asB_bool, asStr_str, asP_ptr, asSl_sl, asAgg_1, asAgg_2, asAgg_3, asAgg_4, asTup_0, asTup_2, asTup_3, asTup_4, if_true', if_false', if_not_true', if_not_false', getD_0, getD_1, getD_2, getD_3]
  rw [e3]
  simp only [bind_some', asI_int, asB_bool, asStr_str, asP_ptr, asSl_sl, asAgg_1, asAgg_2, asAgg_3, asAgg_4, asTup_0, asTup_2, asTup_3, asTup_4, if_true', if_false', if_not_true', if_not_false', getD_0, getD_1, getD_2, getD_3]
  have x3 : Ext h3 n3 h3 (n3 + 7) := ⟨by omega, fun _ _ => rfl⟩
  obtain ⟨bad, good⟩ := inv_matrix (f := k) (by omega) X1 n1 n8 X2 cX (X4.ext x3)
  have hle := rk_le (n := n) (C := n) (ent_F8 X2)
  by_cases hr : rk n n (ent X) = n
  · obtain ⟨oI, cI, h4, n4, e4, mI, x4⟩ := good hr
    have y4 := x4.1
    have x4' : Ext h3 n3 h4 (n4 + 7) := ⟨by omega, fun j hj => x4.2 j (by omega)⟩
    obtain ⟨h5, n5, e5, x5⟩ := rank_spec (f := k) (by omega) X1 n1 n8 n1 n8 X2 cX (X4.ext x4')
    have y5 := x5.1
    rw [hr] at e5
    rw [e4]
    simp only [bind_some', asI_int, asB_bool, asStr_str, asP_ptr, asSl_sl, asAgg_1, asAgg_2, asAgg_3, asAgg_4, asTup_0, asTup_2, asTup_3, asTup_4, if_true', if_false', if_not_true', if_not_false', getD_0, getD_1, getD_2, getD_3]
    rw [e5]
    simp only [bind_some', asI_int, asB_bool, asStr_str, asP_ptr, asSl_sl, asAgg_1, asAgg_2, asAgg_3, asAgg_4, asTup_0, asTup_2, asTup_3, asTup_4, if_true', if_false', if_not_true', if_not_false', getD_0, getD_1, getD_2, getD_3]
    rw [if_neg (by decide), if_neg (by simp), if_neg (by simp), if_neg (by simp), F11_J1_eq, if_neg (by decide)]
    have x5' : Ext h3 n3 h5 (n5 + 21 + 10) := ⟨by omega, fun j hj => by rw [x5.2 j (by omega), x4'.2 j hj]⟩
    have mX5 := X4.ext x5'
    have mI5 : Mat h5 (n5 + 21 + 10) .i64 oI (lst n n (invF n (ent X))) n := mI.mat.ext ⟨by omega, fun j hj => x5.2 j (by omega)⟩
    have sI : SmallM (lst n n (invF n (ent X))) := lst_small (invF_F8 (ent_F8 X2))
    have lI := lst_len n n (invF n (ent X))
    have inv := invF_both (ent_F8 X2) hr
    have p1 : mulM X (lst n n (invF n (ent X))) n = oneM n := by
      rw [mulM_eq X1 lI]
      refine lst_congr fun i j hi hj => ?_
      rw [← inv.2 i j hi hj]
      exact xsum_congr fun q hq => by rw [lst_ent hq hj]
    have p2 : mulM (lst n n (invF n (ent X))) X n = oneM n := by
      rw [mulM_eq lI X1]
      refine lst_congr fun i j hi hj => ?_
      rw [← inv.1 i j hi hj]
      exact xsum_congr fun q hq => by rw [lst_ent hi hq]
    obtain ⟨oA, cA, h6, n6, e6, mA, x6⟩ := mul_n (k := k) (by omega) cX cI X1 lI n1 n8 X2 sI mX5 mI5
    have y6 := x6.1
    have x6' : Ext h5 (n5 + 21 + 10) h6 (n6 + 8) := x6.le (by omega)
    obtain ⟨oB, cB, h7, n7, e7, mB, x7⟩ := mul_n (k := k) (by omega) cI cX lI X1 n1 n8 sI X2 (mI5.ext x6') (mX5.ext x6')
    have y7 := x7.1
    rw [p1] at mA
    rw [p2] at mB
    have lo : (oneM n).length = n := lst_len _ _ _
    obtain ⟨oC, cC, h8, n8', e8, mC, x8⟩ := one_spec (f := k) (by omega) n1 n8 h7 (n7 + 21)
    have y8 := x8.1
    obtain ⟨n9, l9, e9⟩ := sameM_spec (f := k) (M := oneM n) (w := n) (by omega) (by omega) n8 cA cC (h := h8) (n1 := n8') (n2 := n8') (mA.ext ⟨by omega, fun j hj => by rw [x8.2 j (by omega), x7.2 j (by omega)]⟩) mC.mat n8'
    rw [lo] at e9
    obtain ⟨oD, cD, h10, n10, e10, mD, x10⟩ := one_spec (f := k) (by omega) n1 n8 h8 n9
    have y10 := x10.1
    obtain ⟨n11, l11, e11⟩ := sameM_spec (f := k) (M := oneM n) (w := n) (by omega) (by omega) n8 cB cD (h := h10) (n1 := n10) (n2 := n10) (mB.ext ⟨by omega, fun j hj => by rw [x10.2 j (by omega), x8.2 j (by omega)]⟩) mD.mat n10
    rw [lo] at e11
    rw [e6]
    simp only [bind_some', asI_int, asB_bool, asStr_str, asP_ptr, asSl_sl, asAgg_1, asAgg_2, asAgg_3, asAgg_4, asTup_0, asTup_2, asTup_3, asTup_4, if_true', if_false', if_not_true', if_not_false', getD_0, getD_1, getD_2, getD_3]
    rw [e7]
    simp only [bind_some', asI_int, asB_bool, asStr_str, asP_ptr, asSl_sl, asAgg_1, asAgg_2, asAgg_3, asAgg_4, asTup_0, asTup_2, asTup_3, asTup_4, if_true', if_false', if_not_true', if_not_false', getD_0, getD_1, getD_2, getD_3]
    rw [if_pos (by decide), if_pos (by decide), e8]
    simp only [bind_some', asI_int, asB_bool, asStr_str, asP_ptr, asSl_sl, asAgg_1, asAgg_2, asAgg_3, asAgg_4, asTup_0, asTup_2, asTup_3, asTup_4, if_true', if_false', if_not_true', if_not_false', getD_0, getD_1, getD_2, getD_3]
    rw [e9]
    simp only [bind_some', asI_int, asB_bool, asStr_str, asP_ptr, asSl_sl, asAgg_1, asAgg_2, asAgg_3, asAgg_4, asTup_0, asTup_2, asTup_3, asTup_4, if_true', if_false', if_not_true', if_not_false', getD_0, getD_1, getD_2, getD_3]
    rw [e10]
    simp only [bind_some', asI_int, asB_bool, asStr_str, asP_ptr, asSl_sl, asAgg_1, asAgg_2, asAgg_3, asAgg_4, asTup_0, asTup_2, asTup_3, asTup_4, if_true', if_false', if_not_true', if_not_false', getD_0, getD_1, getD_2, getD_3]
    rw [e11]
    simp only [bind_some', asI_int, asB_bool, asStr_str, asP_ptr, asSl_sl, asAgg_1, asAgg_2, asAgg_3, asAgg_4, asTup_0, asTup_2, asTup_3, asTup_4, if_true', if_false', if_not_true', if_not_false', getD_0, getD_1, getD_2, getD_3]
    exact ⟨_, _, rfl⟩
  · obtain ⟨h4, n4, e4, x4⟩ := bad (by omega)
    have y4 := x4.1
    have x4' : Ext h3 n3 h4 (n4 + 7) := ⟨by omega, fun j hj => x4.2 j (by omega)⟩
    obtain ⟨h5, n5, e5, x5⟩ := rank_spec (f := k) (by omega) X1 n1 n8 n1 n8 X2 cX (X4.ext x4')
    rw [e4]
    simp only [bind_some', asI_int, asB_bool, asStr_str, asP_ptr, asSl_sl, asAgg_1, asAgg_2, asAgg_3, asAgg_4, asTup_0, asTup_2, asTup_3, asTup_4, if_true', if_false', if_not_true', if_not_false', getD_0, getD_1, getD_2, getD_3]
    rw [e5]
    simp only [bind_some', asI_int, asB_bool, asStr_str, asP_ptr, asSl_sl, asAgg_1, asAgg_2, asAgg_3, asAgg_4, asTup_0, asTup_2, asTup_3, asTup_4, if_true', if_false', if_not_true', if_not_false', getD_0, getD_1, getD_2, getD_3]
    have hne : (((rk n n (ent X) : Nat) : Int) == ((n : Nat) : Int)) = false := by
      rw [beq_eq_false_iff_ne]; omega
    rw [if_neg (by decide), if_neg (by simp), if_neg (by simp; omega), hne, if_neg (by decide), F11_J1_eq, if_pos (by decide), if_pos (by decide)]
    exact ⟨_, _, rfl⟩

end Go.Proofs.Ytdfopcgfhjijgaa.T
