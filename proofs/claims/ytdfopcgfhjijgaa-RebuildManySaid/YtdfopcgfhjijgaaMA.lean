import Derived.Test.YtdfopcgfhjijgaaML
set_option linter.unusedVariables false
set_option linter.unusedSimpArgs false
namespace Go.Proofs.Ytdfopcgfhjijgaa.T
open Go Go.RowKit Go.Proofs

/-! ### sums -/
theorem xsum_congr {n : Nat} {f g : Nat → Nat} (h : ∀ i, i < n → f i = g i) : xsum n f = xsum n g := by
  induction n with
  | zero => rfl
  | succ n ih => simp only [xsum]; rw [ih fun i hi => h i (by omega), h n (by omega)]
theorem xsum_xor (n : Nat) (f g : Nat → Nat) : xsum n (fun i => f i ^^^ g i) = xsum n f ^^^ xsum n g := by
  induction n with
  | zero => simp [xsum]
  | succ n ih => simp only [xsum]; rw [ih]; ac_rfl
theorem xsum_zero (n : Nat) : xsum n (fun _ => 0) = 0 := by
  induction n with
  | zero => rfl
  | succ n ih => simp only [xsum, ih]; rfl
theorem xsum_comm (n m : Nat) (f : Nat → Nat → Nat) : xsum n (fun i => xsum m (fun j => f i j)) = xsum m (fun j => xsum n (fun i => f i j)) := by
  induction n with
  | zero => simp only [xsum, xsum_zero]
  | succ n ih => simp only [xsum]; rw [ih, xsum_xor]
theorem gm_xsum_right (a n : Nat) (f : Nat → Nat) : Gf.gm a (xsum n f) = xsum n fun i => Gf.gm a (f i) := by
  induction n with
  | zero => exact Gf.gm_zero a
  | succ n ih => simp only [xsum]; rw [Gf.gm_xor_right, ih]
theorem gm_xsum_left (c n : Nat) (f : Nat → Nat) (hf : ∀ i, i < n → f i < 256) : Gf.gm (xsum n f) c = xsum n fun i => Gf.gm (f i) c := by
  induction n with
  | zero => exact Gf.zero_gm c
  | succ n ih => simp only [xsum]; rw [Gf.gm_xor_left c (xsum_lt n fun i hi => hf i (by omega)) (hf n (by omega)), ih fun i hi => hf i (by omega)]

/-! ### products -/
theorem mulRow_get {r : List Nat} {B : List (List Nat)} {w k : Nat} (hk : k < w) : (mulRow r B w).getD k 0 = val r B k := by
  simp [mulRow, List.getD, List.getElem?_range hk]
theorem mulM_get {A B : List (List Nat)} {w i : Nat} (hi : i < A.length) : (mulM A B w).getD i [] = mulRow (A.getD i []) B w := by
  simp [mulM, List.getD, List.getElem?_eq_getElem hi]
theorem mulM_len (A B : List (List Nat)) (w : Nat) : (mulM A B w).length = A.length := by simp [mulM]
theorem small_mulRow {r : List Nat} (hr : Small r) (B : List (List Nat)) (w : Nat) : Small (mulRow r B w) := fun x hx => by
  obtain ⟨k, _, rfl⟩ := List.mem_map.1 hx
  exact val_lt hr k
theorem small_mulM {A : List (List Nat)} (hA : SmallM A) (B : List (List Nat)) (w : Nat) : SmallM (mulM A B w) := fun r hr => by
  obtain ⟨q, hq, rfl⟩ := List.mem_map.1 hr
  exact small_mulRow (hA q hq) B w

theorem val_assoc {r : List Nat} {B C : List (List Nat)} {w2 : Nat} (hr : Small r) (hB : SmallM B) (hC : SmallM C) {k : Nat} (hk : k < w2) :
    val (mulRow r B C.length) C k = val r (mulM B C w2) k := by
  unfold val
  rw [mulM_len]
  have e1 : xsum C.length (fun i => Gf.gm ((mulRow r B C.length).getD i 0) ((C.getD i []).getD k 0)) = xsum C.length (fun j => xsum B.length fun i => Gf.gm (Gf.gm (r.getD i 0) ((B.getD i []).getD j 0)) ((C.getD j []).getD k 0)) := by
    refine xsum_congr fun j hj => ?_
    rw [mulRow_get hj]
    exact gm_xsum_left _ _ _ fun i _ => Gf.gm_lt (getD_lt hr i)
  have e2 : xsum B.length (fun i => Gf.gm (r.getD i 0) (((mulM B C w2).getD i []).getD k 0)) = xsum B.length (fun i => xsum C.length fun j => Gf.gm (r.getD i 0) (Gf.gm ((B.getD i []).getD j 0) ((C.getD j []).getD k 0))) := by
    refine xsum_congr fun i hi => ?_
    rw [mulM_get hi, mulRow_get hk]
    exact gm_xsum_right _ _ _
  rw [e1, e2, xsum_comm]
  refine xsum_congr fun i _ => xsum_congr fun j _ => ?_
  exact Gf.gm_assoc (getD_lt hr i) (entD_lt hB i j) (entD_lt hC j k)
theorem mul_assoc {A B C : List (List Nat)} {w2 : Nat} (hA : SmallM A) (hB : SmallM B) (hC : SmallM C) : mulM (mulM A B C.length) C w2 = mulM A (mulM B C w2) w2 := by
  unfold mulM
  rw [List.map_map]
  apply List.map_congr_left
  intro r hr
  show mulRow (mulRow r B C.length) C w2 = mulRow r (mulM B C w2) w2
  unfold mulRow
  apply List.map_congr_left
  intro k hk
  exact val_assoc (hA r hr) hB hC (List.mem_range.1 hk)

def app1 (r v : List Nat) : Nat := xsum v.length fun i => Gf.gm (r.getD i 0) (v.getD i 0)
def appM (M : List (List Nat)) (v : List Nat) : List Nat := M.map fun r => app1 r v
theorem small_appM {M : List (List Nat)} (hM : SmallM M) (v : List Nat) : Small (appM M v) := fun x hx => by
  obtain ⟨r, hr, rfl⟩ := List.mem_map.1 hx
  exact xsum_lt _ fun i _ => Gf.gm_lt (getD_lt (hM r hr) i)
theorem appM_get {M : List (List Nat)} {v : List Nat} {i : Nat} (hi : i < M.length) : (appM M v).getD i 0 = app1 (M.getD i []) v := by
  simp [appM, List.getD, List.getElem?_eq_getElem hi]
theorem app_assoc {A B : List (List Nat)} {v : List Nat} (hA : SmallM A) (hB : SmallM B) (hv : Small v) : appM A (appM B v) = appM (mulM A B v.length) v := by
  unfold mulM
  show A.map (fun r => app1 r (appM B v)) = (A.map fun r => mulRow r B v.length).map fun r => app1 r v
  rw [List.map_map]
  apply List.map_congr_left
  intro r hr
  show app1 r (appM B v) = app1 (mulRow r B v.length) v
  unfold app1
  have hl : (appM B v).length = B.length := by simp [appM]
  rw [hl]
  have e1 : xsum B.length (fun i => Gf.gm (r.getD i 0) ((appM B v).getD i 0)) = xsum B.length (fun i => xsum v.length fun j => Gf.gm (r.getD i 0) (Gf.gm ((B.getD i []).getD j 0) (v.getD j 0))) := by
    refine xsum_congr fun i hi => ?_
    rw [appM_get hi]
    exact gm_xsum_right _ _ _
  have e2 : xsum v.length (fun j => Gf.gm ((mulRow r B v.length).getD j 0) (v.getD j 0)) = xsum v.length (fun j => xsum B.length fun i => Gf.gm (Gf.gm (r.getD i 0) ((B.getD i []).getD j 0)) (v.getD j 0)) := by
    refine xsum_congr fun j hj => ?_
    rw [mulRow_get hj]
    exact gm_xsum_left _ _ _ fun i _ => Gf.gm_lt (getD_lt (hA r hr) i)
  rw [e1, e2, xsum_comm]
  refine xsum_congr fun j _ => xsum_congr fun i _ => ?_
  exact (Gf.gm_assoc (getD_lt (hA r hr) i) (entD_lt hB i j) (getD_lt hv j)).symm

/-! ### to apply -/
theorem cl47 {f : Nat} (hf : 1 ≤ f) {i rc vc : Nat} {r v : List Nat} {ra va : Option (Nat × Nat)} {rcl vcl o1 o2 : Bool} {h : AHeap} {n1 n2 : Nat} (hr : h rc = some ⟨[.slice ra r.length rcl], 1, o1⟩) (sr : Sl h n1 ra r.length 1 (ints .i64 (nints r)))
    (hv : h vc = some ⟨[.slice va v.length vcl], 1, o2⟩) (sv : Sl h n2 va v.length 1 (ints .i64 (nints v))) (hi : i < r.length) (hi' : i < v.length) (nn : Nat) :
    callP Try.prog keepT f Y0 47 ([.int .i64 (i : Int)] ++ [.ptr (some (rc, 0)), .ptr (some (vc, 0))]) h nn = some (.tuple [.int .i64 ((r.getD i 0 : Nat) : Int), .int .i64 ((v.getD i 0 : Nat) : Int)], h, nn + 12) := by
  obtain ⟨f, rfl⟩ : ∃ m, f = m + 1 := ⟨f - 1, by omega⟩
  have e1 : r.getD i 0 = r[i] := by simp [List.getD, List.getElem?_eq_getElem hi]
  have e2 : v.getD i 0 = v[i] := by simp [List.getD, List.getElem?_eq_getElem hi']
  show callP Try.prog keepT (f + 1) Y0 47 [.int .i64 (i : Int), .ptr (some (rc, 0)), .ptr (some (vc, 0))] h nn = _
  rw [F47_eq, some_bind, ld_at hr rfl]
  simp only [bind_some', asI_int, asB_bool, asStr_str, asP_ptr, asSl_sl, asAgg_1, asAgg_2, asAgg_3, asAgg_4, asTup_0, asTup_2, asTup_3, asTup_4, if_true', if_false', if_not_true', if_not_false', getD_0, getD_1, getD_2, getD_3]
  rw [sr.readN rfl hi]
  simp only [bind_some', asI_int, asB_bool, asStr_str, asP_ptr, asSl_sl, asAgg_1, asAgg_2, asAgg_3, asAgg_4, asTup_0, asTup_2, asTup_3, asTup_4, if_true', if_false', if_not_true', if_not_false', getD_0, getD_1, getD_2, getD_3]
  rw [ld_at hv rfl]
  simp only [bind_some', asI_int, asB_bool, asStr_str, asP_ptr, asSl_sl, asAgg_1, asAgg_2, asAgg_3, asAgg_4, asTup_0, asTup_2, asTup_3, asTup_4, if_true', if_false', if_not_true', if_not_false', getD_0, getD_1, getD_2, getD_3]
  rw [sv.readN rfl hi']
  simp only [bind_some', asI_int, asB_bool, asStr_str, asP_ptr, asSl_sl, asAgg_1, asAgg_2, asAgg_3, asAgg_4, asTup_0, asTup_2, asTup_3, asTup_4, if_true', if_false', if_not_true', if_not_false', getD_0, getD_1, getD_2, getD_3]
  rw [e1, e2]

theorem apply_loop {k0 : Nat} (hk0 : 60 ≤ k0) (lf : Nat) {vc : Nat} {xa va : Option (Nat × Nat)} (vcl xc : Bool) {A : List (List Nat)} {v : List Nat} (hA : A.length ≤ 8) (hv1 : 1 ≤ v.length) (hv : v.length ≤ 8) (hsA : SmallM A) (hsv : Small v)
    {h00 : AHeap} {n00 : Nat} (hvc0 : vc < n00) (bv : h00 vc = some ⟨[.slice va v.length vcl], 1, true⟩) (ma : Mat h00 n00 .i64 xa A v.length) (sv : Sl h00 n00 va v.length 1 (ints .i64 (nints v))) (m : Nat) :
    ∀ (f i : Nat) (oa : Option (Nat × Nat)) (oc : Bool) (h : AHeap) (nx : Nat), i + m = A.length → m < f → Ext h00 n00 h nx → OwnSl h n00 nx oa i 1 (ints .i64 (nints (appM (A.take i) v))) →
    ∃ (oa' : Option (Nat × Nat)) (oc' : Bool) (h' : AHeap) (nx' : Nat), F27_L2 (callP Try.prog keepT k0) Y0 lf f (some (vc, 0)) oa i oc xa A.length xc ((A.length : Nat) : Int) (i : Int) h nx = some (.tuple [.slice oa' A.length oc', .int .i64 0], h', nx') ∧ OwnSl h' n00 nx' oa' A.length 1 (ints .i64 (nints (appM A v))) ∧ Ext h00 n00 h' nx' := by
  induction m with
  | zero =>
    intro f i oa oc h nx e hf hx om
    obtain ⟨f, rfl⟩ : ∃ m, f = m + 1 := ⟨f - 1, by omega⟩
    obtain rfl : i = A.length := by omega
    rw [List.take_length] at om
    rw [F27_L2_eq, if_neg (by simp)]
    exact ⟨oa, oc, h, _, rfl, om.le (by omega), hx.le (by omega)⟩
  | succ m ih =>
    intro f i oa oc h nx e hf hx om
    obtain ⟨f, rfl⟩ : ∃ m, f = m + 1 := ⟨f - 1, by omega⟩
    have hi : i < A.length := by omega
    have x0 := hx.1
    obtain ⟨q, q1, q2, q3⟩ := (ma.ext hx).row (R := AV × AHeap × Nat) hi
    rw [F27_L2_eq, if_pos (by simpa using hi), q3]
    simp only [bind_some', asI_int, asB_bool, asStr_str, asP_ptr, asSl_sl, asAgg_1, asAgg_2, asAgg_3, asAgg_4, asTup_0, asTup_2, asTup_3, asTup_4, if_true', if_false', if_not_true', if_not_false', getD_0, getD_1, getD_2, getD_3]
    rw [st_one (put_same _ _ _) rfl (by simp), put_put]
    generalize hH : h.put (nx + 3) (some ⟨([AV.slice none 0 false] : List AV).set 0 (.slice q.1 v.length q.2), 1, true⟩) = H
    have br : H (nx + 3) = some ⟨[.slice q.1 A[i].length q.2], 1, true⟩ := by rw [← hH, put_same, q1]; rfl
    have hxH : Ext h nx H (nx + 13) := ⟨by omega, fun j hj => by rw [← hH, put_ne (by omega)]⟩
    have hvH : H vc = some ⟨[.slice va v.length vcl], 1, true⟩ := by rw [hxH.2 vc (by omega), hx.2 vc hvc0, bv]
    clear hH
    rw [ld_at hvH rfl]
    simp only [bind_some', asI_int, asB_bool, asStr_str, asP_ptr, asSl_sl, asAgg_1, asAgg_2, asAgg_3, asAgg_4, asTup_0, asTup_2, asTup_3, asTup_4, if_true', if_false', if_not_true', if_not_false', getD_0, getD_1, getD_2, getD_3]
    have hlt3 : nx + 3 < nx + 13 := by omega
    have gA : A.getD i [] = A[i] := by simp [List.getD, List.getElem?_eq_getElem hi]
    obtain ⟨h9, n9, e9, x9⟩ := dot_spec (f := k0) (g := 47) (caps := [.ptr (some (nx + 3, 0)), .ptr (some (vc, 0))]) v.length (by omega) (by omega) (fun j => A[i].getD j 0) (fun j => v.getD j 0) (fun j _ => getD_lt (hsA _ (List.getElem_mem _)) j) (fun j _ => getD_lt hsv j) H (nx + 13) (by
      intro j hj h' nx' hx' kk hkk
      have hx2 := (hx.trans hxH).trans hx'
      have hx3 := hxH.trans hx'
      exact ⟨nx' + 12, by omega, cl47 (by omega) ((hx'.2 _ hlt3).trans br) (by rw [q1]; exact q2.ext hx3) ((hx'.2 vc (by omega)).trans hvH) (sv.ext hx2) (by omega) hj nx'⟩)
    have y9 := x9.1
    rw [e9]
    simp only [bind_some', asI_int, asB_bool, asStr_str, asP_ptr, asSl_sl, asAgg_1, asAgg_2, asAgg_3, asAgg_4, asTup_0, asTup_2, asTup_3, asTup_4, if_true', if_false', if_not_true', if_not_false', getD_0, getD_1, getD_2, getD_3]
    have o9 : OwnSl h9 n00 (nx + 10) oa i 1 (ints .i64 (nints (appM (A.take i) v))) := (om.ext (show Ext h nx h9 (nx + 10) from ⟨by omega, fun j hj => by rw [x9.2 j (by omega), hxH.2 j hj]⟩))
    obtain ⟨e, f1, f2, f3, f4⟩ := o9.push (c := oc) (bytes := 8) (id := nx + 10) (id2 := nx + 11) (ws := [.int .i64 ((xsum v.length (fun j => Gf.gm (A[i].getD j 0) (v.getD j 0)) : Nat) : Int)]) rfl (growOk_of (by omega) (by omega)) (by omega) (Nat.le_refl _) (by omega)
    rw [src_lit1, bind_some', f1, bind_some', f2, wsucc (by omega)]
    have hap : ints .i64 (nints (appM (A.take i) v)) ++ [.int .i64 ((xsum v.length (fun j => Gf.gm (A[i].getD j 0) (v.getD j 0)) : Nat) : Int)] = ints .i64 (nints (appM (A.take (i + 1)) v)) := by
      rw [List.take_succ_eq_append_getElem hi]; simp only [appM, List.map_append, nints, ints, List.map_cons, List.map_nil]; rfl
    rw [hap] at f3
    exact ih f (i + 1) e.a e.c _ (n9 + 2) (by omega) (by omega) ⟨by omega, fun j hj => by rw [f4.2 j hj, x9.2 j (by omega), hxH.2 j (by omega), hx.2 j hj]⟩ (f3.le (by omega))

theorem apply_spec {k : Nat} (hk : 100 ≤ k) {xa va : Option (Nat × Nat)} (xc vcl : Bool) {A : List (List Nat)} {v : List Nat} (hA1 : 1 ≤ A.length) (hA : A.length ≤ 8) (hv1 : 1 ≤ v.length) (hv : v.length ≤ 8) (hsA : SmallM A) (hsv : Small v)
    {h : AHeap} {nx : Nat} (ma : Mat h nx .i64 xa A v.length) (sv : Sl h nx va v.length 1 (ints .i64 (nints v))) :
    ∃ (oa' : Option (Nat × Nat)) (oc' : Bool) (h' : AHeap) (nx' : Nat), callP Try.prog keepT k Y0 27 [.slice xa A.length xc, .slice va v.length vcl] h nx = some (.tuple [.slice oa' (appM A v).length oc', .int .i64 0], h', nx') ∧ Sl h' nx' oa' (appM A v).length 1 (ints .i64 (nints (appM A v))) ∧ Ext h nx h' nx' := by
  obtain ⟨k, rfl⟩ : ∃ m, k = m + 1 := ⟨k - 1, by omega⟩
  have hx : Ext h nx (h.put nx (some ⟨[.slice va v.length vcl], 1, true⟩)) (nx + 1) := ⟨by omega, fun j hj => put_ne (by omega)⟩
  obtain ⟨n1, l1, e1⟩ := may_spec (f := k) (by omega) hA1 hA hv1 hv hsA xc (ma.ext hx) (nx + 11)
  obtain ⟨n2, l2, e2⟩ := all_spec (f := k) (l := v) (by omega) (by omega) hsv vcl (sv.ext hx) n1
  obtain ⟨q, q1, q2, q3⟩ := (ma.ext hx).row (R := AV × AHeap × Nat) (i := 0) (by omega)
  rw [show ((0 : Nat) : Int) = 0 from rfl] at q3
  have hx' : Ext (h.put nx (some ⟨[.slice va v.length vcl], 1, true⟩)) (nx + 1) (h.put nx (some ⟨[.slice va v.length vcl], 1, true⟩)) (n2 + 11) := ⟨by omega, fun _ _ => rfl⟩
  obtain ⟨oa, oc, h', nx', e3, o3, x3⟩ := apply_loop (k0 := k) (by omega) k vcl xc hA hv1 hv hsA hsv (h00 := h.put nx (some ⟨[.slice va v.length vcl], 1, true⟩)) (n00 := nx + 1) (vc := nx) (by omega) (put_same _ _ _) (ma.ext hx) (sv.ext hx) A.length k 0 none false _ (n2 + 11) (by omega) (by omega) hx' (by simpa [appM, nints, ints] using OwnSl.nil _ _ _ _)
  rw [show ((0 : Nat) : Int) = 0 from rfl] at e3
  have hl : (appM A v).length = A.length := by simp [appM]
  rw [F27_eq]
  dsimp only
  rw [e1]
  simp only [bind_some', asI_int, asB_bool, asStr_str, asP_ptr, asSl_sl, asAgg_1, asAgg_2, asAgg_3, asAgg_4, asTup_0, asTup_2, asTup_3, asTup_4, if_true', if_false', if_not_true', if_not_false', getD_0, getD_1, getD_2, getD_3]
  rw [ld_at (put_same _ _ _) rfl]
  simp only [bind_some', asI_int, asB_bool, asStr_str, asP_ptr, asSl_sl, asAgg_1, asAgg_2, asAgg_3, asAgg_4, asTup_0, asTup_2, asTup_3, asTup_4, if_true', if_false', if_not_true', if_not_false', getD_0, getD_1, getD_2, getD_3]
  rw [e2]
  simp only [bind_some', asI_int, asB_bool, asStr_str, asP_ptr, asSl_sl, asAgg_1, asAgg_2, asAgg_3, asAgg_4, asTup_0, asTup_2, asTup_3, asTup_4, if_true', if_false', if_not_true', if_not_false', getD_0, getD_1, getD_2, getD_3]
  rw [F27_J1_eq, q3]
  simp only [bind_some', asI_int, asB_bool, asStr_str, asP_ptr, asSl_sl, asAgg_1, asAgg_2, asAgg_3, asAgg_4, asTup_0, asTup_2, asTup_3, asTup_4, if_true', if_false', if_not_true', if_not_false', getD_0, getD_1, getD_2, getD_3]
  rw [ld_at (put_same _ _ _) rfl]
  simp only [bind_some', asI_int, asB_bool, asStr_str, asP_ptr, asSl_sl, asAgg_1, asAgg_2, asAgg_3, asAgg_4, asTup_0, asTup_2, asTup_3, asTup_4, if_true', if_false', if_not_true', if_not_false', getD_0, getD_1, getD_2, getD_3]
  rw [if_neg (by simp), e3, hl]
  exact ⟨oa, oc, h', nx', rfl, o3.sl, ⟨by have := x3.1; omega, fun j hj => by rw [x3.2 j (by omega), put_ne (by omega)]⟩⟩

end Go.Proofs.Ytdfopcgfhjijgaa.T
