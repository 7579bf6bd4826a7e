import Derived.Test.YtdfopcgfhjijgaaMM
set_option linter.unusedVariables false
set_option linter.unusedSimpArgs false
namespace Go.Proofs.Ytdfopcgfhjijgaa.T
open Go Go.RowKit Go.Proofs

theorem cl45 {f : Nat} (hf : 1 ≤ f) {i k w rc bc kc : Nat} {r : List Nat} {B : List (List Nat)} {ra ba : Option (Nat × Nat)} {rcl bcl o1 o2 o3 : Bool} {h : AHeap} {n1 n2 : Nat} (hr : h rc = some ⟨[.slice ra r.length rcl], 1, o1⟩) (sr : Sl h n1 ra r.length 1 (ints .i64 (nints r)))
    (hb : h bc = some ⟨[.slice ba B.length bcl], 1, o2⟩) (mb : Mat h n2 .i64 ba B w) (hk : h kc = some ⟨[.int .i64 (k : Int)], 1, o3⟩) (hi : i < r.length) (hi' : i < B.length) (hkw : k < w) (nn : Nat) :
    callP Try.prog keepT f Y0 45 ([.int .i64 (i : Int)] ++ [.ptr (some (rc, 0)), .ptr (some (bc, 0)), .ptr (some (kc, 0))]) h nn = some (.tuple [.int .i64 ((r.getD i 0 : Nat) : Int), .int .i64 (((B.getD i []).getD k 0 : Nat) : Int)], h, nn + 15) := by
  obtain ⟨f, rfl⟩ : ∃ m, f = m + 1 := ⟨f - 1, by omega⟩
  obtain ⟨q, q1, q2, q3⟩ := mb.row (R := AV × AHeap × Nat) hi'
  have e1 : r.getD i 0 = r[i] := by simp [List.getD, List.getElem?_eq_getElem hi]
  have e2 : B.getD i [] = B[i] := by simp [List.getD, List.getElem?_eq_getElem hi']
  have hk2 : k < B[i].length := by rw [q1]; exact hkw
  have e3 : B[i].getD k 0 = B[i][k] := by simp [List.getD, List.getElem?_eq_getElem hk2]
  show callP Try.prog keepT (f + 1) Y0 45 [.int .i64 (i : Int), .ptr (some (rc, 0)), .ptr (some (bc, 0)), .ptr (some (kc, 0))] h nn = _
  rw [F45_eq, some_bind, ld_at hr rfl]
  simp only [bind_some', asI_int, asB_bool, asStr_str, asP_ptr, asSl_sl, asAgg_1, asAgg_2, asAgg_3, asAgg_4, asTup_0, asTup_2, asTup_3, asTup_4, if_true', if_false', if_not_true', if_not_false', getD_0, getD_1, getD_2, getD_3]
  rw [sr.readN rfl hi]
  simp only [bind_some', asI_int, asB_bool, asStr_str, asP_ptr, asSl_sl, asAgg_1, asAgg_2, asAgg_3, asAgg_4, asTup_0, asTup_2, asTup_3, asTup_4, if_true', if_false', if_not_true', if_not_false', getD_0, getD_1, getD_2, getD_3]
  rw [ld_at hb rfl]
  simp only [bind_some', asI_int, asB_bool, asStr_str, asP_ptr, asSl_sl, asAgg_1, asAgg_2, asAgg_3, asAgg_4, asTup_0, asTup_2, asTup_3, asTup_4, if_true', if_false', if_not_true', if_not_false', getD_0, getD_1, getD_2, getD_3]
  rw [q3]
  simp only [bind_some', asI_int, asB_bool, asStr_str, asP_ptr, asSl_sl, asAgg_1, asAgg_2, asAgg_3, asAgg_4, asTup_0, asTup_2, asTup_3, asTup_4, if_true', if_false', if_not_true', if_not_false', getD_0, getD_1, getD_2, getD_3]
  rw [ld_at hk rfl]
  simp only [bind_some', asI_int, asB_bool, asStr_str, asP_ptr, asSl_sl, asAgg_1, asAgg_2, asAgg_3, asAgg_4, asTup_0, asTup_2, asTup_3, asTup_4, if_true', if_false', if_not_true', if_not_false', getD_0, getD_1, getD_2, getD_3]
  rw [q2.readN q1 hk2]
  simp only [bind_some', asI_int, asB_bool, asStr_str, asP_ptr, asSl_sl, asAgg_1, asAgg_2, asAgg_3, asAgg_4, asTup_0, asTup_2, asTup_3, asTup_4, if_true', if_false', if_not_true', if_not_false', getD_0, getD_1, getD_2, getD_3]
  rw [e1, e2, e3]

def val (r : List Nat) (B : List (List Nat)) (k : Nat) : Nat := xsum B.length fun i => Gf.gm (r.getD i 0) ((B.getD i []).getD k 0)
def upto (f : Nat → Nat) (w k : Nat) : List Nat := (List.range w).map fun j => if j < k then f j else 0
theorem upto_len (f : Nat → Nat) (w k : Nat) : (upto f w k).length = w := by simp [upto]
theorem upto_set (f : Nat → Nat) (w k : Nat) : (upto f w k).set k (f k) = upto f w (k + 1) := by
  apply List.ext_getElem?
  intro j
  rw [List.getElem?_set]
  simp only [upto, List.length_map, List.length_range, List.getElem?_map]
  by_cases hj : j < w
  · rw [List.getElem?_range hj]
    simp only [Option.map_some]
    by_cases e : k = j
    · subst e; rw [if_pos rfl, if_pos hj, if_pos (by omega)]
    · rw [if_neg e]
      by_cases h1 : j < k
      · rw [if_pos h1, if_pos (by omega)]
      · rw [if_neg h1, if_neg (by omega)]
  · rw [List.getElem?_eq_none (by simpa using hj)]
    simp only [Option.map_none]
    split
    · rw [if_neg (by omega)]
    · rfl
def mulRow (r : List Nat) (B : List (List Nat)) (w : Nat) : List Nat := (List.range w).map (val r B)
theorem upto_all (f : Nat → Nat) (w : Nat) : upto f w w = (List.range w).map f := by
  unfold upto
  apply List.map_congr_left
  intro j hj
  rw [if_pos (List.mem_range.1 hj)]
theorem upto_zero (f : Nat → Nat) (w : Nat) : upto f w 0 = List.replicate w 0 := by
  apply List.ext_getElem?
  intro j
  by_cases hj : j < w
  · simp [upto, List.getElem?_range hj, List.getElem?_replicate, hj]
  · simp [upto, List.getElem?_eq_none (show (List.range w).length ≤ j by simpa using hj), List.getElem?_replicate, hj]
theorem getD_lt {r : List Nat} (hs : Small r) (i : Nat) : r.getD i 0 < 256 := by
  simp only [List.getD]
  cases e : r[i]? with
  | none => simp
  | some x => simp; exact hs x (List.mem_of_getElem? e)
theorem entD_lt {B : List (List Nat)} (hs : SmallM B) (i k : Nat) : (B.getD i []).getD k 0 < 256 := by
  refine getD_lt (fun x hx => ?_) k
  simp only [List.getD] at hx
  cases e : B[i]? with
  | none => rw [e] at hx; simp at hx
  | some r => rw [e] at hx; exact hs r (List.mem_of_getElem? e) x (by simpa using hx)
theorem val_lt {r : List Nat} {B : List (List Nat)} (hr : Small r) (k : Nat) : val r B k < 256 := xsum_lt _ fun i _ => Gf.gm_lt (getD_lt hr i)

theorem mul_inner {k0 : Nat} (hk0 : 60 ≤ k0) (lf n0 : Nat) {bc : Nat} {xa ba : Option (Nat × Nat)} (bcl oc xc : Bool) {oa : Option (Nat × Nat)} {out : List (List Nat)} (hout : out.length ≤ 8) {A B : List (List Nat)} {r : List Nat} {ra : Option (Nat × Nat)} (rcl : Bool) {w : Nat} (i : Nat) (hi : i < 8) (hw : 1 ≤ w) (hw' : w ≤ 8) (hrB : r.length = B.length) (hB : B.length ≤ 8) (hsr : Small r) (hsB : SmallM B)
    {h00 : AHeap} {n00 : Nat} {hO : AHeap} {nO : Nat} (om : OwnMat hO n00 nO .i64 oa out w) (xO : Ext h00 n00 hO nO) {rc ri : Nat} (hbc0 : bc < n00) (hrc : nO ≤ rc) (hri : nO ≤ ri) (hne : rc ≠ ri)
    (bb : hO bc = some ⟨[.slice ba B.length bcl], 1, true⟩) (sr : Sl hO nO ra r.length 1 (ints .i64 (nints r))) (mb : Mat hO nO .i64 ba B w) (yc : Bool) (m : Nat) :
    ∀ (f k : Nat) (h : AHeap) (nx : Nat), k + m = w → m < f → Ext hO nO h nx → rc < nx → ri < nx → h rc = some ⟨[.slice ra r.length rcl], 1, true⟩ → h ri = some ⟨ints .i64 (nints (upto (val r B) w k)), 1, true⟩ →
    ∃ (ea : Option (Nat × Nat)) (ec : Bool) (h' : AHeap) (nx' : Nat), F25_L3 (callP Try.prog keepT k0) Y0 lf n0 f (some (bc, 0)) oa out.length oc (some (rc, 0)) (some (ri, 0)) w yc xa A.length xc ((A.length : Nat) : Int) (i : Int) ((w : Nat) : Int) (k : Int) h nx = F25_L2 (callP Try.prog keepT k0) Y0 lf n0 (some (bc, 0)) ea (out.length + 1) ec xa A.length xc ((A.length : Nat) : Int) ((i + 1 : Nat) : Int) h' nx' ∧
      OwnMat h' n00 nx' .i64 ea (out ++ [mulRow r B w]) w ∧ Ext h00 n00 h' nx' ∧ Ext hO n00 h' nx' := by
  have hbc : bc < nO := Nat.lt_of_lt_of_le hbc0 xO.1
  induction m with
  | zero =>
    intro f k h nx e hf hx l1 l2 b1 b2
    obtain ⟨f, rfl⟩ : ∃ m, f = m + 1 := ⟨f - 1, by omega⟩
    obtain rfl : k = w := by omega
    have x1 := hx.1
    have x0 := xO.1
    rw [upto_all] at b2
    obtain ⟨e, f1, f2, f3, f4⟩ := (om.ext hx).push (c := oc) (rc := yc) (bytes := 24) (id := nx + 3) (id2 := nx + 4) (ri := ri) (r := mulRow r B k) hw (by simp [mulRow]) (by omega) l2 b2 (growOk_of (by omega) (by omega)) (by omega) (by omega) (by omega)
    rw [F25_L3_eq, if_neg (by simp)]
    dsimp only
    rw [src_lit1, bind_some', f1, bind_some', f2, wsucc (by omega)]
    have hx' : Ext hO n00 h nx := hx.from x0
    refine ⟨e.a, e.c, _, _, rfl, f3.ext ⟨by omega, fun _ _ => rfl⟩, ((xO.trans hx).then f4).le (by omega), (hx'.then f4).le (by omega)⟩
  | succ m ih =>
    intro f k h nx e hf hx l1 l2 b1 b2
    obtain ⟨f, rfl⟩ : ∃ m, f = m + 1 := ⟨f - 1, by omega⟩
    have hkw : k < w := by omega
    have x1 := hx.1
    have hb' : h bc = some ⟨[.slice ba B.length bcl], 1, true⟩ := (hx.2 bc hbc).trans bb
    rw [F25_L3_eq, if_pos (by simpa using hkw)]
    dsimp only
    rw [st_one (put_same _ _ _) rfl (by simp), put_put]
    generalize hH : h.put (nx + 2) (some ⟨([AV.int .i64 0] : List AV).set 0 (.int .i64 (k : Int)), 1, true⟩) = H
    have bk : H (nx + 2) = some ⟨[.int .i64 (k : Int)], 1, true⟩ := by rw [← hH, put_same]; rfl
    have hxH : Ext h nx H (nx + 12) := ⟨by omega, fun j hj => by rw [← hH, put_ne (by omega)]⟩
    have hbH : H bc = some ⟨[.slice ba B.length bcl], 1, true⟩ := (hxH.2 bc (by omega)).trans hb'
    have hrH : H rc = some ⟨[.slice ra r.length rcl], 1, true⟩ := (hxH.2 rc l1).trans b1
    clear hH
    rw [ld_at bk rfl]
    simp only [bind_some', asI_int, asB_bool, asStr_str, asP_ptr, asSl_sl, asAgg_1, asAgg_2, asAgg_3, asAgg_4, asTup_0, asTup_2, asTup_3, asTup_4, if_true', if_false', if_not_true', if_not_false', getD_0, getD_1, getD_2, getD_3]
    rw [ld_at hbH rfl]
    simp only [bind_some', asI_int, asB_bool, asStr_str, asP_ptr, asSl_sl, asAgg_1, asAgg_2, asAgg_3, asAgg_4, asTup_0, asTup_2, asTup_3, asTup_4, if_true', if_false', if_not_true', if_not_false', getD_0, getD_1, getD_2, getD_3]
    have hlt3 : nx + 2 < nx + 12 := by omega
    obtain ⟨h9, n9, e9, x9⟩ := dot_spec (f := k0) (g := 45) (caps := [.ptr (some (rc, 0)), .ptr (some (bc, 0)), .ptr (some (nx + 2, 0))]) B.length (by omega) (by omega) (fun i => r.getD i 0) (fun i => (B.getD i []).getD k 0) (fun j _ => getD_lt hsr j) (fun j _ => entD_lt hsB j k) H (nx + 12) (by
      intro j hj h' nx' hx' kk hkk
      have hx2 := (hx.trans hxH).trans hx'
      exact ⟨nx' + 15, by omega, cl45 (by omega) ((hx'.2 rc (by omega)).trans hrH) (sr.ext hx2) ((hx'.2 bc (by omega)).trans hbH) (mb.ext hx2) ((hx'.2 (nx + 2) hlt3).trans bk) (by omega) hj hkw nx'⟩)
    have y9 := x9.1
    rw [e9]
    simp only [bind_some', asI_int, asB_bool, asStr_str, asP_ptr, asSl_sl, asAgg_1, asAgg_2, asAgg_3, asAgg_4, asTup_0, asTup_2, asTup_3, asTup_4, if_true', if_false', if_not_true', if_not_false', getD_0, getD_1, getD_2, getD_3]
    have bi : h9 ri = some ⟨ints .i64 (nints (upto (val r B) w k)), 1, true⟩ := (x9.2 ri (by omega)).trans ((hxH.2 ri l2).trans b2)
    rw [if_pos ⟨by omega, by omega⟩, Int.toNat_natCast, Nat.mul_one, Nat.zero_add, st_to (cs' := ints .i64 (nints (upto (val r B) w (k + 1)))) bi rfl (by simp [ints, nints, upto_len]; exact hkw) (by rw [← upto_set]; simp [ints, nints, List.map_set, val]), ifKept_pos (by exact ⟨fun x hx => by simp at hx; subst hx; exact x9.2 _ hlt3, trivial⟩), wsucc (by omega)]
    refine ih f (k + 1) _ (n9 + 2) (by omega) (by omega) ⟨by omega, fun j hj => by rw [put_ne (by omega), x9.2 j (by omega), hxH.2 j (by omega), hx.2 j hj]⟩ (by omega) (by omega) ?_ (put_same _ _ _)
    rw [put_ne hne, x9.2 rc (by omega), hrH]

def mulM (A B : List (List Nat)) (w : Nat) : List (List Nat) := A.map fun r => mulRow r B w

theorem mul_outer {k0 : Nat} (hk0 : 60 ≤ k0) (lf : Nat) (hlf : 20 ≤ lf) {bc : Nat} {xa ba : Option (Nat × Nat)} (bcl xc : Bool) {A B : List (List Nat)} {w : Nat} (hA : A.length ≤ 8) (hw : 1 ≤ w) (hw' : w ≤ 8) (hB1 : 1 ≤ B.length) (hB : B.length ≤ 8) (hsA : SmallM A) (hsB : SmallM B)
    {h00 : AHeap} {n00 : Nat} (hbc0 : bc < n00) (bb : h00 bc = some ⟨[.slice ba B.length bcl], 1, true⟩) (ma : Mat h00 n00 .i64 xa A B.length) (mb : Mat h00 n00 .i64 ba B w) (m : Nat) :
    ∀ (f i : Nat) (oa : Option (Nat × Nat)) (oc : Bool) (h : AHeap) (nx : Nat), i + m = A.length → m < f → Ext h00 n00 h nx → OwnMat h n00 nx .i64 oa (mulM (A.take i) B w) w →
    ∃ (oa' : Option (Nat × Nat)) (oc' : Bool) (h' : AHeap) (nx' : Nat), F25_L2 (callP Try.prog keepT k0) Y0 lf f (some (bc, 0)) oa i oc xa A.length xc ((A.length : Nat) : Int) (i : Int) h nx = some (.tuple [.slice oa' A.length oc', .int .i64 0], h', nx') ∧ OwnMat h' n00 nx' .i64 oa' (mulM A B w) w ∧ Ext h00 n00 h' nx' := by
  induction m with
  | zero =>
    intro f i oa oc h nx e hf hx om
    obtain ⟨f, rfl⟩ : ∃ m, f = m + 1 := ⟨f - 1, by omega⟩
    obtain rfl : i = A.length := by omega
    rw [List.take_length] at om
    rw [F25_L2_eq, if_neg (by simp)]
    exact ⟨oa, oc, h, _, rfl, om.ext ⟨by omega, fun _ _ => rfl⟩, hx.le (by omega)⟩
  | succ m ih =>
    intro f i oa oc h nx e hf hx om
    obtain ⟨f, rfl⟩ : ∃ m, f = m + 1 := ⟨f - 1, by omega⟩
    have hi : i < A.length := by omega
    have x0 := hx.1
    have hlen : (mulM (A.take i) B w).length = i := by simp [mulM]; omega
    obtain ⟨q, q1, q2, q3⟩ := (ma.ext hx).row (R := AV × AHeap × Nat) hi
    rw [F25_L2_eq, if_pos (by simpa using hi), q3]
    simp only [bind_some', asI_int, asB_bool, asStr_str, asP_ptr, asSl_sl, asAgg_1, asAgg_2, asAgg_3, asAgg_4, asTup_0, asTup_2, asTup_3, asTup_4, if_true', if_false', if_not_true', if_not_false', getD_0, getD_1, getD_2, getD_3]
    rw [st_one (put_same _ _ _) rfl (by simp), put_put]
    generalize hH : h.put (nx + 3) (some ⟨([AV.slice none 0 false] : List AV).set 0 (.slice q.1 B.length q.2), 1, true⟩) = H
    have br : H (nx + 3) = some ⟨[.slice q.1 A[i].length q.2], 1, true⟩ := by rw [← hH, put_same, q1]; rfl
    have hxH : Ext h nx H (nx + 4) := ⟨by omega, fun j hj => by rw [← hH, put_ne (by omega)]⟩
    have hbH : H bc = some ⟨[.slice ba B.length bcl], 1, true⟩ := by rw [hxH.2 bc (by omega), hx.2 bc hbc0, bb]
    clear hH
    obtain ⟨r, r1, r2, r3⟩ := ((mb.ext hx).ext hxH).row (R := AV × AHeap × Nat) (i := 0) (by omega)
    rw [show ((0 : Nat) : Int) = 0 from rfl] at r3
    rw [ld_at hbH rfl]
    simp only [bind_some', asI_int, asB_bool, asStr_str, asP_ptr, asSl_sl, asAgg_1, asAgg_2, asAgg_3, asAgg_4, asTup_0, asTup_2, asTup_3, asTup_4, if_true', if_false', if_not_true', if_not_false', getD_0, getD_1, getD_2, getD_3]
    rw [r3]
    simp only [bind_some', asI_int, asB_bool, asStr_str, asP_ptr, asSl_sl, asAgg_1, asAgg_2, asAgg_3, asAgg_4, asTup_0, asTup_2, asTup_3, asTup_4, if_true', if_false', if_not_true', if_not_false', getD_0, getD_1, getD_2, getD_3]
    have hwl : (w : Int) ≤ 8 := by omega
    rw [if_pos (by simp; omega)]
    have hmade : madeA [AV.int .i64 0] (Int.toNat ((w : Nat) : Int) * 1) = ints .i64 (nints (upto (val A[i] B) w 0)) := by
      rw [Int.toNat_natCast, Nat.mul_one, upto_zero]; simp only [madeA, ints, nints, List.map_replicate]; rfl
    rw [hmade, Int.toNat_natCast]
    have hx2 : Ext h nx (H.put (nx + 9) (some ⟨ints .i64 (nints (upto (val A[i] B) w 0)), 1, true⟩)) (nx + 14) := ⟨by omega, fun j hj => by rw [put_ne (by omega), hxH.2 j hj]⟩
    obtain ⟨ea, ec, h', nx', e1, o1, x1, x2⟩ := mul_inner hk0 lf f (xa := xa) bcl oc xc (oa := oa) (out := mulM (A.take i) B w) (by omega) (A := A) (B := B) (r := A[i]) (ra := q.1) q.2 (w := w) i (by omega) hw hw' q1 hB (hsA _ (List.getElem_mem _)) hsB om hx hbc0 (rc := nx + 3) (ri := nx + 9) (by omega) (by omega) (by omega) ((hx.2 bc hbc0).trans bb) (by rw [q1]; exact q2) (mb.ext hx) (((w : Nat) : Int) == ((w : Nat) : Int)) w lf 0 _ (nx + 14) (by omega) (by omega) hx2 (by omega) (by omega) ((put_ne (by omega)).trans br) (put_same _ _ _)
    rw [hlen, show ((0 : Nat) : Int) = 0 from rfl] at e1
    rw [e1]
    refine ih f (i + 1) ea ec h' nx' (by omega) (by omega) x1 ?_
    have : mulM (A.take (i + 1)) B w = mulM (A.take i) B w ++ [mulRow A[i] B w] := by unfold mulM; rw [List.take_succ_eq_append_getElem hi, List.map_append, List.map_cons, List.map_nil]
    rw [this]; exact o1

theorem mul_spec {k : Nat} (hk : 100 ≤ k) {xa ba : Option (Nat × Nat)} (xc bcl : Bool) {A B : List (List Nat)} {w : Nat} (hA1 : 1 ≤ A.length) (hA : A.length ≤ 8) (hw : 1 ≤ w) (hw' : w ≤ 8) (hB1 : 1 ≤ B.length) (hB : B.length ≤ 8) (hsA : SmallM A) (hsB : SmallM B)
    {h : AHeap} {nx : Nat} (ma : Mat h nx .i64 xa A B.length) (mb : Mat h nx .i64 ba B w) :
    ∃ (oa' : Option (Nat × Nat)) (oc' : Bool) (h' : AHeap) (nx' : Nat), callP Try.prog keepT k Y0 25 [.slice xa A.length xc, .slice ba B.length bcl] h nx = some (.tuple [.slice oa' (mulM A B w).length oc', .int .i64 0], h', nx') ∧ Mat h' nx' .i64 oa' (mulM A B w) w ∧ Ext h nx h' nx' := by
  obtain ⟨k, rfl⟩ : ∃ m, k = m + 1 := ⟨k - 1, by omega⟩
  have hx : Ext h nx (h.put nx (some ⟨[.slice ba B.length bcl], 1, true⟩)) (nx + 1) := ⟨by omega, fun j hj => put_ne (by omega)⟩
  obtain ⟨n1, l1, e1⟩ := may_spec (f := k) (by omega) hA1 hA hB1 hB hsA xc (ma.ext hx) (nx + 11)
  obtain ⟨n2, l2, e2⟩ := may_spec (f := k) (by omega) hB1 hB hw hw' hsB bcl (mb.ext hx) n1
  obtain ⟨q, q1, q2, q3⟩ := (ma.ext hx).row (R := AV × AHeap × Nat) (i := 0) (by omega)
  rw [show ((0 : Nat) : Int) = 0 from rfl] at q3
  have hx' : Ext (h.put nx (some ⟨[.slice ba B.length bcl], 1, true⟩)) (nx + 1) (h.put nx (some ⟨[.slice ba B.length bcl], 1, true⟩)) (n2 + 11) := ⟨by omega, fun _ _ => rfl⟩
  obtain ⟨oa, oc, h', nx', e3, o3, x3⟩ := mul_outer (k0 := k) (by omega) k (by omega) bcl xc hA hw hw' hB1 hB hsA hsB (h00 := h.put nx (some ⟨[.slice ba B.length bcl], 1, true⟩)) (n00 := nx + 1) (bc := nx) (by omega) (put_same _ _ _) (ma.ext hx) (mb.ext hx) A.length k 0 none false _ (n2 + 11) (by omega) (by omega) hx' (by simpa [mulM] using OwnMat.nil _ _ _ _ _)
  rw [show ((0 : Nat) : Int) = 0 from rfl] at e3
  have hl : (mulM A B w).length = A.length := by simp [mulM]
  rw [F25_eq]
  dsimp only
  rw [e1]
  simp only [bind_some', asI_int, asB_bool, asStr_str, asP_ptr, asSl_sl, asAgg_1, asAgg_2, asAgg_3, asAgg_4, asTup_0, asTup_2, asTup_3, asTup_4, if_true', if_false', if_not_true', if_not_false', getD_0, getD_1, getD_2, getD_3]
  rw [ld_at (put_same _ _ _) rfl]
  simp only [bind_some', asI_int, asB_bool, asStr_str, asP_ptr, asSl_sl, asAgg_1, asAgg_2, asAgg_3, asAgg_4, asTup_0, asTup_2, asTup_3, asTup_4, if_true', if_false', if_not_true', if_not_false', getD_0, getD_1, getD_2, getD_3]
  rw [e2]
  simp only [bind_some', asI_int, asB_bool, asStr_str, asP_ptr, asSl_sl, asAgg_1, asAgg_2, asAgg_3, asAgg_4, asTup_0, asTup_2, asTup_3, asTup_4, if_true', if_false', if_not_true', if_not_false', getD_0, getD_1, getD_2, getD_3]
  rw [F25_J1_eq, q3]
  simp only [bind_some', asI_int, asB_bool, asStr_str, asP_ptr, asSl_sl, asAgg_1, asAgg_2, asAgg_3, asAgg_4, asTup_0, asTup_2, asTup_3, asTup_4, if_true', if_false', if_not_true', if_not_false', getD_0, getD_1, getD_2, getD_3]
  rw [ld_at (put_same _ _ _) rfl]
  simp only [bind_some', asI_int, asB_bool, asStr_str, asP_ptr, asSl_sl, asAgg_1, asAgg_2, asAgg_3, asAgg_4, asTup_0, asTup_2, asTup_3, asTup_4, if_true', if_false', if_not_true', if_not_false', getD_0, getD_1, getD_2, getD_3]
  rw [if_neg (by simp), e3, hl]
  exact ⟨oa, oc, h', nx', rfl, o3.mat, ⟨by have := x3.1; omega, fun j hj => by rw [x3.2 j (by omega), put_ne (by omega)]⟩⟩

end Go.Proofs.Ytdfopcgfhjijgaa.T
