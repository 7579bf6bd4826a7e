import Derived.Test.YtdfopcgfhjijgaaMB
set_option linter.unusedVariables false
set_option linter.unusedSimpArgs false
namespace Go.Proofs.Ytdfopcgfhjijgaa.T
open Go Go.RowKit Go.Proofs

def Sq (n : Nat) (A : List (List Nat)) : Prop := A.length = n ∧ (∀ r ∈ A, r.length = n) ∧ SmallM A
theorem Sq.eq {n : Nat} {A : List (List Nat)} (h : Sq n A) : A = lst n n (ent A) := eq_lst h.1 h.2.1 fun _ _ _ _ => rfl
theorem Sq.lst {n : Nat} {f : Fm} (h : F8 f) : Sq n (lst n n f) := ⟨lst_len _ _ _, lst_row _ _ _, lst_small h⟩
theorem Sq.mul {n : Nat} {A B : List (List Nat)} (a : Sq n A) : Sq n (mulM A B n) := ⟨by rw [mulM_len, a.1], mulM_row _ _ _, small_mulM a.2.2 B n⟩
theorem one_mulM {n : Nat} {A : List (List Nat)} (h : Sq n A) : mulM (oneM n) A n = A := by
  conv => rhs; rw [h.eq]
  rw [mulM_eq (A := oneM n) (lst_len _ _ _) h.1]
  refine lst_congr fun i j hi hj => ?_
  show xsum n (fun k => Gf.gm (ent (oneM n) i k) (ent A k j)) = _
  rw [xsum_congr (g := fun k => Gf.gm (dl i k) (ent A k j)) fun k hk => by rw [show ent (oneM n) i k = dl i k from lst_ent hi hk]]
  exact xsum_dl n i (fun k => ent A k j) (fun k => ent_F8 h.2.2 k j) hi
theorem mulM_one {n : Nat} {A : List (List Nat)} (h : Sq n A) : mulM A (oneM n) n = A := by
  conv => rhs; rw [h.eq]
  rw [mulM_eq (B := oneM n) h.1 (lst_len _ _ _)]
  refine lst_congr fun i j hi hj => ?_
  show xsum n (fun k => Gf.gm (ent A i k) (ent (oneM n) k j)) = _
  rw [xsum_congr (g := fun k => Gf.gm (ent A i k) (dl k j)) fun k hk => by rw [show ent (oneM n) k j = dl k j from lst_ent hk hj]]
  exact xsum_dr n j (fun k => ent A i k) (fun k => ent_F8 h.2.2 i k) hj
theorem massoc {n : Nat} {A B C : List (List Nat)} (a : Sq n A) (b : Sq n B) (c : Sq n C) : mulM (mulM A B n) C n = mulM A (mulM B C n) n := by
  have := mul_assoc (w2 := n) a.2.2 b.2.2 c.2.2
  rwa [c.1] at this
def invL (n : Nat) (A : List (List Nat)) : List (List Nat) := lst n n (invF n (ent A))
theorem invL_sq {n : Nat} {A : List (List Nat)} (a : Sq n A) : Sq n (invL n A) := Sq.lst (invF_F8 (ent_F8 a.2.2))
theorem invL_both {n : Nat} {A : List (List Nat)} (a : Sq n A) (hr : rk n n (ent A) = n) : mulM (invL n A) A n = oneM n ∧ mulM A (invL n A) n = oneM n := by
  have inv := invF_both (ent_F8 a.2.2) hr
  constructor
  · rw [mulM_eq (A := invL n A) (lst_len _ _ _) a.1]
    refine lst_congr fun i j hi hj => ?_
    rw [← inv.1 i j hi hj]
    exact xsum_congr fun q hq => by rw [show ent (invL n A) i q = invF n (ent A) i q from lst_ent hi hq]
  · rw [mulM_eq (B := invL n A) a.1 (lst_len _ _ _)]
    refine lst_congr fun i j hi hj => ?_
    rw [← inv.2 i j hi hj]
    exact xsum_congr fun q hq => by rw [show ent (invL n A) q j = invF n (ent A) q j from lst_ent hq hj]
theorem ent_mulM {n : Nat} {A B : List (List Nat)} (a : Sq n A) (b : Sq n B) {i j : Nat} (hi : i < n) (hj : j < n) : ent (mulM A B n) i j = mulF n (ent A) (ent B) i j := by
  rw [mulM_eq a.1 b.1]; exact lst_ent hi hj
theorem rk_left_list {n : Nat} {J A : List (List Nat)} (j : Sq n J) (a : Sq n A) (h : mulM J A n = oneM n) : rk n n (ent A) = n := by
  refine rk_left (ent_F8 j.2.2) (ent_F8 a.2.2) fun x y hx hy => ?_
  rw [← ent_mulM j a hx hy, h]; exact lst_ent hx hy
theorem rk_mul {n : Nat} {A B : List (List Nat)} (a : Sq n A) (b : Sq n B) : rk n n (ent (mulM A B n)) ≤ rk n n (ent A) ∧ rk n n (ent (mulM A B n)) ≤ rk n n (ent B) := by
  have hP : rk n n (ent (mulM A B n)) = rk n n (mulF n (ent A) (ent B)) := rk_congr fun i j hi hj => ent_mulM a b hi hj
  have fa := ent_F8 a.2.2
  have fb := ent_F8 b.2.2
  rw [hP]
  exact ⟨rk_min (mulF_F8 fa) (Fac.mulL (C := n) fb (rk_fac fa)), rk_min (mulF_F8 fa) (Fac.mulR (n := n) fa (rk_fac fb))⟩
theorem product_inverse {n : Nat} {X Y : List (List Nat)} (x : Sq n X) (y : Sq n Y) (hx : rk n n (ent X) = n) (hy : rk n n (ent Y) = n) :
    rk n n (ent (mulM X Y n)) = n ∧ mulM (invL n Y) (invL n X) n = invL n (mulM X Y n) := by
  have ix := invL_sq x
  have iy := invL_sq y
  have bx := invL_both x hx
  have by' := invL_both y hy
  have p : Sq n (mulM X Y n) := x.mul
  have ji : Sq n (mulM (invL n Y) (invL n X) n) := iy.mul
  have left : mulM (mulM (invL n Y) (invL n X) n) (mulM X Y n) n = oneM n := by
    rw [massoc iy ix p, ← massoc ix x y, bx.1, one_mulM y, by'.1]
  have hp := rk_left_list ji p left
  have bp := invL_both p hp
  refine ⟨hp, ?_⟩
  have k := invL_sq p
  rw [← mulM_one ji, ← bp.2, ← massoc ji p k, left, one_mulM k]

theorem MatProduct_run (h : AHeap) (nx : Nat) (l1 : List Int) (hl1 : l1.length * 8 ≤ 140737488351232) (_ : ∀ n ∈ l1, (Lit.int .i64 n).wf = true) (a1 : Option (Nat × Nat)) (s1 : Sl h nx a1 l1.length 1 (l1.map (AV.int .i64)))
    (l2 : List Int) (hl2 : l2.length * 8 ≤ 140737488351232) (_ : ∀ n ∈ l2, (Lit.int .i64 n).wf = true) (a2 : Option (Nat × Nat)) (s2 : Sl h nx a2 l2.length 1 (l2.map (AV.int .i64)))
    (xn : Int) (_ : (Lit.int .i64 xn).wf = true) :
    ∃ f h' nx', callP Try.prog keepT f 12 [.slice a1 l1.length false, .slice a2 l2.length false, .int .i64 xn] h nx = some (.bool true, h', nx') := by
  refine ⟨3000 + 1, ?_⟩
  obtain ⟨k, hk⟩ : ∃ k, k = 3000 := ⟨_, rfl⟩
  rw [← hk]
  obtain ⟨n, -, n1, n8, ea⟩ := side_spec (f := k) (by omega) xn
  rw [F12_eq]
  obtain ⟨i1, m1, e1⟩ := ea h (nx + 8)
  obtain ⟨i2, m2, e2⟩ := ea h i1
  obtain ⟨X, oX, cX, h3, n3, e3, X1, X2, X3, X4, X5⟩ := mo_spec (k := k) (by omega) l1 (by omega) false (h := h) (nx := i2) ((show Sl h nx a1 l1.length 1 (ints .i64 l1) from s1).ext ⟨by omega, fun _ _ => rfl⟩) n n n8 n1 n8
  have y3 := X5.1
  rw [X1] at e3
  rw [e1]
  simp only [bind_some', asI_int, asB_bool, asStr_str, asP_ptr, asSl_sl, asAgg_1, asAgg_2, asAgg_3, asAgg_4, asTup_0, asTup_2, asTup_3, asTup_4, if_true', if_false', if_not_true', if_not_false', getD_0, getD_1, getD_2, getD_3]
  rw [e2]
  simp only [bind_some', asI_int, asB_bool, asStr_str, asP_ptr, asSl_sl, asAgg_1, asAgg_2, asAgg_3, asAgg_4, asTup_0, asTup_2, asTup_3, asTup_4, if_true', if_false', if_not_true', if_not_false', getD_0, getD_1, getD_2, getD_3]
  rw [e3]
  simp only [bind_some', asI_int, asB_bool, asStr_str, asP_ptr, asSl_sl, asAgg_1, asAgg_2, asAgg_3, asAgg_4, asTup_0, asTup_2, asTup_3, asTup_4, if_true', if_false', if_not_true', if_not_false', getD_0, getD_1, getD_2, getD_3]
  obtain ⟨i4, m4, e4⟩ := ea h3 (n3 + 7)
  obtain ⟨i5, m5, e5⟩ := ea h3 i4
  obtain ⟨Y, oY, cY, h6, n6, e6, Y1, Y2, Y3, Y4, Y5⟩ := mo_spec (k := k) (by omega) l2 (by omega) false (h := h3) (nx := i5) ((show Sl h nx a2 l2.length 1 (ints .i64 l2) from s2).ext ⟨by omega, fun j hj => X5.2 j (by omega)⟩) n n n8 n1 n8
  have y6 := Y5.1
  rw [Y1] at e6
  rw [e4]
  simp only [bind_some', asI_int, asB_bool, asStr_str, asP_ptr, asSl_sl, asAgg_1, asAgg_2, asAgg_3, asAgg_4, asTup_0, asTup_2, asTup_3, asTup_4, if_true', if_false', if_not_true', if_not_false', getD_0, getD_1, getD_2, getD_3]
  rw [e5]
  simp only [bind_some', asI_int, asB_bool, asStr_str, asP_ptr, asSl_sl, asAgg_1, asAgg_2, asAgg_3, asAgg_4, asTup_0, asTup_2, asTup_3, asTup_4, if_true', if_false', if_not_true', if_not_false', getD_0, getD_1, getD_2, getD_3]
  rw [e6]
  simp only [bind_some', asI_int, asB_bool, asStr_str, asP_ptr, asSl_sl, asAgg_1, asAgg_2, asAgg_3, asAgg_4, asTup_0, asTup_2, asTup_3, asTup_4, if_true', if_false', if_not_true', if_not_false', getD_0, getD_1, getD_2, getD_3]
  have x : Sq n X := ⟨X1, X3, X2⟩
  have y : Sq n Y := ⟨Y1, Y3, Y2⟩
  have p : Sq n (mulM X Y n) := x.mul
  have mX := X4.ext (show Ext h3 n3 h6 (n6 + 8) from ⟨by omega, fun j hj => Y5.2 j (by omega)⟩)
  have mY := Y4.ext (show Ext h6 n6 h6 (n6 + 8) from ⟨by omega, fun _ _ => rfl⟩)
  obtain ⟨oP, cP, h7, n7, e7, mP, x7⟩ := mul_n (k := k) (by omega) cX cY X1 Y1 n1 n8 X2 Y2 mX mY
  have y7 := x7.1
  have x7' : Ext h6 (n6 + 8) h7 (n7 + 7) := x7.le (by omega)
  obtain ⟨h8, n8', e8, x8⟩ := rank_spec (f := k) (by omega) X1 n1 n8 n1 n8 X2 cX (mX.ext x7')
  have y8 := x8.1
  have x8' : Ext h6 (n6 + 8) h8 (n8' + 7) := ⟨by omega, fun j hj => by rw [x8.2 j (by omega), x7'.2 j hj]⟩
  obtain ⟨h9, n9, e9, x9⟩ := rank_spec (f := k) (by omega) Y1 n1 n8 n1 n8 Y2 cY (mY.ext x8')
  have y9 := x9.1
  have mP9 : Mat h9 (n9 + 7) .i64 oP (mulM X Y n) n := mP.ext ⟨by omega, fun j hj => by rw [x9.2 j (by omega), x8.2 j (by omega)]⟩
  obtain ⟨h10, n10, e10, x10⟩ := rank_spec (f := k) (by omega) p.1 n1 n8 n1 n8 p.2.2 cP mP9
  have y10 := x10.1
  have x10' : Ext h6 (n6 + 8) h10 (n10 + 28 + 7) := ⟨by omega, fun j hj => by rw [x10.2 j (by omega), x9.2 j (by omega), x8'.2 j hj]⟩
  have mX10 := mX.ext x10'
  have mY10 := mY.ext x10'
  have mP10 : Mat h10 (n10 + 28 + 7) .i64 oP (mulM X Y n) n := mP9.ext ⟨by omega, fun j hj => x10.2 j (by omega)⟩
  have rm := rk_mul x y
  have rx := rk_le (n := n) (C := n) (ent_F8 X2)
  have ry := rk_le (n := n) (C := n) (ent_F8 Y2)
  rw [e7]
  simp only [bind_some', asI_int, asB_bool, asStr_str, asP_ptr, asSl_sl, asAgg_1, asAgg_2, asAgg_3, asAgg_4, asTup_0, asTup_2, asTup_3, asTup_4, if_true', if_false', if_not_true', if_not_false', getD_0, getD_1, getD_2, getD_3]
  rw [e8]
  simp only [bind_some', asI_int, asB_bool, asStr_str, asP_ptr, asSl_sl, asAgg_1, asAgg_2, asAgg_3, asAgg_4, asTup_0, asTup_2, asTup_3, asTup_4, if_true', if_false', if_not_true', if_not_false', getD_0, getD_1, getD_2, getD_3]
  rw [e9]
  simp only [bind_some', asI_int, asB_bool, asStr_str, asP_ptr, asSl_sl, asAgg_1, asAgg_2, asAgg_3, asAgg_4, asTup_0, asTup_2, asTup_3, asTup_4, if_true', if_false', if_not_true', if_not_false', getD_0, getD_1, getD_2, getD_3]
  rw [e10]
  simp only [bind_some', asI_int, asB_bool, asStr_str, asP_ptr, asSl_sl, asAgg_1, asAgg_2, asAgg_3, asAgg_4, asTup_0, asTup_2, asTup_3, asTup_4, if_true', if_false', if_not_true', if_not_false', getD_0, getD_1, getD_2, getD_3]
  have hmin : decide (((rk n n (ent (mulM X Y n)) : Nat) : Int) > (if ((rk n n (ent Y) : Nat) : Int) < ((rk n n (ent X) : Nat) : Int) then ((rk n n (ent Y) : Nat) : Int) else ((rk n n (ent X) : Nat) : Int))) = false := by
    rw [decide_eq_false_iff_not]; split <;> omega
  rw [if_neg (by decide), if_neg (by decide), if_neg (by decide), if_neg (by decide), hmin, if_neg (by decide), if_neg (by simp), F12_J1_eq]
  clear e1 e2 e3 e4 e5 e6 e7 e8 e9 e10 hmin
  obtain ⟨badX, goodX⟩ := inv_matrix (f := k) (by omega) X1 n1 n8 X2 cX mX10
  -- the three inverses, whatever they are
  have tr : ∀ {L : List (List Nat)} {a : Option (Nat × Nat)} (c : Bool) (hh : AHeap) (m : Nat), Sq n L → Mat hh m .i64 a L n → ∃ oa cc z e h' nx', callP Try.prog keepT k 32 [.slice a n c] hh m = some (.tuple [.slice oa z cc, .int .i64 e], h', nx') ∧ Ext hh m h' nx' ∧ (rk n n (ent L) < n → e = 10) ∧ (rk n n (ent L) = n → e = 0 ∧ z = n ∧ Mat h' nx' .i64 oa (invL n L) n) := by
    intro L a c hh m s mm
    obtain ⟨bad, good⟩ := inv_matrix (f := k) (by omega) s.1 n1 n8 s.2.2 c mm
    have hle := rk_le (n := n) (C := n) (ent_F8 s.2.2)
    by_cases hr : rk n n (ent L) = n
    · obtain ⟨oa, oc, h', nx', e, w, x⟩ := good hr
      exact ⟨oa, oc, n, 0, h', nx', e, x, fun q => by omega, fun _ => ⟨rfl, rfl, w.mat⟩⟩
    · obtain ⟨h', nx', e, x⟩ := bad (by omega)
      exact ⟨none, false, 0, 10, h', nx', e, x, fun _ => rfl, fun q => absurd q hr⟩
  obtain ⟨oa, ca, za, ea', h11, n11, e11, x11, ba, ga⟩ := tr cX h10 (n10 + 28 + 7) x mX10
  have y11 := x11.1
  obtain ⟨ob, cb, zb, eb', h12, n12, e12, x12, bb, gb⟩ := tr cY h11 (n11 + 7) y (mY10.ext (x11.le (by omega)))
  have y12 := x12.1
  obtain ⟨oc, cc, zc, ec', h13, n13, e13, x13, bc, gc⟩ := tr cP h12 (n12 + 7) p (mP10.ext ⟨by omega, fun j hj => by rw [x12.2 j (by omega), x11.2 j (by omega)]⟩)
  have y13 := x13.1
  rw [e11]
  simp only [bind_some', asI_int, asB_bool, asStr_str, asP_ptr, asSl_sl, asAgg_1, asAgg_2, asAgg_3, asAgg_4, asTup_0, asTup_2, asTup_3, asTup_4, if_true', if_false', if_not_true', if_not_false', getD_0, getD_1, getD_2, getD_3]
  rw [e12]
  simp only [bind_some', asI_int, asB_bool, asStr_str, asP_ptr, asSl_sl, asAgg_1, asAgg_2, asAgg_3, asAgg_4, asTup_0, asTup_2, asTup_3, asTup_4, if_true', if_false', if_not_true', if_not_false', getD_0, getD_1, getD_2, getD_3]
  rw [e13]
  simp only [bind_some', asI_int, asB_bool, asStr_str, asP_ptr, asSl_sl, asAgg_1, asAgg_2, asAgg_3, asAgg_4, asTup_0, asTup_2, asTup_3, asTup_4, if_true', if_false', if_not_true', if_not_false', getD_0, getD_1, getD_2, getD_3]
  by_cases hx : rk n n (ent X) = n
  · obtain ⟨rfl, rfl, mA⟩ := ga hx
    rw [if_neg (by decide)]
    by_cases hy : rk za za (ent Y) = za
    · obtain ⟨rfl, hzb, mB⟩ := gb hy
      obtain ⟨hp, pe⟩ := product_inverse x y hx hy
      obtain ⟨rfl, hzc, mC⟩ := gc hp
      have ix := invL_sq x
      have iy := invL_sq y
      rw [hzb, hzc, if_neg (by decide), F12_J2_eq]
      obtain ⟨oR, cR, h14, n14, e14, mR, x14⟩ := mul_n (k := k) (by omega) cb ca iy.1 ix.1 n1 n8 iy.2.2 ix.2.2 (h := h13) (nx := n13 + 6 + 8) (mB.ext ⟨by omega, fun j hj => x13.2 j (by omega)⟩) (mA.ext ⟨by omega, fun j hj => by rw [x13.2 j (by omega), x12.2 j (by omega)]⟩)
      have y14 := x14.1
      rw [pe] at mR
      obtain ⟨n15, l15, e15⟩ := sameM_spec (f := k) (M := invL za (mulM X Y za)) (w := za) (by omega) (by have := (invL_sq p).1; omega) n8 cR cc (h := h14) (n1 := n14) (n2 := n14) mR (mC.ext ⟨by omega, fun j hj => x14.2 j (by omega)⟩) (n14 + 12)
      rw [(invL_sq p).1] at e15
      rw [e14]
      simp only [bind_some', asI_int, asB_bool, asStr_str, asP_ptr, asSl_sl, asAgg_1, asAgg_2, asAgg_3, asAgg_4, asTup_0, asTup_2, asTup_3, asTup_4, if_true', if_false', if_not_true', if_not_false', getD_0, getD_1, getD_2, getD_3]
      rw [if_pos (by decide), if_pos (by decide), e15]
      simp only [bind_some', asI_int, asB_bool, asStr_str, asP_ptr, asSl_sl, asAgg_1, asAgg_2, asAgg_3, asAgg_4, asTup_0, asTup_2, asTup_3, asTup_4, if_true', if_false', if_not_true', if_not_false', getD_0, getD_1, getD_2, getD_3]
      exact ⟨_, _, rfl⟩
    · rw [bb (by omega), bc (by omega), if_pos (by decide)]
      exact ⟨_, _, rfl⟩
  · rw [ba (by omega), bc (by omega), if_pos (by decide)]
    exact ⟨_, _, rfl⟩

end Go.Proofs.Ytdfopcgfhjijgaa.T
