import Derived.Test.YtdfopcgfhjijgaaMA
set_option linter.unusedVariables false
set_option linter.unusedSimpArgs false
namespace Go.Proofs.Ytdfopcgfhjijgaa.T
open Go Go.RowKit Go.Proofs

theorem same_loop (call : CallF) (lf : Nat) (l : List Int) (hl : l.length ≤ 1000000000000000) {sa ta : Option (Nat × Nat)} (sc tc : Bool) {h : AHeap} {n1 n2 : Nat} (hs : Sl h n1 sa l.length 1 (ints .i64 l)) (ht : Sl h n2 ta l.length 1 (ints .i64 l)) (m : Nat) :
    ∀ (r i nx : Nat), i + m = l.length → m < r → ∃ nx', nx ≤ nx' ∧ F28_L1 call lf r sa l.length sc ta l.length tc (i : Int) h nx = some (.bool true, h, nx') := by
  induction m with
  | zero =>
    intro r i nx e hr
    obtain ⟨r, rfl⟩ : ∃ m, r = m + 1 := ⟨r - 1, by omega⟩
    obtain rfl : i = l.length := by omega
    rw [F28_L1_eq, if_neg (by simp)]
    exact ⟨_, by omega, rfl⟩
  | succ m ih =>
    intro r i nx e hr
    obtain ⟨r, rfl⟩ : ∃ m, r = m + 1 := ⟨r - 1, by omega⟩
    have hi : i < l.length := by omega
    rw [F28_L1_eq, if_pos (by simpa using hi), hs.readI hi]
    simp only [bind_some', asI_int, asB_bool, asStr_str, asP_ptr, asSl_sl, asAgg_1, asAgg_2, asAgg_3, asAgg_4, asTup_0, asTup_2, asTup_3, asTup_4, if_true', if_false', if_not_true', if_not_false', getD_0, getD_1, getD_2, getD_3]
    rw [ht.readI hi]
    simp only [bind_some', asI_int, asB_bool, asStr_str, asP_ptr, asSl_sl, asAgg_1, asAgg_2, asAgg_3, asAgg_4, asTup_0, asTup_2, asTup_3, asTup_4, if_true', if_false', if_not_true', if_not_false', getD_0, getD_1, getD_2, getD_3]
    rw [if_neg (by simp), wsucc (by omega)]
    obtain ⟨nx', l', e'⟩ := ih r (i + 1) (nx + 16) (by omega) (by omega)
    exact ⟨nx', by omega, e'⟩
theorem same_spec {f : Nat} (l : List Int) (hf : l.length + 2 ≤ f) (hl : l.length ≤ 1000000000000000) {sa ta : Option (Nat × Nat)} (sc tc : Bool) {h : AHeap} {n1 n2 : Nat} (hs : Sl h n1 sa l.length 1 (ints .i64 l)) (ht : Sl h n2 ta l.length 1 (ints .i64 l)) (nx : Nat) :
    ∃ nx', nx ≤ nx' ∧ callP Try.prog keepT f 28 [.slice sa l.length sc, .slice ta l.length tc] h nx = some (.bool true, h, nx') := by
  obtain ⟨f, rfl⟩ : ∃ m, f = m + 1 := ⟨f - 1, by omega⟩
  rw [F28_eq, if_neg (by simp)]
  obtain ⟨nx', l', e'⟩ := same_loop (callP Try.prog keepT f) f l hl sc tc hs ht l.length f 0 (nx + 7) (by omega) (by omega)
  exact ⟨nx', by omega, e'⟩

theorem sameM_spec {f : Nat} {M : List (List Nat)} {w : Nat} (hf : 60 ≤ f) (hM : M.length ≤ 8) (hw : w ≤ 8) {sa ta : Option (Nat × Nat)} (sc tc : Bool) {h : AHeap} {n1 n2 : Nat} (hs : Mat h n1 .i64 sa M w) (ht : Mat h n2 .i64 ta M w) (nx : Nat) :
    ∃ nx', nx ≤ nx' ∧ callP Try.prog keepT f 26 [.slice sa M.length sc, .slice ta M.length tc] h nx = some (.bool true, h, nx') := by
  obtain ⟨f, rfl⟩ : ∃ m, f = m + 1 := ⟨f - 1, by omega⟩
  have loop : ∀ (m r i nn : Nat), i + m = M.length → m < r → ∃ nx', nn ≤ nx' ∧ F26_L1 (callP Try.prog keepT f) f r sa M.length sc ta M.length tc (i : Int) h nn = some (.bool true, h, nx') := by
    intro m
    induction m with
    | zero =>
      intro r i nn e hr
      obtain ⟨r, rfl⟩ : ∃ m, r = m + 1 := ⟨r - 1, by omega⟩
      obtain rfl : i = M.length := by omega
      rw [F26_L1_eq, if_neg (by simp)]
      exact ⟨_, by omega, rfl⟩
    | succ m ih =>
      intro r i nn e hr
      obtain ⟨r, rfl⟩ : ∃ m, r = m + 1 := ⟨r - 1, by omega⟩
      have hi : i < M.length := by omega
      obtain ⟨q, q1, q2, q3⟩ := hs.row (R := AV × AHeap × Nat) hi
      obtain ⟨t, t1, t2, t3⟩ := ht.row (R := AV × AHeap × Nat) hi
      have hl : (nints M[i]).length = w := by rw [nints_len, q1]
      obtain ⟨n3, l3, e3⟩ := same_spec (f := f) (nints M[i]) (by omega) (by omega) q.2 t.2 (h := h) (by rw [hl]; exact q2) (by rw [hl]; exact t2) (nn + 14)
      rw [hl] at e3
      rw [F26_L1_eq, if_pos (by simpa using hi), q3]
      simp only [bind_some', asI_int, asB_bool, asStr_str, asP_ptr, asSl_sl, asAgg_1, asAgg_2, asAgg_3, asAgg_4, asTup_0, asTup_2, asTup_3, asTup_4, if_true', if_false', if_not_true', if_not_false', getD_0, getD_1, getD_2, getD_3]
      rw [t3]
      simp only [bind_some', asI_int, asB_bool, asStr_str, asP_ptr, asSl_sl, asAgg_1, asAgg_2, asAgg_3, asAgg_4, asTup_0, asTup_2, asTup_3, asTup_4, if_true', if_false', if_not_true', if_not_false', getD_0, getD_1, getD_2, getD_3]
      rw [e3]
      simp only [bind_some', asI_int, asB_bool, asStr_str, asP_ptr, asSl_sl, asAgg_1, asAgg_2, asAgg_3, asAgg_4, asTup_0, asTup_2, asTup_3, asTup_4, if_true', if_false', if_not_true', if_not_false', getD_0, getD_1, getD_2, getD_3]
      rw [wsucc (by omega)]
      obtain ⟨nx', l', e'⟩ := ih r (i + 1) (n3 + 3) (by omega) (by omega)
      exact ⟨nx', by omega, e'⟩
  rw [F26_eq, if_neg (by simp)]
  obtain ⟨nx', l', e'⟩ := loop M.length f 0 (nx + 7) (by omega) (by omega)
  exact ⟨nx', by omega, e'⟩

theorem MatTogether_run (h : AHeap) (nx : Nat) (l1 : List Int) (hl1 : l1.length * 8 ≤ 140737488351232) (_ : ∀ n ∈ l1, (Lit.int .i64 n).wf = true) (a1 : Option (Nat × Nat)) (s1 : Sl h nx a1 l1.length 1 (l1.map (AV.int .i64)))
    (l2 : List Int) (hl2 : l2.length * 8 ≤ 140737488351232) (_ : ∀ n ∈ l2, (Lit.int .i64 n).wf = true) (a2 : Option (Nat × Nat)) (s2 : Sl h nx a2 l2.length 1 (l2.map (AV.int .i64)))
    (l3 : List Int) (hl3 : l3.length * 8 ≤ 140737488351232) (_ : ∀ n ∈ l3, (Lit.int .i64 n).wf = true) (a3 : Option (Nat × Nat)) (s3 : Sl h nx a3 l3.length 1 (l3.map (AV.int .i64)))
    (xa : Int) (_ : (Lit.int .i64 xa).wf = true) (xb : Int) (_ : (Lit.int .i64 xb).wf = true) (xc : Int) (_ : (Lit.int .i64 xc).wf = true) (xd : Int) (_ : (Lit.int .i64 xd).wf = true) :
    ∃ f h' nx', callP Try.prog keepT f 7 [.slice a1 l1.length false, .slice a2 l2.length false, .slice a3 l3.length false, .int .i64 xa, .int .i64 xb, .int .i64 xc, .int .i64 xd] h nx = some (.bool true, h', nx') := by
  refine ⟨300 + 1, ?_⟩
  obtain ⟨k, hk⟩ : ∃ k, k = 300 := ⟨_, rfl⟩
  rw [← hk]
  obtain ⟨sa, -, sa1, sa2, ea⟩ := side_spec (f := k) (by omega) xa
  obtain ⟨sb, -, sb1, sb2, eb⟩ := side_spec (f := k) (by omega) xb
  obtain ⟨sc, -, sc1, sc2, ec⟩ := side_spec (f := k) (by omega) xc
  obtain ⟨sd, -, sd1, sd2, ed⟩ := side_spec (f := k) (by omega) xd
  rw [F7_eq]
  -- x
  obtain ⟨n1, m1, e1⟩ := ea h (nx + 8)
  obtain ⟨n2, m2, e2⟩ := eb h n1
  obtain ⟨X, oX, cX, h3, n3, e3, X1, X2, X3, X4, X5⟩ := mo_spec (k := k) (by omega) l1 (by omega) false (h := h) (nx := n2) ((show Sl h nx a1 l1.length 1 (ints .i64 l1) from s1).ext ⟨by omega, fun _ _ => rfl⟩) sa sb sa2 sb1 sb2
  have y3 := X5.1
  rw [e1]
  simp only [bind_some', asI_int, asB_bool, asStr_str, asP_ptr, asSl_sl, asAgg_1, asAgg_2, asAgg_3, asAgg_4, asTup_0, asTup_2, asTup_3, asTup_4, if_true', if_false', if_not_true', if_not_false', getD_0, getD_1, getD_2, getD_3]
  rw [e2]
  simp only [bind_some', asI_int, asB_bool, asStr_str, asP_ptr, asSl_sl, asAgg_1, asAgg_2, asAgg_3, asAgg_4, asTup_0, asTup_2, asTup_3, asTup_4, if_true', if_false', if_not_true', if_not_false', getD_0, getD_1, getD_2, getD_3]
  rw [e3]
  simp only [bind_some', asI_int, asB_bool, asStr_str, asP_ptr, asSl_sl, asAgg_1, asAgg_2, asAgg_3, asAgg_4, asTup_0, asTup_2, asTup_3, asTup_4, if_true', if_false', if_not_true', if_not_false', getD_0, getD_1, getD_2, getD_3]
  -- y
  obtain ⟨n4, m4, e4⟩ := eb h3 (n3 + 7)
  obtain ⟨n5, m5, e5⟩ := ec h3 n4
  have z3 : Ext h nx h3 n5 := ⟨by omega, fun j hj => X5.2 j (by omega)⟩
  obtain ⟨Y, oY, cY, h6, n6, e6, Y1, Y2, Y3, Y4, Y5⟩ := mo_spec (k := k) (by omega) l2 (by omega) false (h := h3) (nx := n5) ((show Sl h nx a2 l2.length 1 (ints .i64 l2) from s2).ext z3) sb sc sb2 sc1 sc2
  have y6 := Y5.1
  rw [e4]
  simp only [bind_some', asI_int, asB_bool, asStr_str, asP_ptr, asSl_sl, asAgg_1, asAgg_2, asAgg_3, asAgg_4, asTup_0, asTup_2, asTup_3, asTup_4, if_true', if_false', if_not_true', if_not_false', getD_0, getD_1, getD_2, getD_3]
  rw [e5]
  simp only [bind_some', asI_int, asB_bool, asStr_str, asP_ptr, asSl_sl, asAgg_1, asAgg_2, asAgg_3, asAgg_4, asTup_0, asTup_2, asTup_3, asTup_4, if_true', if_false', if_not_true', if_not_false', getD_0, getD_1, getD_2, getD_3]
  rw [e6]
  simp only [bind_some', asI_int, asB_bool, asStr_str, asP_ptr, asSl_sl, asAgg_1, asAgg_2, asAgg_3, asAgg_4, asTup_0, asTup_2, asTup_3, asTup_4, if_true', if_false', if_not_true', if_not_false', getD_0, getD_1, getD_2, getD_3]
  -- z
  obtain ⟨n7, m7, e7⟩ := ec h6 (n6 + 7)
  obtain ⟨n8, m8, e8⟩ := ed h6 n7
  have z6 : Ext h nx h6 n8 := ⟨by omega, fun j hj => by rw [Y5.2 j (by omega), z3.2 j hj]⟩
  obtain ⟨Z, oZ, cZ, h9, n9, e9, Z1, Z2, Z3, Z4, Z5⟩ := mo_spec (k := k) (by omega) l3 (by omega) false (h := h6) (nx := n8) ((show Sl h nx a3 l3.length 1 (ints .i64 l3) from s3).ext z6) sc sd sc2 sd1 sd2
  have y9 := Z5.1
  rw [e7]
  simp only [bind_some', asI_int, asB_bool, asStr_str, asP_ptr, asSl_sl, asAgg_1, asAgg_2, asAgg_3, asAgg_4, asTup_0, asTup_2, asTup_3, asTup_4, if_true', if_false', if_not_true', if_not_false', getD_0, getD_1, getD_2, getD_3]
  rw [e8]
  simp only [bind_some', asI_int, asB_bool, asStr_str, asP_ptr, asSl_sl, asAgg_1, asAgg_2, asAgg_3, asAgg_4, asTup_0, asTup_2, asTup_3, asTup_4, if_true', if_false', if_not_true', if_not_false', getD_0, getD_1, getD_2, getD_3]
  rw [e9]
  simp only [bind_some', asI_int, asB_bool, asStr_str, asP_ptr, asSl_sl, asAgg_1, asAgg_2, asAgg_3, asAgg_4, asTup_0, asTup_2, asTup_3, asTup_4, if_true', if_false', if_not_true', if_not_false', getD_0, getD_1, getD_2, getD_3]
  have z9 : Ext h nx h9 (n9 + 8) := ⟨by omega, fun j hj => by rw [Z5.2 j (by omega), z6.2 j hj]⟩
  have mX : Mat h9 (n9 + 8) .i64 oX X sb := X4.ext ⟨by omega, fun j hj => by rw [Z5.2 j (by omega), Y5.2 j (by omega)]⟩
  have mY : Mat h9 (n9 + 8) .i64 oY Y sc := Y4.ext ⟨by omega, fun j hj => Z5.2 j (by omega)⟩
  have mZ : Mat h9 (n9 + 8) .i64 oZ Z sd := Z4.ext ⟨by omega, fun _ _ => rfl⟩
  have sl3 := (show Sl h nx a3 l3.length 1 (ints .i64 l3) from s3).ext z9
  clear X4 Y4 Z4 e1 e2 e3 e4 e5 e6 e7 e8 e9 X5 Y5 Z5 z3 z6 s1 s2 s3
  generalize n9 + 8 = N at *
  -- xy, yz
  obtain ⟨oP, cP, h10, n10, f1, p1, p2⟩ := mul_spec (k := k) (by omega) cX cY (A := X) (B := Y) (w := sc) (by omega) (by omega) sc1 sc2 (by omega) (by omega) X2 Y2 (by rw [Y1]; exact mX) mY
  have g1 := p2.1
  rw [f1]
  simp only [bind_some', asI_int, asB_bool, asStr_str, asP_ptr, asSl_sl, asAgg_1, asAgg_2, asAgg_3, asAgg_4, asTup_0, asTup_2, asTup_3, asTup_4, if_true', if_false', if_not_true', if_not_false', getD_0, getD_1, getD_2, getD_3]
  have q2 : Ext h9 N h10 (n10 + 8) := p2.le (by omega)
  obtain ⟨oQ, cQ, h11, n11, f2, p3, p4⟩ := mul_spec (k := k) (by omega) cY cZ (A := Y) (B := Z) (w := sd) (by omega) (by omega) sd1 sd2 (by omega) (by omega) Y2 Z2 (by rw [Z1]; exact mY.ext q2) (mZ.ext q2)
  have g2 := p4.1
  rw [f2]
  simp only [bind_some', asI_int, asB_bool, asStr_str, asP_ptr, asSl_sl, asAgg_1, asAgg_2, asAgg_3, asAgg_4, asTup_0, asTup_2, asTup_3, asTup_4, if_true', if_false', if_not_true', if_not_false', getD_0, getD_1, getD_2, getD_3]
  have q4 : Ext h10 (n10 + 8) h11 (n11 + 8) := p4.le (by omega)
  have q4' := q2.trans q4
  have sXY := small_mulM X2 Y sc
  have sYZ := small_mulM Y2 Z sd
  have p1' : Mat h11 (n11 + 8) .i64 oP (mulM X Y sc) sc := p1.ext ⟨by omega, fun j hj => p4.2 j (by omega)⟩
  obtain ⟨oR, cR, h12, n12, f3, p5, p6⟩ := mul_spec (k := k) (by omega) cP cZ (A := mulM X Y sc) (B := Z) (w := sd) (by rw [mulM_len]; omega) (by rw [mulM_len]; omega) sd1 sd2 (by omega) (by omega) sXY Z2 (by rw [Z1]; exact p1') (mZ.ext q4')
  have g3 := p6.1
  rw [f3]
  simp only [bind_some', asI_int, asB_bool, asStr_str, asP_ptr, asSl_sl, asAgg_1, asAgg_2, asAgg_3, asAgg_4, asTup_0, asTup_2, asTup_3, asTup_4, if_true', if_false', if_not_true', if_not_false', getD_0, getD_1, getD_2, getD_3]
  have q6 : Ext h11 (n11 + 8) h12 (n12 + 8) := p6.le (by omega)
  have q6' := q4'.trans q6
  have p3' : Mat h12 (n12 + 8) .i64 oQ (mulM Y Z sd) sd := p3.ext ⟨by omega, fun j hj => p6.2 j (by omega)⟩
  obtain ⟨oS, cS, h13, n13, f4, p7, p8⟩ := mul_spec (k := k) (by omega) cX cQ (A := X) (B := mulM Y Z sd) (w := sd) (by omega) (by omega) sd1 sd2 (by rw [mulM_len]; omega) (by rw [mulM_len]; omega) X2 sYZ (by rw [mulM_len, Y1]; exact mX.ext q6') p3'
  have g4 := p8.1
  rw [f4]
  simp only [bind_some', asI_int, asB_bool, asStr_str, asP_ptr, asSl_sl, asAgg_1, asAgg_2, asAgg_3, asAgg_4, asTup_0, asTup_2, asTup_3, asTup_4, if_true', if_false', if_not_true', if_not_false', getD_0, getD_1, getD_2, getD_3]
  have q8 : Ext h12 (n12 + 8) h13 (n13 + 27) := p8.le (by omega)
  have q8' := q6'.trans q8
  rw [if_neg (by simp), if_neg (by simp), if_neg (by simp), if_neg (by simp)]
  obtain ⟨n14, m14, e14⟩ := ea h13 (n13 + 27)
  rw [e14]
  simp only [bind_some', asI_int, asB_bool, asStr_str, asP_ptr, asSl_sl, asAgg_1, asAgg_2, asAgg_3, asAgg_4, asTup_0, asTup_2, asTup_3, asTup_4, if_true', if_false', if_not_true', if_not_false', getD_0, getD_1, getD_2, getD_3]
  have hRl : (mulM (mulM X Y sc) Z sd).length = sa := by rw [mulM_len, mulM_len, X1]
  rw [if_neg (by rw [hRl]; simp)]
  have eRS : mulM (mulM X Y sc) Z sd = mulM X (mulM Y Z sd) sd := by
    have := mul_assoc (w2 := sd) X2 Y2 Z2
    rwa [Z1] at this
  obtain ⟨n15, m15, e15⟩ := sameM_spec (f := k) (M := mulM (mulM X Y sc) Z sd) (w := sd) (by omega) (by omega) sd2 cR cS (h := h13) (n1 := n13 + 27) (n2 := n13) (p5.ext ⟨by omega, fun j hj => p8.2 j (by omega)⟩) (by rw [eRS]; exact p7) n14
  rw [← eRS, e15]
  simp only [bind_some', asI_int, asB_bool, asStr_str, asP_ptr, asSl_sl, asAgg_1, asAgg_2, asAgg_3, asAgg_4, asTup_0, asTup_2, asTup_3, asTup_4, if_true', if_false', if_not_true', if_not_false', getD_0, getD_1, getD_2, getD_3]
  -- applied
  obtain ⟨n16, m16, e16⟩ := ec h13 (n15 + 7)
  have zf : Ext h9 N h13 n16 := q8'.le (by omega)
  obtain ⟨V, oV, cV, h17, n17, e17, V1, V2, V3, V4, V5⟩ := mo_spec (k := k) (by omega) l3 (by omega) false (h := h13) (nx := n16) (sl3.ext zf) 1 sc (by omega) sc1 sc2
  have y17 := V5.1
  obtain ⟨v, v1, v2, v3⟩ := V4.row (R := AV × AHeap × Nat) (i := 0) (by omega)
  rw [V1, show ((0 : Nat) : Int) = 0 from rfl] at v3
  rw [F7_J1_eq, e16]
  simp only [bind_some', asI_int, asB_bool, asStr_str, asP_ptr, asSl_sl, asAgg_1, asAgg_2, asAgg_3, asAgg_4, asTup_0, asTup_2, asTup_3, asTup_4, if_true', if_false', if_not_true', if_not_false', getD_0, getD_1, getD_2, getD_3]
  rw [show (1 : Int) = ((1 : Nat) : Int) from rfl, e17]
  simp only [bind_some', asI_int, asB_bool, asStr_str, asP_ptr, asSl_sl, asAgg_1, asAgg_2, asAgg_3, asAgg_4, asTup_0, asTup_2, asTup_3, asTup_4, if_true', if_false', if_not_true', if_not_false', getD_0, getD_1, getD_2, getD_3]
  rw [V1, v3]
  simp only [bind_some', asI_int, asB_bool, asStr_str, asP_ptr, asSl_sl, asAgg_1, asAgg_2, asAgg_3, asAgg_4, asTup_0, asTup_2, asTup_3, asTup_4, if_true', if_false', if_not_true', if_not_false', getD_0, getD_1, getD_2, getD_3]
  have zV : Ext h9 N h17 (n17 + 8) := ⟨by omega, fun j hj => by rw [V5.2 j (by omega), zf.2 j hj]⟩
  have hv0 : Small V[0] := V2 _ (List.getElem_mem _)
  obtain ⟨oW, cW, h18, n18, f5, w1, w2⟩ := apply_spec (k := k) (by omega) cY v.2 (A := Y) (v := V[0]) (by omega) (by omega) (by omega) (by omega) Y2 hv0 (h := h17) (nx := n17 + 8) (xa := oY) (va := v.1) (by rw [v1]; exact mY.ext zV) (by rw [v1]; exact v2.ext ⟨by omega, fun _ _ => rfl⟩)
  rw [v1] at f5
  have y18 := w2.1
  rw [f5]
  simp only [bind_some', asI_int, asB_bool, asStr_str, asP_ptr, asSl_sl, asAgg_1, asAgg_2, asAgg_3, asAgg_4, asTup_0, asTup_2, asTup_3, asTup_4, if_true', if_false', if_not_true', if_not_false', getD_0, getD_1, getD_2, getD_3]
  have zW : Ext h9 N h18 (n18 + 8) := (zV.trans w2).le (by omega)
  have hWl : (appM Y V[0]).length = sb := by simp [appM, Y1]
  obtain ⟨oT, cT, h19, n19, f6, t1, t2⟩ := apply_spec (k := k) (by omega) cX cW (A := X) (v := appM Y V[0]) (by omega) (by omega) (by omega) (by omega) X2 (small_appM Y2 _) (h := h18) (nx := n18 + 8) (xa := oX) (va := oW) (by rw [hWl]; exact mX.ext zW) (w1.ext ⟨by omega, fun _ _ => rfl⟩)
  have y19 := t2.1
  rw [f6]
  simp only [bind_some', asI_int, asB_bool, asStr_str, asP_ptr, asSl_sl, asAgg_1, asAgg_2, asAgg_3, asAgg_4, asTup_0, asTup_2, asTup_3, asTup_4, if_true', if_false', if_not_true', if_not_false', getD_0, getD_1, getD_2, getD_3]
  have zT : Ext h13 (n11 + 8) h19 (n19 + 8) := ⟨by omega, fun j hj => by rw [t2.2 j (by omega), w2.2 j (by omega), V5.2 j (by omega)]⟩
  have mP : Mat h19 (n19 + 8) .i64 oP (mulM X Y sc) sc := (p1'.ext ⟨by omega, fun j hj => by rw [p8.2 j (by omega), p6.2 j (by omega)]⟩ : Mat h13 (n11 + 8) .i64 oP (mulM X Y sc) sc).ext zT
  obtain ⟨oU, cU, h20, n20, f7, u1, u2⟩ := apply_spec (k := k) (by omega) cP v.2 (A := mulM X Y sc) (v := V[0]) (by rw [mulM_len]; omega) (by rw [mulM_len]; omega) (by omega) (by omega) sXY hv0 (h := h19) (nx := n19 + 8) (xa := oP) (va := v.1) (by rw [v1]; exact mP) (by rw [v1]; exact v2.ext ⟨by omega, fun j hj => by rw [t2.2 j (by omega), w2.2 j (by omega)]⟩)
  rw [v1] at f7
  have y20 := u2.1
  rw [f7]
  simp only [bind_some', asI_int, asB_bool, asStr_str, asP_ptr, asSl_sl, asAgg_1, asAgg_2, asAgg_3, asAgg_4, asTup_0, asTup_2, asTup_3, asTup_4, if_true', if_false', if_not_true', if_not_false', getD_0, getD_1, getD_2, getD_3]
  rw [if_pos (by decide), if_pos (by decide), if_pos (by decide)]
  have eTU : appM X (appM Y V[0]) = appM (mulM X Y sc) V[0] := by
    have := app_assoc X2 Y2 hv0
    rwa [v1] at this
  have hUl : (nints (appM (mulM X Y sc) V[0])).length = (appM (mulM X Y sc) V[0]).length := nints_len _
  have hUl2 : (appM (mulM X Y sc) V[0]).length = sa := by simp [appM, mulM_len, X1]
  obtain ⟨n21, m21, e21⟩ := same_spec (f := k) (nints (appM (mulM X Y sc) V[0])) (by omega) (by omega) cT cU (h := h20) (n1 := n20) (n2 := n20) (sa := oT) (ta := oU) (by rw [hUl, ← eTU]; exact t1.ext ⟨by omega, fun j hj => u2.2 j (by omega)⟩) (by rw [hUl]; exact u1) (n20 + 16)
  rw [hUl] at e21
  rw [eTU, e21]
  exact ⟨_, _, rfl⟩

end Go.Proofs.Ytdfopcgfhjijgaa.T
