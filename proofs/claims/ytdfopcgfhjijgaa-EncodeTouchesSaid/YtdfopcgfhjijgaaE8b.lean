import Derived.Test.YtdfopcgfhjijgaaE8
set_option linter.unusedVariables false
set_option linter.unusedSimpArgs false
namespace Go.Proofs.Ytdfopcgfhjijgaa.T
open Go Go.RowKit Go.Proofs

theorem cmp_inner (call : CallF) (lf n0 : Nat) {S T U : List (List Nat)} {w p n : Nat} (hS : S.length = p) (hT : T.length = p) (hU : U.length = p) (hp : p ≤ 16) (hw : w ≤ 4096) (sS : SmallM S) (sT : SmallM T) {xa sa ta ua : Option (Nat × Nat)} (xc sc tc uc : Bool) {h : AHeap} {n1 : Nat}
    (ms : Mat h n1 .u8 sa S w) (mt : Mat h n1 .u8 ta T w) (mu : Mat h n1 .u8 ua U w) {j : Nat} (hj : j < p) (hx : U[j]'(by omega) = xorL (S[j]'(by omega)) (T[j]'(by omega))) (m : Nat) :
    ∀ (f k nx : Nat), k + m = w → m < f → ∃ nx', nx ≤ nx' ∧ F8_L6 call lf n0 f (p : Int) xa n xc sa p sc ta p tc ua p uc (j : Int) (k : Int) h nx = F8_L4 call lf n0 (p : Int) xa n xc sa p sc ta p tc ua p uc ((j + 1 : Nat) : Int) h nx' := by
  have jS : j < S.length := by omega
  have jT : j < T.length := by omega
  have jU : j < U.length := by omega
  obtain ⟨s, s1, s2, s3⟩ := ms.row (R := AV × AHeap × Nat) jS
  obtain ⟨t, t1, t2, t3⟩ := mt.row (R := AV × AHeap × Nat) jT
  obtain ⟨u, u1, u2, u3⟩ := mu.row (R := AV × AHeap × Nat) jU
  rw [hS] at s3
  rw [hT] at t3
  rw [hU] at u3
  induction m with
  | zero =>
    intro f k nx e hf
    obtain ⟨f, rfl⟩ : ∃ m, f = m + 1 := ⟨f - 1, by omega⟩
    obtain rfl : k = w := by omega
    rw [F8_L6_eq, s3]
    simp only [bind_some', asI_int, asB_bool, asStr_str, asP_ptr, asSl_sl, asAgg_1, asAgg_2, asAgg_3, asAgg_4, asTup_0, asTup_2, asTup_3, asTup_4, if_true', if_false', if_not_true', if_not_false', getD_0, getD_1, getD_2, getD_3]
    rw [if_neg (by simp), wsucc (by omega)]
    exact ⟨nx + 10, by omega, rfl⟩
  | succ m ih =>
    intro f k nx e hf
    obtain ⟨f, rfl⟩ : ∃ m, f = m + 1 := ⟨f - 1, by omega⟩
    have hk : k < w := by omega
    have b1 : S[j][k]'(by omega) < 256 := sS _ (List.getElem_mem jS) _ (List.getElem_mem _)
    have b2 : T[j][k]'(by omega) < 256 := sT _ (List.getElem_mem jT) _ (List.getElem_mem _)
    have b3 : U[j][k]'(by omega) = S[j][k]'(by omega) ^^^ T[j][k]'(by omega) := by
      have : U[j][k]'(by omega) = (xorL S[j] T[j])[k]'(by rw [← hx]; omega) := by congr 1
      rw [this, xorL_get (by omega) (by omega)]
    rw [F8_L6_eq, s3]
    simp only [bind_some', asI_int, asB_bool, asStr_str, asP_ptr, asSl_sl, asAgg_1, asAgg_2, asAgg_3, asAgg_4, asTup_0, asTup_2, asTup_3, asTup_4, if_true', if_false', if_not_true', if_not_false', getD_0, getD_1, getD_2, getD_3]
    rw [if_pos (by simpa using hk), s3]
    simp only [bind_some', asI_int, asB_bool, asStr_str, asP_ptr, asSl_sl, asAgg_1, asAgg_2, asAgg_3, asAgg_4, asTup_0, asTup_2, asTup_3, asTup_4, if_true', if_false', if_not_true', if_not_false', getD_0, getD_1, getD_2, getD_3]
    rw [s2.readN s1 (by omega)]
    simp only [bind_some', asI_int, asB_bool, asStr_str, asP_ptr, asSl_sl, asAgg_1, asAgg_2, asAgg_3, asAgg_4, asTup_0, asTup_2, asTup_3, asTup_4, if_true', if_false', if_not_true', if_not_false', getD_0, getD_1, getD_2, getD_3]
    rw [t3]
    simp only [bind_some', asI_int, asB_bool, asStr_str, asP_ptr, asSl_sl, asAgg_1, asAgg_2, asAgg_3, asAgg_4, asTup_0, asTup_2, asTup_3, asTup_4, if_true', if_false', if_not_true', if_not_false', getD_0, getD_1, getD_2, getD_3]
    rw [t2.readN t1 (by omega)]
    simp only [bind_some', asI_int, asB_bool, asStr_str, asP_ptr, asSl_sl, asAgg_1, asAgg_2, asAgg_3, asAgg_4, asTup_0, asTup_2, asTup_3, asTup_4, if_true', if_false', if_not_true', if_not_false', getD_0, getD_1, getD_2, getD_3]
    rw [u3]
    simp only [bind_some', asI_int, asB_bool, asStr_str, asP_ptr, asSl_sl, asAgg_1, asAgg_2, asAgg_3, asAgg_4, asTup_0, asTup_2, asTup_3, asTup_4, if_true', if_false', if_not_true', if_not_false', getD_0, getD_1, getD_2, getD_3]
    rw [u2.readN u1 (by omega)]
    simp only [bind_some', asI_int, asB_bool, asStr_str, asP_ptr, asSl_sl, asAgg_1, asAgg_2, asAgg_3, asAgg_4, asTup_0, asTup_2, asTup_3, asTup_4, if_true', if_false', if_not_true', if_not_false', getD_0, getD_1, getD_2, getD_3]
    rw [g_xor8 b1 b2, b3, if_neg (by simp), wsucc (by omega)]
    obtain ⟨nx', l', e'⟩ := ih f (k + 1) (nx + 33) (by omega) (by omega)
    exact ⟨nx', by omega, e'⟩

theorem cmp_outer (call : CallF) (lf : Nat) (hlf : 5000 ≤ lf) {X S T U : List (List Nat)} {w p n : Nat} (hX : X.length = n) (hn : 1 ≤ n) (hS : S.length = p) (hT : T.length = p) (hU : U.length = p) (hp : p ≤ 16) (hw : w ≤ 4096) (sS : SmallM S) (sT : SmallM T) {xa sa ta ua : Option (Nat × Nat)} (xc sc tc uc : Bool) {h : AHeap} {n1 : Nat}
    (mx : Mat h n1 .u8 xa X w) (ms : Mat h n1 .u8 sa S w) (mt : Mat h n1 .u8 ta T w) (mu : Mat h n1 .u8 ua U w) (hx : ∀ j (hj : j < p), U[j]'(by omega) = xorL (S[j]'(by omega)) (T[j]'(by omega))) (m : Nat) :
    ∀ (f j nx : Nat), j + m = p → m < f → ∃ nx', F8_L4 call lf f (p : Int) xa n xc sa p sc ta p tc ua p uc (j : Int) h nx = some (.bool true, h, nx') := by
  induction m with
  | zero =>
    intro f j nx e hf
    obtain ⟨f, rfl⟩ : ∃ m, f = m + 1 := ⟨f - 1, by omega⟩
    obtain rfl : j = p := by omega
    rw [F8_L4_eq, if_neg (by simp)]
    exact ⟨_, rfl⟩
  | succ m ih =>
    intro f j nx e hf
    obtain ⟨f, rfl⟩ : ∃ m, f = m + 1 := ⟨f - 1, by omega⟩
    have hj : j < p := by omega
    obtain ⟨x, x1, x2, x3⟩ := mx.row (R := AV × AHeap × Nat) (i := 0) (by omega)
    obtain ⟨s, s1, s2, s3⟩ := ms.row (R := AV × AHeap × Nat) (i := j) (by omega)
    obtain ⟨t, t1, t2, t3⟩ := mt.row (R := AV × AHeap × Nat) (i := j) (by omega)
    obtain ⟨u, u1, u2, u3⟩ := mu.row (R := AV × AHeap × Nat) (i := j) (by omega)
    rw [hX, show ((0 : Nat) : Int) = 0 from rfl] at x3
    rw [hS] at s3
    rw [hT] at t3
    rw [hU] at u3
    rw [F8_L4_eq, if_pos (by simpa using hj), s3]
    simp only [bind_some', asI_int, asB_bool, asStr_str, asP_ptr, asSl_sl, asAgg_1, asAgg_2, asAgg_3, asAgg_4, asTup_0, asTup_2, asTup_3, asTup_4, if_true', if_false', if_not_true', if_not_false', getD_0, getD_1, getD_2, getD_3]
    rw [x3]
    simp only [bind_some', asI_int, asB_bool, asStr_str, asP_ptr, asSl_sl, asAgg_1, asAgg_2, asAgg_3, asAgg_4, asTup_0, asTup_2, asTup_3, asTup_4, if_true', if_false', if_not_true', if_not_false', getD_0, getD_1, getD_2, getD_3]
    rw [if_neg (by simp), t3]
    simp only [bind_some', asI_int, asB_bool, asStr_str, asP_ptr, asSl_sl, asAgg_1, asAgg_2, asAgg_3, asAgg_4, asTup_0, asTup_2, asTup_3, asTup_4, if_true', if_false', if_not_true', if_not_false', getD_0, getD_1, getD_2, getD_3]
    rw [x3]
    simp only [bind_some', asI_int, asB_bool, asStr_str, asP_ptr, asSl_sl, asAgg_1, asAgg_2, asAgg_3, asAgg_4, asTup_0, asTup_2, asTup_3, asTup_4, if_true', if_false', if_not_true', if_not_false', getD_0, getD_1, getD_2, getD_3]
    rw [if_neg (by simp), u3]
    simp only [bind_some', asI_int, asB_bool, asStr_str, asP_ptr, asSl_sl, asAgg_1, asAgg_2, asAgg_3, asAgg_4, asTup_0, asTup_2, asTup_3, asTup_4, if_true', if_false', if_not_true', if_not_false', getD_0, getD_1, getD_2, getD_3]
    rw [x3]
    simp only [bind_some', asI_int, asB_bool, asStr_str, asP_ptr, asSl_sl, asAgg_1, asAgg_2, asAgg_3, asAgg_4, asTup_0, asTup_2, asTup_3, asTup_4, if_true', if_false', if_not_true', if_not_false', getD_0, getD_1, getD_2, getD_3]
    obtain ⟨nx', l', e'⟩ := cmp_inner call lf f (n := n) (xa := xa) hS hT hU hp hw sS sT xc sc tc uc ms mt mu hj (hx j hj) w lf 0 (nx + 37 + 1) (by omega) (by omega)
    rw [show ((0 : Nat) : Int) = 0 from rfl] at e'
    rw [if_neg (by simp), F8_J5_eq, e']
    exact ih f (j + 1) nx' (by omega) (by omega)

theorem ofBytes {l : List Int} (h : ∀ n ∈ l, (Lit.int .u8 n).wf = true) : ∃ b : List Nat, l = nints b ∧ Small b ∧ b.length = l.length := by
  refine ⟨l.map Int.toNat, ?_, ?_, by simp⟩
  · unfold nints
    rw [List.map_map]
    conv => lhs; rw [← List.map_id l]
    refine List.map_congr_left fun x hx => ?_
    have := h x hx
    simp [Lit.wf, IntKind.min, IntKind.max, IntKind.signed, IntKind.bits] at this
    simp; omega
  · intro x hx
    obtain ⟨y, hy, rfl⟩ := List.mem_map.1 hx
    have := h y hy
    simp [Lit.wf, IntKind.min, IntKind.max, IntKind.signed, IntKind.bits] at this
    omega

theorem encs_small (M : List (List Nat)) (w p : Nat) : SmallM (encs M w p) := by
  intro r hr
  obtain ⟨j, _, rfl⟩ := List.mem_map.1 hr
  exact encTo_small _ _ _ _

/-- The first bytes of a slice. -/
theorem Sl.first {h : AHeap} {nx : Nat} {a : Option (Nat × Nat)} {l : List Nat} {k : IntKind} (s : Sl h nx a l.length 1 (ints k (nints l))) (c : Bool) {z : Nat} (hz : z ≤ l.length) :
    ∃ a' c', cutA h a l.length c 1 none (some (.int .i64 (z : Int))) none = some (a', z, c') ∧ Sl h nx a' z 1 (ints k (nints (l.take z))) := by
  obtain ⟨c1, c2, _⟩ := s.cut c (lo := 0) (hi := z) (l := none) (r := some (.int .i64 (z : Int))) (by omega) hz bound_none (bound_some hz)
  rw [Nat.sub_zero] at c1 c2
  rw [show ((ints k (nints l)).drop (0 * 1)).take (z * 1) = ints k (nints (l.take z)) from by simp [ints, nints, List.map_take]] at c2
  exact ⟨_, _, c1, c2⟩

theorem EncodeSums_run (h : AHeap) (nx : Nat) (l1 : List Int) (g1 : l1.length * 1 ≤ 140737488351232) (w1 : ∀ n ∈ l1, (Lit.int .u8 n).wf = true) (a1 : Option (Nat × Nat)) (sl1 : Sl h nx a1 l1.length 1 (l1.map (AV.int .u8)))
    (l2 : List Int) (g2 : l2.length * 1 ≤ 140737488351232) (w2 : ∀ n ∈ l2, (Lit.int .u8 n).wf = true) (a2 : Option (Nat × Nat)) (sl2 : Sl h nx a2 l2.length 1 (l2.map (AV.int .u8)))
    (x3 : Int) (_ : (Lit.int .i64 x3).wf = true) (x4 : Int) (_ : (Lit.int .i64 x4).wf = true) :
    ∃ f h' nx', callP Try.prog keepT f 8 [.slice a1 l1.length false, .slice a2 l2.length false, .int .i64 x3, .int .i64 x4] h nx = some (.bool true, h', nx') := by
  refine ⟨20001, ?_⟩
  obtain ⟨b1, rfl, s1, z1⟩ := ofBytes w1
  obtain ⟨b2, rfl, s2, z2⟩ := ofBytes w2
  rw [nints_len] at sl1 sl2 g1 g2 ⊢
  have sl1 : Sl h nx a1 b1.length 1 (ints .u8 (nints b1)) := sl1
  have sl2 : Sl h nx a2 b2.length 1 (ints .u8 (nints b2)) := sl2
  clear w1 w2 z1 z2
  obtain ⟨k, hk⟩ : ∃ k, k = 20000 := ⟨_, rfl⟩
  rw [nints_len]
  rw [show 20001 = k + 1 from by rw [hk]]
  have p0 := Int.emod_nonneg x3 (show (12 : Int) ≠ 0 by omega)
  have p1 := Int.emod_lt_of_pos x3 (show (0 : Int) < 12 by omega)
  have q0 := Int.emod_nonneg x4 (show (3 : Int) ≠ 0 by omega)
  have q1 := Int.emod_lt_of_pos x4 (show (0 : Int) < 3 by omega)
  obtain ⟨n, hn⟩ : ∃ n : Nat, 1 + x3 % 12 = (n : Int) := ⟨(1 + x3 % 12).toNat, by omega⟩
  obtain ⟨p, hp⟩ : ∃ p : Nat, 1 + x4 % 3 = (p : Int) := ⟨(1 + x4 % 3).toNat, by omega⟩
  have wn : wrapA .i64 (1 + x3 % 12) = (n : Int) := by rw [wA (by omega) (by omega), hn]
  have wp : wrapA .i64 (1 + x4 % 3) = (p : Int) := by clear wn; rw [wA (by omega) (by omega), hp]
  obtain ⟨m1, e1, y1⟩ := picked_spec (k := k) (by omega) x3 12 h (nx + 5) (by omega) (by omega)
  obtain ⟨m2, e2, y2⟩ := picked_spec (k := k) (by omega) x4 3 h (m1 + 4) (by omega) (by omega)
  obtain ⟨z, hz, z1, z2⟩ : ∃ z : Nat, (if ((b2.length : Nat) : Int) < ((b1.length : Nat) : Int) then ((b2.length : Nat) : Int) else ((b1.length : Nat) : Int)) = (z : Int) ∧ z ≤ b1.length ∧ z ≤ b2.length := by
    clear wn wp
    by_cases c : ((b2.length : Nat) : Int) < ((b1.length : Nat) : Int)
    · exact ⟨b2.length, by rw [if_pos c], by omega, by omega⟩
    · exact ⟨b1.length, by rw [if_neg c], by omega, by omega⟩
  obtain ⟨c1, d1, cut1, sc1⟩ := sl1.first false z1
  have t1 : (b1.take z).length = z := by rw [List.length_take]; omega
  have t2 : (b2.take z).length = z := by rw [List.length_take]; omega
  have hn1 : 1 ≤ n ∧ n ≤ 12 := by clear wn wp hz; omega
  have hp1 : 1 ≤ p ∧ p ≤ 3 := by clear wn wp hz; omega
  have hz15 : z ≤ 1000000000000000 := by clear wn wp hz; omega
  have xa : Ext h nx h (m2 + 12) := ⟨by clear wn wp hz; omega, fun _ _ => rfl⟩
  obtain ⟨oX, cX, h3, n3, e3, mX, x3'⟩ := cols_spec' (f := k) (by omega) t1 hz15 hn1.1 (by omega) d1 (sc1.ext xa)
  have x3h : Ext h nx h3 n3 := xa.trans x3'
  obtain ⟨c2, d2, cut2, sc2⟩ := (sl2.ext x3h).first false z2
  have xb : Ext h3 n3 h3 (n3 + 6) := ⟨by omega, fun _ _ => rfl⟩
  obtain ⟨oY, cY, h4, n4, e4, mY, x4'⟩ := cols_spec' (f := k) (by omega) t2 hz15 hn1.1 (by omega) d2 (sc2.ext xb)
  have x34 : Ext h3 n3 h4 (n4 + 2) := (xb.trans x4').le (by omega)
  have hsn : n * min (z / n) 64 ≤ z := Nat.le_trans (Nat.mul_le_mul_left _ (Nat.min_le_left _ _)) (Nat.mul_div_le _ _)
  have hs64 : min (z / n) 64 ≤ 64 := Nat.min_le_right _ _
  rw [F8_eq, e1]
  simp only [bind_some', asI_int, asB_bool, asStr_str, asP_ptr, asSl_sl, asAgg_1, asAgg_2, asAgg_3, asAgg_4, asTup_0, asTup_2, asTup_3, asTup_4, if_true', if_false', if_not_true', if_not_false', getD_0, getD_1, getD_2, getD_3]
  rw [e2]
  simp only [bind_some', asI_int, asB_bool, asStr_str, asP_ptr, asSl_sl, asAgg_1, asAgg_2, asAgg_3, asAgg_4, asTup_0, asTup_2, asTup_3, asTup_4, if_true', if_false', if_not_true', if_not_false', getD_0, getD_1, getD_2, getD_3]
  rw [hz, wn, wp, cut1, some_bind, e3]
  clear wn wp hz
  simp only [bind_some', asI_int, asB_bool, asStr_str, asP_ptr, asSl_sl, asAgg_1, asAgg_2, asAgg_3, asAgg_4, asTup_0, asTup_2, asTup_3, asTup_4, if_true', if_false', if_not_true', if_not_false', getD_0, getD_1, getD_2, getD_3]
  rw [cut2, some_bind, e4]
  simp only [bind_some', asI_int, asB_bool, asStr_str, asP_ptr, asSl_sl, asAgg_1, asAgg_2, asAgg_3, asAgg_4, asTup_0, asTup_2, asTup_3, asTup_4, if_true', if_false', if_not_true', if_not_false', getD_0, getD_1, getD_2, getD_3]
  generalize hs : min (z / n) 64 = s at *
  have rX : ∀ r ∈ cols (b1.take z) s n, r.length = s := cols_row (by omega)
  have rY : ∀ r ∈ cols (b2.take z) s n, r.length = s := cols_row (by omega)
  have sX : SmallM (cols (b1.take z) s n) := cols_small (fun x hx => s1 x (List.mem_of_mem_take hx)) _ _
  have sY : SmallM (cols (b2.take z) s n) := cols_small (fun x hx => s2 x (List.mem_of_mem_take hx)) _ _
  have lX := cols_len (b1.take z) s n
  have lY := cols_len (b2.take z) s n
  have mX' : Mat h4 (n4 + 2) .u8 oX (cols (b1.take z) s n) s := mX.mat.ext x34
  have mY' : Mat h4 (n4 + 2) .u8 oY (cols (b2.take z) s n) s := mY.mat.ext ⟨by omega, fun _ _ => rfl⟩
  generalize cols (b1.take z) s n = X at *
  generalize cols (b2.take z) s n = Y at *
  clear e1 e2 e3 e4 cut1 cut2 sc1 sc2 sl1 sl2
  obtain ⟨f', oZ, cZ, h5, n5, e5, mZ, x5⟩ := z_outer (callP Try.prog keepT k) k (by omega) lX lY (by omega) (by omega) sX sY cX cY mX' mY' (p : Int) n k 0 none false h4 (n4 + 2) (by omega) (by omega) (by rw [List.take_zero]; exact WMat.nil _ _ _ _ _) (Ext.refl _ _)
  rw [show ((0 : Nat) : Int) = 0 from rfl] at e5
  rw [e5, F8_L1_eq, if_neg (by simp)]
  have y5 := x5.1
  have lZ : (xorM X Y).length = n := by rw [xorM_len (by omega)]; exact lX
  have sZ := small_xorM sX sY
  obtain ⟨oS, cS, h6, n6, e6, mS, x6⟩ := encode_spec (f := k) (by omega) (M := X) (w := s) (by omega) (by omega) (by omega) sX cX (h := h5) (nx := n5 + 11) (a := oX) (mX'.ext (x5.le (by omega))) p (by omega) (by omega)
  have y6 := x6.1
  rw [lX] at e6
  rw [e6]
  simp only [bind_some', asI_int, asB_bool, asStr_str, asP_ptr, asSl_sl, asAgg_1, asAgg_2, asAgg_3, asAgg_4, asTup_0, asTup_2, asTup_3, asTup_4, if_true', if_false', if_not_true', if_not_false', getD_0, getD_1, getD_2, getD_3]
  have x56 : Ext h4 (n4 + 2) h6 (n6 + 8) := ⟨by omega, fun j hj => by rw [x6.2 j (by omega), x5.2 j hj]⟩
  obtain ⟨oT, cT, h7, n7, e7, mT, x7⟩ := encode_spec (f := k) (by omega) (M := Y) (w := s) (by omega) (by omega) (by omega) sY cY (h := h6) (nx := n6 + 8) (a := oY) (mY'.ext x56) p (by omega) (by omega)
  have y7 := x7.1
  rw [lY] at e7
  rw [e7]
  simp only [bind_some', asI_int, asB_bool, asStr_str, asP_ptr, asSl_sl, asAgg_1, asAgg_2, asAgg_3, asAgg_4, asTup_0, asTup_2, asTup_3, asTup_4, if_true', if_false', if_not_true', if_not_false', getD_0, getD_1, getD_2, getD_3]
  obtain ⟨oU, cU, h8, n8, e8, mU, x8⟩ := encode_spec (f := k) (by omega) (M := xorM X Y) (w := s) (by omega) (by omega) (by omega) sZ cZ (h := h7) (nx := n7 + 8) (a := oZ) (mZ.mat.ext ⟨by omega, fun j hj => by rw [x7.2 j (by omega), x6.2 j (by omega)]⟩) p (by omega) (by omega)
  have y8 := x8.1
  rw [lZ] at e8
  rw [e8]
  simp only [bind_some', asI_int, asB_bool, asStr_str, asP_ptr, asSl_sl, asAgg_1, asAgg_2, asAgg_3, asAgg_4, asTup_0, asTup_2, asTup_3, asTup_4, if_true', if_false', if_not_true', if_not_false', getD_0, getD_1, getD_2, getD_3]
  rw [if_neg (by decide), if_neg (by decide), if_neg (by decide), if_neg (by simp), if_neg (by simp), if_neg (by simp), F8_J3_eq]
  obtain ⟨nx', e9⟩ := cmp_outer (callP Try.prog keepT k) k (by omega) lX (by omega) (encs_len X s p) (encs_len Y s p) (encs_len (xorM X Y) s p) (by omega) (by omega) (encs_small _ _ _) (encs_small _ _ _) cX cS cT cU (h := h8) (n1 := n8)
    (mX'.ext ⟨by omega, fun j hj => by rw [x8.2 j (by omega), x7.2 j (by omega), x56.2 j hj]⟩) (mS.mat.ext ⟨by omega, fun j hj => by rw [x8.2 j (by omega), x7.2 j (by omega)]⟩) (mT.mat.ext ⟨by omega, fun j hj => by rw [x8.2 j (by omega)]⟩) mU.mat
    (fun j hj => by rw [encs_get _ _ _ hj, encs_get _ _ _ hj, encs_get _ _ _ hj]; exact enc_xor (by omega) rX rY j) p k 0 (n8 + 28 + 1) (by omega) (by omega)
  rw [show ((0 : Nat) : Int) = 0 from rfl] at e9
  exact ⟨_, _, e9⟩

end Go.Proofs.Ytdfopcgfhjijgaa.T
