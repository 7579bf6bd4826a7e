import Derived.Test.YtdfopcgfhjijgaaE8b
set_option linter.unusedVariables false
set_option linter.unusedSimpArgs false
namespace Go.Proofs.Ytdfopcgfhjijgaa.T
open Go Go.RowKit Go.Proofs

theorem get_of_eq {α : Type} {a b : List α} (e : a = b) {m : Nat} (h1 : m < a.length) (h2 : m < b.length) : a[m] = b[m] := by subst e; rfl
theorem xsum_one (d i : Nat) : ∀ n, xsum n (fun q => if q = i then d else 0) = if i < n then d else 0
  | 0 => by simp [xsum]
  | n + 1 => by
    show xsum n (fun q => if q = i then d else 0) ^^^ (if n = i then d else 0) = _
    rw [xsum_one d i n]
    by_cases h : n = i
    · subst h; rw [if_neg (by omega), if_pos rfl, if_pos (by omega), Nat.zero_xor]
    · rw [if_neg h, Nat.xor_zero]
      by_cases l : i < n
      · rw [if_pos l, if_pos (by omega)]
      · rw [if_neg l, if_neg (by omega)]

/-- The law: a changed byte changes the same byte of every parity column by the product. -/
theorem enc_touch {X : List (List Nat)} {w i k b : Nat} (hX : ∀ r ∈ X, r.length = w) (hi : i < X.length) (hk : k < w) (j m : Nat) (hm : m < w) :
    (enc (X.set i (X[i].set k ((X[i].getD k 0) ^^^ b))) j w)[m]'(by rw [enc_len]; exact hm) = (enc X j w)[m]'(by rw [enc_len]; exact hm) ^^^ (if m = k then Gf.gm (fac j i) b else 0) := by
  simp only [enc, encTo, List.getElem_map, List.getElem_range, List.length_set]
  have e := xsum_one (if m = k then Gf.gm (fac j i) b else 0) i X.length
  rw [if_pos hi] at e
  rw [← e, ← xsum_xor]
  refine xsum_congr fun q hq => ?_
  have l1 : X[i].length = w := hX _ (List.getElem_mem _)
  rw [getD_at (l := X.set i _) (by rw [List.length_set]; exact hq), getD_at hq, List.getElem_set]
  by_cases hqi : i = q
  · subst hqi
    rw [if_pos rfl, if_pos rfl]
    have l2 : m < (X[i].set k ((X[i].getD k 0) ^^^ b)).length := by rw [List.length_set]; omega
    rw [getD_at l2, List.getElem_set, getD_at (show m < X[i].length by omega)]
    by_cases hmk : k = m
    · subst hmk
      rw [if_pos rfl, if_pos rfl, getD_at (by omega), Gf.gm_xor_right]
    · rw [if_neg hmk, if_neg (fun h => hmk h.symm), Nat.xor_zero]
  · rw [if_neg hqi, if_neg (fun h => hqi h.symm), Nat.xor_zero]

theorem touch_ne {X Y : List (List Nat)} {w i c b : Nat} (hX : ∀ r ∈ X, r.length = w) (hi : i < X.length) (hc : c < w) (hb : b < 256) (hY : Y = X.set i (X[i].set c ((X[i].getD c 0) ^^^ b))) (p : Nat) :
    ∀ j (hj : j < p) m (h1 : m < ((encs X w p)[j]'(by rw [encs_len]; exact hj)).length) (h2 : m < ((encs Y w p)[j]'(by rw [encs_len]; exact hj)).length), ((encs X w p)[j]'(by rw [encs_len]; exact hj))[m] ≠ ((encs Y w p)[j]'(by rw [encs_len]; exact hj))[m] ↔ (m = c ∧ b ≠ 0) := by
  intro j hj m h1 h2
  have q1 := encs_get X w p hj
  have q2 := encs_get Y w p hj
  generalize (encs X w p)[j]'(by rw [encs_len]; exact hj) = P at *
  generalize (encs Y w p)[j]'(by rw [encs_len]; exact hj) = Q at *
  have hm : m < w := by rw [q1, enc_len] at h1; exact h1
  have e := enc_touch hX hi hc (b := b) j m hm
  have u1 : P[m] = (enc X j w)[m]'(by rw [enc_len]; exact hm) := get_of_eq q1 _ _
  have u2 : Q[m] = (enc (X.set i (X[i].set c ((X[i].getD c 0) ^^^ b))) j w)[m]'(by rw [enc_len]; exact hm) := get_of_eq (by rw [q2, hY]) _ _
  rw [u1, u2, e]
  generalize (enc X j w)[m]'(by rw [enc_len]; exact hm) = A
  have gz := Gf.gm_eq_zero (fac_lt j i) hb
  have fz := fac_ne j i
  by_cases hmc : m = c
  · rw [if_pos hmc]
    constructor
    · intro hne
      refine ⟨hmc, fun hb0 => hne ?_⟩
      rw [hb0, Gf.gm_zero, Nat.xor_zero]
    · rintro ⟨_, hb0⟩ heq
      have z : Gf.gm (fac j i) b = 0 := by
        have := congrArg (A ^^^ ·) heq
        simp only [Nat.xor_self, ← Nat.xor_assoc, Nat.zero_xor] at this
        exact this.symm
      rcases gz.1 z with q | q
      · exact fz q
      · exact hb0 q
  · rw [if_neg hmc, Nat.xor_zero]
    simp [hmc]

theorem tch_inner (call : CallF) (lf n0 : Nat) {S T : List (List Nat)} {w p n : Nat} (hS : S.length = p) (hT : T.length = p) (hp : p ≤ 16) (hw : w ≤ 4096) {xa sa ta : Option (Nat × Nat)} (xc sc tc : Bool) {h : AHeap} {n1 : Nat} (b k : Nat)
    (ms : Mat h n1 .u8 sa S w) (mt : Mat h n1 .u8 ta T w) {j : Nat} (hj : j < p) (hne : ∀ m (h1 : m < (S[j]'(by omega)).length) (h2 : m < (T[j]'(by omega)).length), (S[j]'(by omega))[m] ≠ (T[j]'(by omega))[m] ↔ (m = k ∧ b ≠ 0)) (r : Nat) :
    ∀ (f m nx : Nat), m + r = w → r < f → ∃ nx', nx ≤ nx' ∧ F9_L4 call lf n0 f (b : Int) (p : Int) xa n xc (k : Int) sa p sc ta p tc (j : Int) (m : Int) h nx = F9_L2 call lf n0 (b : Int) (p : Int) xa n xc (k : Int) sa p sc ta p tc ((j + 1 : Nat) : Int) h nx' := by
  have jS : j < S.length := by omega
  have jT : j < T.length := by omega
  obtain ⟨s, s1, s2, s3⟩ := ms.row (R := AV × AHeap × Nat) jS
  obtain ⟨t, t1, t2, t3⟩ := mt.row (R := AV × AHeap × Nat) jT
  rw [hS] at s3
  rw [hT] at t3
  induction r with
  | zero =>
    intro f m nx e hf
    obtain ⟨f, rfl⟩ : ∃ m, f = m + 1 := ⟨f - 1, by omega⟩
    obtain rfl : m = w := by omega
    rw [F9_L4_eq, s3]
    simp only [bind_some', asI_int, asB_bool, asStr_str, asP_ptr, asSl_sl, asAgg_1, asAgg_2, asAgg_3, asAgg_4, asTup_0, asTup_2, asTup_3, asTup_4, if_true', if_false', if_not_true', if_not_false', getD_0, getD_1, getD_2, getD_3]
    rw [if_neg (by simp), wsucc (by omega)]
    exact ⟨nx + 10, by omega, rfl⟩
  | succ r ih =>
    intro f m nx e hf
    obtain ⟨f, rfl⟩ : ∃ m, f = m + 1 := ⟨f - 1, by omega⟩
    have hm : m < w := by omega
    have ne := hne m (by omega) (by omega)
    obtain ⟨nx', l', e'⟩ := ih f (m + 1) (nx + 33) (by omega) (by omega)
    rw [F9_L4_eq, s3]
    simp only [bind_some', asI_int, asB_bool, asStr_str, asP_ptr, asSl_sl, asAgg_1, asAgg_2, asAgg_3, asAgg_4, asTup_0, asTup_2, asTup_3, asTup_4, if_true', if_false', if_not_true', if_not_false', getD_0, getD_1, getD_2, getD_3]
    rw [if_pos (by simpa using hm), s3]
    simp only [bind_some', asI_int, asB_bool, asStr_str, asP_ptr, asSl_sl, asAgg_1, asAgg_2, asAgg_3, asAgg_4, asTup_0, asTup_2, asTup_3, asTup_4, if_true', if_false', if_not_true', if_not_false', getD_0, getD_1, getD_2, getD_3]
    rw [s2.readN s1 (by omega)]
    simp only [bind_some', asI_int, asB_bool, asStr_str, asP_ptr, asSl_sl, asAgg_1, asAgg_2, asAgg_3, asAgg_4, asTup_0, asTup_2, asTup_3, asTup_4, if_true', if_false', if_not_true', if_not_false', getD_0, getD_1, getD_2, getD_3]
    rw [t3]
    simp only [bind_some', asI_int, asB_bool, asStr_str, asP_ptr, asSl_sl, asAgg_1, asAgg_2, asAgg_3, asAgg_4, asTup_0, asTup_2, asTup_3, asTup_4, if_true', if_false', if_not_true', if_not_false', getD_0, getD_1, getD_2, getD_3]
    rw [t2.readN t1 (by omega)]
    simp only [bind_some', asI_int, asB_bool, asStr_str, asP_ptr, asSl_sl, asAgg_1, asAgg_2, asAgg_3, asAgg_4, asTup_0, asTup_2, asTup_3, asTup_4, if_true', if_false', if_not_true', if_not_false', getD_0, getD_1, getD_2, getD_3]
    rw [wsucc (by omega), e']
    refine ⟨nx', by omega, ?_⟩
    generalize S[j][m] = u at ne ⊢
    generalize T[j][m] = v at ne ⊢
    by_cases hmk : m = k
    · rw [if_pos (by simp; omega)]
      have c : (((u : Int) != (v : Int)) == ((b : Int) != 0)) = true := by
        by_cases hb : b = 0
        · subst hb
          have : u = v := by
            by_cases q : u = v
            · exact q
            · exact absurd rfl (ne.1 q).2
          subst this; simp
        · have q : u ≠ v := ne.2 ⟨hmk, hb⟩
          have c1 : ((u : Int) != (v : Int)) = true := by rw [bne_iff_ne]; omega
          have c2 : ((b : Int) != 0) = true := by rw [bne_iff_ne]; omega
          rw [c1, c2]; rfl
      rw [c, if_not_true']
    · rw [if_neg (by simp; omega)]
      have : u = v := by
        by_cases q : u = v
        · exact q
        · exact absurd (ne.1 q).1 hmk
      subst this
      rw [if_neg (by simp)]

theorem tch_outer (call : CallF) (lf : Nat) (hlf : 5000 ≤ lf) {X S T : List (List Nat)} {w p n : Nat} (hX : X.length = n) (hn : 1 ≤ n) (hS : S.length = p) (hT : T.length = p) (hp : p ≤ 16) (hw : w ≤ 4096) {xa sa ta : Option (Nat × Nat)} (xc sc tc : Bool) {h : AHeap} {n1 : Nat} (b k : Nat)
    (mx : Mat h n1 .u8 xa X w) (ms : Mat h n1 .u8 sa S w) (mt : Mat h n1 .u8 ta T w) (hne : ∀ j (hj : j < p) m (h1 : m < (S[j]'(by omega)).length) (h2 : m < (T[j]'(by omega)).length), (S[j]'(by omega))[m] ≠ (T[j]'(by omega))[m] ↔ (m = k ∧ b ≠ 0)) (r : Nat) :
    ∀ (f j nx : Nat), j + r = p → r < f → ∃ nx', F9_L2 call lf f (b : Int) (p : Int) xa n xc (k : Int) sa p sc ta p tc (j : Int) h nx = some (.bool true, h, nx') := by
  induction r with
  | zero =>
    intro f j nx e hf
    obtain ⟨f, rfl⟩ : ∃ m, f = m + 1 := ⟨f - 1, by omega⟩
    obtain rfl : j = p := by omega
    rw [F9_L2_eq, if_neg (by simp)]
    exact ⟨_, rfl⟩
  | succ r ih =>
    intro f j nx e hf
    obtain ⟨f, rfl⟩ : ∃ m, f = m + 1 := ⟨f - 1, by omega⟩
    have hj : j < p := by omega
    obtain ⟨x, x1, x2, x3⟩ := mx.row (R := AV × AHeap × Nat) (i := 0) (by omega)
    obtain ⟨s, s1, s2, s3⟩ := ms.row (R := AV × AHeap × Nat) (i := j) (by omega)
    obtain ⟨t, t1, t2, t3⟩ := mt.row (R := AV × AHeap × Nat) (i := j) (by omega)
    rw [hX, show ((0 : Nat) : Int) = 0 from rfl] at x3
    rw [hS] at s3
    rw [hT] at t3
    rw [F9_L2_eq, if_pos (by simpa using hj), s3]
    simp only [bind_some', asI_int, asB_bool, asStr_str, asP_ptr, asSl_sl, asAgg_1, asAgg_2, asAgg_3, asAgg_4, asTup_0, asTup_2, asTup_3, asTup_4, if_true', if_false', if_not_true', if_not_false', getD_0, getD_1, getD_2, getD_3]
    rw [x3]
    simp only [bind_some', asI_int, asB_bool, asStr_str, asP_ptr, asSl_sl, asAgg_1, asAgg_2, asAgg_3, asAgg_4, asTup_0, asTup_2, asTup_3, asTup_4, if_true', if_false', if_not_true', if_not_false', getD_0, getD_1, getD_2, getD_3]
    rw [if_neg (by simp), t3]
    simp only [bind_some', asI_int, asB_bool, asStr_str, asP_ptr, asSl_sl, asAgg_1, asAgg_2, asAgg_3, asAgg_4, asTup_0, asTup_2, asTup_3, asTup_4, if_true', if_false', if_not_true', if_not_false', getD_0, getD_1, getD_2, getD_3]
    rw [x3]
    simp only [bind_some', asI_int, asB_bool, asStr_str, asP_ptr, asSl_sl, asAgg_1, asAgg_2, asAgg_3, asAgg_4, asTup_0, asTup_2, asTup_3, asTup_4, if_true', if_false', if_not_true', if_not_false', getD_0, getD_1, getD_2, getD_3]
    obtain ⟨nx', l', e'⟩ := tch_inner call lf f (n := n) (xa := xa) hS hT hp hw xc sc tc b k ms mt hj (hne j hj) w lf 0 (nx + 25 + 1) (by omega) (by omega)
    rw [show ((0 : Nat) : Int) = 0 from rfl] at e'
    rw [if_neg (by simp), F9_J3_eq, e']
    exact ih f (j + 1) nx' (by omega) (by omega)

theorem EncodeTouches_run (h : AHeap) (nx : Nat) (l1 : List Int) (g1 : l1.length * 1 ≤ 140737488351232) (w1 : ∀ n ∈ l1, (Lit.int .u8 n).wf = true) (a1 : Option (Nat × Nat)) (sl1 : Sl h nx a1 l1.length 1 (l1.map (AV.int .u8)))
    (x1 : Int) (_ : (Lit.int .i64 x1).wf = true) (x2 : Int) (_ : (Lit.int .i64 x2).wf = true) (x3 : Int) (_ : (Lit.int .i64 x3).wf = true) (x4 : Int) (_ : (Lit.int .i64 x4).wf = true) (x5 : Int) (w5 : (Lit.int .u8 x5).wf = true) :
    ∃ f h' nx', callP Try.prog keepT f 9 [.slice a1 l1.length false, .int .i64 x1, .int .i64 x2, .int .i64 x3, .int .i64 x4, .int .u8 x5] h nx = some (.bool true, h', nx') := by
  refine ⟨20001, ?_⟩
  obtain ⟨b1, rfl, s1, z1⟩ := ofBytes w1
  have w5 : 0 ≤ x5 ∧ x5 < 256 := by simp [Lit.wf, IntKind.min, IntKind.max, IntKind.signed, IntKind.bits] at w5; omega
  obtain ⟨b, rfl⟩ : ∃ b : Nat, x5 = (b : Int) := ⟨x5.toNat, by omega⟩
  have hb : b < 256 := by omega
  rw [nints_len] at sl1 g1 ⊢
  have sl1 : Sl h nx a1 b1.length 1 (ints .u8 (nints b1)) := sl1
  clear w1 z1 w5
  obtain ⟨k, hk⟩ : ∃ k, k = 20000 := ⟨_, rfl⟩
  rw [show 20001 = k + 1 from by rw [hk]]
  have p0 := Int.emod_nonneg x1 (show (12 : Int) ≠ 0 by omega)
  have p1 := Int.emod_lt_of_pos x1 (show (0 : Int) < 12 by omega)
  have q0 := Int.emod_nonneg x2 (show (3 : Int) ≠ 0 by omega)
  have q1 := Int.emod_lt_of_pos x2 (show (0 : Int) < 3 by omega)
  obtain ⟨n, hn⟩ : ∃ n : Nat, 1 + x1 % 12 = (n : Int) := ⟨(1 + x1 % 12).toNat, by omega⟩
  obtain ⟨p, hp⟩ : ∃ p : Nat, 1 + x2 % 3 = (p : Int) := ⟨(1 + x2 % 3).toNat, by omega⟩
  have hn1 : 1 ≤ n ∧ n ≤ 12 := by omega
  have hp1 : 1 ≤ p ∧ p ≤ 3 := by omega
  obtain ⟨m1, e1, y1⟩ := picked_spec (k := k) (by omega) x1 12 h (nx + 5) (by omega) (by omega)
  obtain ⟨m2, e2, y2⟩ := picked_spec (k := k) (by omega) x2 3 h (m1 + 4) (by omega) (by omega)
  have xa : Ext h nx h (m2 + 4) := ⟨by omega, fun _ _ => rfl⟩
  obtain ⟨oX, cX, h3, n3, e3, mX, x3'⟩ := cols_spec (f := k) (by omega) (l := b1) (by omega) hn1.1 (by omega) false (sl1.ext xa)
  have x3h : Ext h nx h3 (n3 + 4) := (xa.trans x3').le (by omega)
  obtain ⟨oY, cY, h4, n4, e4, mY, x4'⟩ := cols_spec (f := k) (by omega) (l := b1) (by omega) hn1.1 (by omega) false (sl1.ext x3h)
  have y4 := x4'.1
  have x34 : Ext h3 n3 h4 n4 := ⟨by omega, fun j hj => x4'.2 j (by omega)⟩
  have hsn : n * min (b1.length / n) 64 ≤ b1.length := Nat.le_trans (Nat.mul_le_mul_left _ (Nat.min_le_left _ _)) (Nat.mul_div_le _ _)
  have hs64 : min (b1.length / n) 64 ≤ 64 := Nat.min_le_right _ _
  generalize hs : min (b1.length / n) 64 = s at *
  have rX : ∀ r ∈ cols b1 s n, r.length = s := cols_row (by omega)
  have sX : SmallM (cols b1 s n) := cols_small s1 _ _
  have lX := cols_len b1 s n
  generalize cols b1 s n = X at *
  have mX' : Mat h4 n4 .u8 oX X s := mX.mat.ext x34
  obtain ⟨r, r1, r2, r3⟩ := mX'.row (R := AV × AHeap × Nat) (i := 0) (by omega)
  rw [lX, show ((0 : Nat) : Int) = 0 from rfl] at r3
  have wn : wrapA .i64 (1 + x1 % 12) = (n : Int) := by rw [wA (by omega) (by omega), hn]
  have wp : wrapA .i64 (1 + x2 % 3) = (p : Int) := by clear wn; rw [wA (by omega) (by omega), hp]
  rw [F9_eq, e1]
  simp only [bind_some', asI_int, asB_bool, asStr_str, asP_ptr, asSl_sl, asAgg_1, asAgg_2, asAgg_3, asAgg_4, asTup_0, asTup_2, asTup_3, asTup_4, if_true', if_false', if_not_true', if_not_false', getD_0, getD_1, getD_2, getD_3]
  rw [e2]
  simp only [bind_some', asI_int, asB_bool, asStr_str, asP_ptr, asSl_sl, asAgg_1, asAgg_2, asAgg_3, asAgg_4, asTup_0, asTup_2, asTup_3, asTup_4, if_true', if_false', if_not_true', if_not_false', getD_0, getD_1, getD_2, getD_3]
  rw [wn, wp, e3]
  clear wn wp
  simp only [bind_some', asI_int, asB_bool, asStr_str, asP_ptr, asSl_sl, asAgg_1, asAgg_2, asAgg_3, asAgg_4, asTup_0, asTup_2, asTup_3, asTup_4, if_true', if_false', if_not_true', if_not_false', getD_0, getD_1, getD_2, getD_3]
  rw [e4]
  simp only [bind_some', asI_int, asB_bool, asStr_str, asP_ptr, asSl_sl, asAgg_1, asAgg_2, asAgg_3, asAgg_4, asTup_0, asTup_2, asTup_3, asTup_4, if_true', if_false', if_not_true', if_not_false', getD_0, getD_1, getD_2, getD_3]
  rw [r3]
  simp only [bind_some', asI_int, asB_bool, asStr_str, asP_ptr, asSl_sl, asAgg_1, asAgg_2, asAgg_3, asAgg_4, asTup_0, asTup_2, asTup_3, asTup_4, if_true', if_false', if_not_true', if_not_false', getD_0, getD_1, getD_2, getD_3]
  clear e1 e2 e3 e4
  by_cases hs0 : s = 0
  · obtain ⟨h9, n9, e9, _⟩ := cmay_spec (f := k) (by omega) (M := X) (w := s) (by omega) (by omega) (by omega) cX (mX'.ext (nx' := n4 + 8) ⟨by omega, fun _ _ => rfl⟩)
    rw [lX] at e9
    rw [if_pos (by simp [hs0]), e9]
    simp only [bind_some', asI_int, asB_bool, asStr_str, asP_ptr, asSl_sl, asAgg_1, asAgg_2, asAgg_3, asAgg_4, asTup_0, asTup_2, asTup_3, asTup_4, if_true', if_false', if_not_true', if_not_false', getD_0, getD_1, getD_2, getD_3]
    exact ⟨_, _, rfl⟩
  obtain ⟨m5, e5, y5⟩ := picked_spec (k := k) (by omega) x3 (n : Int) h4 (n4 + 9) (by omega) (by omega)
  obtain ⟨m6, e6, y6⟩ := picked_spec (k := k) (by omega) x4 (s : Int) h4 (m5 + 7) (by omega) (by omega)
  have i0 := Int.emod_nonneg x3 (show (n : Int) ≠ 0 by omega)
  have i1 := Int.emod_lt_of_pos x3 (show (0 : Int) < n by omega)
  have k0 := Int.emod_nonneg x4 (show (s : Int) ≠ 0 by omega)
  have k1 := Int.emod_lt_of_pos x4 (show (0 : Int) < s by omega)
  rw [if_neg (by simp [hs0]), e5]
  simp only [bind_some', asI_int, asB_bool, asStr_str, asP_ptr, asSl_sl, asAgg_1, asAgg_2, asAgg_3, asAgg_4, asTup_0, asTup_2, asTup_3, asTup_4, if_true', if_false', if_not_true', if_not_false', getD_0, getD_1, getD_2, getD_3]
  rw [r3]
  simp only [bind_some', asI_int, asB_bool, asStr_str, asP_ptr, asSl_sl, asAgg_1, asAgg_2, asAgg_3, asAgg_4, asTup_0, asTup_2, asTup_3, asTup_4, if_true', if_false', if_not_true', if_not_false', getD_0, getD_1, getD_2, getD_3]
  rw [e6]
  simp only [bind_some', asI_int, asB_bool, asStr_str, asP_ptr, asSl_sl, asAgg_1, asAgg_2, asAgg_3, asAgg_4, asTup_0, asTup_2, asTup_3, asTup_4, if_true', if_false', if_not_true', if_not_false', getD_0, getD_1, getD_2, getD_3]
  clear e5 e6
  obtain ⟨i, hi⟩ : ∃ i : Nat, x3 % (n : Int) = (i : Int) := ⟨(x3 % (n : Int)).toNat, by omega⟩
  obtain ⟨c, hc⟩ : ∃ c : Nat, x4 % (s : Int) = (c : Int) := ⟨(x4 % (s : Int)).toNat, by omega⟩
  rw [hi] at i0 i1
  rw [hc] at k0 k1
  rw [hi, hc]
  have hi' : i < n := by omega
  have hc' : c < s := by omega
  clear hi hc i0 i1 k0 k1
  obtain ⟨ri, rc, t1, t2, t3, t4, t5, t6⟩ := mY.row (R := AV × AHeap × Nat) (by omega) (i := i) (by omega)
  rw [lX] at t5
  rw [t5]
  simp only [bind_some', asI_int, asB_bool, asStr_str, asP_ptr, asSl_sl, asAgg_1, asAgg_2, asAgg_3, asAgg_4, asTup_0, asTup_2, asTup_3, asTup_4, if_true', if_false', if_not_true', if_not_false', getD_0, getD_1, getD_2, getD_3]
  have hci : c < X[i].length := by omega
  have hcb : X[i][c] < 256 := sX _ (List.getElem_mem _) _ (List.getElem_mem _)
  rw [if_pos ⟨by omega, by omega⟩, show 0 + Int.toNat (c : Int) * 1 = c from by omega, ld_at t4 (nints_at (List.getElem?_eq_getElem hci))]
  simp only [bind_some', asI_int, asB_bool, asStr_str, asP_ptr, asSl_sl, asAgg_1, asAgg_2, asAgg_3, asAgg_4, asTup_0, asTup_2, asTup_3, asTup_4, if_true', if_false', if_not_true', if_not_false', getD_0, getD_1, getD_2, getD_3]
  rw [if_pos ⟨by omega, by omega⟩, g_xor8 hcb hb, st_to t4 (v := .int .u8 ((X[i][c] ^^^ b : Nat) : Int)) rfl (by rw [nintsL]; exact hci) nints_set]
  have mY2 := t6 (X[i].set c (X[i][c] ^^^ b)) (by rw [List.length_set]; exact t1)
  have x5 : Ext h3 n3 (h4.put ri (some ⟨ints .u8 (nints (X[i].set c (X[i][c] ^^^ b))), 1, true⟩)) (m6 + 19) := ⟨by omega, fun j hj => by rw [put_ne (by omega), x34.2 j hj]⟩
  generalize h4.put ri (some ⟨ints .u8 (nints (X[i].set c (X[i][c] ^^^ b))), 1, true⟩) = h5 at *
  have lY : (X.set i (X[i].set c (X[i][c] ^^^ b))).length = n := by rw [List.length_set]; exact lX
  have sY : SmallM (X.set i (X[i].set c (X[i][c] ^^^ b))) := by
    intro q hq
    rcases List.mem_or_eq_of_mem_set hq with hq | rfl
    · exact sX q hq
    · intro z hz
      rcases List.mem_or_eq_of_mem_set hz with hz | rfl
      · exact sX _ (List.getElem_mem _) z hz
      · exact Gf.xor_lt hcb hb
  have eY : X.set i (X[i].set c (X[i][c] ^^^ b)) = X.set i (X[i].set c (X[i].getD c 0 ^^^ b)) := by rw [getD_at hci]
  obtain ⟨oS, cS, h6, n6, e6, mS, x6⟩ := encode_spec (f := k) (by omega) (M := X) (w := s) (by omega) (by omega) (by omega) sX cX (h := h5) (nx := m6 + 19) (a := oX) (mX.mat.ext x5) p (by omega) (by omega)
  have y6 := x6.1
  rw [lX] at e6
  have wp : wrapA .i64 (1 + x2 % 3) = (p : Int) := by rw [wA (by omega) (by omega), hp]
  rw [e6]
  clear wp
  simp only [bind_some', asI_int, asB_bool, asStr_str, asP_ptr, asSl_sl, asAgg_1, asAgg_2, asAgg_3, asAgg_4, asTup_0, asTup_2, asTup_3, asTup_4, if_true', if_false', if_not_true', if_not_false', getD_0, getD_1, getD_2, getD_3]
  obtain ⟨oT, cT, h7, n7, e7, mT, x7⟩ := encode_spec (f := k) (by omega) (M := X.set i (X[i].set c (X[i][c] ^^^ b))) (w := s) (by omega) (by omega) (by omega) sY cY (h := h6) (nx := n6 + 8) (a := oY) (mY2.mat.ext ⟨by omega, fun j hj => x6.2 j (by omega)⟩) p (by omega) (by omega)
  have y7 := x7.1
  rw [lY] at e7
  rw [e7]
  simp only [bind_some', asI_int, asB_bool, asStr_str, asP_ptr, asSl_sl, asAgg_1, asAgg_2, asAgg_3, asAgg_4, asTup_0, asTup_2, asTup_3, asTup_4, if_true', if_false', if_not_true', if_not_false', getD_0, getD_1, getD_2, getD_3]
  rw [if_neg (by decide), if_neg (by decide), if_neg (by simp), if_neg (by simp), F9_J1_eq]
  have x57 : Ext h3 n3 h7 n7 := ⟨by omega, fun j hj => by rw [x7.2 j (by omega), x6.2 j (by omega), x5.2 j hj]⟩
  obtain ⟨nx', e9⟩ := tch_outer (callP Try.prog keepT k) k (by omega) lX (by omega) (encs_len X s p) (encs_len (X.set i (X[i].set c (X[i][c] ^^^ b))) s p) (by omega) (by omega) cX cS cT (h := h7) (n1 := n7) b c
    (mX.mat.ext x57) (mS.mat.ext ⟨by omega, fun j hj => by rw [x7.2 j (by omega)]⟩) mT.mat
    (touch_ne rX (by omega) hc' hb eY p) p k 0 (n7 + 18 + 1) (by omega) (by omega)
  rw [show ((0 : Nat) : Int) = 0 from rfl] at e9
  exact ⟨_, _, e9⟩

end Go.Proofs.Ytdfopcgfhjijgaa.T
