import Derived.Test.YtdfopcgfhjijgaaEM
import Derived.Test.YtdfopcgfhjijgaaMW
set_option linter.unusedVariables false
set_option linter.unusedSimpArgs false
namespace Go.Proofs.Ytdfopcgfhjijgaa.T
open Go Go.RowKit Go.Proofs

/-! ### May columns be? -/
theorem even_loop {k0 : Nat} (hk0 : 2 ≤ k0) (lf : Nat) {M : List (List Nat)} {w : Nat} (hM : M.length ≤ 256) (hw : w ≤ 4096) {a : Option (Nat × Nat)} (c : Bool) {h : AHeap} {n1 id : Nat} (mt : Mat h n1 .u8 a M w) (hb : h id = some ⟨[.slice a M.length c], 1, true⟩) (r : Nat) :
    ∀ (f i nx : Nat), i + r = M.length → r < f → ∃ nx', nx ≤ nx' ∧ F72_L1 (callP Try.prog keepT k0) Y0 lf f a M.length c (.fn 65 [] [.ptr (some (id, 0))]) ((M.length : Nat) : Int) (i : Int) h nx = some (.int .i64 (-1), h, nx') := by
  induction r with
  | zero =>
    intro f i nx e hf
    obtain ⟨f, rfl⟩ : ∃ m, f = m + 1 := ⟨f - 1, by omega⟩
    obtain rfl : i = M.length := by omega
    rw [F72_L1_eq, if_neg (by simp)]
    exact ⟨nx + 2, by omega, rfl⟩
  | succ r ih =>
    intro f i nx e hf
    obtain ⟨f, rfl⟩ : ∃ m, f = m + 1 := ⟨f - 1, by omega⟩
    obtain ⟨k, rfl⟩ : ∃ m, k0 = m + 1 := ⟨k0 - 1, by omega⟩
    have hi : i < M.length := by omega
    obtain ⟨q, q1, q2, q3⟩ := mt.row (R := AV × AHeap × Nat) hi
    obtain ⟨p, p1, p2, p3⟩ := mt.row (R := AV × AHeap × Nat) (i := 0) (by omega)
    rw [show ((0 : Nat) : Int) = 0 from rfl] at p3
    rw [F72_L1_eq, if_pos (by simpa using hi), q3]
    simp only [bind_some', asI_int, asB_bool, asStr_str, asP_ptr, asSl_sl, asAgg_1, asAgg_2, asAgg_3, asAgg_4, asTup_0, asTup_2, asTup_3, asTup_4, if_true', if_false', if_not_true', if_not_false', getD_0, getD_1, getD_2, getD_3]
    rw [asCal_fn, some_bind, callC_fn, List.nil_append, List.singleton_append, F65_eq, some_bind, ld_at hb rfl]
    simp only [bind_some', asI_int, asB_bool, asStr_str, asP_ptr, asSl_sl, asAgg_1, asAgg_2, asAgg_3, asAgg_4, asTup_0, asTup_2, asTup_3, asTup_4, if_true', if_false', if_not_true', if_not_false', getD_0, getD_1, getD_2, getD_3]
    rw [p3]
    simp only [bind_some', asI_int, asB_bool, asStr_str, asP_ptr, asSl_sl, asAgg_1, asAgg_2, asAgg_3, asAgg_4, asTup_0, asTup_2, asTup_3, asTup_4, if_true', if_false', if_not_true', if_not_false', getD_0, getD_1, getD_2, getD_3]
    rw [if_neg (by simp), decide_eq_false (by omega)]
    simp only [bind_some', asI_int, asB_bool, asStr_str, asP_ptr, asSl_sl, asAgg_1, asAgg_2, asAgg_3, asAgg_4, asTup_0, asTup_2, asTup_3, asTup_4, if_true', if_false', if_not_true', if_not_false', getD_0, getD_1, getD_2, getD_3]
    rw [wsucc (by omega)]
    obtain ⟨nx', l', e'⟩ := ih f (i + 1) (nx + 9 + 14 + 2) (by omega) (by omega)
    exact ⟨nx', by omega, e'⟩

theorem even_spec {f : Nat} (hf : 300 ≤ f) {M : List (List Nat)} {w : Nat} (hM : M.length ≤ 256) (hw : w ≤ 4096) {a : Option (Nat × Nat)} (c : Bool) {h : AHeap} {nx : Nat} (mt : Mat h nx .u8 a M w) :
    ∃ h' nx', callP Try.prog keepT f Y0 50 [.slice a M.length c] h nx = some (.bool true, h', nx') ∧ Ext h nx h' nx' := by
  obtain ⟨f, rfl⟩ : ∃ m, f = m + 3 := ⟨f - 3, by omega⟩
  have x : Ext h nx (h.put nx (some ⟨[.slice a M.length c], 1, true⟩)) (nx + 1) := ⟨by omega, fun q hq => put_ne (by omega)⟩
  obtain ⟨n2, l2, e2⟩ := even_loop (k0 := f) (by omega) f hM hw c (mt.ext x) (put_same _ _ _) M.length f 0 (nx + 7 + 6 + 4) (by omega) (by omega)
  rw [show ((0 : Nat) : Int) = 0 from rfl] at e2
  rw [F50_eq]
  dsimp only
  rw [ld_at (put_same _ _ _) rfl]
  simp only [bind_some', asI_int, asB_bool, asStr_str, asP_ptr, asSl_sl, asAgg_1, asAgg_2, asAgg_3, asAgg_4, asTup_0, asTup_2, asTup_3, asTup_4, if_true', if_false', if_not_true', if_not_false', getD_0, getD_1, getD_2, getD_3]
  rw [F64_eq, F72_eq, e2]
  simp only [bind_some', asI_int, asB_bool, asStr_str, asP_ptr, asSl_sl, asAgg_1, asAgg_2, asAgg_3, asAgg_4, asTup_0, asTup_2, asTup_3, asTup_4, if_true', if_false', if_not_true', if_not_false', getD_0, getD_1, getD_2, getD_3]
  exact ⟨_, _, rfl, by omega, x.2⟩

theorem cmay_spec {f : Nat} (hf : 302 ≤ f) {M : List (List Nat)} {w : Nat} (h1 : 1 ≤ M.length) (hM : M.length ≤ 12) (hw : w ≤ 4096) {a : Option (Nat × Nat)} (c : Bool) {h : AHeap} {nx : Nat} (mt : Mat h nx .u8 a M w) :
    ∃ h' nx', callP Try.prog keepT f Y0 31 [.slice a M.length c] h nx = some (.bool true, h', nx') ∧ Ext h nx h' nx' := by
  obtain ⟨f, rfl⟩ : ∃ m, f = m + 1 := ⟨f - 1, by omega⟩
  obtain ⟨h', nx', e', x'⟩ := even_spec (f := f) (by omega) (by omega) hw c (mt.ext (nx' := nx + 14) ⟨by omega, fun _ _ => rfl⟩)
  rw [F31_eq, if_pos (by simp; omega), if_pos (by simp; omega), e']
  simp only [bind_some', asI_int, asB_bool, asStr_str, asP_ptr, asSl_sl, asAgg_1, asAgg_2, asAgg_3, asAgg_4, asTup_0, asTup_2, asTup_3, asTup_4, if_true', if_false', if_not_true', if_not_false', getD_0, getD_1, getD_2, getD_3]
  exact ⟨h', nx', rfl, x'.from (by omega)⟩

/-! ### all parity columns -/
def encs (M : List (List Nat)) (w p : Nat) : List (List Nat) := (List.range p).map fun j => enc M j w
theorem encs_len (M : List (List Nat)) (w p : Nat) : (encs M w p).length = p := by simp [encs]
theorem encs_succ (M : List (List Nat)) (w p : Nat) : encs M w (p + 1) = encs M w p ++ [enc M p w] := by simp [encs, List.range_succ]
theorem encs_get (M : List (List Nat)) (w p : Nat) {j : Nat} (hj : j < p) : (encs M w p)[j]'(by rw [encs_len]; exact hj) = enc M j w := by simp [encs]
theorem enc_len (M : List (List Nat)) (j w : Nat) : (enc M j w).length = w := encTo_len _ _ _ _

theorem encs_loop {k0 : Nat} (hk0 : 5002 ≤ k0) (lf : Nat) {M : List (List Nat)} {w : Nat} (h1 : 1 ≤ M.length) (hM : M.length ≤ 256) (hw : w ≤ 4096) (hs : SmallM M) {a : Option (Nat × Nat)} (c : Bool) {h0 : AHeap} {n0 : Nat} (mt : Mat h0 n0 .u8 a M w) (p : Nat) (hp : p ≤ 16) (r : Nat) :
    ∀ (f j : Nat) (oa : Option (Nat × Nat)) (oc : Bool) (h : AHeap) (nx : Nat), j + r = p → r < f → Ext h0 n0 h nx → WMat h n0 nx .u8 oa (encs M w j) w →
    ∃ oa' oc' h' nx', F30_L1 (callP Try.prog keepT k0) Y0 lf f a M.length c oa j oc (p : Int) (j : Int) h nx = some (.tuple [.slice oa' p oc', .int .i64 0], h', nx') ∧ WMat h' n0 nx' .u8 oa' (encs M w p) w ∧ Ext h0 n0 h' nx' := by
  induction r with
  | zero =>
    intro f j oa oc h nx e hf hx wm
    obtain ⟨f, rfl⟩ : ∃ m, f = m + 1 := ⟨f - 1, by omega⟩
    obtain rfl : j = p := by omega
    rw [F30_L1_eq, if_neg (by simp)]
    exact ⟨oa, oc, h, _, rfl, wm.ext ⟨by omega, fun _ _ => rfl⟩, hx.le (by omega)⟩
  | succ r ih =>
    intro f j oa oc h nx e hf hx wm
    obtain ⟨f, rfl⟩ : ∃ m, f = m + 1 := ⟨f - 1, by omega⟩
    have hj : j < p := by omega
    have y := hx.1
    obtain ⟨id, hA, nA, eA, l1, l2, bA, xA⟩ := enc_spec (f := k0) (by omega) j (by omega) h1 hM hw hs c (mt.ext (hx.le (show nx ≤ nx + 10 by omega)))
    have yA := xA.1
    obtain ⟨e, f1, f2, f3, f4⟩ := (wm.ext (nx' := nx) ⟨by omega, fun _ _ => rfl⟩).pushAt (n2 := nA) (n3 := nA + 2) (x := ⟨by omega, fun q hq => xA.2 q (by omega)⟩) (c := oc) (bytes := 24) (id := nx + 7) (id2 := nx + 8) (q := (some (id, 0), true)) (r := enc M j w)
      ⟨enc_len _ _ _, .inr ⟨id, rfl, by omega, l2, bA⟩⟩ (fun q hq => by
        obtain rfl : id = q := by simpa using hq
        omega) (growOk_of (by rw [encs_len]; omega) (by omega)) (by omega) (by omega) (by omega) (by omega) (by omega)
    rw [encs_len] at f1 f2
    rw [← encs_succ] at f3
    rw [F30_L1_eq, if_pos (by simpa using hj), eA]
    simp only [bind_some', asI_int, asB_bool, asStr_str, asP_ptr, asSl_sl, asAgg_1, asAgg_2, asAgg_3, asAgg_4, asTup_0, asTup_2, asTup_3, asTup_4, if_true', if_false', if_not_true', if_not_false', getD_0, getD_1, getD_2, getD_3]
    rw [src_lit1, some_bind, f1, some_bind, f2, wsucc (by omega)]
    exact ih f (j + 1) e.a e.c _ (nA + 2) (by omega) (by omega) (hx.then f4) f3

theorem encode_spec {f : Nat} (hf : 5004 ≤ f) {M : List (List Nat)} {w : Nat} (h1 : 1 ≤ M.length) (hM : M.length ≤ 12) (hw : w ≤ 4096) (hs : SmallM M) {a : Option (Nat × Nat)} (c : Bool) {h : AHeap} {nx : Nat} (mt : Mat h nx .u8 a M w) (p : Nat) (hp1 : 1 ≤ p) (hp : p ≤ 3) :
    ∃ oa oc h' nx', callP Try.prog keepT f Y0 30 [.slice a M.length c, .int .i64 (p : Int)] h nx = some (.tuple [.slice oa p oc, .int .i64 0], h', nx') ∧ WMat h' nx nx' .u8 oa (encs M w p) w ∧ Ext h nx h' nx' := by
  obtain ⟨f, rfl⟩ : ∃ m, f = m + 1 := ⟨f - 1, by omega⟩
  obtain ⟨h2, n2, e2, x2⟩ := cmay_spec (f := f) (by omega) h1 hM hw c (mt.ext (nx' := nx + 5) ⟨by omega, fun _ _ => rfl⟩)
  have y2 := x2.1
  obtain ⟨k, rfl⟩ : ∃ m, f = m + 1 := ⟨f - 1, by omega⟩
  have x3 : Ext h nx h2 (n2 + 3 + 8 + 3) := (x2.from (by omega)).le (by omega)
  obtain ⟨oa, oc, h', nx', e', w', x'⟩ := encs_loop (k0 := k + 1) (by omega) (k + 1) h1 (by omega) hw hs c mt p (by omega) p (k + 1) 0 none false h2 (n2 + 3 + 8 + 3) (by omega) (by omega) x3 (WMat.nil _ _ _ _ _)
  rw [show ((0 : Nat) : Int) = 0 from rfl] at e'
  rw [F30_eq, e2]
  simp only [bind_some', asI_int, asB_bool, asStr_str, asP_ptr, asSl_sl, asAgg_1, asAgg_2, asAgg_3, asAgg_4, asTup_0, asTup_2, asTup_3, asTup_4, if_true', if_false', if_not_true', if_not_false', getD_0, getD_1, getD_2, getD_3]
  rw [F48_eq, if_pos (by simp; omega), decide_eq_true (by omega)]
  simp only [bind_some', asI_int, asB_bool, asStr_str, asP_ptr, asSl_sl, asAgg_1, asAgg_2, asAgg_3, asAgg_4, asTup_0, asTup_2, asTup_3, asTup_4, if_true', if_false', if_not_true', if_not_false', getD_0, getD_1, getD_2, getD_3]
  rw [e']
  exact ⟨oa, oc, h', nx', rfl, w', x'⟩

/-! ### columns of bytes -/
def cols (l : List Nat) (s n : Nat) : List (List Nat) := (List.range n).map fun i => (l.drop (i * s)).take s
theorem cols_len (l : List Nat) (s n : Nat) : (cols l s n).length = n := by simp [cols]
theorem cols_succ (l : List Nat) (s n : Nat) : cols l s (n + 1) = cols l s n ++ [(l.drop (n * s)).take s] := by simp [cols, List.range_succ]
theorem cols_small {l : List Nat} (hl : Small l) (s n : Nat) : SmallM (cols l s n) := by
  intro r hr x hx
  obtain ⟨i, _, rfl⟩ := List.mem_map.1 hr
  exact hl x (List.mem_of_mem_drop (List.mem_of_mem_take hx))
theorem nints_take (l : List Nat) (n : Nat) : nints (l.take n) = (nints l).take n := by simp [nints, List.map_take]
theorem nints_drop (l : List Nat) (n : Nat) : nints (l.drop n) = (nints l).drop n := by simp [nints, List.map_drop]

theorem cols_loop (call : YldF → CallF) (lf : Nat) {l : List Nat} {n s : Nat} (hn : n ≤ 256) (hs : s ≤ 4096) (hns : n * s ≤ l.length) {a : Option (Nat × Nat)} (c : Bool) {h0 : AHeap} {n0 : Nat} (sl : Sl h0 n0 a l.length 1 (ints .u8 (nints l))) (r : Nat) :
    ∀ (f i : Nat) (oa : Option (Nat × Nat)) (oc : Bool) (h : AHeap) (nx : Nat), i + r = n → r < f → Ext h0 n0 h nx → WMat h n0 nx .u8 oa (cols l s i) s →
    ∃ oa' oc' h' nx', F29_L2 call Y0 lf f a l.length c (n : Int) (s : Int) oa i oc (i : Int) h nx = some (.slice oa' n oc', h', nx') ∧ WMat h' n0 nx' .u8 oa' (cols l s n) s ∧ Ext h0 n0 h' nx' := by
  induction r with
  | zero =>
    intro f i oa oc h nx e hf hx wm
    obtain ⟨f, rfl⟩ : ∃ m, f = m + 1 := ⟨f - 1, by omega⟩
    obtain rfl : i = n := by omega
    rw [F29_L2_eq, if_neg (by simp)]
    exact ⟨oa, oc, h, _, rfl, wm.ext ⟨by omega, fun _ _ => rfl⟩, hx.le (by omega)⟩
  | succ r ih =>
    intro f i oa oc h nx e hf hx wm
    obtain ⟨f, rfl⟩ : ∃ m, f = m + 1 := ⟨f - 1, by omega⟩
    have hi : i < n := by omega
    have y := hx.1
    have m1 : i * s ≤ 256 * 4096 := Nat.mul_le_mul (by omega) hs
    have m2 : (i + 1) * s ≤ n * s := Nat.mul_le_mul_right _ hi
    have m3 : (i + 1) * s = i * s + s := by rw [Nat.add_mul, Nat.one_mul]
    obtain ⟨c1, c2, _⟩ := (sl.ext hx).cut c (lo := i * s) (hi := (i + 1) * s) (l := some (.int .i64 ((i * s : Nat) : Int))) (r := some (.int .i64 (((i + 1) * s : Nat) : Int))) (by omega) (by omega) (bound_some (by omega)) (bound_some (by omega))
    rw [Nat.mul_one] at c1 c2
    rw [show (i + 1) * s - i * s = s from by omega] at c1 c2
    have hv : ((ints .u8 (nints l)).drop (i * s)).take (s * 1) = ints .u8 (nints ((l.drop (i * s)).take s)) := by
      rw [Nat.mul_one, nints_take, nints_drop, ints, ints, List.map_take, List.map_drop]
    rw [hv] at c2
    obtain ⟨rd, c3⟩ := c2.src'
    obtain ⟨e1, f1, f2, f3, f4⟩ := copyOf (h := h) (nx := nx) (n := s) (es := 1) (bytes := 1) (id := nx + 13) (rd := rd) c2.1 (growOk_of (by omega) (by omega)) (by omega)
    have hrow : (((l.drop (i * s)).take s)).length = s := by rw [List.length_take, List.length_drop]; omega
    have hown : RowOwn (h.puts e1.sets) nx (nx + 13 + 1) .u8 s (e1.a, e1.c) ((l.drop (i * s)).take s) := by
      refine ⟨hrow, ?_⟩
      rcases f3.2 with ⟨g1, g2⟩ | ⟨id, g1, g2, g3, g4⟩
      · exact .inl ⟨g1, g2⟩
      · exact .inr ⟨id, g1, g2, g3, g4⟩
    obtain ⟨e, g1, g2, g3, g4⟩ := wm.pushNew (x := f4) (c := oc) (bytes := 24) (id := nx + 14) (id2 := nx + 15) hown (growOk_of (by rw [cols_len]; omega) (by omega)) (by omega) (by omega) (by omega)
    rw [cols_len] at g1 g2
    rw [← cols_succ] at g3
    have w1 : wrapA .i64 ((i : Int) * (s : Int)) = ((i * s : Nat) : Int) := by
      rw [show ((i : Int) * (s : Int)) = ((i * s : Nat) : Int) from by simp]; generalize i * s = z at m1; exact wA (by omega) (by omega)
    have w2 : wrapA .i64 (wrapA .i64 ((i : Int) + 1) * (s : Int)) = (((i + 1) * s : Nat) : Int) := by
      rw [wsucc (by clear w1; omega), show (((i + 1 : Nat) : Int) * (s : Int)) = (((i + 1) * s : Nat) : Int) from by simp]; generalize (i + 1) * s = z at m3; generalize i * s = y at m1 m3; clear w1 m2; exact wA (by omega) (by omega)
    rw [F29_L2_eq, if_pos (by simpa using hi), w1, w2, c1]
    clear w1 w2
    rw [some_bind, c3, some_bind, f1, some_bind]
    dsimp only
    rw [f2, src_lit1, some_bind, g1, some_bind, g2, wsucc (by omega)]
    exact ih f (i + 1) e.a e.c _ (nx + 20) (by omega) (by omega) ((hx.then g4).le (by omega)) (g3.ext ⟨by omega, fun _ _ => rfl⟩)

theorem cols_spec {f : Nat} (hf : 300 ≤ f) {l : List Nat} (hl : l.length ≤ 1000000000000000) {n : Nat} (hn1 : 1 ≤ n) (hn : n ≤ 256) {a : Option (Nat × Nat)} (c : Bool) {h : AHeap} {nx : Nat} (sl : Sl h nx a l.length 1 (ints .u8 (nints l))) :
    ∃ oa oc h' nx', callP Try.prog keepT f Y0 29 [.slice a l.length c, .int .i64 (n : Int)] h nx = some (.slice oa n oc, h', nx') ∧ WMat h' nx nx' .u8 oa (cols l (min (l.length / n) 64) n) (min (l.length / n) 64) ∧ Ext h nx h' nx' := by
  obtain ⟨f, rfl⟩ : ∃ m, f = m + 1 := ⟨f - 1, by omega⟩
  have hd : Int.tdiv ((l.length : Nat) : Int) (n : Int) = ((l.length / n : Nat) : Int) := by rw [Int.tdiv_eq_ediv_of_nonneg (by omega)]; omega
  have hle : l.length / n ≤ l.length := Nat.div_le_self _ _
  have hmul : n * (l.length / n) ≤ l.length := Nat.mul_div_le _ _
  have hn0 : ¬ ((n : Int) = 0) := by clear hd; omega
  rw [F29_eq, if_neg hn0, hd]
  generalize hz : l.length / n = z at hle hmul
  have hw : wrapA .i64 ((z : Nat) : Int) = ((z : Nat) : Int) := by clear hd; exact wA (by omega) (by omega)
  rw [hw]
  clear hw hd hz
  by_cases h64 : 64 < z
  · have hm : n * 64 ≤ l.length := Nat.le_trans (Nat.mul_le_mul_left _ (by omega)) hmul
    obtain ⟨oa, oc, h', nx', e', w', x'⟩ := cols_loop (callP Try.prog keepT f) f (n := n) (s := 64) hn (by omega) hm c sl n f 0 none false h (nx + 9 + 2) (by omega) (by omega) ⟨by omega, fun _ _ => rfl⟩ (WMat.nil _ _ _ _ _)
    rw [show ((0 : Nat) : Int) = 0 from rfl, show ((64 : Nat) : Int) = 64 from rfl] at e'
    rw [if_pos (by simp; omega), F29_J1_eq, e', Nat.min_eq_right (by omega)]
    exact ⟨oa, oc, h', nx', rfl, w', x'⟩
  · obtain ⟨oa, oc, h', nx', e', w', x'⟩ := cols_loop (callP Try.prog keepT f) f (n := n) (s := z) hn (by omega) hmul c sl n f 0 none false h (nx + 8 + 2) (by omega) (by omega) ⟨by omega, fun _ _ => rfl⟩ (WMat.nil _ _ _ _ _)
    rw [show ((0 : Nat) : Int) = 0 from rfl] at e'
    rw [if_neg (by simp; omega), F29_J1_eq, e', Nat.min_eq_left (by omega)]
    exact ⟨oa, oc, h', nx', rfl, w', x'⟩

end Go.Proofs.Ytdfopcgfhjijgaa.T
