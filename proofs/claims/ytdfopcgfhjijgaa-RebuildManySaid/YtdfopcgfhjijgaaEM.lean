import Derived.Test.YtdfopcgfhjijgaaEN
set_option linter.unusedVariables false
set_option linter.unusedSimpArgs false
namespace Go.Proofs.Ytdfopcgfhjijgaa.T
open Go Go.RowKit Go.Proofs

theorem g_xor8 {a b : Nat} (ha : a < 256) (hb : b < 256) : Go.bits .xor .u8 (a : Int) (b : Int) = ((a ^^^ b : Nat) : Int) := by
  have hx : a ^^^ b < 256 := Gf.xor_lt ha hb
  have e1 : a % 2 ^ IntKind.u8.bits = a := Nat.mod_eq_of_lt (by simp [IntKind.bits]; omega)
  have e2 : b % 2 ^ IntKind.u8.bits = b := Nat.mod_eq_of_lt (by simp [IntKind.bits]; omega)
  simp only [Go.bits, BitVec.ofInt_natCast, BitVec.toNat_xor, BitVec.toNat_ofNat, e1, e2]
  exact wU8 hx

theorem Sl.same {h h' : AHeap} {nx nx' : Nat} {a : Option (Nat × Nat)} {n es : Nat} {vs : List AV} (s : Sl h nx a n es vs) (l : nx ≤ nx') (k : ∀ p, a = some p → 0 < n → p.1 < nx → h' p.1 = h p.1) : Sl h' nx' a n es vs :=
  ⟨s.1, fun j hj => by
    obtain ⟨p, b, e1, e2, e3, r⟩ := s.2 j hj
    exact ⟨p, b, e1, by omega, (k p e1 (by omega) e2).trans e3, r⟩⟩

theorem fold_set {α : Type} {m d : List α} {i : Nat} (hi : i < m.length) (he : m.length = d.length) : (m.take i ++ d.drop i).set i m[i] = m.take (i + 1) ++ d.drop (i + 1) := by
  have h1 : d.drop i = d[i] :: d.drop (i + 1) := List.drop_eq_getElem_cons (by omega)
  rw [List.set_append_right _ _ (by simp; omega), h1, List.length_take, Nat.min_eq_left (by omega), Nat.sub_self, List.set_cons_zero, List.take_succ_eq_append_getElem hi, List.append_assoc]
  rfl
theorem fold_get {α : Type} {m d : List α} {i : Nat} (hi : i < m.length) (he : m.length = d.length) : (m.take i ++ d.drop i)[i]? = some (d[i]'(by omega)) := by
  rw [List.getElem?_append_right (by simp; omega), List.length_take, Nat.min_eq_left (by omega), Nat.sub_self, List.getElem?_drop, Nat.add_zero, List.getElem?_eq_getElem]

theorem nints_at {k : IntKind} {l : List Nat} {i v : Nat} (h : l[i]? = some v) : (ints k (nints l))[i]? = some (.int k (v : Int)) := by
  simp [ints, nints, List.getElem?_map, h]
theorem nints_set {k : IntKind} {l : List Nat} {i v : Nat} : (ints k (nints l)).set i (.int k (v : Int)) = ints k (nints (l.set i v)) := by
  simp [ints, nints, List.map_set]
theorem nints_one {k : IntKind} {l : List Nat} : allOne (ints k (nints l)) = true := by simp [allOne, ints, nints, AV.one]
theorem nintsL {k : IntKind} {l : List Nat} : (ints k (nints l)).length = l.length := by simp [ints, nints]

/-! ### a column times an element is added -/
def mixed (x : Nat) (d s : List Nat) : List Nat := List.zipWith (fun a b => a ^^^ Gf.gm x b) d s
theorem mixed_len {x : Nat} {d s : List Nat} (h : d.length = s.length) : (mixed x d s).length = d.length := by simp [mixed]; omega
theorem mixed_get {x : Nat} {d s : List Nat} (h : d.length = s.length) {i : Nat} (hi : i < d.length) : (mixed x d s)[i]'(by rw [mixed_len h]; exact hi) = d[i] ^^^ Gf.gm x (s[i]'(by omega)) := by simp [mixed]

theorem mix_loop (call : YldF → CallF) (lf : Nat) (x : Nat) (hx : x < 256) {d s : List Nat} (hd : Small d) (hs : Small s) {n : Nat} (hn : n ≤ 1000000) (d1 : d.length = n) (s1 : s.length = n) {tid pid n1 : Nat} (tc fc : Bool) {fa : Option (Nat × Nat)} (htp : pid ≠ tid) (hne : ∀ p, fa = some p → 0 < n → p.1 ≠ tid) (r : Nat) :
    ∀ (f i : Nat) (h : AHeap) (nx : Nat), i + r = n → r < f → h tid = some ⟨ints .u8 (nints ((mixed x d s).take i ++ d.drop i)), 1, true⟩ → Sl h n1 fa n 1 (ints .u8 (nints s)) → h pid = some ⟨tabTo x 256, 1, true⟩ →
    ∃ h' nx', F62_L1 call Y0 lf f (some (tid, 0)) n tc (some (pid, 0)) fa n fc ((n : Nat) : Int) (i : Int) h nx = some (.tuple [], h', nx') ∧ nx ≤ nx' ∧ h' tid = some ⟨ints .u8 (nints (mixed x d s)), 1, true⟩ ∧ ∀ q, q ≠ tid → h' q = h q := by
  have ml : (mixed x d s).length = n := by rw [mixed_len (by omega)]; exact d1
  induction r with
  | zero =>
    intro f i h nx e hf hb sl hp
    obtain ⟨f, rfl⟩ : ∃ m, f = m + 1 := ⟨f - 1, by omega⟩
    obtain rfl : i = n := by omega
    rw [F62_L1_eq, if_neg (by simp)]
    refine ⟨h, _, rfl, by omega, ?_, fun _ _ => rfl⟩
    rw [hb, List.take_of_length_le (by omega), List.drop_of_length_le (by omega), List.append_nil]
  | succ r ih =>
    intro f i h nx e hf hb sl hp
    obtain ⟨f, rfl⟩ : ∃ m, f = m + 1 := ⟨f - 1, by omega⟩
    have hi : i < n := by omega
    have hsi : s[i]'(by omega) < 256 := hs _ (List.getElem_mem _)
    have hdi : d[i]'(by omega) < 256 := hd _ (List.getElem_mem _)
    have z : 0 + Int.toNat (i : Int) * 1 = i := by omega
    rw [F62_L1_eq, if_pos (by simpa using hi), sl.readN s1 (by omega)]
    simp only [bind_some', asI_int, asB_bool, asStr_str, asP_ptr, asSl_sl, asAgg_1, asAgg_2, asAgg_3, asAgg_4, asTup_0, asTup_2, asTup_3, asTup_4, if_true', if_false', if_not_true', if_not_false', getD_0, getD_1, getD_2, getD_3]
    rw [if_pos ⟨by omega, by omega⟩, z, ld_at hb (nints_at (fold_get (by omega) (by omega)))]
    simp only [bind_some', asI_int, asB_bool, asStr_str, asP_ptr, asSl_sl, asAgg_1, asAgg_2, asAgg_3, asAgg_4, asTup_0, asTup_2, asTup_3, asTup_4, if_true', if_false', if_not_true', if_not_false', getD_0, getD_1, getD_2, getD_3]
    rw [if_pos ⟨by omega, by omega⟩, show ((0 : Nat) + Int.toNat (((s[i]'(by omega)) : Nat) : Int) * 1) = (s[i]'(by omega)) * 1 from by omega, ld_at hp (tabTo_get x _ hsi)]
    simp only [bind_some', asI_int, asB_bool, asStr_str, asP_ptr, asSl_sl, asAgg_1, asAgg_2, asAgg_3, asAgg_4, asTup_0, asTup_2, asTup_3, asTup_4, if_true', if_false', if_not_true', if_not_false', getD_0, getD_1, getD_2, getD_3]
    rw [if_pos ⟨by omega, by omega⟩, g_xor8 hdi (Gf.gm_lt hx)]
    have st := st_to (h := h) (R := AV × AHeap × Nat) hb (v := .int .u8 (((d[i]'(by omega)) ^^^ Gf.gm x (s[i]'(by omega)) : Nat) : Int)) rfl (o := i) (by rw [nintsL, List.length_append, List.length_take, List.length_drop]; omega)
      (cs' := ints .u8 (nints ((mixed x d s).take (i + 1) ++ d.drop (i + 1)))) (by rw [nints_set, ← mixed_get (x := x) (d := d) (s := s) (i := i) (by omega) (by omega), fold_set (m := mixed x d s) (d := d) (i := i) (by omega) (by omega)])
    rw [st, wsucc (by omega)]
    obtain ⟨h', nx', e', l', b', k'⟩ := ih f (i + 1) (h.put tid _) (nx + 18) (by omega) (by omega) (put_same _ _ _) (sl.same (by omega) fun p e0 e1 _ => put_ne (hne p e0 e1)) ((put_ne htp).trans hp)
    exact ⟨h', nx', e', by omega, b', fun q hq => (k' q hq).trans (put_ne hq)⟩

theorem asRow_tab (x : Nat) : asRow (.agg (tabTo x 256)) = some (tabTo x 256) := by simp [asRow]

theorem mix_spec {f : Nat} (hf : 5000 ≤ f) (x : Nat) (hx : x < 256) {d s : List Nat} (hd : Small d) (hs : Small s) {n : Nat} (hn : n ≤ 4096) (d1 : d.length = n) (s1 : s.length = n) {tid : Nat} (tc fc : Bool) {fa : Option (Nat × Nat)} {h : AHeap} {nx : Nat} (ht : tid < nx)
    (hne : ∀ p, fa = some p → 0 < n → p.1 ≠ tid) (hb : h tid = some ⟨ints .u8 (nints d), 1, true⟩) (sl : Sl h nx fa n 1 (ints .u8 (nints s))) :
    ∃ h' nx', callP Try.prog keepT f Y0 62 [.slice (some (tid, 0)) n tc, .slice fa n fc, .int .i64 (x : Int)] h nx = some (.tuple [], h', nx') ∧ nx ≤ nx' ∧ h' tid = some ⟨ints .u8 (nints (mixed x d s)), 1, true⟩ ∧ ∀ q, q < nx → q ≠ tid → h' q = h q := by
  obtain ⟨f, rfl⟩ : ∃ m, f = m + 1 := ⟨f - 1, by omega⟩
  obtain ⟨h1, n1, e1, x1⟩ := table_spec (f := f) (by omega) x hx h (nx + 4)
  have y1 := x1.1
  rw [F62_eq, e1, bind_some']
  dsimp only
  rw [asRow_tab, some_bind, st_all (put_same _ _ _) (by exact tabTo_len _ _) (by exact List.length_replicate) (tabTo_one _ _), put_put]
  obtain ⟨h', nx', e', l', b', k'⟩ := mix_loop (callP Try.prog keepT f) f x hx hd hs (n := n) (by omega) d1 s1 (tid := tid) (pid := nx + 2) (n1 := n1) tc fc (fa := fa) (by omega) hne n f 0 (h1.put (nx + 2) (some ⟨tabTo x 256, 1, true⟩)) (n1 + 3) (by omega) (by omega)
    (by rw [put_ne (by omega), x1.2 tid (by omega), hb]; simp) (sl.same (by omega) fun p _ _ e2 => by rw [put_ne (by omega), x1.2 _ (by omega)]) (put_same _ _ _)
  rw [show ((0 : Nat) : Int) = 0 from rfl] at e'
  rw [e']
  exact ⟨h', nx', rfl, by omega, b', fun q hq hne' => by rw [k' q hne', put_ne (by omega), x1.2 q (by omega)]⟩

/-- A row, also in a heap that has more. -/
theorem Mat.rowX {R : Type} {h : AHeap} {nx w : Nat} {k : IntKind} {a : Option (Nat × Nat)} {M : List (List Nat)} (m : Mat h nx k a M w) {i : Nat} (hi : i < M.length) :
    ∃ q : Rw, M[i].length = w ∧ Sl h nx q.1 w 1 (ints k (nints M[i])) ∧ ∀ {h' : AHeap} {nx' : Nat} (_ : Ext h nx h' nx') (K : AV → Option R), (a.bind fun p => if 0 ≤ (i : Int) ∧ (i : Int) < ((M.length : Nat) : Int) then (ldA h' p.1 (p.2 + Int.toNat (i : Int) * 1)).bind K else none) = K (.slice q.1 w q.2) := by
  obtain ⟨qs, r, s⟩ := m
  obtain ⟨q, e1, e2, e3⟩ := r.get hi
  refine ⟨q, e2, e3, fun x K => (s.ext x).read0 (by omega) (by omega) (by omega) (v := rcell w q) ?_ K⟩
  rw [Int.toNat_natCast, Nat.mul_one, List.getElem?_map, e1]; rfl
theorem Sl.lt {h : AHeap} {nx : Nat} {a : Option (Nat × Nat)} {n es : Nat} {vs : List AV} (s : Sl h nx a n es vs) {p : Nat × Nat} (hp : a = some p) (hn : 0 < n) : p.1 < nx := by
  obtain ⟨p', b, e1, e2, _⟩ := s.2 0 hn
  rw [hp] at e1
  obtain rfl : p = p' := by simpa using e1
  exact e2
theorem made1 (v : AV) (n : Nat) : madeA [v] n = List.replicate n v := by
  rfl

/-! ### one parity column -/
def encTo (M : List (List Nat)) (j w n : Nat) : List Nat := (List.range w).map fun k => xsum n fun i => Gf.gm (fac j i) ((M.getD i []).getD k 0)
def enc (M : List (List Nat)) (j w : Nat) : List Nat := encTo M j w M.length
theorem encTo_len (M : List (List Nat)) (j w n : Nat) : (encTo M j w n).length = w := by simp [encTo]
theorem encTo_small (M : List (List Nat)) (j w n : Nat) : Small (encTo M j w n) := by
  intro x hx
  obtain ⟨k, _, rfl⟩ := List.mem_map.1 hx
  exact xsum_lt _ fun i _ => Gf.gm_lt (fac_lt j i)
theorem encTo_zero (M : List (List Nat)) (j w : Nat) : ints .u8 (nints (encTo M j w 0)) = List.replicate w (.int .u8 0) := by
  apply List.ext_getElem
  · rw [nintsL, encTo_len, List.length_replicate]
  · intro i h1 h2; simp [ints, nints, encTo, xsum]
theorem encTo_succ (M : List (List Nat)) (j w n : Nat) (hn : n < M.length) (hw : (M[n]).length = w) : mixed (fac j n) (encTo M j w n) M[n] = encTo M j w (n + 1) := by
  apply List.ext_getElem
  · rw [mixed_len (by rw [encTo_len, hw]), encTo_len, encTo_len]
  · intro i h1 h2
    rw [mixed_get (by rw [encTo_len, hw]) (by simp [encTo_len] at h2 ⊢; exact h2)]
    have hi : i < w := by simpa [encTo_len] using h2
    simp only [encTo, List.getElem_map, List.getElem_range, xsum]
    congr 2
    simp [List.getD, List.getElem?_eq_getElem hn, List.getElem?_eq_getElem (show i < (M[n]).length by omega)]

theorem enc_loop {k0 : Nat} (hk0 : 5000 ≤ k0) (lf : Nat) (j : Nat) (hj : j ≤ 16) {M : List (List Nat)} {w : Nat} (hM : M.length ≤ 256) (hw : w ≤ 4096) (hs : SmallM M) {a : Option (Nat × Nat)} (c oc : Bool) {h0 : AHeap} {n0 id : Nat} (mt : Mat h0 n0 .u8 a M w) (hid : n0 ≤ id) (r : Nat) :
    ∀ (f i : Nat) (h : AHeap) (nx : Nat), i + r = M.length → r < f → id < nx → h id = some ⟨ints .u8 (nints (encTo M j w i)), 1, true⟩ → (∀ q, q < id → h q = h0 q) →
    ∃ h' nx', F49_L1 (callP Try.prog keepT k0) Y0 lf f (j : Int) (some (id, 0)) w oc a M.length c ((M.length : Nat) : Int) (i : Int) h nx = some (.slice (some (id, 0)) w oc, h', nx') ∧ nx ≤ nx' ∧ h' id = some ⟨ints .u8 (nints (enc M j w)), 1, true⟩ ∧ ∀ q, q < id → h' q = h0 q := by
  induction r with
  | zero =>
    intro f i h nx e hf hlt hb hk
    obtain ⟨f, rfl⟩ : ∃ m, f = m + 1 := ⟨f - 1, by omega⟩
    obtain rfl : i = M.length := by omega
    rw [F49_L1_eq, if_neg (by simp)]
    exact ⟨h, _, rfl, by omega, hb, hk⟩
  | succ r ih =>
    intro f i h nx e hf hlt hb hk
    obtain ⟨f, rfl⟩ : ∃ m, f = m + 1 := ⟨f - 1, by omega⟩
    have hi : i < M.length := by omega
    have xh : Ext h0 n0 h nx := ⟨by omega, fun q hq => hk q (by omega)⟩
    obtain ⟨q, q1, q2, q3⟩ := mt.rowX (R := AV × AHeap × Nat) hi
    obtain ⟨h1, n1, e1, x1⟩ := fac_spec (f := k0) (by omega) j i hj (by omega) h (nx + 12)
    have y1 := x1.1
    have xh1 : Ext h0 n0 h1 n1 := xh.trans (x1.le (Nat.le_refl _) |>.from (by omega))
    obtain ⟨h2, n2, e2, l2, b2, k2⟩ := mix_spec (f := k0) hk0 (fac j i) (fac_lt j i) (encTo_small M j w i) (hs _ (List.getElem_mem hi)) hw (encTo_len M j w i) q1 (tid := id) oc q.2 (fa := q.1) (h := h1) (nx := n1) (by omega)
      (fun p hp hw0 => by have := q2.lt hp hw0; omega) ((x1.2 id (by omega)).trans hb) (q2.ext xh1)
    rw [F49_L1_eq, if_pos (by simpa using hi), q3 xh]
    simp only [bind_some', asI_int, asB_bool, asStr_str, asP_ptr, asSl_sl, asAgg_1, asAgg_2, asAgg_3, asAgg_4, asTup_0, asTup_2, asTup_3, asTup_4, if_true', if_false', if_not_true', if_not_false', getD_0, getD_1, getD_2, getD_3]
    rw [e1]
    simp only [bind_some', asI_int, asB_bool, asStr_str, asP_ptr, asSl_sl, asAgg_1, asAgg_2, asAgg_3, asAgg_4, asTup_0, asTup_2, asTup_3, asTup_4, if_true', if_false', if_not_true', if_not_false', getD_0, getD_1, getD_2, getD_3]
    rw [e2]
    simp only [bind_some', asI_int, asB_bool, asStr_str, asP_ptr, asSl_sl, asAgg_1, asAgg_2, asAgg_3, asAgg_4, asTup_0, asTup_2, asTup_3, asTup_4, if_true', if_false', if_not_true', if_not_false', getD_0, getD_1, getD_2, getD_3]
    rw [wsucc (by omega)]
    rw [encTo_succ M j w i hi q1] at b2
    obtain ⟨h', nx', e', l', b', k'⟩ := ih f (i + 1) h2 (n2 + 2) (by omega) (by omega) (by omega) b2 (fun q hq => by rw [k2 q (by omega) (by omega), x1.2 q (by omega), hk q hq])
    exact ⟨h', nx', e', by omega, b', k'⟩

theorem enc_spec {f : Nat} (hf : 5002 ≤ f) (j : Nat) (hj : j ≤ 16) {M : List (List Nat)} {w : Nat} (h1 : 1 ≤ M.length) (hM : M.length ≤ 256) (hw : w ≤ 4096) (hs : SmallM M) {a : Option (Nat × Nat)} (c : Bool) {h : AHeap} {nx : Nat} (mt : Mat h nx .u8 a M w) :
    ∃ id h' nx', callP Try.prog keepT f Y0 49 [.slice a M.length c, .int .i64 (j : Int)] h nx = some (.slice (some (id, 0)) w true, h', nx') ∧ nx ≤ id ∧ id < nx' ∧ h' id = some ⟨ints .u8 (nints (enc M j w)), 1, true⟩ ∧ Ext h nx h' nx' := by
  obtain ⟨f, rfl⟩ : ∃ m, f = m + 1 := ⟨f - 1, by omega⟩
  obtain ⟨q, q1, q2, q3⟩ := mt.rowX (R := AV × AHeap × Nat) (i := 0) (by omega)
  have q3 := q3 (Ext.refl h nx)
  rw [show ((0 : Nat) : Int) = 0 from rfl] at q3
  obtain ⟨h', nx', e', l', b', k'⟩ := enc_loop (k0 := f) (by omega) f j hj hM hw hs c (((w : Nat) : Int) == ((w : Nat) : Int)) (id := nx + 5) mt (by omega) M.length f 0 (h.put (nx + 5) (some ⟨List.replicate w (.int .u8 0), 1, true⟩)) (nx + 10) (by omega) (by omega) (by omega) (by rw [put_same, encTo_zero]) (fun q hq => put_ne (by omega))
  rw [F49_eq, q3]
  simp only [bind_some', asI_int, asB_bool, asStr_str, asP_ptr, asSl_sl, asAgg_1, asAgg_2, asAgg_3, asAgg_4, asTup_0, asTup_2, asTup_3, asTup_4, if_true', if_false', if_not_true', if_not_false', getD_0, getD_1, getD_2, getD_3]
  rw [if_pos (by simp; omega)]
  rw [show madeA [.int .u8 0] (Int.toNat ((w : Nat) : Int) * 1) = List.replicate w (.int .u8 0) from by rw [Int.toNat_natCast, Nat.mul_one]; exact made1 _ _, Int.toNat_natCast]
  rw [show ((0 : Nat) : Int) = 0 from rfl] at e'
  rw [e', show (((w : Nat) : Int) == ((w : Nat) : Int)) = true from by simp]
  exact ⟨nx + 5, h', nx', rfl, by omega, by omega, b', by omega, fun q hq => k' q (by omega)⟩

end Go.Proofs.Ytdfopcgfhjijgaa.T
