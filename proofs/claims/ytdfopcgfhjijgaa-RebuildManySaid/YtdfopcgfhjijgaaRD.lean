import Derived.Test.YtdfopcgfhjijgaaRC
set_option linter.unusedVariables false
set_option linter.unusedSimpArgs false
namespace Go.Proofs.Ytdfopcgfhjijgaa.T
open Go Go.RowKit Go.Proofs

theorem growOk_big {n b : Nat} (h : n * b ≤ 200000000000000) (h1 : 1 ≤ b) (h2 : b ≤ 1024) : growOk n b = true := by
  unfold growOk
  have q : n / 4 * b * 4 ≤ n * b := by
    rw [Nat.mul_right_comm]
    exact Nat.mul_le_mul_right _ (Nat.div_mul_le_self n 4)
  have e : (n + n / 4 + 192) * b = n * b + n / 4 * b + 192 * b := by rw [Nat.add_mul, Nat.add_mul]
  have l : n ≤ n * b := Nat.le_mul_of_pos_right _ h1
  simp only [Bool.and_eq_true, decide_eq_true_eq]
  rw [e]
  generalize n * b = x at *
  generalize n / 4 * b = y at *
  omega

theorem RowsAt.join {h : AHeap} {nx w : Nat} {k : IntKind} : ∀ {qs ps : List Rw} {M N : List (List Nat)}, RowsAt h nx k w qs M → RowsAt h nx k w ps N → RowsAt h nx k w (qs ++ ps) (M ++ N)
  | [], _, [], _, _, b => b
  | _ :: _, _, _ :: _, _, a, b => ⟨a.1, RowsAt.join a.2 b⟩
  | [], _, _ :: _, _, a, _ => a.elim
  | _ :: _, _, [], _, a, _ => a.elim

/-- Two lists of columns are put together. -/
theorem mat_join {h : AHeap} {nx w n p id1 id2 : Nat} {kd : IntKind} {a b : Option (Nat × Nat)} {M N : List (List Nat)} (m : Mat h nx kd a M w) (m' : Mat h nx kd b N w) (hn : M.length = n) (hp : N.length = p) (l1 : n ≤ 1000) (l2 : p ≤ 1000) (i1 : nx ≤ id1) (i2 : id1 < id2) :
    ∃ q1 e2 q4 e5, srcS h a n 1 = some q1 ∧ appD h none 0 false 1 24 id1 q1 = some e2 ∧ srcS (h.puts e2.sets) b p 1 = some q4 ∧ appD (h.puts e2.sets) e2.a e2.n e2.c 1 24 id2 q4 = some e5 ∧ e5.n = n + p ∧ Mat ((h.puts e2.sets).puts e5.sets) (id2 + 1) kd e5.a (M ++ N) w ∧ Ext h nx ((h.puts e2.sets).puts e5.sets) (id2 + 1) := by
  obtain ⟨qs, r, s⟩ := m
  obtain ⟨ps, r', s'⟩ := m'
  rw [hn] at s
  rw [hp] at s'
  obtain ⟨rd, c1⟩ := s.src'
  obtain ⟨e2, f1, f2, f3, f4⟩ := copyOf (h := h) (nx := nx) (n := n) (es := 1) (bytes := 24) (id := id1) (rd := rd) s.1 (growOk_of (by omega) (by omega)) i1
  obtain ⟨rd', c2⟩ := (s'.ext f4).src'
  obtain ⟨e5, g1, g2, g3, g4, _⟩ := f3.appendS e2.c (bytes := 24) (id := id2) (k := p) (ws := ps.map (rcell w)) (rd := rd') s'.1 (growOk_of (by omega) (by omega)) (by omega) (by omega)
  have xx : Ext h nx ((h.puts e2.sets).puts e5.sets) (id2 + 1) := ⟨by omega, fun i hi => by rw [g4.2 i hi, f4.2 i hi]⟩
  refine ⟨_, e2, _, e5, c1, f1, c2, by rw [f2]; exact g1, g2, ⟨qs ++ ps, (r.ext xx).join (r'.ext xx), ?_⟩, xx⟩
  rw [List.length_append, hn, hp, List.map_append]
  exact g3.sl

theorem Sl.at1 {h : AHeap} {nx : Nat} {a : Option (Nat × Nat)} {n : Nat} {vs : List AV} (s : Sl h nx a n 1 vs) {i : Nat} (hi : i < n) {v : AV} (hv : vs[i]? = some v) : ∃ p, a = some p ∧ p.1 < nx ∧ ∀ {R : Type} (K : AV → Option R), (ldA h p.1 (p.2 + Int.toNat (i : Int) * 1)).bind K = K v := by
  obtain ⟨p, b, e1, e2, e3, e4, e5, e6⟩ := s.2 i hi
  refine ⟨p, e1, e2, fun K => ?_⟩
  have := e6 i (by omega)
  rw [show p.2 + Int.toNat (i : Int) * 1 = p.2 + i from by omega, ldA_at e3 (this.trans hv), Option.bind_some]

/-- Lost columns are torn. -/
theorem torn_loop (call : YldF → CallF) (lf : Nat) {N t : Nat} (hN : N ≤ 256) {ls : List Nat} (ht : ls.length = t) (htl : t ≤ 256) (hmem : ∀ k ∈ ls, k < N) {js : List Int} (hj : js.length * 1 ≤ 140737488351232) {ja la : Option (Nat × Nat)} (jc lc tc : Bool) (p : Int) (X16 : Option (Nat × Nat)) (N16 : Nat) (C16 : Bool) {P0 : Nat → Option (Nat × Nat) × Nat × Bool} {h0 : AHeap} {n0 tid : Nat} (sj : Sl h0 n0 ja js.length 1 (ints .u8 js)) (sl : Sl h0 n0 la t 1 (ints .i64 (nints ls))) (hid : n0 ≤ tid) (m : Nat) :
    ∀ (f i : Nat) (P : Nat → Option (Nat × Nat) × Nat × Bool) (h : AHeap) (nx : Nat), i + m = t → m < f → tid < nx → Ext h0 n0 h nx → h tid = some ⟨(List.range N).map fun k => AV.slice (P k).1 (P k).2.1 (P k).2.2, 1, true⟩ → (∀ k, k < N → k ∉ ls.take i → P k = P0 k) →
    ∃ (f' : Nat) (P' : Nat → Option (Nat × Nat) × Nat × Bool) (h' : AHeap) (nx' : Nat), F13_L2 call Y0 lf f ja js.length jc p X16 N16 C16 la t lc (some (tid, 0)) N tc (i : Int) h nx = F13_L2 call Y0 lf (f' + 1) ja js.length jc p X16 N16 C16 la t lc (some (tid, 0)) N tc (t : Int) h' nx' ∧ tid < nx' ∧ Ext h0 n0 h' nx' ∧ h' tid = some ⟨(List.range N).map fun k => AV.slice (P' k).1 (P' k).2.1 (P' k).2.2, 1, true⟩ ∧ (∀ k, k < N → k ∉ ls → P' k = P0 k) := by
  induction m with
  | zero =>
    intro f i P h nx e hf hlt x hb hP
    obtain ⟨f, rfl⟩ : ∃ m, f = m + 1 := ⟨f - 1, by omega⟩
    obtain rfl : i = t := by omega
    rw [List.take_of_length_le (by omega)] at hP
    exact ⟨f, P, h, nx, rfl, hlt, x, hb, hP⟩
  | succ m ih =>
    intro f i P h nx e hf hlt x hb hP
    obtain ⟨f, rfl⟩ : ∃ m, f = m + 1 := ⟨f - 1, by omega⟩
    have hi : i < t := by omega
    have y := x.1
    obtain ⟨k, hk⟩ : ∃ k, ls[i]'(by omega) = k := ⟨_, rfl⟩
    have hkN : k < N := hmem k (by rw [← hk]; exact List.getElem_mem _)
    obtain ⟨rd, c1⟩ := (sj.ext x).src'
    have gj : growOk js.length 1 = true := growOk_big (by omega) (by omega) (by omega)
    obtain ⟨E, f1, f2, f3, f4⟩ := copyOf (h := h) (nx := nx) (n := js.length) (es := 1) (bytes := 1) (id := nx + 10) (rd := rd) sj.1 gj (by omega)
    have ids := (OwnSl.nil h nx nx 1).append_ids (by omega : nx ≤ nx + 10) f1
    obtain ⟨lp, rfl, l1, l2⟩ := (sl.ext x).at1 hi (v := .int .i64 ((k : Nat) : Int)) (nints_at (by rw [List.getElem?_eq_getElem (by omega), hk]))
    have aa : AllApart [((idsOf E.sets), [lp.1])] := ⟨fun z hz hz2 => by
      have := ids z hz
      simp only [List.mem_singleton] at hz2; omega, trivial⟩
    have hb1 : (h.puts E.sets) tid = some ⟨(List.range N).map fun k => AV.slice (P k).1 (P k).2.1 (P k).2.2, 1, true⟩ := (f4.2 tid hlt).trans hb
    have hset : ((List.range N).map fun k => AV.slice (P k).1 (P k).2.1 (P k).2.2).set k (.slice E.a E.n E.c) = (List.range N).map fun j => AV.slice (if j = k then (E.a, E.n, E.c) else P j).1 (if j = k then (E.a, E.n, E.c) else P j).2.1 (if j = k then (E.a, E.n, E.c) else P j).2.2 := by
      apply List.ext_getElem
      · simp
      · intro j h1 h2
        rw [List.getElem_set]
        simp only [List.getElem_map, List.getElem_range]
        by_cases ej : k = j
        · subst ej; simp
        · rw [if_neg ej]; simp only [if_neg (Ne.symm ej)]
    rw [F13_L2_eq, if_pos (by simpa using hi)]
    simp only [bind_some', asI_int, asB_bool, asStr_str, asP_ptr, asSl_sl, asAgg_1, asAgg_2, asAgg_3, asAgg_4, asTup_0, asTup_2, asTup_3, asTup_4, if_true', if_false', if_not_true', if_not_false', getD_0, getD_1, getD_2, getD_3]
    rw [if_pos ⟨by omega, by omega⟩, l2]
    simp only [bind_some', asI_int, asB_bool, asStr_str, asP_ptr, asSl_sl, asAgg_1, asAgg_2, asAgg_3, asAgg_4, asTup_0, asTup_2, asTup_3, asTup_4, if_true', if_false', if_not_true', if_not_false', getD_0, getD_1, getD_2, getD_3]
    rw [c1, some_bind, f1]
    simp only [bind_some', asI_int, asB_bool, asStr_str, asP_ptr, asSl_sl, asAgg_1, asAgg_2, asAgg_3, asAgg_4, asTup_0, asTup_2, asTup_3, asTup_4, if_true', if_false', if_not_true', if_not_false', getD_0, getD_1, getD_2, getD_3]
    rw [if_pos ⟨by omega, by omega⟩, show 0 + Int.toNat (k : Int) * 1 = k from by omega, st_to hb1 rfl (by simpa using hkN) hset, ifApart_pos aa, wsucc (by omega)]
    refine ih f (i + 1) (fun j => if j = k then (E.a, E.n, E.c) else P j) _ (nx + 16) (by omega) (by omega) (by omega) ⟨by omega, fun j hj => by rw [put_ne (by omega), f4.2 j (by omega), x.2 j hj]⟩ (put_same _ _ _) fun j hj hm => ?_
    rw [show ls.take (i + 1) = ls.take i ++ [k] from by rw [← hk]; exact List.take_succ_eq_append_getElem (by omega)] at hm
    simp only [List.mem_append, List.mem_singleton, not_or] at hm
    rw [if_neg hm.2]
    exact hP j hj hm.1

end Go.Proofs.Ytdfopcgfhjijgaa.T

namespace Go.Proofs.Ytdfopcgfhjijgaa.T
open Go Go.RowKit Go.Proofs

theorem ofB {l : List Int} (h : ∀ n ∈ l, (Lit.int .u8 n).wf = true) : ∃ b : List Nat, l = nints b ∧ Small b ∧ b.length = l.length := by
  refine ⟨l.map Int.toNat, ?_, ?_, by simp⟩
  · unfold nints
    rw [List.map_map]
    conv => lhs; rw [← List.map_id l]
    refine List.map_congr_left fun x hx => ?_
    have := h x hx
    simp [Lit.wf, IntKind.min, IntKind.max, IntKind.signed, IntKind.bits] at this
    simp; omega
  · intro x hx
    obtain ⟨y, hy, rfl⟩ := List.mem_map.1 hx
    have := h y hy
    simp [Lit.wf, IntKind.min, IntKind.max, IntKind.signed, IntKind.bits] at this
    omega
theorem cols_rows {l : List Nat} {s n : Nat} (h : n * s ≤ l.length) : ∀ r ∈ cols l s n, r.length = s := by
  intro r hr
  obtain ⟨i, hi, rfl⟩ := List.mem_map.1 hr
  have hi : i < n := by simpa using hi
  have : (i + 1) * s ≤ n * s := Nat.mul_le_mul_right _ hi
  rw [Nat.add_mul, Nat.one_mul] at this
  rw [List.length_take, List.length_drop]; omega

theorem all_colD {M : List (List Nat)} {n p w k : Nat} (hn : M.length = n) (hk : k < n + p) : (M ++ encs M w p).getD k [] = colD M n w k := by
  have e := colD_map (p := p) (w := w) hn
  rw [← e]
  simp [List.getD, List.getElem?_range hk]

theorem RebuildAll_run (h : AHeap) (nx : Nat) (l1 : List Int) (g1 : l1.length * 1 ≤ 140737488351232) (w1 : ∀ n ∈ l1, (Lit.int .u8 n).wf = true) (a1 : Option (Nat × Nat)) (sl1 : Sl h nx a1 l1.length 1 (l1.map (AV.int .u8)))
    (x1 : Int) (_ : (Lit.int .i64 x1).wf = true) (x2 : Int) (_ : (Lit.int .i64 x2).wf = true)
    (l3 : List Int) (g3 : l3.length * 8 ≤ 140737488351232) (_ : ∀ n ∈ l3, (Lit.int .i64 n).wf = true) (a3 : Option (Nat × Nat)) (sl3 : Sl h nx a3 l3.length 1 (l3.map (AV.int .i64)))
    (l4 : List Int) (g4 : l4.length * 1 ≤ 140737488351232) (_ : ∀ n ∈ l4, (Lit.int .u8 n).wf = true) (a4 : Option (Nat × Nat)) (sl4 : Sl h nx a4 l4.length 1 (l4.map (AV.int .u8))) :
    ∃ f h' nx', callP Try.prog keepT f Y0 13 [.slice a1 l1.length false, .int .i64 x1, .int .i64 x2, .slice a3 l3.length false, .slice a4 l4.length false] h nx = some (.bool true, h', nx') := by
  obtain ⟨k, hk⟩ : ∃ k, k = 20000 + l3.length := ⟨_, rfl⟩
  refine ⟨k + 1, ?_⟩
  obtain ⟨b1, rfl, s1, z1⟩ := ofB w1
  rw [nints_len] at sl1 g1 ⊢
  have sl1 : Sl h nx a1 b1.length 1 (ints .u8 (nints b1)) := sl1
  clear w1 z1
  have p0 := Int.emod_nonneg x1 (show (12 : Int) ≠ 0 by omega)
  have p1 := Int.emod_lt_of_pos x1 (show (0 : Int) < 12 by omega)
  have q0 := Int.emod_nonneg x2 (show (3 : Int) ≠ 0 by omega)
  have q1 := Int.emod_lt_of_pos x2 (show (0 : Int) < 3 by omega)
  obtain ⟨n, hn⟩ : ∃ n : Nat, 1 + x1 % 12 = (n : Int) := ⟨(1 + x1 % 12).toNat, by omega⟩
  obtain ⟨p, hp⟩ : ∃ p : Nat, 1 + x2 % 3 = (p : Int) := ⟨(1 + x2 % 3).toNat, by omega⟩
  have hn1 : 1 ≤ n ∧ n ≤ 12 := by omega
  have hp1 : 1 ≤ p ∧ p ≤ 3 := by omega
  obtain ⟨m1, e1, y1⟩ := picked_spec (k := k) (by omega) x1 12 h (nx + 5) (by omega) (by omega)
  obtain ⟨m2, e2, y2⟩ := picked_spec (k := k) (by omega) x2 3 h (m1 + 4) (by omega) (by omega)
  have xa : Ext h nx h (m2 + 4) := ⟨by omega, fun _ _ => rfl⟩
  obtain ⟨oX, cX, h3, n3, e3, mX, x3'⟩ := cols_spec (f := k) (by omega) (l := b1) (by omega) hn1.1 (by omega) false (sl1.ext xa)
  have x3h : Ext h nx h3 n3 := xa.trans x3'
  have hsn : n * min (b1.length / n) 64 ≤ b1.length := Nat.le_trans (Nat.mul_le_mul_left _ (Nat.min_le_left _ _)) (Nat.mul_div_le _ _)
  have hs64 : min (b1.length / n) 64 ≤ 64 := Nat.min_le_right _ _
  generalize hs : min (b1.length / n) 64 = s at *
  have rX : ∀ r ∈ cols b1 s n, r.length = s := cols_rows (by omega)
  have sX : SmallM (cols b1 s n) := cols_small s1 _ _
  have lX := cols_len b1 s n
  generalize cols b1 s n = X at *
  have y3 := x3h.1
  obtain ⟨oS, cS, h4, n4, e4, mS, x4⟩ := encode_spec (f := k) (by omega) (M := X) (w := s) (by omega) (by omega) (by omega) sX cX (h := h3) (nx := n3 + 8) (a := oX) (mX.mat.ext ⟨by omega, fun _ _ => rfl⟩) p (by omega) (by omega)
  rw [lX] at e4
  have y4 := x4.1
  have mX4 : Mat h4 (n4 + 8) .u8 oX X s := mX.mat.ext ⟨by omega, fun j hj => x4.2 j (by omega)⟩
  have mS4 : Mat h4 (n4 + 8) .u8 oS (encs X s p) s := mS.mat.ext ⟨by omega, fun _ _ => rfl⟩
  rw [F13_eq, e1]
  simp only [bind_some', asI_int, asB_bool, asStr_str, asP_ptr, asSl_sl, asAgg_1, asAgg_2, asAgg_3, asAgg_4, asTup_0, asTup_2, asTup_3, asTup_4, if_true', if_false', if_not_true', if_not_false', getD_0, getD_1, getD_2, getD_3]
  rw [e2]
  simp only [bind_some', asI_int, asB_bool, asStr_str, asP_ptr, asSl_sl, asAgg_1, asAgg_2, asAgg_3, asAgg_4, asTup_0, asTup_2, asTup_3, asTup_4, if_true', if_false', if_not_true', if_not_false', getD_0, getD_1, getD_2, getD_3]
  rw [show wrapA .i64 (1 + x1 % 12) = (n : Int) from by rw [wA (by omega) (by omega), hn], show wrapA .i64 (1 + x2 % 3) = (p : Int) from by rw [wA (by omega) (by omega), hp], e3]
  simp only [bind_some', asI_int, asB_bool, asStr_str, asP_ptr, asSl_sl, asAgg_1, asAgg_2, asAgg_3, asAgg_4, asTup_0, asTup_2, asTup_3, asTup_4, if_true', if_false', if_not_true', if_not_false', getD_0, getD_1, getD_2, getD_3]
  rw [e4]
  simp only [bind_some', asI_int, asB_bool, asStr_str, asP_ptr, asSl_sl, asAgg_1, asAgg_2, asAgg_3, asAgg_4, asTup_0, asTup_2, asTup_3, asTup_4, if_true', if_false', if_not_true', if_not_false', getD_0, getD_1, getD_2, getD_3]
  rw [if_neg (by decide), if_neg (by simp), F13_J1_eq]
  clear e1 e2 e3 e4
  obtain ⟨q1', E2, q4, E5, j1, j2, j3, j4, j5, mA, xA⟩ := mat_join (id1 := n4 + 8 + 1) (id2 := n4 + 8 + 3) mX4 mS4 lX (encs_len X s p) (by omega) (by omega) (by omega) (by omega)
  rw [j1, some_bind, j2, some_bind]
  dsimp only
  rw [j3, some_bind, j4, some_bind]
  generalize (h4.puts E2.sets).puts E5.sets = H at mA xA ⊢
  rw [j5]
  have yA := xA.1
  obtain ⟨N, hN⟩ : ∃ N, N = n + p := ⟨_, rfl⟩
  rw [← hN]
  have xH : Ext h nx H (n4 + 8 + 3 + 1) := ⟨by omega, fun j hj => by rw [xA.2 j (by omega), x4.2 j (by omega), x3h.2 j hj]⟩
  have sl3' : Sl h nx a3 l3.length 1 (ints .i64 l3) := sl3
  obtain ⟨g, oL, cL, h5, n5, e5, x5, o5, c5, _⟩ := sev_spec (f := k) (l := l3) (by omega) (by omega) false (most := p) (n := N) (by omega) (by omega) (by omega) ((sl3'.ext xH).ext (nx' := n4 + 8 + 11) ⟨by omega, fun _ _ => rfl⟩)
  have y5 := x5.1
  have lA : (X ++ encs X s p).length = N := by rw [List.length_append, lX, encs_len]; omega
  rw [e5]
  simp only [bind_some', asI_int, asB_bool, asStr_str, asP_ptr, asSl_sl, asAgg_1, asAgg_2, asAgg_3, asAgg_4, asTup_0, asTup_2, asTup_3, asTup_4, if_true', if_false', if_not_true', if_not_false', getD_0, getD_1, getD_2, getD_3]
  have mA5 : Mat h5 n5 .u8 E5.a (X ++ encs X s p) s := mA.ext ⟨by omega, fun j hj => x5.2 j (by omega)⟩
  obtain ⟨P0, sP, kP⟩ := Torn.of mA5 lA (fun _ => false)
  obtain ⟨rd, c6⟩ := sP.src'
  obtain ⟨E10, f1, f2, f3, f4⟩ := copyOf (h := h5) (nx := n5) (n := N) (es := 1) (bytes := 24) (id := n5 + 1) (rd := rd) sP.1 (growOk_of (by omega) (by omega)) (by omega)
  rw [c6, some_bind, f1, some_bind, f2]
  obtain ⟨tid, tz, t0, t1, tb⟩ : ∃ tid, E10.a = some (tid, 0) ∧ n5 ≤ tid ∧ tid < n5 + 1 + 1 ∧ (h5.puts E10.sets) tid = some ⟨(List.range N).map fun k => AV.slice (P0 k).1 (P0 k).2.1 (P0 k).2.2, 1, true⟩ := by
    rcases f3.2 with ⟨_, z⟩ | z
    · omega
    · exact z
  rw [tz]
  generalize h5.puts E10.sets = H5 at f3 f4 tb ⊢
  obtain ⟨ls, hls⟩ : ∃ ls, ls = (List.range N).filter g := ⟨_, rfl⟩
  obtain ⟨t, ht⟩ : ∃ t, ls.length = t := ⟨_, rfl⟩
  have hct : cnt g N = t := by rw [← ht, hls]; rfl
  rw [← hls] at o5
  rw [hct] at c5 ⊢
  have sL : Sl h5 n5 oL t 1 (ints .i64 (nints ls)) := NRow.sl o5 ht
  have x56 : Ext h5 n5 H5 (n5 + 4) := f4.le (by omega)
  have sl4' : Sl h nx a4 l4.length 1 (ints .u8 l4) := sl4
  have xx5 : Ext h nx h5 n5 := xH.trans (x5.from (by omega))
  obtain ⟨f', P', h6, n6, e6, t6, x6, b6, k6⟩ := torn_loop (callP Try.prog keepT k) k (N := N) (by omega) ht (by omega) (fun i hi => by rw [hls] at hi; exact List.mem_range.1 (List.mem_filter.1 hi).1) (js := l4) g4 false cL E10.c (p : Int) E5.a N E5.c (P0 := P0) (tid := tid) (sl4'.ext xx5) sL t0 t k 0 P0 H5 (n5 + 4) (by omega) (by omega) (by omega) x56 tb (fun _ _ _ => rfl)
  rw [show ((0 : Nat) : Int) = 0 from rfl] at e6
  rw [e6, F13_L2_eq, if_neg (by simp)]
  have y6 := x6.1
  have T6 : Torn h6 (n6 + 13) (some (tid, 0)) N g s (colD X n s) := by
    refine ⟨P', Sl.ofBlk b6 (by simp) (by omega), fun j hj hg => ?_⟩
    have hm : j ∉ ls := fun hm => by rw [hls] at hm; have := (List.mem_filter.1 hm).2; rw [hg] at this; cases this
    rw [k6 j hj hm]
    obtain ⟨z1, z2, z3⟩ := kP j hj rfl
    dsimp only at z2 z3
    rw [all_colD lX (by omega)] at z2 z3
    exact ⟨z1, z2, z3.ext (x6.le (by omega))⟩
  have ht' : ((List.range N).filter g).length = t := by rw [← hls]; exact ht
  obtain ⟨ob, obc, h7, n7, e7, x7, m7⟩ := (rebuild_spec (f := k) (by omega) lX hn1.1 hn1.2 hp1.1 hp1.2 hN rX sX (by omega) ht' E10.c cL T6 (by rw [← hls]; exact sL.ext (x6.le (by omega)))).1 (by omega)
  rw [e7]
  simp only [bind_some', asI_int, asB_bool, asStr_str, asP_ptr, asSl_sl, asAgg_1, asAgg_2, asAgg_3, asAgg_4, asTup_0, asTup_2, asTup_3, asTup_4, if_true', if_false', if_not_true', if_not_false', getD_0, getD_1, getD_2, getD_3]
  have y7 := x7.1
  rw [if_pos (by simp)]
  obtain ⟨n8, l8, e8⟩ := sl_spec (f := k) (by omega) lA (by omega) (by omega) obc E5.c m7 (mA5.ext (h' := h7) (nx' := n7) ⟨by omega, fun j hj => by rw [x7.2 j (by omega), x6.2 j hj]⟩) (n7 + 8)
  rw [e8]
  simp only [bind_some', asI_int, asB_bool, asStr_str, asP_ptr, asSl_sl, asAgg_1, asAgg_2, asAgg_3, asAgg_4, asTup_0, asTup_2, asTup_3, asTup_4, if_true', if_false', if_not_true', if_not_false', getD_0, getD_1, getD_2, getD_3]
  exact ⟨_, _, rfl⟩

end Go.Proofs.Ytdfopcgfhjijgaa.T
