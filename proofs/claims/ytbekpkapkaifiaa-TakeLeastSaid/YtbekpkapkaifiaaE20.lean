/- TakeLeast. -/
import Derived.Test.YtbekpkapkaifiaaE19
set_option linter.unusedVariables false
set_option linter.unusedSimpArgs false
namespace Go.Proofs.Ytbekpkapkaifiaa.T
open Go Go.RowKit Go.Proofs

theorem least_end {Y : YldF} {f lf : Nat} {h : AHeap} {n0 nx : Nat} (hn : n0 ≤ nx) {a : Option (Nat × Nat)} {c : Bool} {outs : List (Int × Int × Int)} {k : Nat} (hk : outs.length = k + 1) (hk2 : k ≤ 1000) (w : Rows AnQ h n0 none' a 3 outs) {q : Option Nat} {x : Int × Int × Int} (hx : outs[k]? = some x) (h1 : q = none → x.1 = 8 ∧ x.2.1 = 0) (h2 : ∀ r, q = some r → x.1 = 0 ∧ x.2.1 = (r : Int)) :
    OkT (F13_J1 (callP Try.prog keepT f) Y lf (firstA q).1 (firstA q).2 a outs.length c h nx) := by
  obtain ⟨r, pr, _, rd, _⟩ := w.read (R := Res) hx
  simp only [AnQ] at pr
  subst pr
  cases q with
  | none =>
    obtain ⟨z1, z2⟩ := h1 rfl
    change OkT (F13_J1 (callP Try.prog keepT f) Y lf 0 6 a outs.length c h nx)
    rw [F13_J1_eq, show wrapA .i64 (((outs.length : Nat) : Int) - 1) = (k : Int) by rw [wA (by omega) (by omega)]; omega, rd]
    simp only [bind_some', asI_int, asB_bool, asStr_str, asP_ptr, asSl_sl, asAgg_1, asAgg_2, asAgg_3, asAgg_4, asTup_0, asTup_2, asTup_3, asTup_4, if_true', if_false', if_not_true', if_not_false', getD_0, getD_1, getD_2, getD_3]
    rw [st_all (put_same h (nx + 6) _) (by simp) (by simp) (by simp [allOne, AV.one]), put_put]
    have e6 := put_same h (nx + 6) (some ⟨[.int .i64 x.1, .int .i64 x.2.1, .int .i64 x.2.2], 3, true⟩)
    generalize h.put (nx + 6) (some ⟨[.int .i64 x.1, .int .i64 x.2.1, .int .i64 x.2.2], 3, true⟩) = h6 at *
    rw [if_pos (by decide), ld_at e6 (v := .int .i64 x.1) rfl]
    simp only [bind_some', asI_int, asB_bool, asStr_str, asP_ptr, asSl_sl, asAgg_1, asAgg_2, asAgg_3, asAgg_4, asTup_0, asTup_2, asTup_3, asTup_4, if_true', if_false', if_not_true', if_not_false', getD_0, getD_1, getD_2, getD_3]
    rw [if_pos (by simp [z1]), ld_at e6 (v := .int .i64 x.2.1) rfl]
    simp only [bind_some', asI_int, asB_bool, asStr_str, asP_ptr, asSl_sl, asAgg_1, asAgg_2, asAgg_3, asAgg_4, asTup_0, asTup_2, asTup_3, asTup_4, if_true', if_false', if_not_true', if_not_false', getD_0, getD_1, getD_2, getD_3]
    exact ⟨_, _, by rw [z2]; rfl⟩
  | some r =>
    obtain ⟨z1, z2⟩ := h2 r rfl
    change OkT (F13_J1 (callP Try.prog keepT f) Y lf (r : Int) 0 a outs.length c h nx)
    rw [F13_J1_eq, show wrapA .i64 (((outs.length : Nat) : Int) - 1) = (k : Int) by rw [wA (by omega) (by omega)]; omega, rd]
    simp only [bind_some', asI_int, asB_bool, asStr_str, asP_ptr, asSl_sl, asAgg_1, asAgg_2, asAgg_3, asAgg_4, asTup_0, asTup_2, asTup_3, asTup_4, if_true', if_false', if_not_true', if_not_false', getD_0, getD_1, getD_2, getD_3]
    rw [st_all (put_same h (nx + 6) _) (by simp) (by simp) (by simp [allOne, AV.one]), put_put]
    have e6 := put_same h (nx + 6) (some ⟨[.int .i64 x.1, .int .i64 x.2.1, .int .i64 x.2.2], 3, true⟩)
    generalize h.put (nx + 6) (some ⟨[.int .i64 x.1, .int .i64 x.2.1, .int .i64 x.2.2], 3, true⟩) = h6 at *
    rw [if_neg (by decide), if_pos (by decide), ld_at e6 (v := .int .i64 x.1) rfl]
    simp only [bind_some', asI_int, asB_bool, asStr_str, asP_ptr, asSl_sl, asAgg_1, asAgg_2, asAgg_3, asAgg_4, asTup_0, asTup_2, asTup_3, asTup_4, if_true', if_false', if_not_true', if_not_false', getD_0, getD_1, getD_2, getD_3]
    rw [if_pos (by simp [z1]), ld_at e6 (v := .int .i64 x.2.1) rfl]
    simp only [bind_some', asI_int, asB_bool, asStr_str, asP_ptr, asSl_sl, asAgg_1, asAgg_2, asAgg_3, asAgg_4, asTup_0, asTup_2, asTup_3, asTup_4, if_true', if_false', if_not_true', if_not_false', getD_0, getD_1, getD_2, getD_3]
    refine ⟨h6, nx + 24, ?_⟩
    rw [z2]; simp

theorem TakeLeast_run (h : AHeap) (nx : Nat) (a : Option (Nat × Nat)) (cells : List (List AV)) (hB : cells.length * 24 ≤ 140737488351232) (ht : ∀ c ∈ cells, Ty h nx ActSh3 c) (sl : Sl h nx a cells.length ActSh3.n cells.flatten) (x : Int) (_hx : (Lit.int .i64 x).wf = true) (x2 : Int) (_hx2 : (Lit.int .i64 x2).wf = true) :
    ∃ f h' nx', callP Try.prog keepT f Y0 13 [.slice a cells.length false, .int .i64 x, .int .i64 x2] h nx = some (.bool true, h', nx') := by
  obtain ⟨l, rfl⟩ := acts3_of ht
  rw [List.length_map] at hB sl ⊢
  refine ⟨6001, ?_⟩
  obtain ⟨P1, P2⟩ := pickL_in (x := x) (n := 100) (by omega)
  rw [F13_eq, picked_spec (f := 6000) (by omega) Y0 x 100 (by omega) (by omega)]
  simp only [bind_some', asI_int, asB_bool, asStr_str, asP_ptr, asSl_sl, asAgg_1, asAgg_2, asAgg_3, asAgg_4, asTup_0, asTup_2, asTup_3, asTup_4, if_true', if_false', if_not_true', if_not_false', getD_0, getD_1, getD_2, getD_3]
  obtain ⟨N, hN⟩ : ∃ N : Nat, 1 + pickL x 100 = (N : Int) := ⟨(1 + pickL x 100).toNat, by omega⟩
  rw [show wrapA .i64 (1 + pickL x 100) = (N : Int) by rw [wA (by omega) (by omega)]; exact hN]
  have hN1 : 1 ≤ N ∧ N ≤ 100 := by omega
  clear hN P1 P2
  obtain ⟨hN1, hN2⟩ := hN1
  have x1 : Ext h nx h (nx + 5 + pickK x 100 + 12) := ⟨by omega, fun _ _ => rfl⟩
  obtain ⟨ds, a1, c1, a2, c2, a3, c3, h1, n1, g1, g2, g3, g4, g5, g6, g7⟩ := deeds_spec (f := 6000) (N := N) (by omega) (by omega) (by omega) Y0 (m := 40) (by omega) false (sl.ext x1) (by omega)
  change callP Try.prog keepT 6000 Y0 16 [.slice a l.length false, .int .i64 40, .int .i64 (N : Int)] h _ = _ at g1
  rw [g1]
  simp only [bind_some', asI_int, asB_bool, asStr_str, asP_ptr, asSl_sl, asAgg_1, asAgg_2, asAgg_3, asAgg_4, asTup_0, asTup_2, asTup_3, asTup_4, if_true', if_false', if_not_true', if_not_false', getD_0, getD_1, getD_2, getD_3]
  have sok : Sok N (stP (freshS N) ds) := stP_ok (freshS_ok N)
  have lok : LogOk N (stP (freshS N) ds) := stP_log (freshS_ok N) (freshS_log N)
  have llen : (stP (freshS N) ds).log.length ≤ 4096 := by
    have h1 := stP_loglen (ds := ds) (freshS_ok N)
    have h2 := Nat.mul_le_mul g6 (show N + 2 ≤ 102 by omega)
    rw [show (freshS N).log.length = 0 from rfl] at h1
    omega
  obtain ⟨P3, P4⟩ := pickL_in (x := x2) (n := (N : Int)) (by omega)
  rw [picked_spec (f := 6000) (by omega) Y0 x2 (N : Int) (by omega) (by omega)]
  simp only [bind_some', asI_int, asB_bool, asStr_str, asP_ptr, asSl_sl, asAgg_1, asAgg_2, asAgg_3, asAgg_4, asTup_0, asTup_2, asTup_3, asTup_4, if_true', if_false', if_not_true', if_not_false', getD_0, getD_1, getD_2, getD_3]
  obtain ⟨w, hw⟩ : ∃ w : Nat, 1 + pickL x2 (N : Int) = (w : Int) := ⟨(1 + pickL x2 (N : Int)).toNat, by omega⟩
  rw [show wrapA .i64 (1 + pickL x2 (N : Int)) = (w : Int) by rw [wA (by omega) (by omega)]; exact hw]
  have hw1 : 1 ≤ w ∧ w ≤ N := by omega
  clear hw P3 P4
  obtain ⟨hw1, hw2⟩ := hw1
  obtain ⟨n9, hn9⟩ : ∃ n9, n9 = n1 + 7 + pickK x2 (N : Int) := ⟨_, rfl⟩
  rw [← hn9]
  have l9 : n1 + 7 ≤ n9 := by omega
  clear hn9
  -- the last answer
  have houts : (runP (freshS N) (ds ++ [⟨1, 0, (w : Int)⟩]))[ds.length]? = some ((takeM (stP (freshS N) ds) w (findL w (stP (freshS N) ds).u 0 0)).2.1, (takeM (stP (freshS N) ds) w (findL w (stP (freshS N) ds).u 0 0)).2.2, (takeM (stP (freshS N) ds) w (findL w (stP (freshS N) ds).u 0 0)).1.free) := by
    rw [runP_app, List.getElem?_append_right (by rw [runP_len]; exact Nat.le_refl _), runP_len, Nat.sub_self]
    have : doS (stP (freshS N) ds) ⟨1, 0, (w : Int)⟩ = takeM (stP (freshS N) ds) w (findL w (stP (freshS N) ds).u 0 0) := by
      unfold doS
      rw [if_pos rfl]
      exact takeS_eq hw1 (by rw [sok.1]; exact hw2)
    simp only [runP, this]; rfl
  have hfind := find_first hw1 (stP (freshS N) ds).u 0 0 (by omega) (Nat.le_refl _)
  rw [if_pos rfl, ← runs_bit] at hfind
  obtain ⟨s1, s2, s3⟩ := sok
  unfold LogOk at lok
  have hR : ((stP (freshS N) ds).u.map bit).length = N := by rw [List.length_map]; exact s1
  have hmay := runs_may (fun x => x == 0) (R := (stP (freshS N) ds).u.map bit) (by omega)
  have h200 := hmay.2.2
  have hq1 : firstL w (runsG (fun x => x == 0) ((stP (freshS N) ds).u.map bit) 0 none) = none → (takeM (stP (freshS N) ds) w (findL w (stP (freshS N) ds).u 0 0)).2.1 = 8 ∧ (takeM (stP (freshS N) ds) w (findL w (stP (freshS N) ds).u 0 0)).2.2 = 0 := fun q => by
    rw [hfind, q]; exact ⟨rfl, rfl⟩
  have hq2 : ∀ r, firstL w (runsG (fun x => x == 0) ((stP (freshS N) ds).u.map bit) 0 none) = some r → (takeM (stP (freshS N) ds) w (findL w (stP (freshS N) ds).u 0 0)).2.1 = 0 ∧ (takeM (stP (freshS N) ds) w (findL w (stP (freshS N) ds).u 0 0)).2.2 = (r : Int) := fun r q => by
    rw [hfind, q]
    show (0 : Int) = 0 ∧ ((r + w : Nat) : Int) - (w : Int) = (r : Int)
    exact ⟨rfl, by omega⟩
  have hol := runP_len (freshS N) (ds ++ [⟨1, 0, (w : Int)⟩])
  generalize takeM (stP (freshS N) ds) w (findL w (stP (freshS N) ds).u 0 0) = tk at *
  generalize hs : stP (freshS N) ds = s at *
  generalize s.u.map bit = R at *
  generalize hqq : firstL w (runsG (fun x => x == 0) R 0 none) = q at *
  -- the replay
  have x9 : Ext h1 n1 h1 n9 := ⟨by omega, fun _ _ => rfl⟩
  obtain ⟨rows, rd, e10, p1, p2, p3, p4, p5, _, _⟩ := copy_rows (g5.go (x9.fr none') (fun _ _ q => q) (fun _ _ q => q) (fun _ _ q => q) : Rows RecR h1 n9 none' a3 3 s.log) (bytes := 24) (id := n9 + 2) (by omega) (by omega) (by omega)
  rw [p1]
  simp only [bind_some', asI_int, asB_bool, asStr_str, asP_ptr, asSl_sl, asAgg_1, asAgg_2, asAgg_3, asAgg_4, asTup_0, asTup_2, asTup_3, asTup_4, if_true', if_false', if_not_true', if_not_false', getD_0, getD_1, getD_2, getD_3]
  rw [p2]
  simp only [bind_some', asI_int, asB_bool, asStr_str, asP_ptr, asSl_sl, asAgg_1, asAgg_2, asAgg_3, asAgg_4, asTup_0, asTup_2, asTup_3, asTup_4, if_true', if_false', if_not_true', if_not_false', getD_0, getD_1, getD_2, getD_3]
  rw [p3]
  have l4 := p4.1
  obtain ⟨a12, c12, h12, n12, q1, q2, q3⟩ := replay_spec (f := 6000) Y0 (N := N) (by omega) (by omega) (by omega) e10.c (n0 := n9 + 9) ((p5.rows (A := none') (fun _ _ q => q)).go (D := none') ⟨by omega, fun _ _ _ => rfl⟩ (fun _ _ q => q) (fun _ _ q => q) (fun _ _ q => q)) llen hR lok h200
  rw [q1]
  simp only [bind_some', asI_int, asB_bool, asStr_str, asP_ptr, asSl_sl, asAgg_1, asAgg_2, asAgg_3, asAgg_4, asTup_0, asTup_2, asTup_3, asTup_4, if_true', if_false', if_not_true', if_not_false', getD_0, getD_1, getD_2, getD_3]
  have l12 := q2.1
  have x12 : Ext h1 n1 h12 n12 := ⟨by omega, fun i hi => (q2.2 i (by omega)).trans (p4.2 i (by omega))⟩
  -- First
  obtain ⟨h14, n14, k1, k2⟩ := first_spec (f := 6000) (by omega) Y0 c12 q3 hmay hw1 (by omega) (n1 := n12 + 8) (by omega)
  rw [hqq] at k1
  rw [k1]
  simp only [bind_some', asI_int, asB_bool, asStr_str, asP_ptr, asSl_sl, asAgg_1, asAgg_2, asAgg_3, asAgg_4, asTup_0, asTup_2, asTup_3, asTup_4, if_true', if_false', if_not_true', if_not_false', getD_0, getD_1, getD_2, getD_3]
  have l14 := k2.1
  have x14 : Ext h1 n1 h14 n14 := ⟨by omega, fun i hi => (k2.2 i (by omega)).trans (x12.2 i hi)⟩
  -- one take more
  obtain ⟨rows', rd', e23, m1, m2, m3, m4, m5, m6, _⟩ := copy_rows (g3.go (x14.fr none') (fun _ _ q => q) (fun _ _ q => q) (fun _ _ q => q) : Rows DdR h14 n14 none' a1 3 ds) (bytes := 24) (id := n14 + 1) (by omega) (by omega) (by omega)
  rw [m1]
  simp only [bind_some', asI_int, asB_bool, asStr_str, asP_ptr, asSl_sl, asAgg_1, asAgg_2, asAgg_3, asAgg_4, asTup_0, asTup_2, asTup_3, asTup_4, if_true', if_false', if_not_true', if_not_false', getD_0, getD_1, getD_2, getD_3]
  rw [m2]
  simp only [bind_some', asI_int, asB_bool, asStr_str, asP_ptr, asSl_sl, asAgg_1, asAgg_2, asAgg_3, asAgg_4, asTup_0, asTup_2, asTup_3, asTup_4, if_true', if_false', if_not_true', if_not_false', getD_0, getD_1, getD_2, getD_3]
  have l23 := m4.1
  generalize hh24 : h14.puts e23.sets = h24 at *
  obtain ⟨e27, v1, v2, v3, v4, v5, v6, _⟩ := m5.push e23.c (bytes := 24) (id := n14 + 4) (id2 := n14 + 5) (x := ⟨1, 0, (w : Int)⟩) (r := [.int .i64 1, .int .i64 0, .int .i64 (w : Int)]) rfl rfl (growOk_of (by omega) (by omega)) (by omega) (by omega)
  rw [v1]
  simp only [bind_some', asI_int, asB_bool, asStr_str, asP_ptr, asSl_sl, asAgg_1, asAgg_2, asAgg_3, asAgg_4, asTup_0, asTup_2, asTup_3, asTup_4, if_true', if_false', if_not_true', if_not_false', getD_0, getD_1, getD_2, getD_3]
  rw [m3, v2]
  simp only [bind_some', asI_int, asB_bool, asStr_str, asP_ptr, asSl_sl, asAgg_1, asAgg_2, asAgg_3, asAgg_4, asTup_0, asTup_2, asTup_3, asTup_4, if_true', if_false', if_not_true', if_not_false', getD_0, getD_1, getD_2, getD_3]
  have x28 : Ext h14 n14 ((h24.put (n14 + 4) (some ⟨[.int .i64 1, .int .i64 0, .int .i64 (w : Int)], 3, true⟩)).puts e27.sets) (n14 + 17) := ⟨by omega, fun i hi => (v6.2 i (by omega) (fun z => by have := m6 i z; omega)).trans (m4.2 i hi)⟩
  rw [v4, show ds.length + 1 = (ds ++ [(⟨1, 0, (w : Int)⟩ : Deed)]).length by simp]
  generalize (h24.put (n14 + 4) (some ⟨[.int .i64 1, .int .i64 0, .int .i64 (w : Int)], 3, true⟩)).puts e27.sets = h28 at *
  obtain ⟨a30, c30, la, lc, h30, n30, z1, z2, z3, z4⟩ := playS_spec (f := 6000) (N := N) (by omega) (by omega) (by omega) Y0 e27.c (n0 := n14 + 17) ((v5.rows (A := none') (fun _ _ q => q)).go (D := none') ⟨by omega, fun _ _ _ => rfl⟩ (fun _ _ q => q) (fun _ _ q => q) (fun _ _ q => q)) (by simp; omega)
  rw [z1]
  simp only [bind_some', asI_int, asB_bool, asStr_str, asP_ptr, asSl_sl, asAgg_1, asAgg_2, asAgg_3, asAgg_4, asTup_0, asTup_2, asTup_3, asTup_4, if_true', if_false', if_not_true', if_not_false', getD_0, getD_1, getD_2, getD_3]
  have l30 := z2.1
  rw [if_neg (by decide), if_neg (by decide), if_neg (by simp)]
  have x30 : Ext h12 n12 h30 n30 := ⟨by omega, fun i hi => by rw [z2.2 i (by omega), x28.2 i (by omega), k2.2 i (by omega)]⟩
  obtain ⟨h34, n34, w1, w2⟩ := may_spec (f := 6000) (by omega) Y0 c12 (q3.go (x30.fr none') (fun _ _ q => q) (fun _ _ q => q) (fun _ _ q => q) : Rows RgR h30 n30 none' a12 2 (runsG (fun x => x == 0) R 0 none)) hmay (n1 := n30 + 18) (by omega)
  rw [w1]
  simp only [bind_some', asI_int, asB_bool, asStr_str, asP_ptr, asSl_sl, asAgg_1, asAgg_2, asAgg_3, asAgg_4, asTup_0, asTup_2, asTup_3, asTup_4, if_true', if_false', if_not_true', if_not_false', getD_0, getD_1, getD_2, getD_3]
  have l34 := w2.1
  have x34 : Ext h30 n30 h34 n34 := ⟨by omega, fun i hi => w2.2 i (by omega)⟩
  have hfin := least_end (Y := Y0) (f := 6000) (lf := 6000) (nx := n34) (Nat.le_refl _) (c := c30) (k := ds.length) (by rw [hol]; simp) (by omega) (z3.go (x34.fr none') (fun _ _ q => q) (fun _ _ q => q) (fun _ _ q => q) : Rows AnQ h34 n34 none' a30 3 _) (q := q) houts hq1 hq2
  rw [hol] at hfin
  exact hfin

end Go.Proofs.Ytbekpkapkaifiaa.T
