/- ReplaySame. -/
import Derived.Test.YtbekpkapkaifiaaE17
set_option linter.unusedVariables false
set_option linter.unusedSimpArgs false
namespace Go.Proofs.Ytbekpkapkaifiaa.T
open Go Go.RowKit Go.Proofs

theorem sameR_spec {f : Nat} (hf : 1010 ≤ f) (Y : YldF) {h : AHeap} {n0 : Nat} {xa ya : Option (Nat × Nat)} (xc yc : Bool) {rs : List (Nat × Nat)} (hx : Rows RgR h n0 none' xa 2 rs) (hy : Rows RgR h n0 none' ya 2 rs) (hl : rs.length ≤ 1000) (nx : Nat) :
    ∃ m, nx ≤ m ∧ callP Try.prog keepT f Y 34 [.slice xa rs.length xc, .slice ya rs.length yc] h nx = some (.bool true, h, m) := by
  obtain ⟨f, rfl⟩ : ∃ m, f = m + 1 := ⟨f - 1, by omega⟩
  rw [F34_eq, if_neg (by simp)]
  obtain ⟨m, l, q⟩ := sameR_loop (f := f) (Y := Y) (xc := xc) (yc := yc) hx hy hl rs.length f 0 (nx + 7) (by omega) (by omega)
  exact ⟨m, by omega, q⟩

theorem same_end {f : Nat} (hf : 2000 ≤ f) {Y : YldF} {h : AHeap} {n0 N : Nat} (hN : N ≤ 200) {xa ya ca : Option (Nat × Nat)} {xc yc cc : Bool} {rs : List (Nat × Nat)} (hx : Rows RgR h n0 none' xa 2 rs) (hy : Rows RgR h n0 none' ya 2 rs) (ok : MayOk rs) {fr : Int} (hfr : fr = (szL rs : Int)) {cn : Nat} (hc : 2 * cn ≤ N + 1) {lf : Nat} {nx : Nat} (hn : n0 ≤ nx) :
    OkT (F14_J1 (callP Try.prog keepT f) Y lf (N : Int) xa rs.length xc 0 ca cn cc 0 ya rs.length yc 0 fr h nx) := by
  have ol := ok.2.2
  rw [F14_J1_eq, if_pos (by decide), if_pos (by decide), if_pos (by decide)]
  obtain ⟨h1, m1, g1, g2⟩ := may_spec (f := f) (by omega) Y xc hx ok (n1 := nx + 34) (by omega)
  rw [g1]
  simp only [bind_some', asI_int, asB_bool, asStr_str, asP_ptr, asSl_sl, asAgg_1, asAgg_2, asAgg_3, asAgg_4, asTup_0, asTup_2, asTup_3, asTup_4, if_true', if_false', if_not_true', if_not_false', getD_0, getD_1, getD_2, getD_3]
  have l1 := g2.1
  rw [if_pos trivial]
  have x1 : Ext h n0 h1 m1 := ⟨by omega, fun i hi => g2.2 i (by omega)⟩
  obtain ⟨h2, m2, k1, k2⟩ := size_spec (f := f) (by omega) Y xc (hx.go (x1.fr none') (fun _ _ q => q) (fun _ _ q => q) (fun _ _ q => q)) ok (Nat.le_refl _)
  rw [k1]
  simp only [bind_some', asI_int, asB_bool, asStr_str, asP_ptr, asSl_sl, asAgg_1, asAgg_2, asAgg_3, asAgg_4, asTup_0, asTup_2, asTup_3, asTup_4, if_true', if_false', if_not_true', if_not_false', getD_0, getD_1, getD_2, getD_3]
  have l2 := k2.1
  have x2 : Ext h n0 h2 m2 := ⟨by omega, fun i hi => (k2.2 i (by omega)).trans (x1.2 i hi)⟩
  rw [if_pos (by rw [hfr]; simp)]
  obtain ⟨m3, l3, q1⟩ := sameR_spec (f := f) (by omega) Y xc yc (hx.go (x2.fr none') (fun _ _ q => q) (fun _ _ q => q) (fun _ _ q => q)) (hy.go (x2.fr none') (fun _ _ q => q) (fun _ _ q => q) (fun _ _ q => q)) (by omega) m2
  rw [q1]
  simp only [bind_some', asI_int, asB_bool, asStr_str, asP_ptr, asSl_sl, asAgg_1, asAgg_2, asAgg_3, asAgg_4, asTup_0, asTup_2, asTup_3, asTup_4, if_true', if_false', if_not_true', if_not_false', getD_0, getD_1, getD_2, getD_3]
  rw [if_pos trivial, show wrapA .i64 (2 * ((cn : Nat) : Int)) = 2 * (cn : Int) from wA (by omega) (by omega), show wrapA .i64 ((N : Int) + 1) = (N : Int) + 1 from wA (by omega) (by omega)]
  exact ⟨_, _, by rw [show decide (2 * (cn : Int) ≤ (N : Int) + 1) = true from decide_eq_true (by omega)]⟩

theorem ReplaySame_run (h : AHeap) (nx : Nat) (a : Option (Nat × Nat)) (cells : List (List AV)) (hB : cells.length * 24 ≤ 140737488351232) (ht : ∀ c ∈ cells, Ty h nx ActSh3 c) (sl : Sl h nx a cells.length ActSh3.n cells.flatten) (x : Int) (_hx : (Lit.int .i64 x).wf = true) :
    ∃ f h' nx', callP Try.prog keepT f Y0 14 [.slice a cells.length false, .int .i64 x] h nx = some (.bool true, h', nx') := by
  obtain ⟨l, rfl⟩ := acts3_of ht
  rw [List.length_map] at hB sl ⊢
  refine ⟨6001, ?_⟩
  obtain ⟨P1, P2⟩ := pickL_in (x := x) (n := 100) (by omega)
  rw [F14_eq, picked_spec (f := 6000) (by omega) Y0 x 100 (by omega) (by omega)]
  simp only [bind_some', asI_int, asB_bool, asStr_str, asP_ptr, asSl_sl, asAgg_1, asAgg_2, asAgg_3, asAgg_4, asTup_0, asTup_2, asTup_3, asTup_4, if_true', if_false', if_not_true', if_not_false', getD_0, getD_1, getD_2, getD_3]
  obtain ⟨N, hN⟩ : ∃ N : Nat, 1 + pickL x 100 = (N : Int) := ⟨(1 + pickL x 100).toNat, by omega⟩
  rw [show wrapA .i64 (1 + pickL x 100) = (N : Int) by rw [wA (by omega) (by omega)]; exact hN]
  have hN1 : 1 ≤ N ∧ N ≤ 100 := by omega
  clear hN P1 P2
  obtain ⟨hN1, hN2⟩ := hN1
  have x1 : Ext h nx h (nx + 5 + pickK x 100 + 12) := ⟨by omega, fun _ _ => rfl⟩
  obtain ⟨ds, a1, c1, a2, c2, a3, c3, h1, n1, g1, g2, g3, g4, g5, g6, g7⟩ := deeds_spec (f := 6000) (N := N) (by omega) (by omega) (by omega) Y0 (m := 60) (by omega) false (sl.ext x1) (by omega)
  change callP Try.prog keepT 6000 Y0 16 [.slice a l.length false, .int .i64 60, .int .i64 (N : Int)] h _ = _ at g1
  rw [g1]
  simp only [bind_some', asI_int, asB_bool, asStr_str, asP_ptr, asSl_sl, asAgg_1, asAgg_2, asAgg_3, asAgg_4, asTup_0, asTup_2, asTup_3, asTup_4, if_true', if_false', if_not_true', if_not_false', getD_0, getD_1, getD_2, getD_3]
  have sok : Sok N (stP (freshS N) ds) := stP_ok (freshS_ok N)
  have lok : LogOk N (stP (freshS N) ds) := stP_log (freshS_ok N) (freshS_log N)
  have llen : (stP (freshS N) ds).log.length ≤ 4096 := by
    have h1 := stP_loglen (ds := ds) (freshS_ok N)
    have h2 := Nat.mul_le_mul g6 (show N + 2 ≤ 102 by omega)
    rw [show (freshS N).log.length = 0 from rfl] at h1
    omega
  have hlast : (if 0 < ds.length then ∃ y z, (runP (freshS N) ds)[ds.length - 1]? = some (y, z, (stP (freshS N) ds).free) else (N : Int) = (stP (freshS N) ds).free) := by
    rcases List.eq_nil_or_concat ds with rfl | ⟨ini, y, rfl⟩
    · simp [stP, freshS]
    · rw [if_pos (by simp)]
      refine ⟨(doS (stP (freshS N) ini) y).2.1, (doS (stP (freshS N) ini) y).2.2, ?_⟩
      rw [List.concat_eq_append, runP_app, stP_app, List.getElem?_append_right (by rw [runP_len]; simp), runP_len]
      simp [runP, stP]
  have hol := runP_len (freshS N) ds
  generalize stP (freshS N) ds = s at *
  generalize runP (freshS N) ds = outs at *
  obtain ⟨s1, s2, s3⟩ := sok
  unfold LogOk at lok
  have hR : (s.u.map bit).length = N := by rw [List.length_map]; exact s1
  have hb01 : ∀ z ∈ s.u.map bit, z = 0 ∨ z = 1 := fun z hz => by
    obtain ⟨w, _, rfl⟩ := List.mem_map.1 hz
    unfold bit; split
    · exact .inl rfl
    · exact .inr rfl
  have hszz : szL (runsG (fun x => x == 0) (s.u.map bit) 0 none) = zc s.u := by
    rw [sz_runs _ 0 none (fun s e => by cases e), zc_bit]; simp
  have hcon := con_replay (s.u.map bit) [] 0 hb01
  simp only [List.length_nil, Nat.zero_add, if_true, List.replicate_zero, List.nil_append, hR] at hcon
  have hcl : 2 * (conL (runsG (fun x => x == 1) (s.u.map bit) 0 none)).length ≤ N + 1 := by
    have := runsG_half (fun x => x == 1) (s.u.map bit) 0 none
    rw [hR] at this
    simpa [conL] using this
  have hmay := runs_may (fun x => x == 0) (R := s.u.map bit) (by omega)
  have h200 := hmay.2.2
  generalize s.u.map bit = R at *
  -- the first replay
  obtain ⟨rows, rd, e10, p1, p2, p3, p4, p5, _, _⟩ := copy_rows g5 (bytes := 24) (id := n1 + 4) (by omega) (by omega) (by omega)
  rw [p1]
  simp only [bind_some', asI_int, asB_bool, asStr_str, asP_ptr, asSl_sl, asAgg_1, asAgg_2, asAgg_3, asAgg_4, asTup_0, asTup_2, asTup_3, asTup_4, if_true', if_false', if_not_true', if_not_false', getD_0, getD_1, getD_2, getD_3]
  rw [p2]
  simp only [bind_some', asI_int, asB_bool, asStr_str, asP_ptr, asSl_sl, asAgg_1, asAgg_2, asAgg_3, asAgg_4, asTup_0, asTup_2, asTup_3, asTup_4, if_true', if_false', if_not_true', if_not_false', getD_0, getD_1, getD_2, getD_3]
  rw [p3]
  have l4 := p4.1
  have l0 := g2.1
  obtain ⟨a12, c12, h12, n12, q1, q2, q3⟩ := replay_spec (f := 6000) Y0 (N := N) (by omega) (by omega) (by omega) e10.c (n0 := n1 + 11) ((p5.rows (A := none') (fun _ _ q => q)).go (D := none') ⟨by omega, fun _ _ _ => rfl⟩ (fun _ _ q => q) (fun _ _ q => q) (fun _ _ q => q)) llen hR lok h200
  rw [q1]
  simp only [bind_some', asI_int, asB_bool, asStr_str, asP_ptr, asSl_sl, asAgg_1, asAgg_2, asAgg_3, asAgg_4, asTup_0, asTup_2, asTup_3, asTup_4, if_true', if_false', if_not_true', if_not_false', getD_0, getD_1, getD_2, getD_3]
  have l12 := q2.1
  have x12 : Ext h1 n1 h12 n12 := ⟨by omega, fun i hi => (q2.2 i (by omega)).trans (p4.2 i hi)⟩
  -- the condensed log
  obtain ⟨rows', rd', e17, p1', p2', p3', p4', p5', _, _⟩ := copy_rows (g5.go (x12.fr none') (fun _ _ q => q) (fun _ _ q => q) (fun _ _ q => q) : Rows RecR h12 n12 none' a3 3 s.log) (bytes := 24) (id := n12 + 2) (by omega) (by omega) (by omega)
  rw [p1']
  simp only [bind_some', asI_int, asB_bool, asStr_str, asP_ptr, asSl_sl, asAgg_1, asAgg_2, asAgg_3, asAgg_4, asTup_0, asTup_2, asTup_3, asTup_4, if_true', if_false', if_not_true', if_not_false', getD_0, getD_1, getD_2, getD_3]
  rw [p2']
  simp only [bind_some', asI_int, asB_bool, asStr_str, asP_ptr, asSl_sl, asAgg_1, asAgg_2, asAgg_3, asAgg_4, asTup_0, asTup_2, asTup_3, asTup_4, if_true', if_false', if_not_true', if_not_false', getD_0, getD_1, getD_2, getD_3]
  rw [p3']
  have l17 := p4'.1
  obtain ⟨a19, c19, h19, n19, k1, k2, k3⟩ := condense_spec (f := 6000) Y0 (N := N) (by omega) (by omega) (by omega) e17.c (n0 := n12 + 9) ((p5'.rows (A := none') (fun _ _ q => q)).go (D := none') ⟨by omega, fun _ _ _ => rfl⟩ (fun _ _ q => q) (fun _ _ q => q) (fun _ _ q => q)) llen hR lok
  rw [k1]
  simp only [bind_some', asI_int, asB_bool, asStr_str, asP_ptr, asSl_sl, asAgg_1, asAgg_2, asAgg_3, asAgg_4, asTup_0, asTup_2, asTup_3, asTup_4, if_true', if_false', if_not_true', if_not_false', getD_0, getD_1, getD_2, getD_3]
  have l19 := k2.1
  have x19 : Ext h12 n12 h19 n19 := ⟨by omega, fun i hi => (k2.2 i (by omega)).trans (p4'.2 i hi)⟩
  -- its replay
  obtain ⟨a23, c23, h23, n23, m1, m2, m3⟩ := replay_spec (f := 6000) Y0 (N := N) (by omega) (by omega) (by omega) c19 (n0 := n19 + 8) (k3.go (D := none') ⟨by omega, fun _ _ _ => rfl⟩ (fun _ _ q => q) (fun _ _ q => q) (fun _ _ q => q)) (by omega) hR hcon h200
  rw [m1]
  simp only [bind_some', asI_int, asB_bool, asStr_str, asP_ptr, asSl_sl, asAgg_1, asAgg_2, asAgg_3, asAgg_4, asTup_0, asTup_2, asTup_3, asTup_4, if_true', if_false', if_not_true', if_not_false', getD_0, getD_1, getD_2, getD_3]
  have l23 := m2.1
  have x23 : Ext h12 n12 h23 n23 := ⟨by omega, fun i hi => (m2.2 i (by omega)).trans (x19.2 i hi)⟩
  have hx23 : Rows RgR h23 n23 none' a12 2 (runsG (fun x => x == 0) R 0 none) := q3.go (x23.fr none') (fun _ _ q => q) (fun _ _ q => q) (fun _ _ q => q)
  have x23' : Ext h1 n1 h23 n23 := ⟨by omega, fun i hi => (x23.2 i (by omega)).trans (x12.2 i hi)⟩
  by_cases hd : 0 < ds.length
  · rw [if_pos (decide_eq_true (by omega))]
    rw [if_pos hd] at hlast
    obtain ⟨y, z, hlast⟩ := hlast
    obtain ⟨r, pr, _, _, rdd⟩ := (g4.go (x23'.fr none') (fun _ _ q => q) (fun _ _ q => q) (fun _ _ q => q) : Rows AnQ h23 n23 none' a2 3 outs).read (R := Option (AV × AHeap × Nat) → Prop) hlast
    obtain ⟨r', pr', _, _, rdd'⟩ := (g4.go (x23'.fr none') (fun _ _ q => q) (fun _ _ q => q) (fun _ _ q => q) : Rows AnQ h23 n23 none' a2 3 outs).read (R := Res) hlast
    simp only [AnQ] at pr'
    subst pr'
    rw [hol] at rdd'
    rw [show wrapA .i64 (((ds.length : Nat) : Int) - 1) = ((ds.length - 1 : Nat) : Int) from wpred (by omega) (by omega), rdd' 2 (.int .i64 s.free) _ (by omega) rfl]
    simp only [bind_some', asI_int, asB_bool, asStr_str, asP_ptr, asSl_sl, asAgg_1, asAgg_2, asAgg_3, asAgg_4, asTup_0, asTup_2, asTup_3, asTup_4, if_true', if_false', if_not_true', if_not_false', getD_0, getD_1, getD_2, getD_3]
    exact same_end (f := 6000) (by omega) (by omega) hx23 m3 hmay (by rw [s2, hszz]) hcl (by omega)
  · rw [if_neg (by rw [decide_eq_true_eq]; omega)]
    rw [if_neg hd] at hlast
    exact same_end (f := 6000) (by omega) (by omega) hx23 m3 hmay (by rw [hlast, s2, hszz]) hcl (by omega)

end Go.Proofs.Ytbekpkapkaifiaa.T
