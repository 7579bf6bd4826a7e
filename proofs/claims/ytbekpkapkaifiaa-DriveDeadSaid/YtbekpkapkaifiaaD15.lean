/- DriveStays: the run. -/
import Derived.Test.YtbekpkapkaifiaaD14
set_option linter.unusedVariables false
set_option linter.unusedSimpArgs false
namespace Go.Proofs.Ytbekpkapkaifiaa.T
open Go Go.RowKit Go.Proofs

theorem actsL_data {ks : List Int} {m : Nat} {l : List Act} : ∀ j ∈ actsL ks m l, j.data.length ≤ 128 := by
  intro j hj
  obtain ⟨a, _, rfl⟩ := List.mem_map.1 hj
  simp only [actL]
  split
  · rw [secL_len]; omega
  · simp

theorem DriveStays_run (h : AHeap) (nx : Nat) (a : Option (Nat × Nat)) (cells : List (List AV)) (hB : cells.length * 32 ≤ 140737488351232) (ht : ∀ c ∈ cells, Ty h nx ActSh c) (sl : Sl h nx a cells.length ActSh.n cells.flatten)
    (b : Option (Nat × Nat)) (cells2 : List (List AV)) (hB2 : cells2.length * 32 ≤ 140737488351232) (ht2 : ∀ c ∈ cells2, Ty h nx ActSh c) (sl2 : Sl h nx b cells2.length ActSh.n cells2.flatten) (x : Int) (_hx : (Lit.int .i64 x).wf = true) :
    ∃ f h' nx', callP Try.prog keepT f Y0 4 [.slice a cells.length false, .slice b cells2.length false, .int .i64 x] h nx = some (.bool true, h', nx') := by
  obtain ⟨l, rfl⟩ := acts_of ht
  obtain ⟨l', rfl⟩ := acts_of ht2
  rw [List.length_map] at hB sl hB2 sl2 ⊢
  rw [List.length_map]
  refine ⟨2001, ?_⟩
  rw [F4_eq]
  dsimp only
  have x1 : Ext h nx (h.put (nx + 2) (some ⟨[.int .i64 1, .int .i64 3, .int .i64 4], 1, true⟩)) (nx + 8) := ⟨by omega, fun i hi => put_ne (by omega)⟩
  have e1 := put_same h (nx + 2) (some ⟨[.int .i64 1, .int .i64 3, .int .i64 4], 1, true⟩)
  generalize h.put (nx + 2) (some ⟨[.int .i64 1, .int .i64 3, .int .i64 4], 1, true⟩) = h1 at *
  obtain ⟨a2, c2, h2, n2, A2, g1, g2, g3, g4, g5, g6⟩ := acts_spec (f := 2000) (by omega) Y0 (kb := nx + 2) (xa := a) false true (l := l) (ks := [1, 3, 4]) (m := 40) (sl.ext x1) e1 (by omega) (by decide) (by decide) (by omega) (by omega)
  change callP Try.prog keepT 2000 Y0 18 [.slice a l.length false, .int .i64 40, .slice (some (nx + 2, 0)) 3 true] h1 (nx + 8) = _ at g1
  rw [g1]
  simp only [bind_some', asI_int, asB_bool, asStr_str, asP_ptr, asSl_sl, asAgg_1, asAgg_2, asAgg_3, asAgg_4, asTup_0, asTup_2, asTup_3, asTup_4, if_true', if_false', if_not_true', if_not_false', getD_0, getD_1, getD_2, getD_3]
  have hlen : (actsL [1, 3, 4] 40 l).length ≤ 40 := by simp [actsL]; omega
  have ok := actsL_ok (ks := [1, 3, 4]) (by decide) (m := 40) (l := l) (P := fun k => k = 1 ∨ k = 3 ∨ k = 4) (by simp)
  have good1 : ∀ j ∈ actsL [1, 3, 4] 40 l, JobG j := fun j hj => by
    obtain ⟨q1, q2, q3, q4⟩ := ok j hj
    rcases q1 with q | q | q
    · exact .inl ⟨q, q2, q3, q4 (.inl q)⟩
    · exact .inr (.inr (.inl q))
    · exact .inr (.inr (.inr (.inl q)))
  generalize actsL [1, 3, 4] 40 l = jobs1 at *
  clear ok
  have l1 := x1.1; have l2 := g2.1
  -- the flush
  have xf : Frm (fun i => i = nx + 5) h2 n2 (h2.put (nx + 5) (some ⟨jobC flushJ, 4, true⟩)) n2 := (Frm.refl _ h2 n2).put (.inl rfl) (Nat.le_refl _)
  have j2 : Jobs (h2.put (nx + 5) (some ⟨jobC flushJ, 4, true⟩)) n2 A2 a2 jobs1 := g3.go xf (fun i _ q => by rw [q]; exact g5 _ (by omega)) (fun _ _ q => q) (fun _ q => q) (fun i q z => by have := g6 i q; omega)
  have src := src_lit (h := h2) (id := nx + 5) (es := 4) (ws := jobC flushJ) rfl
  rw [show [AV.int IntKind.i64 3, AV.int IntKind.i64 0, AV.int IntKind.i64 0, AV.slice none 0 false] = jobC flushJ from rfl]
  generalize h2.put (nx + 5) (some ⟨jobC flushJ, 4, true⟩) = h4 at *
  rw [src]
  simp only [bind_some', asI_int, asB_bool, asStr_str, asP_ptr, asSl_sl, asAgg_1, asAgg_2, asAgg_3, asAgg_4, asTup_0, asTup_2, asTup_3, asTup_4, if_true', if_false', if_not_true', if_not_false', getD_0, getD_1, getD_2, getD_3]
  obtain ⟨e6, p1, p2, p3, p4, p5⟩ := j2.app2 c2 (bytes := 48) (id := nx + 6) (l2 := [flushJ]) (rows2 := [jobC flushJ]) (All2.one ⟨_, rfl, byt_nil⟩) (fun r hr => by simp at hr; subst hr; rfl) [nx + 5] (growOk_of (by simp; omega) (by omega)) (fun q => by have := g6 _ q; omega) (fun _ => g5 _ (by omega)) (m := n2) (Nat.le_refl _) (by omega)
  simp only [List.length_singleton, List.flatten_cons, List.flatten_nil, List.append_nil] at p1
  rw [p1]
  simp only [bind_some', asI_int, asB_bool, asStr_str, asP_ptr, asSl_sl, asAgg_1, asAgg_2, asAgg_3, asAgg_4, asTup_0, asTup_2, asTup_3, asTup_4, if_true', if_false', if_not_true', if_not_false', getD_0, getD_1, getD_2, getD_3]
  have x7 : Ext h nx (h4.puts e6.sets) n2 := ⟨by omega, fun i hi => by rw [p4.2 i (by omega) (fun q => by rcases q with q | q; have := g6 _ q; omega; omega), xf.2 i (by omega) (by omega), g2.2 i (by omega), x1.2 i hi]⟩
  generalize h4.puts e6.sets = h7 at *
  rw [p2]
  -- the second acts
  have x8 : Ext h7 n2 (h7.put (n2 + 1) (some ⟨[.int .i64 1, .int .i64 2], 1, true⟩)) (n2 + 4) := ⟨by omega, fun i hi => put_ne (by omega)⟩
  have e8 := put_same h7 (n2 + 1) (some ⟨[.int .i64 1, .int .i64 2], 1, true⟩)
  generalize h7.put (n2 + 1) (some ⟨[.int .i64 1, .int .i64 2], 1, true⟩) = h8 at *
  have x8h : Ext h nx h8 (n2 + 4) := x7.trans x8
  obtain ⟨a9, c9, h9, n9, A9, k1, k2, k3, k4, k5, k6⟩ := acts_spec (f := 2000) (by omega) Y0 (kb := n2 + 1) (xa := b) false true (l := l') (ks := [1, 2]) (m := 20) (sl2.ext x8h) e8 (by omega) (by decide) (by decide) (by omega) (by omega)
  change callP Try.prog keepT 2000 Y0 18 [.slice b l'.length false, .int .i64 20, .slice (some (n2 + 1, 0)) 2 true] h8 (n2 + 4) = _ at k1
  rw [k1]
  simp only [bind_some', asI_int, asB_bool, asStr_str, asP_ptr, asSl_sl, asAgg_1, asAgg_2, asAgg_3, asAgg_4, asTup_0, asTup_2, asTup_3, asTup_4, if_true', if_false', if_not_true', if_not_false', getD_0, getD_1, getD_2, getD_3]
  have hlen2 : (actsL [1, 2] 20 l').length ≤ 20 := by simp [actsL]; omega
  have ok := actsL_ok (ks := [1, 2]) (by decide) (m := 20) (l := l') (P := fun k => k = 1 ∨ k = 2) (by simp)
  have dat := actsL_data (ks := [1, 2]) (m := 20) (l := l')
  have good2 : ∀ j ∈ actsL [1, 2] 20 l', JobG j ∧ (j.kind = 1 ∨ j.kind = 2) := fun j hj => by
    obtain ⟨q1, q2, q3, q4⟩ := ok j hj
    refine ⟨?_, q1⟩
    rcases q1 with q | q
    · exact .inl ⟨q, q2, q3, q4 (.inl q)⟩
    · exact .inr (.inl ⟨q, q2, q3⟩)
  have w9 : JRows h9 n9 a9 (actsL [1, 2] 20 l') := k3.rows
  generalize actsL [1, 2] 20 l' = jobs2 at *
  clear ok
  have l9 := k2.1
  -- before
  have w6 : JRows h9 n9 e6.a (jobs1 ++ [flushJ]) := JRows.ext p3.rows ⟨by omega, fun i hi => (k2.2 i (by omega)).trans (x8.2 i (by omega))⟩
  have good3 : ∀ j ∈ jobs1 ++ [flushJ], JobG j := fun j hj => by
    rcases List.mem_append.1 hj with q | q
    · exact good1 j q
    · simp at q; subst q; exact flush_g
  obtain ⟨a11, c11, h11, n11, r1, r2, r3⟩ := gets_good (f := 2000) (by omega) Y0 e6.c (n1 := n9 + 7) w6 (by simp; omega) good3 (by omega)
  rw [r1]
  simp only [bind_some', asI_int, asB_bool, asStr_str, asP_ptr, asSl_sl, asAgg_1, asAgg_2, asAgg_3, asAgg_4, asTup_0, asTup_2, asTup_3, asTup_4, if_true', if_false', if_not_true', if_not_false', getD_0, getD_1, getD_2, getD_3]
  have l11 := r2.1
  have x11 : Ext h9 n9 h11 n11 := ⟨by omega, fun i hi => r2.2 i (by omega)⟩
  have w11 : JRows h11 n11 e6.a (jobs1 ++ [flushJ]) := w6.ext x11
  have w11' : JRows h11 n11 a9 jobs2 := w9.ext x11
  -- append all
  obtain ⟨rows, rd, q1, q2, q3⟩ := w11.srcs
  rw [q3]
  simp only [bind_some', asI_int, asB_bool, asStr_str, asP_ptr, asSl_sl, asAgg_1, asAgg_2, asAgg_3, asAgg_4, asTup_0, asTup_2, asTup_3, asTup_4, if_true', if_false', if_not_true', if_not_false', getD_0, getD_1, getD_2, getD_3]
  obtain ⟨e16, m1, m2, m3, m4⟩ := Jobs.app (h := h11) (nx := n11) (A := fun _ => False) (a := none) (l := []) ⟨OwnRows.nil _ _ _ _, fun i q => (no_own q).elim⟩ false (bytes := 48) (id := n11 + 1) (l2 := jobs1 ++ [flushJ]) q1 q2 rd (growOk_of (by simp; omega) (by omega)) (by omega)
  rw [List.length_nil] at m1
  rw [List.nil_append] at m2 m3
  rw [m1]
  simp only [bind_some', asI_int, asB_bool, asStr_str, asP_ptr, asSl_sl, asAgg_1, asAgg_2, asAgg_3, asAgg_4, asTup_0, asTup_2, asTup_3, asTup_4, if_true', if_false', if_not_true', if_not_false', getD_0, getD_1, getD_2, getD_3]
  have x17 : Ext h11 n11 (h11.puts e16.sets) (n11 + 2) := ⟨by omega, fun i hi => m4.2 i hi (fun q => q)⟩
  generalize h11.puts e16.sets = h17 at *
  have w17 : Rows (JobR h17 (n11 + 2) fun i => False ∨ i = n11 + 1) h17 (n11 + 2) (fun _ => False) a9 4 jobs2 := Rows.go w11' (x17.fr fun _ => False) (fun _ _ q => q) (fun _ _ q => q) (fun _ _ r => r.go (x17.fr fun _ => False) (fun _ _ q => q.elim) (fun i hi q => by rcases q with q | q; exact q; omega))
  obtain ⟨rows2, rd2, s1, s2, s3⟩ := w17.srcs
  rw [s3]
  simp only [bind_some', asI_int, asB_bool, asStr_str, asP_ptr, asSl_sl, asAgg_1, asAgg_2, asAgg_3, asAgg_4, asTup_0, asTup_2, asTup_3, asTup_4, if_true', if_false', if_not_true', if_not_false', getD_0, getD_1, getD_2, getD_3]
  obtain ⟨e19, t1, t2, t3, t4⟩ := m3.app e16.c (bytes := 48) (id := n11 + 3) (l2 := jobs2) s1 s2 rd2 (growOk_of (by simp; omega) (by omega)) (by omega)
  rw [m2, t1]
  simp only [bind_some', asI_int, asB_bool, asStr_str, asP_ptr, asSl_sl, asAgg_1, asAgg_2, asAgg_3, asAgg_4, asTup_0, asTup_2, asTup_3, asTup_4, if_true', if_false', if_not_true', if_not_false', getD_0, getD_1, getD_2, getD_3]
  have x20 : Ext h11 n11 (h17.puts e19.sets) (n11 + 4) := ⟨by omega, fun i hi => by rw [t4.2 i (by omega) (fun q => by rcases q with q | q; exact q; omega), x17.2 i hi]⟩
  generalize h17.puts e19.sets = h20 at *
  have x21 : Ext h20 (n11 + 4) (h20.put (n11 + 6) (some ⟨jobC (crashJ x), 4, true⟩)) (n11 + 7) := ⟨by omega, fun i hi => put_ne (by omega)⟩
  have src2 := src_lit (h := h20) (id := n11 + 6) (es := 4) (ws := jobC (crashJ x)) rfl
  rw [show [AV.int IntKind.i64 4, AV.int IntKind.i64 0, AV.int IntKind.i64 x, AV.slice none 0 false] = jobC (crashJ x) from rfl]
  have j21 := t3.ext x21
  generalize h20.put (n11 + 6) (some ⟨jobC (crashJ x), 4, true⟩) = h21 at *
  rw [src2]
  simp only [bind_some', asI_int, asB_bool, asStr_str, asP_ptr, asSl_sl, asAgg_1, asAgg_2, asAgg_3, asAgg_4, asTup_0, asTup_2, asTup_3, asTup_4, if_true', if_false', if_not_true', if_not_false', getD_0, getD_1, getD_2, getD_3]
  obtain ⟨e23, v1, v2, v3, v4⟩ := j21.app e19.c (bytes := 48) (id := n11 + 7) (l2 := [crashJ x]) (rows2 := [jobC (crashJ x)]) (All2.one ⟨_, rfl, byt_nil⟩) (fun r hr => by simp at hr; subst hr; rfl) [n11 + 6] (growOk_of (by simp; omega) (by omega)) (by omega)
  simp only [List.length_singleton, List.flatten_cons, List.flatten_nil, List.append_nil] at v1
  rw [t2, v1]
  simp only [bind_some', asI_int, asB_bool, asStr_str, asP_ptr, asSl_sl, asAgg_1, asAgg_2, asAgg_3, asAgg_4, asTup_0, asTup_2, asTup_3, asTup_4, if_true', if_false', if_not_true', if_not_false', getD_0, getD_1, getD_2, getD_3]
  have x24 : Ext h11 n11 (h21.puts e23.sets) (n11 + 8) := ⟨by omega, fun i hi => by rw [v4.2 i (by omega) (fun q => by rcases q with (q | q) | q; exact q; omega; omega), x21.2 i (by omega), x20.2 i hi]⟩
  generalize h21.puts e23.sets = h24 at *
  have w24 : JRows h24 (n11 + 8) e23.a (((jobs1 ++ [flushJ]) ++ jobs2) ++ [crashJ x]) := v3.rows
  have good4 : ∀ j ∈ ((jobs1 ++ [flushJ]) ++ jobs2) ++ [crashJ x], JobG j := fun j hj => by
    rcases List.mem_append.1 hj with q | q
    · rcases List.mem_append.1 q with q | q
      · exact good3 j q
      · exact (good2 j q).1
    · simp at q; subst q; exact crash_g _
  obtain ⟨a25, c25, h25, n25, z1, z2, z3⟩ := gets_good (f := 2000) (by omega) Y0 e23.c (n1 := n11 + 14) w24 (by simp; omega) good4 (by omega)
  rw [v2, z1]
  simp only [bind_some', asI_int, asB_bool, asStr_str, asP_ptr, asSl_sl, asAgg_1, asAgg_2, asAgg_3, asAgg_4, asTup_0, asTup_2, asTup_3, asTup_4, if_true', if_false', if_not_true', if_not_false', getD_0, getD_1, getD_2, getD_3]
  have l25 := z2.1
  have x25 : Ext h11 n11 h25 n25 := ⟨by omega, fun i hi => (z2.2 i (by omega)).trans (x24.2 i hi)⟩
  rw [F4_J1_eq]
  have gS1 : Gd (stL (freshL 8) (jobs1 ++ [flushJ])) := st_gd fresh_gd good3
  have gS2 : Gd (stL (freshL 8) ((jobs1 ++ [flushJ]) ++ jobs2)) := st_gd fresh_gd (fun j hj => good4 j (List.mem_append.2 (.inl hj)))
  have gS3 : Gd (stL (freshL 8) (((jobs1 ++ [flushJ]) ++ jobs2) ++ [crashJ x])) := st_gd fresh_gd good4
  have hw1 : (stL (freshL 8) (jobs1 ++ [flushJ])).waits = [] := by
    rw [stL_app]
    show (doL (stL (freshL 8) jobs1) flushJ).1.waits = []
    rw [do3 (st_gd fresh_gd good1) rfl]
  have facts : ∀ i bi ai, (sees (stL (freshL 8) (jobs1 ++ [flushJ])))[i]? = some bi → (sees (stL (freshL 8) (((jobs1 ++ [flushJ]) ++ jobs2) ++ [crashJ x])))[i]? = some ai → ((∀ j ∈ jobs2, ¬ wrs i j) → bi = ai) ∧ (bi = ai ∨ ∃ j ∈ jobs2, wrs i j ∧ j.data = ai) := by
    intro i bi ai hb ha
    have hi : i < 8 := by have := (List.getElem?_eq_some_iff.1 hb).1; rwa [sees_len] at this
    rw [sees, List.getElem?_map, List.getElem?_range hi] at hb ha
    simp only [Option.map_some, Option.some.injEq] at hb ha
    rw [(getL_good gS1 hi).1] at hb
    rw [(getL_good gS3 hi).1] at ha
    simp only at hb ha
    have e3 : V (stL (freshL 8) (((jobs1 ++ [flushJ]) ++ jobs2) ++ [crashJ x])) i = (lastS (keepS x) i 0 (stL (stL (freshL 8) (jobs1 ++ [flushJ])) jobs2).waits).getD (plateV (stL (freshL 8) (jobs1 ++ [flushJ])).plate i) := by
      rw [stL_app]
      show V (doL (stL (freshL 8) ((jobs1 ++ [flushJ]) ++ jobs2)) (crashJ x)).1 i = _
      rw [do4 gS2 rfl, V_crash gS2 _ hi, stL_app, plate_keeps gS1 good2]; rfl
    have e1 : V (stL (freshL 8) (jobs1 ++ [flushJ])) i = plateV (stL (freshL 8) (jobs1 ++ [flushJ])).plate i := by
      unfold V; rw [hw1]; rfl
    rw [e1] at hb
    rw [e3, hb] at ha
    cases hl : lastS (keepS x) i 0 (stL (stL (freshL 8) (jobs1 ++ [flushJ])) jobs2).waits with
    | none => rw [hl] at ha; exact ⟨fun _ => ha, .inl ha⟩
    | some d =>
      rw [hl, Option.getD_some] at ha
      rcases waits_put gS1 good2 _ (lastS_mem hl) with q | ⟨j, hj, q1, q2⟩
      · rw [hw1] at q; cases q
      · exact ⟨fun no => absurd q1 (no j hj), .inr ⟨j, hj, q1, q2.trans ha⟩⟩
  have xz : Ext h25 n25 h25 (n25 + 6 + 1) := ⟨by omega, fun _ _ => rfl⟩
  exact stays_loop2 (f := 2000) (by omega) (Y := Y0) (xc := c9) (bc := c11) (ac := c25) (JRows.ext w11' x25) (by omega) (r3.ext x25) (sees_len _) z3 (sees_len _) (sees_lens gS1) (fun j hj => by have := dat j hj; omega) facts 8 2000 0 _ (by omega) (by omega) (by omega)

end Go.Proofs.Ytbekpkapkaifiaa.T
