/- DriveAll: the run. -/
import Derived.Test.YtbekpkapkaifiaaD12
set_option linter.unusedVariables false
set_option linter.unusedSimpArgs false
namespace Go.Proofs.Ytbekpkapkaifiaa.T
open Go Go.RowKit Go.Proofs

def crashJ (k : Int) : Job := ⟨4, 0, k, []⟩
def flushJ : Job := ⟨3, 0, 0, []⟩
theorem crash_g (k : Int) : JobG (crashJ k) := .inr (.inr (.inr (.inl rfl)))
theorem flush_g : JobG flushJ := .inr (.inr (.inl rfl))

abbrev sees (s : DS) : List (List Int) := (List.range 8).map fun i => (getL s i).2
theorem sees_eq {s t : DS} (gs : Gd s) (gt : Gd t) (h : ∀ i, i < 8 → V s i = V t i) : sees s = sees t := by
  apply List.map_congr_left
  intro i hi
  have hi := List.mem_range.1 hi
  rw [(getL_good gs hi).1, (getL_good gt hi).1]
  exact h i hi
theorem sees_len (s : DS) : (sees s).length = 8 := by simp [sees]
theorem sees_lens {s : DS} (g : Gd s) : ∀ x ∈ sees s, x.length ≤ 1000 := fun x hx => by
  obtain ⟨i, hi, rfl⟩ := List.mem_map.1 hx
  rw [(getL_good g (List.mem_range.1 hi)).1, (getL_good g (List.mem_range.1 hi)).2]; omega

/-- gets, for harmless jobs. -/
theorem gets_good {f : Nat} (hf : 340 ≤ f) (Y : YldF) {h0 : AHeap} {n0 n1 : Nat} {xa : Option (Nat × Nat)} (xc : Bool) {jobs : List Job} (w : JRows h0 n0 xa jobs) (hj : jobs.length ≤ 200) (ok : ∀ j ∈ jobs, JobG j) (hn : n0 ≤ n1) :
    ∃ a c h' nx', callP Try.prog keepT f Y 19 [.slice xa jobs.length xc] h0 n1 = some (.tuple [.slice a 8 c, .bool true], h', nx') ∧ Ext h0 n1 h' nx' ∧ BytL h' nx' a (sees (stL (freshL 8) jobs)) := by
  have gS := st_gd fresh_gd (js := jobs) ok
  exact gets_spec hf Y xc (w.ext ⟨hn, fun _ _ => rfl⟩) hj (fun j hj => (ok j hj).ok) rfl gS.1 (fun i hi => by rw [(getL_good gS hi).1]; exact ⟨rfl, (getL_good gS hi).2⟩)

theorem all_loop {f : Nat} (hf : 1100 ≤ f) {Y : YldF} {h : AHeap} {n0 : Nat} {xa ga gb gd : Option (Nat × Nat)} {xc gac gbc gdc : Bool} {jobs : List Job} (w : JRows h n0 xa jobs) (hj : jobs.length ≤ 100) (ok : ∀ j ∈ jobs, JobG j ∧ (j.kind = 1 ∨ j.kind = 3 ∨ j.kind = 2)) {G : List (List Int)} (hG : G.length = 8) (hG2 : ∀ x ∈ G, x.length ≤ 1000) (wa : BytL h n0 ga G) (wb : BytL h n0 gb G) (wd : BytL h n0 gd G) (d : Nat) :
    ∀ (lf k m nx : Nat), k + d = jobs.length → d < lf → n0 ≤ nx → m ≤ k → (stL (freshL 8) (jobs.take (lastF (jobs.drop k) k m))).waits = [] ∧ lastF (jobs.drop k) k m ≤ jobs.length ∧ (∀ j ∈ jobs.drop (lastF (jobs.drop k) k m), j.kind ≠ 3) →
      ∃ h' nx', F5_L1 (callP Try.prog keepT f) Y f lf xa jobs.length xc ga 8 gac true gb 8 gbc true gd 8 gdc true (m : Int) (k : Int) h nx = some (.bool true, h', nx') := by
  induction d with
  | zero =>
    intro lf k m nx e hl hn hm hlast
    obtain ⟨lf, rfl⟩ : ∃ m, lf = m + 1 := ⟨lf - 1, by omega⟩
    obtain rfl : k = jobs.length := by omega
    rw [List.drop_length, lastF] at hlast
    obtain ⟨l1, l2, l3⟩ := hlast
    rw [F5_L1_eq, if_neg (by rw [decide_eq_true_eq]; omega)]
    have xn : Ext h n0 h nx := ⟨hn, fun _ _ => rfl⟩
    obtain ⟨rows, rd, e1, e2, p1, p2, p3, p4, p5, p6, p7, p8⟩ := plus_one (w.ext xn) hj (crashJ 0) rfl (i1 := nx + 5) (i2 := nx + 7) (i3 := nx + 8) (by omega) (by omega) (by omega)
    rw [p1]
    simp only [bind_some', asI_int, asB_bool, asStr_str, asP_ptr, asSl_sl, asAgg_1, asAgg_2, asAgg_3, asAgg_4, asTup_0, asTup_2, asTup_3, asTup_4, if_true', if_false', if_not_true', if_not_false', getD_0, getD_1, getD_2, getD_3]
    rw [p2]
    simp only [bind_some', asI_int, asB_bool, asStr_str, asP_ptr, asSl_sl, asAgg_1, asAgg_2, asAgg_3, asAgg_4, asTup_0, asTup_2, asTup_3, asTup_4, if_true', if_false', if_not_true', if_not_false', getD_0, getD_1, getD_2, getD_3]
    rw [show [AV.int IntKind.i64 4, AV.int IntKind.i64 0, AV.int IntKind.i64 0, AV.slice none 0 false] = jobC (crashJ 0) from rfl, p4]
    simp only [bind_some', asI_int, asB_bool, asStr_str, asP_ptr, asSl_sl, asAgg_1, asAgg_2, asAgg_3, asAgg_4, asTup_0, asTup_2, asTup_3, asTup_4, if_true', if_false', if_not_true', if_not_false', getD_0, getD_1, getD_2, getD_3]
    rw [p3, p5]
    simp only [bind_some', asI_int, asB_bool, asStr_str, asP_ptr, asSl_sl, asAgg_1, asAgg_2, asAgg_3, asAgg_4, asTup_0, asTup_2, asTup_3, asTup_4, if_true', if_false', if_not_true', if_not_false', getD_0, getD_1, getD_2, getD_3]
    generalize ((h.puts e1.sets).put (nx + 7) (some ⟨jobC (crashJ 0), 4, true⟩)).puts e2.sets = h2 at *
    have gj : ∀ j ∈ jobs ++ [crashJ 0], JobG j := fun j hj => by
      rcases List.mem_append.1 hj with q | q
      · exact (ok j q).1
      · simp at q; subst q; exact crash_g 0
    obtain ⟨a3, c3, h3, n3, k1, k2, k3⟩ := gets_good (f := f) (by omega) Y e2.c (n1 := nx + 15) p8 (by simp; omega) gj (by omega)
    rw [p6]
    rw [List.length_append, List.length_singleton] at k1
    rw [k1]
    simp only [bind_some', asI_int, asB_bool, asStr_str, asP_ptr, asSl_sl, asAgg_1, asAgg_2, asAgg_3, asAgg_4, asTup_0, asTup_2, asTup_3, asTup_4, if_true', if_false', if_not_true', if_not_false', getD_0, getD_1, getD_2, getD_3]
    have l3' := k2.1
    have x3 : Ext h nx h3 n3 := ⟨by omega, fun i hi => (k2.2 i (by omega)).trans (p7.2 i hi)⟩
    obtain ⟨a4, c4, q1, q2⟩ := jrows_cut ((w.ext xn).ext x3) xc l2
    rw [q1]
    simp only [bind_some', asI_int, asB_bool, asStr_str, asP_ptr, asSl_sl, asAgg_1, asAgg_2, asAgg_3, asAgg_4, asTup_0, asTup_2, asTup_3, asTup_4, if_true', if_false', if_not_true', if_not_false', getD_0, getD_1, getD_2, getD_3]
    have hml : (jobs.take m).length = m := by rw [List.length_take]; omega
    obtain ⟨a5, c5, h5, n5, r1, r2, r3⟩ := gets_good (f := f) (by omega) Y c4 (n1 := n3 + 9) q2 (by omega) (fun j hj => (ok j (List.mem_of_mem_take hj)).1) (by omega)
    rw [hml] at r1
    rw [r1]
    simp only [bind_some', asI_int, asB_bool, asStr_str, asP_ptr, asSl_sl, asAgg_1, asAgg_2, asAgg_3, asAgg_4, asTup_0, asTup_2, asTup_3, asTup_4, if_true', if_false', if_not_true', if_not_false', getD_0, getD_1, getD_2, getD_3]
    have l5 := r2.1
    have x5 : Ext h nx h5 (n5 + 29) := ⟨by omega, fun i hi => (r2.2 i (by omega)).trans (x3.2 i hi)⟩
    have x5' : Ext h n0 h5 (n5 + 29) := ⟨by omega, fun i hi => x5.2 i (by omega)⟩
    obtain ⟨m1, t1, t2⟩ := sameL_spec (f := f) (by omega) Y gac gbc (wa.ext x5') (wb.ext x5') (by omega) hG2 (n5 + 29)
    rw [hG] at t2
    rw [t2, decide_eq_true rfl]
    simp only [bind_some', asI_int, asB_bool, asStr_str, asP_ptr, asSl_sl, asAgg_1, asAgg_2, asAgg_3, asAgg_4, asTup_0, asTup_2, asTup_3, asTup_4, if_true', if_false', if_not_true', if_not_false', getD_0, getD_1, getD_2, getD_3]
    obtain ⟨m2, t3, t4⟩ := sameL_spec (f := f) (by omega) Y gac gdc (wa.ext x5') (wd.ext x5') (by omega) hG2 m1
    rw [hG] at t4
    rw [t4, decide_eq_true rfl]
    simp only [bind_some', asI_int, asB_bool, asStr_str, asP_ptr, asSl_sl, asAgg_1, asAgg_2, asAgg_3, asAgg_4, asTup_0, asTup_2, asTup_3, asTup_4, if_true', if_false', if_not_true', if_not_false', getD_0, getD_1, getD_2, getD_3]
    have gS : Gd (stL (freshL 8) jobs) := st_gd fresh_gd (fun j hj => (ok j hj).1)
    have gT : Gd (stL (freshL 8) (jobs.take m)) := st_gd fresh_gd (fun j hj => (ok j (List.mem_of_mem_take hj)).1)
    have gC : Gd (stL (freshL 8) (jobs ++ [crashJ 0])) := st_gd fresh_gd gj
    obtain ⟨m3, t5, t6⟩ := sameL_spec (f := f) (by omega) Y c3 c5 (k3.ext ⟨by omega, fun i hi => r2.2 i (by omega)⟩ : BytL h5 n5 a3 _) r3 (by rw [sees_len]; omega) (sees_lens gC) m2
    rw [sees_len, sees_len] at t6
    rw [t6]
    simp only [bind_some', asI_int, asB_bool, asStr_str, asP_ptr, asSl_sl, asAgg_1, asAgg_2, asAgg_3, asAgg_4, asTup_0, asTup_2, asTup_3, asTup_4, if_true', if_false', if_not_true', if_not_false', getD_0, getD_1, getD_2, getD_3]
    rw [decide_eq_true]
    · exact ⟨_, _, rfl⟩
    · refine sees_eq gC gT fun i hi => ?_
      rw [stL_app]
      show V (doL (stL (freshL 8) jobs) (crashJ 0)).1 i = _
      rw [do4 gS rfl, V_crash gS _ hi, show keepS (crashJ 0).keep = fun _ => false from funext keepS_none, lastS_false, Option.getD_none]
      have hp : (stL (freshL 8) jobs).plate = (stL (freshL 8) (jobs.take m)).plate := by
        have e : stL (freshL 8) jobs = stL (stL (freshL 8) (jobs.take m)) (jobs.drop m) := by rw [← stL_app, List.take_append_drop]
        rw [e]
        refine plate_keeps gT fun j hj => ?_
        obtain ⟨o1, o2⟩ := ok j (List.mem_of_mem_drop hj)
        have := l3 j hj
        exact ⟨o1, by omega⟩
      unfold V
      rw [l1, hp]; rfl
  | succ d ih =>
    intro lf k m nx e hl hn hm hlast
    obtain ⟨lf, rfl⟩ : ∃ m, lf = m + 1 := ⟨lf - 1, by omega⟩
    have hk : k < jobs.length := by omega
    obtain ⟨r0, pr0, _, rd0⟩ := w.read0 (R := Res) (List.getElem?_eq_getElem hk) (by omega)
    rw [List.drop_eq_getElem_cons hk, lastF] at hlast
    generalize jobs[k] = j at *
    obtain ⟨v0, rfl, _⟩ := pr0
    rw [F5_L1_eq, if_pos (decide_eq_true (by omega)), rd0 _ _ rfl]
    simp only [bind_some', asI_int, asB_bool, asStr_str, asP_ptr, asSl_sl, asAgg_1, asAgg_2, asAgg_3, asAgg_4, asTup_0, asTup_2, asTup_3, asTup_4, if_true', if_false', if_not_true', if_not_false', getD_0, getD_1, getD_2, getD_3]
    by_cases c1 : j.kind = 3
    · rw [if_pos (by simp [c1]), wsucc (by omega)]
      rw [if_pos c1] at hlast
      exact ih lf (k + 1) (k + 1) _ (by omega) (by omega) (by omega) (by omega) hlast
    · rw [if_neg (by simp [c1]), wsucc (by omega)]
      rw [if_neg c1] at hlast
      exact ih lf (k + 1) m _ (by omega) (by omega) (by omega) (by omega) hlast

theorem DriveAll_run (h : AHeap) (nx : Nat) (a : Option (Nat × Nat)) (cells : List (List AV)) (hB : cells.length * 32 ≤ 140737488351232) (ht : ∀ c ∈ cells, Ty h nx ActSh c) (sl : Sl h nx a cells.length ActSh.n cells.flatten) :
    ∃ f h' nx', callP Try.prog keepT f Y0 5 [.slice a cells.length false] h nx = some (.bool true, h', nx') := by
  obtain ⟨l, rfl⟩ := acts_of ht
  rw [List.length_map] at hB sl ⊢
  refine ⟨2001, ?_⟩
  rw [F5_eq]
  dsimp only
  have x1 : Ext h nx (h.put (nx + 2) (some ⟨[.int .i64 1, .int .i64 1, .int .i64 3, .int .i64 2], 1, true⟩)) (nx + 5) := ⟨by omega, fun i hi => put_ne (by omega)⟩
  have e1 := put_same h (nx + 2) (some ⟨[.int .i64 1, .int .i64 1, .int .i64 3, .int .i64 2], 1, true⟩)
  generalize h.put (nx + 2) (some ⟨[.int .i64 1, .int .i64 1, .int .i64 3, .int .i64 2], 1, true⟩) = h1 at *
  obtain ⟨a2, c2, h2, n2, A2, g1, g2, g3, g4⟩ := acts_spec (f := 2000) (by omega) Y0 (kb := nx + 2) (xa := a) false true (l := l) (ks := [1, 1, 3, 2]) (m := 60) (sl.ext x1) e1 (by omega) (by decide) (by decide) (by omega) (by omega)
  change callP Try.prog keepT 2000 Y0 18 [.slice a l.length false, .int .i64 60, .slice (some (nx + 2, 0)) 4 true] h1 (nx + 5) = _ at g1
  rw [g1]
  simp only [bind_some', asI_int, asB_bool, asStr_str, asP_ptr, asSl_sl, asAgg_1, asAgg_2, asAgg_3, asAgg_4, asTup_0, asTup_2, asTup_3, asTup_4, if_true', if_false', if_not_true', if_not_false', getD_0, getD_1, getD_2, getD_3]
  have hlen : (actsL [1, 1, 3, 2] 60 l).length ≤ 60 := by simp [actsL]; omega
  have ok := actsL_ok (ks := [1, 1, 3, 2]) (by decide) (m := 60) (l := l) (P := fun k => k = 1 ∨ k = 3 ∨ k = 2) (by simp)
  have good : ∀ j ∈ actsL [1, 1, 3, 2] 60 l, JobG j ∧ (j.kind = 1 ∨ j.kind = 3 ∨ j.kind = 2) := fun j hj => by
    obtain ⟨q1, q2, q3, q4⟩ := ok j hj
    refine ⟨?_, q1⟩
    rcases q1 with q | q | q
    · exact .inl ⟨q, q2, q3, q4 (.inl q)⟩
    · exact .inr (.inr (.inl q))
    · exact .inr (.inl ⟨q, q2, q3⟩)
  have w2 : JRows h2 n2 a2 (actsL [1, 1, 3, 2] 60 l) := g3.rows
  generalize actsL [1, 1, 3, 2] 60 l = jobs at *
  have gS := st_gd fresh_gd (js := jobs) (fun j hj => (good j hj).1)
  have l1 := x1.1; have l2 := g2.1
  -- full
  obtain ⟨rows, rd, e5, e9, p1, p2, p3, p4, p5, p6, p7, p8⟩ := plus_one w2 (by omega) flushJ rfl (i1 := n2 + 1) (i2 := n2 + 3) (i3 := n2 + 4) (by omega) (by omega) (by omega)
  rw [p1]
  simp only [bind_some', asI_int, asB_bool, asStr_str, asP_ptr, asSl_sl, asAgg_1, asAgg_2, asAgg_3, asAgg_4, asTup_0, asTup_2, asTup_3, asTup_4, if_true', if_false', if_not_true', if_not_false', getD_0, getD_1, getD_2, getD_3]
  rw [p2]
  simp only [bind_some', asI_int, asB_bool, asStr_str, asP_ptr, asSl_sl, asAgg_1, asAgg_2, asAgg_3, asAgg_4, asTup_0, asTup_2, asTup_3, asTup_4, if_true', if_false', if_not_true', if_not_false', getD_0, getD_1, getD_2, getD_3]
  rw [show [AV.int IntKind.i64 3, AV.int IntKind.i64 0, AV.int IntKind.i64 0, AV.slice none 0 false] = jobC flushJ from rfl, p4]
  simp only [bind_some', asI_int, asB_bool, asStr_str, asP_ptr, asSl_sl, asAgg_1, asAgg_2, asAgg_3, asAgg_4, asTup_0, asTup_2, asTup_3, asTup_4, if_true', if_false', if_not_true', if_not_false', getD_0, getD_1, getD_2, getD_3]
  rw [p3, p5]
  simp only [bind_some', asI_int, asB_bool, asStr_str, asP_ptr, asSl_sl, asAgg_1, asAgg_2, asAgg_3, asAgg_4, asTup_0, asTup_2, asTup_3, asTup_4, if_true', if_false', if_not_true', if_not_false', getD_0, getD_1, getD_2, getD_3]
  generalize ((h2.puts e5.sets).put (n2 + 3) (some ⟨jobC flushJ, 4, true⟩)).puts e9.sets = h3 at *
  have gjF : ∀ j ∈ jobs ++ [flushJ], JobG j := fun j hj => by
    rcases List.mem_append.1 hj with q | q
    · exact (good j q).1
    · simp at q; subst q; exact flush_g
  obtain ⟨a4, c4, h4, n4, k1, k2, k3⟩ := gets_good (f := 2000) (by omega) Y0 e9.c (n1 := n2 + 11) p8 (by simp; omega) gjF (by omega)
  rw [p6]
  rw [List.length_append, List.length_singleton] at k1
  rw [k1]
  simp only [bind_some', asI_int, asB_bool, asStr_str, asP_ptr, asSl_sl, asAgg_1, asAgg_2, asAgg_3, asAgg_4, asTup_0, asTup_2, asTup_3, asTup_4, if_true', if_false', if_not_true', if_not_false', getD_0, getD_1, getD_2, getD_3]
  have l4 := k2.1
  have x4 : Ext h2 n2 h4 n4 := ⟨by omega, fun i hi => (k2.2 i (by omega)).trans (p7.2 i hi)⟩
  -- alike
  have w4 : JRows h4 n4 a2 jobs := w2.ext x4
  obtain ⟨rows', rd', e5', e9', p1', p2', p3', p4', p5', p6', p7', p8'⟩ := plus_one w4 (by omega) (crashJ (-1)) rfl (i1 := n4 + 1) (i2 := n4 + 3) (i3 := n4 + 4) (by omega) (by omega) (by omega)
  rw [p1']
  simp only [bind_some', asI_int, asB_bool, asStr_str, asP_ptr, asSl_sl, asAgg_1, asAgg_2, asAgg_3, asAgg_4, asTup_0, asTup_2, asTup_3, asTup_4, if_true', if_false', if_not_true', if_not_false', getD_0, getD_1, getD_2, getD_3]
  rw [p2']
  simp only [bind_some', asI_int, asB_bool, asStr_str, asP_ptr, asSl_sl, asAgg_1, asAgg_2, asAgg_3, asAgg_4, asTup_0, asTup_2, asTup_3, asTup_4, if_true', if_false', if_not_true', if_not_false', getD_0, getD_1, getD_2, getD_3]
  rw [show [AV.int IntKind.i64 4, AV.int IntKind.i64 0, AV.int IntKind.i64 (-1), AV.slice none 0 false] = jobC (crashJ (-1)) from rfl, p4']
  simp only [bind_some', asI_int, asB_bool, asStr_str, asP_ptr, asSl_sl, asAgg_1, asAgg_2, asAgg_3, asAgg_4, asTup_0, asTup_2, asTup_3, asTup_4, if_true', if_false', if_not_true', if_not_false', getD_0, getD_1, getD_2, getD_3]
  rw [p3', p5']
  simp only [bind_some', asI_int, asB_bool, asStr_str, asP_ptr, asSl_sl, asAgg_1, asAgg_2, asAgg_3, asAgg_4, asTup_0, asTup_2, asTup_3, asTup_4, if_true', if_false', if_not_true', if_not_false', getD_0, getD_1, getD_2, getD_3]
  generalize ((h4.puts e5'.sets).put (n4 + 3) (some ⟨jobC (crashJ (-1)), 4, true⟩)).puts e9'.sets = h5 at *
  have gjC : ∀ j ∈ jobs ++ [crashJ (-1)], JobG j := fun j hj => by
    rcases List.mem_append.1 hj with q | q
    · exact (good j q).1
    · simp at q; subst q; exact crash_g _
  obtain ⟨a6, c6, h6, n6, m1, m2, m3⟩ := gets_good (f := 2000) (by omega) Y0 e9'.c (n1 := n4 + 11) p8' (by simp; omega) gjC (by omega)
  rw [p6']
  rw [List.length_append, List.length_singleton] at m1
  rw [m1]
  simp only [bind_some', asI_int, asB_bool, asStr_str, asP_ptr, asSl_sl, asAgg_1, asAgg_2, asAgg_3, asAgg_4, asTup_0, asTup_2, asTup_3, asTup_4, if_true', if_false', if_not_true', if_not_false', getD_0, getD_1, getD_2, getD_3]
  have l6 := m2.1
  have x6 : Ext h4 n4 h6 n6 := ⟨by omega, fun i hi => (m2.2 i (by omega)).trans (p7'.2 i hi)⟩
  -- whole
  have w6 : JRows h6 n6 a2 jobs := w4.ext x6
  obtain ⟨a7, c7, h7, n7, r1, r2, r3⟩ := gets_good (f := 2000) (by omega) Y0 c2 (n1 := n6 + 7) w6 (by omega) (fun j hj => (good j hj).1) (by omega)
  rw [r1]
  simp only [bind_some', asI_int, asB_bool, asStr_str, asP_ptr, asSl_sl, asAgg_1, asAgg_2, asAgg_3, asAgg_4, asTup_0, asTup_2, asTup_3, asTup_4, if_true', if_false', if_not_true', if_not_false', getD_0, getD_1, getD_2, getD_3]
  have l7 := r2.1
  have x7 : Ext h6 n6 h7 n7 := ⟨by omega, fun i hi => r2.2 i (by omega)⟩
  have gF : Gd (stL (freshL 8) (jobs ++ [flushJ])) := st_gd fresh_gd gjF
  have gC : Gd (stL (freshL 8) (jobs ++ [crashJ (-1)])) := st_gd fresh_gd gjC
  have s1 : sees (stL (freshL 8) (jobs ++ [flushJ])) = sees (stL (freshL 8) jobs) := sees_eq gF gS fun i hi => by
    rw [stL_app]
    show V (doL (stL (freshL 8) jobs) flushJ).1 i = _
    rw [do3 gS rfl, V_flush gS hi]
  have s2 : sees (stL (freshL 8) (jobs ++ [crashJ (-1)])) = sees (stL (freshL 8) jobs) := sees_eq gC gS fun i hi => by
    rw [stL_app]
    show V (doL (stL (freshL 8) jobs) (crashJ (-1))).1 i = _
    rw [do4 gS rfl, show keepS (crashJ (-1)).keep = fun _ => true from funext keepS_all, V_flush gS hi]
  rw [s1] at k3
  rw [s2] at m3
  have hlast := last_ok jobs [] 0 (fun j hj => good j hj) (Nat.le_refl _) rfl (by simp)
  simp only [List.nil_append, List.length_nil] at hlast
  exact all_loop (f := 2000) (by omega) (Y := Y0) (xc := c2) (gac := c4) (gbc := c6) (gdc := c7) (w6.ext x7) (by omega) good (sees_len _) (sees_lens gS) ((k3.ext x6).ext x7) (m3.ext x7) r3 jobs.length 2000 0 0 (n7 + 2) (by omega) (by omega) (by omega) (by omega) ⟨hlast.2.1, hlast.1, hlast.2.2⟩

end Go.Proofs.Ytbekpkapkaifiaa.T
