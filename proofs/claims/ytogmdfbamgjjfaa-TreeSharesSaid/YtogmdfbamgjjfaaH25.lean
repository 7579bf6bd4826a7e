/- Trees: TreeStays. -/
import Derived.Test.YtogmdfbamgjjfaaH24
set_option linter.unusedVariables false
set_option linter.unusedSimpArgs false
namespace Go.Proofs.Ytogmdfbamgjjfaa.T
open Go Go.RowKit Go.Proofs

theorem OwnRows.byEq {α : Type} {Q : α → List AV → Prop} {h : AHeap} {nx nx' : Nat} {a : Option (Nat × Nat)} {es : Nat} {l : List α} (w : OwnRows Q h nx a es l) (e : nx ≤ nx') : OwnRows Q h nx' a es l := w.go (D := fun _ => False) ⟨e, fun _ _ _ => rfl⟩ (fun _ _ q => q) (fun _ _ r => r)
theorem OkAll_mk {a b : List Stp} {fo : Fo} (ok : OkAll fo a) (hb : OkAll (runF fo a) b) : OkAll fo (a ++ b) := OkAll_app ok hb
/-- Steps that are well above a shorter forest are well above a longer one. -/
theorem stepsL_ok2 (n : Nat) (l : List Edt) (fo : Fo) (h : 0 < fo.vs.length) : OkAll fo (stepsL 0 n l) := stepsL_ok 0 n l fo h

theorem TreeStays_run (h : AHeap) (nx : Nat) (a0 : Option (Nat × Nat)) (c0 : List (List AV)) (g0 : c0.length * 48 ≤ 140737488351232) (t0 : ∀ c ∈ c0, Ty h nx EdtSh c) (sl0 : Sl h nx a0 c0.length EdtSh.n c0.flatten)
    (a1 : Option (Nat × Nat)) (c1 : List (List AV)) (g1 : c1.length * 48 ≤ 140737488351232) (t1 : ∀ c ∈ c1, Ty h nx EdtSh c) (sl1 : Sl h nx a1 c1.length EdtSh.n c1.flatten) (x2 : Int) (_ : (Lit.int .i64 x2).wf = true) :
    ∃ f h' nx', callP Try.prog keepT f Y0 6 [.slice a0 c0.length false, .slice a1 c1.length false, .int .i64 x2] h nx = some (.bool true, h', nx') := by
  obtain ⟨el, hel, ew⟩ := edts_rows t0 sl0
  rw [← hel] at g0 ⊢
  obtain ⟨el2, hel2, ew2⟩ := edts_rows t1 sl1
  rw [← hel2] at g1 ⊢
  clear hel t0 sl0 hel2 t1 sl1
  refine ⟨20001, ?_⟩
  rw [F6_eq]
  obtain ⟨sa, sc, h1, n1, q1, q2, q3⟩ := steps_spec (f := 20000) (by omega) Y0 false (h0 := h) (n0 := nx + 4) (ew.same ⟨by omega, fun _ _ => rfl⟩ (fun _ _ r => r.ext ⟨by omega, fun _ _ => rfl⟩)) (m := 20) (by omega)
  have q1' : callP Try.prog keepT 20000 Y0 7 [.slice a0 el.length false, .int .i64 20] h (nx + 4) = _ := q1
  rw [q1']
  simp only [mst_]
  have hl20 : (stepsL 0 20 el).length ≤ 20 := by rw [stepsL_len]; omega
  have okj : OkAll fo0 (stepsL 0 20 el) := stepsL_ok 0 20 el fo0 (by simp [fo0])
  have mkj := stepsL_mk 0 20 el
  generalize stepsL 0 20 el = jobs at *
  obtain ⟨vs, hvs, hrun⟩ := runF_mk jobs fo0 mkj
  have hlen : (runF fo0 jobs).vs.length = jobs.length + 1 := by rw [hrun, List.length_append, hvs]; simp [fo0]; omega
  rw [wsucc (by omega)]
  have hv := pickN_lt (x := x2) (show 0 < jobs.length + 1 by omega)
  rw [picked_spec (f := 20000) (by omega) Y0 x2 ((jobs.length + 1 : Nat) : Int) (by omega) (by omega), pickN_eq (n := jobs.length + 1) (by omega)]
  simp only [mst_]
  generalize pickN x2 (jobs.length + 1) = v at *
  generalize hc2 : n1 + 6 + pickK x2 ((jobs.length + 1 : Nat) : Int) = c2
  have rw1 : Rows (StepR h1 n1 fun _ => False) h1 c2 (fun _ => False) sa 5 jobs := q3.same ⟨by omega, fun _ _ => rfl⟩ (fun _ _ r => r)
  obtain ⟨rows, rd, e5, r1, r2, r3, r4, r5, r6, r7, r8⟩ := copy_rows rw1 (bytes := 56) (id := c2 + 1) (by omega) (by omega) (by omega)
  rw [r1]
  simp only [mst_]
  rw [r2]
  simp only [mst_]
  have x5 : Ext h1 n1 (h1.puts e5.sets) (c2 + 6) := ⟨by omega, fun i hi => r4.2 i (by omega)⟩
  generalize h1.puts e5.sets = h5 at *
  have l1 := q2.1
  obtain ⟨sb, sbc, h6, n6, s1, s2, s3⟩ := steps_spec2 (f := 20000) (by omega) Y0 false (h0 := h5) (n0 := c2 + 6) (xa := a1) (l := el2) (ew2.same ⟨by omega, fun i hi => by rw [x5.2 i (by omega), q2.2 i (by omega)]⟩ (fun _ _ r => r.ext ⟨by omega, fun i hi => by rw [x5.2 i (by omega), q2.2 i (by omega)]⟩)) (m := 20) (by omega)
  have s1' : callP Try.prog keepT 20000 Y0 7 [.slice a1 el2.length false, .int .i64 20] h5 (c2 + 6) = _ := s1
  rw [s1']
  simp only [mst_]
  have hl21 : (stepsL 0 20 el2).length ≤ 20 := by rw [stepsL_len]; omega
  have ok2 : OkAll (runF fo0 jobs) (stepsL 0 20 el2) := stepsL_ok 0 20 el2 _ (by omega)
  have mk2 := stepsL_mk 0 20 el2
  generalize stepsL 0 20 el2 = more at *
  have oka : OkAll fo0 (jobs ++ more) := OkAll_app okj ok2
  have x6 : Ext h1 n1 h6 n6 := ⟨by have := x5.1; have := s2.1; omega, fun i hi => by rw [s2.2 i (by omega), x5.2 i hi]⟩
  have l6 := s2.1
  obtain ⟨rows2, rd2, p1, p2, p3, p4⟩ := (s3.go (Q' := StepR h6 n6 fun i => i = c2 + 1 ∨ i = c2 + 4) (Frm.refl (fun _ => False) _ _) (fun _ _ q => q.elim) (fun _ _ q => q) (fun _ _ r => r.go (Frm.refl (fun _ => False) _ _) (fun _ _ q => q.elim) (fun i _ q => by omega))).srcs
  rw [p3]
  simp only [mst_]
  have o6 : OwnRows (StepR h6 n6 fun i => i = c2 + 1 ∨ i = c2 + 4) h6 n6 e5.a 5 jobs := r5.go (D := fun _ => False) ⟨by omega, fun i hi _ => s2.2 i (by omega)⟩ (fun _ _ q => q) (fun _ _ r => r.go (x6.fr fun _ => False) (fun _ _ q => q) (fun i hi q => by omega))
  obtain ⟨e7, t1, t2, t3, t4, t5⟩ := o6.app2 e5.c (bytes := 56) (id := c2 + 4) p1 p2 rd2 (growOk_of (by omega) (by omega)) (fun q => by have := r6 _ q; omega) (m := n6) (Nat.le_refl _) (by omega)
  rw [r3, t1]
  simp only [mst_]
  rw [t2]
  have x7 : Frm (fun i => i = c2 + 1 ∨ i = c2 + 4) h6 n6 (h6.puts e7.sets) n6 := t4.more (fun i _ q => by rcases q with q | q; exact .inl (r6 i q); exact .inr q)
  generalize h6.puts e7.sets = h7 at *
  have x17 : Ext h1 n1 h7 (n6 + 8) := ⟨by have := x6.1; omega, fun i hi => by rw [x7.2 i (by omega) (by omega), x6.2 i hi]⟩
  have hsa : (jobs ++ more).length = jobs.length + more.length := by simp
  rw [← hsa]
  -- the old steps, and all
  have rwj : Rows (StepR h7 (n6 + 8) fun _ => False) h7 (n6 + 8) (fun _ => False) sa 5 jobs := q3.same x17 (fun _ _ r => r.ext x17)
  have rwa : Rows (StepR h7 (n6 + 8) fun _ => False) h7 (n6 + 8) (fun _ => False) e7.a 5 (jobs ++ more) := by
    have x78 : Ext h7 n6 h7 (n6 + 8) := ⟨by omega, fun _ _ => rfl⟩
    exact (t3.rows (A := fun _ => False) (fun _ _ q => q)).same x78 (fun x r q => (q.go x7 (fun _ _ q => q) (fun _ _ q => q.elim)).ext x78)
  have hva : v < (runF fo0 (jobs ++ more)).vs.length := by
    obtain ⟨vs2, _, e⟩ := runF_mk more (runF fo0 jobs) mk2
    rw [runF_app, e, List.length_append]; omega
  have hvj : v < (runF fo0 jobs).vs.length := by omega
  have hvo := verV_old mk2 hvj
  obtain ⟨ua, uc, h8, n8, u1, u2, u3⟩ := bytesOf_spec (f := 20000) (by omega) Y0 sc rwj okj (by omega) hvj
  rw [u1]
  simp only [mst_]
  have x8 : ∀ m, n8 ≤ m → Ext h8 n8 h8 m := fun m hm => ⟨hm, fun _ _ => rfl⟩
  have rwa8 : Rows (StepR h8 (n8 + 8) fun _ => False) h8 (n8 + 8) (fun _ => False) e7.a 5 (jobs ++ more) := rwa.same (u2.le (by omega)) (fun _ _ r => r.ext (u2.le (by omega)))
  obtain ⟨wa, wc, h9, n9, w1, w2, w3⟩ := bytesOf_spec (f := 20000) (by omega) Y0 e7.c rwa8 oka (by omega) hva
  rw [w1]
  simp only [mst_]
  have x79 : Ext h7 (n6 + 8) h9 (n9 + 8) := ⟨by have := u2.1; have := w2.1; omega, fun i hi => by rw [w2.2 i (by have := u2.1; omega), u2.2 i hi]⟩
  have rwj9 : Rows (StepR h9 (n9 + 8) fun _ => False) h9 (n9 + 8) (fun _ => False) sa 5 jobs := rwj.same x79 (fun _ _ r => r.ext x79)
  obtain ⟨na, nc, h10, n10, qa, Na, y1, y2, y3, y4⟩ := Nodes_spec (f := 20000) (by omega) Y0 sc rwj9 okj (by omega) hvj
  rw [y1]
  simp only [mst_]
  have x710 : Ext h7 (n6 + 8) h10 (n10 + 8) := ⟨by have := x79.1; have := y2.1; omega, fun i hi => by rw [y2.2 i (by have := x79.1; omega), x79.2 i hi]⟩
  have rwa10 : Rows (StepR h10 (n10 + 8) fun _ => False) h10 (n10 + 8) (fun _ => False) e7.a 5 (jobs ++ more) := rwa.same x710 (fun _ _ r => r.ext x710)
  obtain ⟨ma, mc, h11, n11, qb, Nb, z1, z2, z3, z4⟩ := Nodes_spec (f := 20000) (by omega) Y0 e7.c rwa10 oka (by omega) hva
  rw [z1]
  simp only [mst_]
  have hbb : bytesJ (jobs ++ more) v = bytesJ jobs v := by unfold bytesJ; rw [hvo]
  rw [hvo] at z4
  rw [hbb] at w3 ⊢
  have vok := verV_ok okj hvj
  have hs := vok.hs
  have hL := lev_le (verV jobs v).s
  have hbl := bytesJ_len jobs v
  have x811 : Ext h8 n8 h11 n11 := ⟨by have := w2.1; have := y2.1; have := z2.1; omega, fun i hi => by have := w2.1; have := y2.1; rw [z2.2 i (by omega), y2.2 i (by omega), w2.2 i (by omega)]⟩
  have x911 : Ext h9 n9 h11 n11 := ⟨by have := y2.1; have := z2.1; omega, fun i hi => by have := y2.1; rw [z2.2 i (by omega), y2.2 i (by omega)]⟩
  have u11 := u3.ext x811
  have w11 := w3.ext x911
  rw [if_neg (by decide), if_neg (by decide)]
  obtain ⟨m, lm, e1⟩ := same_spec (f := 20000) (by omega) Y0 uc wc u11 w11 (by omega) (n11 + 20)
  rw [e1]
  simp only [mst_]
  rw [show decide True = true from rfl]
  simp only [mst_]
  rw [F6_J1_eq]
  have hw0 := wholeL_nil_iff (lev (verV jobs v).s) (verV jobs v).t
  have hrm := lev_room hs
  have hr3 := room3_le hL
  have hnl := vok.nl
  have hlw : (bytesJ jobs v).length ≤ (wholeL (lev (verV jobs v).s) (verV jobs v).t).length := by
    by_cases c : (verV jobs v).t = .nil
    · have := hnl.2 c; omega
    · rw [wholeL_len c]; omega
  have hwl : (wholeL (lev (verV jobs v).s) (verV jobs v).t).length ≤ 4096 := by
    by_cases c : (verV jobs v).t = .nil
    · rw [hw0.2 c]; omega
    · rw [wholeL_len c]; exact hr3
  have hN0 := y4.nil_iff
  have xa : Ext h10 n10 h11 (m + 7) := ⟨by have := z2.1; omega, fun i hi => z2.2 i (by omega)⟩
  obtain ⟨b1, b2, h12, n12, j1, j2, j3⟩ := whole_spec (f := 20000) (by omega) Y0 nc hL vok.gd y4 (y3.same xa (fun _ _ r => r.go (xa.fr fun _ => False) (fun _ _ q => q) (fun _ _ q => q)))
  rw [j1]
  simp only [mst_]
  have xb : Ext h11 n11 h12 (n12 + 7) := ⟨by have := j2.1; omega, fun i hi => j2.2 i (by omega)⟩
  obtain ⟨b3, b4, h13, n13, k1, k2, k3⟩ := whole_spec (f := 20000) (by omega) Y0 mc hL vok.gd z4 (z3.same xb (fun _ _ r => r.go (xb.fr fun _ => False) (fun _ _ q => q) (fun _ _ q => q)))
  rw [k1]
  simp only [mst_]
  obtain ⟨m2, _, e2⟩ := same_spec (f := 20000) (by omega) Y0 b2 b4 (j3.ext (⟨by have := k2.1; omega, fun i hi => k2.2 i (by omega)⟩ : Ext h12 n12 h13 n13)) k3 (by omega) (n13 + 26)
  rw [e2]
  simp only [mst_]
  rw [show decide True = true from rfl]
  simp only [mst_]
  have hempty : ((((bytesJ jobs v).length : Nat) : Int) == 0) = (((Na.length : Nat) : Int) == 0) := by
    rw [Bool.eq_iff_iff, beq_iff_eq, beq_iff_eq]
    constructor
    · intro e; have := hN0.2 (hnl.1 (by omega)); omega
    · intro e; have := hnl.2 (hN0.1 (by omega)); omega
  rw [if_pos trivial, if_pos trivial, if_pos trivial, if_pos (by rw [hempty, beq_self_eq_true]), decide_eq_true (by omega)]
  exact ⟨_, _, rfl⟩

end Go.Proofs.Ytogmdfbamgjjfaa.T
