/- SpanTells. -/
import Derived.Test.YtophneodoibcgaaX9
set_option linter.unusedVariables false
set_option linter.unusedSimpArgs false
namespace Go.Proofs.Ytophneodoibcgaa.T
open Go Go.RowKit Go.Proofs

theorem tells_j3 {f lf : Nat} (hf : 1200 ≤ f) {h : AHeap} {nx : Nat} {xa ya pa qa za : Option (Nat × Nat)} {xc yc pc qc zc : Option Nat} {x y p q z : RL} {m : Nat} (hm : m ≤ 200) (wx : Set' MAXC m x) (wy : Set' MAXC m y) (wp : Set' MAXC m p) (wq : Set' MAXC m q) (wz : Set' MAXC m z)
    (sx : RS h nx xa x) (sy : RS h nx ya y) (sp : RS h nx pa p) (sq : RS h nx qa q) (sz : RS h nx za z) {k : Int} {ib : Bool}
    (hp : Hs p k ↔ Hs x k ∨ ib = true) (hq : Hs q k ↔ Hs x k ∧ ¬ ib = true) (hz : Hs z k ↔ Hs x k ∧ Hs y k) :
    ∃ h' nx', F5_J3 (callP Try.prog keepT f) Y0 lf xa x.length xc ya y.length yc k ib pa p.length pc qa q.length qc za z.length zc h nx = some (.bool true, h', nx') := by
  rw [F5_J3_eq]
  obtain ⟨b1, h1, n1, r1, e1, x1⟩ := has_spec (f := f) hf Y0 xc hm wx k (nx := nx + 4) (sx.ext ⟨by omega, fun _ _ => rfl⟩)
  have hx1 := x1.1
  rw [r1]
  simp only [mst_]
  have y1 : Ext h nx h1 (n1 + 32) := ⟨by omega, fun j hj => x1.2 j (by omega)⟩
  obtain ⟨b2, h2, n2, r2, e2, x2⟩ := has_spec (f := f) hf Y0 pc hm wp k (sp.ext y1)
  rw [r2]
  simp only [mst_]
  have y2 := y1.trans x2
  obtain ⟨b3, h3, n3, r3, e3, x3⟩ := has_spec (f := f) hf Y0 qc hm wq k (sq.ext y2)
  have y3 := y2.trans x3
  obtain ⟨b4, h4, n4, r4, e4, x4⟩ := has_spec (f := f) hf Y0 zc hm wz k (sz.ext y3)
  have y4 := y3.trans x4
  obtain ⟨b5, h5, n5, r5, e5, x5⟩ := has_spec (f := f) hf Y0 yc hm wy k (sy.ext y4)
  by_cases c1 : b1 = true
  · have hx := e1.1 c1
    have hb2 : b2 = true := e2.2 (hp.2 (.inl hx))
    have hb3 : b3 = !ib := by
      cases ib with
      | true => simpa using fun t => (hq.1 (e3.1 t)).2 rfl
      | false => exact e3.2 (hq.2 ⟨hx, by decide⟩)
    have hb4 : b4 = b5 := by
      by_cases c5 : b5 = true
      · rw [c5]; exact e4.2 (hz.2 ⟨hx, e5.1 c5⟩)
      · have : ¬ b4 = true := fun t => c5 (e5.2 (hz.1 (e4.1 t)).2)
        simp at c5 this; rw [c5, this]
    rw [if_pos c1, if_pos (by rw [hb2]; rfl), r3]
    simp only [mst_]
    rw [if_pos c1, if_pos (by rw [hb3]; exact beq_self_eq_true _), r4]
    simp only [mst_]
    rw [if_pos c1, r5]
    simp only [mst_]
    rw [show (b4 == b5) = true by rw [hb4]; exact beq_self_eq_true _]
    exact ⟨_, _, rfl⟩
  · have hx : ¬ Hs x k := fun t => c1 (e1.2 t)
    have hb2 : b2 = ib := by
      cases ib with
      | true => exact e2.2 (hp.2 (.inr rfl))
      | false =>
        have : ¬ b2 = true := fun t => (hp.1 (e2.1 t)).elim hx (by decide)
        simpa using this
    have hb3 : b3 = false := by
      have : ¬ b3 = true := fun t => hx (hq.1 (e3.1 t)).1
      simpa using this
    have hb4 : b4 = false := by
      have : ¬ b4 = true := fun t => hx (hz.1 (e4.1 t)).1
      simpa using this
    rw [if_neg c1, if_pos (by rw [hb2]; exact beq_self_eq_true _), r3]
    simp only [mst_]
    rw [if_neg c1, if_pos (by rw [hb3]; rfl), r4]
    simp only [mst_]
    rw [if_neg c1, show (b4 == false) = true by rw [hb4]; rfl]
    exact ⟨_, _, rfl⟩

theorem tells_j2 {f lf : Nat} (hf : 1300 ≤ f) {h : AHeap} {nx bx : Nat} {xa ya : Option (Nat × Nat)} {xc yc : Option Nat} {x y : RL} {m : Nat} (hm : m ≤ 90) (wx : Set' MAXC m x) (wy : Set' MAXC m y)
    (sx : RS h nx xa x) (sy : RS h nx ya y) {r : Int × Int} (hr : 0 ≤ r.1 ∧ r.1 < r.2 ∧ r.2 ≤ MAXC) (hb : h bx = some ⟨[.int .i64 r.1, .int .i64 r.2], 2, true⟩) (hbx : bx < nx) {k : Int} {ib : Bool} (hi : ib = true ↔ r.1 ≤ k ∧ k < r.2) :
    ∃ h' nx', F5_J2 (callP Try.prog keepT f) Y0 lf xa x.length xc ya y.length yc (some (bx, 0)) k ib h nx = some (.bool true, h', nx') := by
  rw [F5_J2_eq]
  simp only [mst_]
  rw [ldr_all hb (n := 2) rfl]
  simp only [mst_]
  obtain ⟨pa, pc, h1, n1, r1, w1, x1⟩ := add_spec (f := f) (by omega) Y0 xc (by omega) wx hr (nx := nx + 8) (sx.ext ⟨by omega, fun _ _ => rfl⟩)
  have hx1 := x1.1
  rw [r1]
  simp only [mst_]
  have y1 : Ext h nx h1 (n1 + 8) := ⟨by omega, fun j hj => x1.2 j (by omega)⟩
  rw [ldr_all ((y1.2 bx hbx).trans hb) (n := 2) rfl]
  simp only [mst_]
  obtain ⟨qa, qc, h2, n2, r2, w2, x2⟩ := cut_spec (f := f) (by omega) Y0 xc (by omega) wx hr (sx.ext y1)
  have hx2 := x2.1
  rw [r2]
  simp only [mst_]
  have y2 : Ext h nx h2 (n2 + 8) := (y1.trans x2).le (by omega)
  obtain ⟨za, zc, h3, n3, r3, w3, x3⟩ := both_spec (f := f) (by omega) Y0 xc yc (by omega) wx wy (sx.ext y2) (sy.ext y2)
  have hx3 := x3.1
  rw [r3]
  simp only [mst_]
  have y3 : Ext h nx h3 (n3 + 25) := (y2.trans x3).le (by omega)
  obtain ⟨wp, hp⟩ := add_set wx hr
  obtain ⟨wq, hq⟩ := cut_set wx hr
  obtain ⟨wz, hz⟩ := both_set wx wy
  have sp : RS h3 (n3 + 25) pa (addL x r) := w1.sl.ext ⟨by omega, fun j hj => (x3.2 j (by omega)).trans (x2.2 j (by omega))⟩
  have sq : RS h3 (n3 + 25) qa (cutL x r) := w2.sl.ext ⟨by omega, fun j hj => x3.2 j (by omega)⟩
  have sz : RS h3 (n3 + 25) za (bothL x y) := w3.sl.ext ⟨by omega, fun _ _ => rfl⟩
  have hp := hp k
  have hq := hq k
  have hz := hz k
  generalize addL x r = p at *
  generalize cutL x r = q at *
  generalize bothL x y = z at *
  rw [if_neg (by decide), if_neg (by decide), if_neg (by decide)]
  obtain ⟨h4, n4, r4, x4⟩ := may_spec (f := f) (by omega) Y0 pc (by omega) wp sp
  rw [r4]
  simp only [mst_]
  obtain ⟨h5, n5, r5, x5⟩ := may_spec (f := f) (by omega) Y0 qc (by omega) wq (sq.ext x4)
  rw [r5]
  simp only [mst_]
  have x45 := x4.trans x5
  obtain ⟨h6, n6, r6, x6⟩ := may_spec (f := f) (by omega) Y0 zc (by omega) wz (sz.ext x45)
  rw [r6]
  simp only [mst_]
  have x46 := x45.trans x6
  have y6 := y3.trans x46
  rw [← hi] at hp hq
  exact tells_j3 (f := f) (lf := lf) (by omega) (m := m + m + 1) (by omega) (wx.le (by omega)) (wy.le (by omega)) (wp.le (by omega)) (wq.le (by omega)) (wz.le (by omega)) (sx.ext y6) (sy.ext y6) (sp.ext x46) (sq.ext x46) (sz.ext x46) hp hq hz

theorem SpanTells_run (h : AHeap) (nx : Nat) (L : List Int) (hL : L.length * 8 ≤ 140737488351232) (_ : ∀ n ∈ L, (Lit.int .i64 n).wf = true) (a : Option (Nat × Nat)) (s : Sl h nx a L.length 1 (L.map (AV.int .i64)))
    (M : List Int) (hM : M.length * 8 ≤ 140737488351232) (_ : ∀ n ∈ M, (Lit.int .i64 n).wf = true) (b : Option (Nat × Nat)) (t : Sl h nx b M.length 1 (M.map (AV.int .i64))) (x2 : Int) (_ : (Lit.int .i64 x2).wf = true) (x3 : Int) (_ : (Lit.int .i64 x3).wf = true) (x4 : Int) (_ : (Lit.int .i64 x4).wf = true) :
    ∃ f h' nx', callP Try.prog keepT f Y0 5 [.slice a L.length none, .slice b M.length none, .int .i64 x2, .int .i64 x3, .int .i64 x4] h nx = some (.bool true, h', nx') := by
  refine ⟨2001, ?_⟩
  rw [F5_eq]
  obtain ⟨xa, xc, h1, n1, r1, w1, e1⟩ := set_spec (f := 2000) (by omega) Y0 none (n := 12) (nx := nx + 8) (by omega) (L := L) (s.ext ⟨by omega, fun _ _ => rfl⟩) (by omega)
  have hx1 := e1.1
  rw [show ((12 : Nat) : Int) = 12 from rfl] at r1
  rw [r1]
  simp only [mst_]
  obtain ⟨ya, yc, h2, n2, r2, w2, e2⟩ := set_spec (f := 2000) (by omega) Y0 none (n := 12) (nx := n1 + 7) (by omega) (L := M) (t.ext ⟨by omega, fun j hj => e1.2 j (by omega)⟩) (by omega)
  have hx2 := e2.1
  rw [show ((12 : Nat) : Int) = 12 from rfl] at r2
  rw [r2]
  simp only [mst_]
  have hl : ((pairsL L).take 12).length ≤ 12 := by rw [List.length_take]; omega
  have hl2 : ((pairsL M).take 12).length ≤ 12 := by rw [List.length_take]; omega
  have wx := (setL_max ((pairsL L).take 12)).le hl
  have wy := (setL_max ((pairsL M).take 12)).le hl2
  generalize setL ((pairsL L).take 12) = X at *
  generalize setL ((pairsL M).take 12) = Y at *
  have sx : RS h2 (n2 + 6) xa X := w1.sl.ext ⟨by omega, fun j hj => e2.2 j (by omega)⟩
  have sy : RS h2 (n2 + 6) ya Y := w2.sl.ext ⟨by omega, fun _ _ => rfl⟩
  rw [F5_J1_eq]
  have hr := rangeP_max (x2, x3)
  obtain ⟨h3, n3, r3, e3⟩ := range_spec (f := 2000) (by omega) Y0 (x2, x3) h2 (n2 + 6 + 5)
  have hx3 := e3.1
  rw [r3]
  simp only [mst_]
  generalize rangeP (x2, x3) = r at *
  rw [st_all (put_same _ _ _) (by rfl) (by rfl) (by rfl), put_put]
  obtain ⟨h4, hh4⟩ : ∃ h4, h4 = h3.put (n2 + 6 + 3) (some ⟨[.int .i64 r.1, .int .i64 r.2], 2, true⟩) := ⟨_, rfl⟩
  rw [← hh4]
  have e4 : h4 (n2 + 6 + 3) = some ⟨[.int .i64 r.1, .int .i64 r.2], 2, true⟩ := by rw [hh4, put_same]
  have y4 : ∀ N, n3 ≤ N → Ext h2 (n2 + 6) h4 N := fun N hN => ⟨by omega, fun j hj => by rw [hh4, put_ne (by omega)]; exact e3.2 j (by omega)⟩
  rw [picked_spec (by omega) Y0 x4 400 (by decide) (by decide)]
  simp only [mst_]
  generalize pickL x4 400 = k at *
  rw [ld_at e4 (v := .int .i64 r.1) rfl]
  simp only [mst_]
  by_cases c : k ≥ r.1
  · rw [if_pos (decide_eq_true c), ld_at e4 (v := .int .i64 r.2) rfl]
    simp only [mst_]
    exact tells_j2 (f := 2000) (lf := 2000) (by omega) (m := 12) (by omega) wx wy (sx.ext (y4 _ (by omega))) (sy.ext (y4 _ (by omega))) hr e4 (by omega) (by rw [decide_eq_true_eq]; exact ⟨fun q => ⟨c, q⟩, fun q => q.2⟩)
  · rw [if_neg (by rw [decide_eq_true_eq]; exact c)]
    exact tells_j2 (f := 2000) (lf := 2000) (by omega) (m := 12) (by omega) wx wy (sx.ext (y4 _ (by omega))) (sy.ext (y4 _ (by omega))) hr e4 (by omega) ⟨fun q => (by cases q), fun q => absurd q.1 c⟩

end Go.Proofs.Ytophneodoibcgaa.T
