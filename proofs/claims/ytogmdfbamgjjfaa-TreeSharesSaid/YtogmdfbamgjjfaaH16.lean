/- Trees: steps out of edits. -/
import Derived.Test.YtogmdfbamgjjfaaH15
set_option linter.unusedVariables false
set_option linter.unusedSimpArgs false
namespace Go.Proofs.Ytogmdfbamgjjfaa.T
open Go Go.RowKit Go.Proofs

theorem OwnSl.putLow {h : AHeap} {n0 nx nx' j : Nat} {b : Option ABlk} {a : Option (Nat × Nat)} {n es : Nat} {vs : List AV} (s : OwnSl h n0 nx a n es vs) (hj : j < n0) (l : nx ≤ nx') : OwnSl (h.put j b) n0 nx' a n es vs :=
  ⟨s.1, s.2.imp id fun ⟨i, e1, e2, e3, e4⟩ => ⟨i, e1, e2, by omega, (put_ne (by omega)).trans e4⟩⟩

structure Edt where
  rz : Bool
  bk : Int
  of : Int
  bs : List Int
def EdtR (h : AHeap) (nx : Nat) (e : Edt) (r : List AV) : Prop := ∃ a, r = [.bool e.rz, .int .i64 e.bk, .int .i64 e.of, .slice a e.bs.length false] ∧ Sl h nx a e.bs.length 1 (ints .u8 e.bs)
def verOf (k : Nat) (e : Edt) : Nat := pickN ((k : Int) - pickL e.bk 3) (k + 1)
def stepOf (k : Nat) (e : Edt) : Stp := if e.rz = true then ⟨2, verOf k e, 0, pickN e.of 2600, []⟩ else ⟨1, verOf k e, pickN e.of 2000, 0, blockL e.bs 300⟩
def stepsL : Nat → Nat → List Edt → List Stp
  | _, 0, _ => []
  | _, _ + 1, [] => []
  | k, n + 1, e :: l => stepOf k e :: stepsL (k + 1) n l
theorem stepsL_len : ∀ (k n : Nat) (l : List Edt), (stepsL k n l).length = min l.length n
  | _, 0, _ => by simp [stepsL]
  | _, _ + 1, [] => by simp [stepsL]
  | k, n + 1, e :: l => by simp only [stepsL, List.length_cons, stepsL_len (k + 1) n l]; omega
theorem stepOf_ok (k : Nat) (e : Edt) {n : Nat} (h : k < n) : StOk n (stepOf k e) := by
  have h1 := pickN_lt (x := (k : Int) - pickL e.bk 3) (show 0 < k + 1 by omega)
  have h2 := pickN_lt (x := e.of) (show 0 < 2600 by omega)
  have h3 := pickN_lt (x := e.of) (show 0 < 2000 by omega)
  have h4 := blockL_len (bs := e.bs) (show 1 ≤ 300 by omega)
  unfold stepOf
  split
  · exact ⟨by simp only [verOf]; omega, .inr (.inl ⟨rfl, by simp only; omega⟩)⟩
  · exact ⟨by simp only [verOf]; omega, .inl ⟨rfl, by simp only; omega, by simp only; omega⟩⟩

theorem steps_loop {f : Nat} (hf : 1 ≤ f) {Y : YldF} {h0 : AHeap} {n0 g : Nat} {xa : Option (Nat × Nat)} {xc : Bool} {l : List Edt} (hx : Rows (EdtR h0 n0) h0 n0 (fun _ => False) xa 4 l) {m : Nat} (hm : m ≤ 100) (d : Nat) :
    ∀ (lf k : Nat) (oc : Bool) (oa : Option (Nat × Nat)) (outs : List Stp) (h : AHeap) (nx : Nat), k + d = min l.length m → d < lf → Ext h0 n0 h nx → outs.length = k → OwnRows (StepR h nx fun i => ownOf oa i ∨ i < n0) h nx oa 5 outs → (∀ i, ownOf oa i → n0 ≤ i) →
      ∃ a c h' nx', F7_L1 (callP Try.prog keepT f) Y g lf xa l.length xc (m : Int) oa outs.length oc (k : Int) h nx = some (.slice a (outs ++ stepsL k (m - k) (l.drop k)).length c, h', nx') ∧ Ext h0 n0 h' nx' ∧ Rows (StepR h' nx' fun i => i < n0) h' nx' (fun i => i < n0) a 5 (outs ++ stepsL k (m - k) (l.drop k)) := by
  induction d with
  | zero =>
    intro lf k oc oa outs h nx e hl x ho ow oA
    obtain ⟨lf, rfl⟩ : ∃ m, lf = m + 1 := ⟨lf - 1, by omega⟩
    have e0 : stepsL k (m - k) (l.drop k) = [] := List.eq_nil_of_length_eq_zero (by rw [stepsL_len, List.length_drop]; omega)
    rw [e0, List.append_nil]
    have fr : Frm (fun _ => False) h nx h (nx + 11) := ⟨by omega, fun _ _ _ => rfl⟩
    have res : ∃ a c h' nx', some (AV.slice oa outs.length oc, h, nx + 11) = some (AV.slice a outs.length c, h', nx') ∧ Ext h0 n0 h' nx' ∧ Rows (StepR h' nx' fun i => i < n0) h' nx' (fun i => i < n0) a 5 outs :=
      ⟨oa, oc, _, _, rfl, ⟨by have := x.1; omega, x.2⟩, (ow.rows (A := fun i => i < n0) (fun i q z => by have := oA i q; omega)).go fr (fun _ _ q => q.elim) (fun _ _ q => q) (fun _ _ r => r.go fr (fun _ _ q => q.elim) (fun _ _ q => .inr q))⟩
    rw [F7_L1_eq]
    by_cases c : k < l.length
    · rw [if_pos (decide_eq_true (by omega)), if_neg (by rw [decide_eq_true_eq]; omega)]; exact res
    · rw [if_neg (by rw [decide_eq_true_eq]; omega)]; exact res
  | succ d ih =>
    intro lf k oc oa outs h nx e hl x ho ow oA
    obtain ⟨lf, rfl⟩ : ∃ m, lf = m + 1 := ⟨lf - 1, by omega⟩
    have hk : k < l.length := by omega
    have lx := x.1
    obtain ⟨rows, rq, rlen, sl, _⟩ := hx
    obtain ⟨r, hr, ⟨ea, rfl, esl⟩⟩ := rq.get k _ (List.getElem?_eq_getElem hk)
    obtain ⟨p, blk, rfl, hp, eb0, _, hle, hq⟩ := sl.2 k hk
    have hx : Rows (EdtR h0 n0) h0 n0 (fun _ => False) (some p) 4 l := ⟨rows, rq, rlen, sl, fun _ _ _ q => q⟩
    have eb := (x.2 _ hp).trans eb0
    obtain ⟨bc, bes, bow⟩ := blk
    have cell : ∀ (fl : Nat) (v : AV), fl < 4 → ([.bool l[k].rz, .int .i64 l[k].bk, .int .i64 l[k].of, .slice ea l[k].bs.length false] : List AV)[fl]? = some v → bc[p.2 + (k * 4 + fl)]? = some v := fun fl v h1 h2 => by
      rw [hq _ (by omega), flat_get rlen hr h1, h2]
    have hdrop : stepsL k (m - k) (l.drop k) = stepOf k l[k] :: stepsL (k + 1) (m - (k + 1)) (l.drop (k + 1)) := by
      rw [List.drop_eq_getElem_cons hk, show m - k = (m - (k + 1)) + 1 by omega, stepsL]
    have nxt := fun (oc : Bool) (oa : Option (Nat × Nat)) (h' : AHeap) (nx' : Nat) => ih lf (k + 1) oc oa (outs ++ [stepOf k l[k]]) h' nx' (by omega) (by omega)
    rw [hdrop]
    generalize l[k] = ed at *
    -- what is behind the step
    have tail : ∀ (jb : Nat) (sa : Option (Nat × Nat)) (sc : Bool) (h3 : AHeap) (c3 : Nat), Ext h nx h3 c3 → jb < c3 → h3 jb = some ⟨[.int .i64 ((stepOf k ed).kind : Int), .int .i64 ((stepOf k ed).ver : Int), .int .i64 ((stepOf k ed).off : Int), .int .i64 ((stepOf k ed).cnt : Int), .slice sa (stepOf k ed).bs.length sc], 5, true⟩ →
        Byt .u8 h3 c3 (fun i => ownOf oa i ∨ i < n0) (.slice sa (stepOf k ed).bs.length sc) (stepOf k ed).bs →
        ∃ a c h' nx', F7_J3 (callP Try.prog keepT f) Y g lf (some p) l.length xc (m : Int) oa outs.length oc (k : Int) (some (jb, 0)) h3 c3 = some (.slice a (outs ++ stepOf k ed :: stepsL (k + 1) (m - (k + 1)) (l.drop (k + 1))).length c, h', nx') ∧ Ext h0 n0 h' nx' ∧ Rows (StepR h' nx' fun i => i < n0) h' nx' (fun i => i < n0) a 5 (outs ++ stepOf k ed :: stepsL (k + 1) (m - (k + 1)) (l.drop (k + 1))) := by
      intro jb sa sc h3 c3 x3 lj ej by3
      generalize stepOf k ed = st at *
      have l3 := x3.1
      rw [F7_J3_eq]
      simp only [mst_]
      rw [ldr_all ej (by simp)]
      simp only [mst_, mst5]
      have ow3 : OwnRows (StepR h3 c3 fun i => ownOf oa i ∨ i < n0) h3 c3 oa 5 outs := ow.go (x3.fr fun _ => False) (fun _ _ q => q) (fun _ _ r => r.go (x3.fr fun _ => False) (fun _ _ q => q.elim) (fun _ _ q => q))
      obtain ⟨e1, p1, p2, p3, p4, p5, p6, p7, p8⟩ := ow3.push oc (bytes := 56) (id := c3 + 2) (id2 := c3 + 3) rfl (show StepR h3 c3 (fun i => ownOf oa i ∨ i < n0) st _ from ⟨_, rfl, by3⟩) (growOk_of (by omega) (by omega)) (by omega) (by omega)
      rw [p1]
      simp only [mst_]
      rw [p2]
      simp only [mst_]
      rw [wsucc (by omega), p3, p4]
      rw [p3] at p5
      generalize (h3.put (c3 + 2) (some ⟨[.int .i64 (st.kind : Int), .int .i64 (st.ver : Int), .int .i64 (st.off : Int), .int .i64 (st.cnt : Int), .slice sa st.bs.length sc], 5, true⟩)).puts e1.sets = h4 at *
      have fr4 : Frm (ownOf oa) h3 c3 h4 (c3 + 8) := p6.le (by omega)
      have ow4 : OwnRows (StepR h4 (c3 + 8) fun i => ownOf (some (c3 + 3, 0)) i ∨ i < n0) h4 (c3 + 8) (some (c3 + 3, 0)) 5 (outs ++ [st]) := p5.go (Frm.le (Frm.refl (fun _ => False) h4 (c3 + 3 + 1)) (by omega)) (fun _ _ q => q) (fun _ _ r => r.go fr4 (fun _ _ q => .inl q) (fun i hi q => by
        rcases q with q | q
        · have := own_some q; omega
        · exact .inr q))
      obtain ⟨a9, c9, h9, n9, r1, r2, r3⟩ := nxt e1.c (some (c3 + 3, 0)) h4 (c3 + 8) ⟨by omega, fun i hi => by
        rw [fr4.2 i (by omega) (fun q => by have := oA i q; omega), x3.2 i (by omega), x.2 i hi]⟩ (by simp; omega) ow4 (fun i q => by have := own_some q; omega)
      rw [List.length_append, List.length_singleton] at r1
      rw [List.append_cons]
      exact ⟨a9, c9, h9, n9, r1, r2, r3⟩
    have lenk : k ≤ 100 := by omega
    have P1 := pickL_in (x := ed.bk) (n := 3) (by omega)
    rw [F7_L1_eq, if_pos (decide_eq_true (by omega)), if_pos (decide_eq_true (by omega)), F7_J2_eq]
    simp only [mst_]
    rw [if_pos ⟨by omega, by omega⟩, Int.toNat_natCast, ld_at eb (v := .int .i64 ed.bk) (by simpa [Nat.add_assoc] using cell 1 _ (by omega) rfl)]
    simp only [mst_]
    rw [picked_spec (f := f) (by omega) Y ed.bk 3 (by omega) (by omega)]
    simp only [mst_]
    have hw1 : wrapA .i64 ((k : Int) - pickL ed.bk 3) = (k : Int) - pickL ed.bk 3 := wA (by omega) (by omega)
    rw [hw1, wsucc (i := k) (by omega)]
    generalize hc1 : nx + 9 + 26 + pickK ed.bk 3 = c1
    rw [picked_spec (f := f) (by omega) Y ((k : Int) - pickL ed.bk 3) ((k + 1 : Nat) : Int) (by omega) (by omega), pickN_eq (n := k + 1) (by omega)]
    simp only [mst_]
    rw [if_pos ⟨by omega, by omega⟩, ld_at eb (v := .int .i64 ed.of) (by simpa [Nat.add_assoc] using cell 2 _ (by omega) rfl)]
    simp only [mst_]
    generalize hc2 : c1 + pickK ((k : Int) - pickL ed.bk 3) ((k + 1 : Nat) : Int) = c2
    rw [picked_spec (f := f) (by omega) Y ed.of 2000 (by omega) (by omega), show pickL ed.of 2000 = (pickN ed.of 2000 : Int) from pickN_eq (n := 2000) (by omega)]
    simp only [mst_]
    generalize hc3 : c2 + pickK ed.of 2000 = c3
    rw [if_pos ⟨by omega, by omega⟩, ld_at eb (v := .slice ea ed.bs.length false) (by simpa [Nat.add_assoc] using cell 3 _ (by omega) rfl)]
    simp only [mst_]
    obtain ⟨a2, b2c, h2, n2, q1, q2, q3, q4⟩ := block_spec (f := f) (by omega) Y (n := 300) (by omega) (by omega) false (h := h) (nx := c3) (ns := nx) (esl.ext x) (by omega)
    have q1' : callP Try.prog keepT f Y 9 [.slice ea ed.bs.length false, .int .i64 300] h c3 = _ := q1
    rw [q1']
    simp only [mst_]
    have l2 := q2.1
    rw [st_all (put_same h2 (nx + 9 + 24) _) (by simp) (by simp) (by simp [allOne, AV.one]), put_put]
    rw [ifApart_pos (by
      simp only [AllApart]
      refine ⟨fun x hx => ?_, fun x hx => ?_, fun x hx => ?_, trivial⟩ <;> simp at hx ⊢ <;> omega),
      ifKept_pos (by exact ⟨fun _ _ => rfl, fun _ _ => rfl, fun _ _ => rfl, fun _ _ => rfl, fun _ _ => rfl, trivial⟩),
      ifRob_pos (by
        refine ⟨fun ss _ => ?_, fun ss _ => ?_, fun ss _ => ?_, fun ss w => ?_, trivial⟩
        · rw [callC_fn, picked_spec (f := f) (by omega) Y ed.bk 3 (by omega) (by omega), hc1]
        · rw [callC_fn, picked_spec (f := f) (by omega) Y ((k : Int) - pickL ed.bk 3) ((k + 1 : Nat) : Int) (by omega) (by omega), pickN_eq (n := k + 1) (by omega), hc2]
        · rw [callC_fn, picked_spec (f := f) (by omega) Y ed.of 2000 (by omega) (by omega), show pickL ed.of 2000 = (pickN ed.of 2000 : Int) from pickN_eq (n := 2000) (by omega), hc3]
        · rw [callC_fn]
          exact q4 ss (fun p hp => by have := w p hp; simp at this; omega))]
    generalize hh3 : h2.put (nx + 9 + 24) _ = h3
    have x3 : Ext h nx h3 (n2 + 5) := ⟨by omega, fun i hi => by rw [← hh3, put_ne (by omega), q2.2 i (by omega)]⟩
    have ej : h3 (nx + 9 + 24) = some ⟨[.int .i64 1, .int .i64 (verOf k ed : Int), .int .i64 (pickN ed.of 2000 : Int), .int .i64 0, .slice a2 (blockL ed.bs 300).length b2c], 5, true⟩ := by rw [← hh3, put_same]; rfl
    have eb3 := (x3.2 p.1 (by omega)).trans eb
    have b3 : Byt .u8 h3 (n2 + 5) (fun i => ownOf oa i ∨ i < n0) (.slice a2 (blockL ed.bs 300).length b2c) (blockL ed.bs 300) := ⟨a2, b2c, rfl, by rw [← hh3]; exact (q3.putLow (by omega) (by omega)).sl, q3.av (fun i i1 i2 q => by
      rcases q with q | q
      · have := ow.lt q; omega
      · omega)⟩
    rw [if_pos ⟨by omega, by omega⟩, ld_at eb3 (v := .bool ed.rz) (by simpa [Nat.add_assoc] using cell 0 _ (by omega) rfl)]
    simp only [mst_]
    by_cases cz : ed.rz = true
    · rw [if_pos cz, ld_at ej (v := .int .i64 (verOf k ed : Int)) rfl]
      simp only [mst_]
      rw [if_pos ⟨by omega, by omega⟩, ld_at eb3 (v := .int .i64 ed.of) (by simpa [Nat.add_assoc] using cell 2 _ (by omega) rfl)]
      simp only [mst_]
      rw [picked_spec (f := f) (by omega) Y ed.of 2600 (by omega) (by omega), show pickL ed.of 2600 = (pickN ed.of 2600 : Int) from pickN_eq (n := 2600) (by omega)]
      simp only [mst_]
      rw [st_all ej (by simp) (by simp) (by simp [allOne, AV.one]), ifKept_pos (by exact ⟨fun _ _ => rfl, trivial⟩)]
      refine tail (nx + 9 + 24) none false _ _ (x3.put (by omega) (by omega)) (by omega) ?_ ?_
      · rw [put_same]; unfold stepOf; rw [if_pos cz]; rfl
      · unfold stepOf; rw [if_pos cz]; exact byt_nil
    · rw [if_neg cz]
      refine tail (nx + 9 + 24) a2 b2c h3 (n2 + 5) x3 (by omega) ?_ ?_
      · rw [ej]; unfold stepOf; rw [if_neg cz]; rfl
      · unfold stepOf; rw [if_neg cz]; exact b3

theorem steps_spec2 {f : Nat} (hf : 102 ≤ f) (Y : YldF) {h0 : AHeap} {n0 : Nat} {xa : Option (Nat × Nat)} (xc : Bool) {l : List Edt} (hx : Rows (EdtR h0 n0) h0 n0 (fun _ => False) xa 4 l) {m : Nat} (hm : m ≤ 100) :
    ∃ a c h' nx', callP Try.prog keepT f Y 7 [.slice xa l.length xc, .int .i64 (m : Int)] h0 n0 = some (.slice a (stepsL 0 m l).length c, h', nx') ∧ Ext h0 n0 h' nx' ∧ Rows (StepR h' nx' fun i => i < n0) h' nx' (fun i => i < n0) a 5 (stepsL 0 m l) := by
  obtain ⟨f, rfl⟩ : ∃ m, f = m + 1 := ⟨f - 1, by omega⟩
  rw [F7_eq]
  exact steps_loop (f := f) (by omega) (xc := xc) hx hm (min l.length m) f 0 false none [] h0 (n0 + 3) (by omega) (by omega) ⟨by omega, fun _ _ => rfl⟩ rfl (OwnRows.nil _ _ _ _) (fun i q => (no_own q).elim)
theorem steps_spec {f : Nat} (hf : 102 ≤ f) (Y : YldF) {h0 : AHeap} {n0 : Nat} {xa : Option (Nat × Nat)} (xc : Bool) {l : List Edt} (hx : Rows (EdtR h0 n0) h0 n0 (fun _ => False) xa 4 l) {m : Nat} (hm : m ≤ 100) :
    ∃ a c h' nx', callP Try.prog keepT f Y 7 [.slice xa l.length xc, .int .i64 (m : Int)] h0 n0 = some (.slice a (stepsL 0 m l).length c, h', nx') ∧ Ext h0 n0 h' nx' ∧ Rows (StepR h' nx' fun _ => False) h' nx' (fun _ => False) a 5 (stepsL 0 m l) := by
  obtain ⟨a, c, h', nx', r1, r2, r3⟩ := steps_spec2 hf Y xc hx hm
  exact ⟨a, c, h', nx', r1, r2, r3.go (Frm.refl (fun _ => False) _ _) (fun _ _ q => q.elim) (fun _ _ q => q.elim) (fun _ _ r => r.go (Frm.refl (fun _ => False) _ _) (fun _ _ q => q.elim) (fun _ _ q => q.elim))⟩

end Go.Proofs.Ytogmdfbamgjjfaa.T
