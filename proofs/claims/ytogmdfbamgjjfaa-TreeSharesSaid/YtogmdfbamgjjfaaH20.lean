/- Trees: Nodes, all of it. -/
import Derived.Test.YtogmdfbamgjjfaaH19
set_option linter.unusedVariables false
set_option linter.unusedSimpArgs false
namespace Go.Proofs.Ytogmdfbamgjjfaa.T
open Go Go.RowKit Go.Proofs

theorem All2.mem {α β : Type} {R : α → β → Prop} : ∀ {xs : List α} {ys : List β}, All2 R xs ys → ∀ x ∈ xs, ∃ y, R x y
  | [], _, _, x, hx => by cases hx
  | z :: xs, ys, h, x, hx => by
    obtain ⟨y, r, rfl, a, q⟩ := h
    cases hx with
    | head => exact ⟨y, a⟩
    | tail _ hx => exact q.mem x hx
theorem BS.nn {h0 : AHeap} {n0 : Nat} {A : Nat → Prop} {h : AHeap} {nx : Nat} {ra oa : Option (Nat × Nat)} {q : List (Nat × Tr)} {N : List NRec} (w : BS h0 n0 A h nx ra oa q N) : ∀ y ∈ q, y.2 ≠ .nil := fun y hy => by
  obtain ⟨rows, rq, _⟩ := w.oq
  obtain ⟨r, b, id, bi, k, ds, qq, _, e, _⟩ := rq.mem y hy
  rw [e]; exact fun z => by cases z
theorem sumQ_cons (x : Nat × Tr) (l : List (Nat × Tr)) : sumQ (x :: l) = cntT x.1 x.2 + sumQ l := by simp [sumQ]
theorem len_sumQ : ∀ {l : List (Nat × Tr)}, (∀ y ∈ l, y.2 ≠ .nil) → l.length ≤ sumQ l
  | [], _ => by simp
  | x :: l, h => by
    have a := len_sumQ (l := l) (fun y hy => h y (List.mem_cons_of_mem _ hy))
    have b := cntT_pos (h x List.mem_cons_self)
    have c : sumQ (x :: l) = cntT x.1 x.2 + sumQ l := by simp [sumQ]
    simp only [List.length_cons]; omega

theorem n_loop3 {f : Nat} (hf : 1 ≤ f) {Y : YldF} {g : Nat} (hg : 5 ≤ g) {h0 : AHeap} {n0 : Nat} {A : Nat → Prop} (hA : ∀ b, A b → b < n0) (d : Nat) :
    ∀ (lf i : Nat) (ra oa : Option (Nat × Nat)) (rc oc : Bool) (q : List (Nat × Tr)) (N : List NRec) (h : AHeap) (nx : Nat), BS h0 n0 A h nx ra oa q N → i ≤ q.length → N.length = i → sumQ (q.drop i) = d → i + d ≤ 1000 → d < lf →
      ∃ a c h' nx' q' N', F11_L3 (callP Try.prog keepT f) Y g lf oa N.length oc ra q.length rc (i : Int) h nx = some (.tuple [.slice a N'.length c, .int .i64 0], h', nx') ∧ Ext h0 n0 h' nx' ∧ Rows (NodR h' nx' fun _ => False) h' nx' (fun _ => False) a 5 N' ∧ BF i q N q' N' := by
  induction d with
  | zero =>
    intro lf i ra oa rc oc q N h nx w hiq hN hs hb hl
    obtain ⟨lf, rfl⟩ : ∃ m, lf = m + 1 := ⟨lf - 1, by omega⟩
    have hd := len_sumQ (l := q.drop i) (fun y hy => w.nn y (List.mem_of_mem_drop hy))
    rw [List.length_drop] at hd
    obtain rfl : i = q.length := by omega
    rw [F11_L3_eq, if_neg (by rw [decide_eq_true_eq]; omega)]
    have fr : Frm (fun _ => False) h nx h (nx + 7) := ⟨by omega, fun _ _ _ => rfl⟩
    exact ⟨oa, oc, _, _, q, N, rfl, ⟨by have := w.x.1; omega, w.x.2⟩, (w.oN.rows (A := fun _ => False) (fun _ _ q => q)).go fr (fun _ _ q => q) (fun _ _ q => q) (fun _ _ r => r.go fr (fun _ _ q => q.elim) (fun _ _ q => q.elim)), .done q N⟩
  | succ d ih =>
    intro lf i ra oa rc oc q N h nx w hiq hN hs hb hl
    obtain ⟨lf, rfl⟩ : ∃ m, lf = m + 1 := ⟨lf - 1, by omega⟩
    have lx := w.x.1
    have hi : i < q.length := by
      by_cases c : i < q.length
      · exact c
      · rw [List.drop_of_length_le (by omega)] at hs; simp [sumQ] at hs
    have hd := len_sumQ (l := q.drop i) (fun y hy => w.nn y (List.mem_of_mem_drop hy))
    rw [List.length_drop] at hd
    have hx : q[i]? = some q[i] := List.getElem?_eq_getElem hi
    have hdr : q.drop i = q[i] :: q.drop (i + 1) := List.drop_eq_getElem_cons hi
    have hnn := w.nn q[i] (List.getElem_mem hi)
    obtain ⟨r, pr, _, rd⟩ := (w.oq.rows (A := fun _ => False) (fun _ _ q => q)).read0 (R := Res) hx (by omega)
    have hs2 : sumQ ((q ++ kqn q[i]).drop (i + 1)) = d := by
      have e1 := sumQ_kqn hnn
      have e2 : sumQ (q.drop i) = cntT q[i].1 q[i].2 + sumQ (q.drop (i + 1)) := by rw [hdr, sumQ_cons]
      rw [List.drop_append_of_le_length (by omega), sumQ_app]; omega
    have nxt := fun (ra' oa' : Option (Nat × Nat)) (rc' oc' : Bool) (h' : AHeap) (nx' : Nat) (bs : BS h0 n0 A h' nx' ra' oa' (q ++ kqn q[i]) (N ++ [recOf q.length q[i]])) =>
      ih lf (i + 1) ra' oa' rc' oc' (q ++ kqn q[i]) (N ++ [recOf q.length q[i]]) h' nx' bs (by simp; omega) (by simp; omega) hs2 (by omega) (by omega)
    have fin : ∀ {X : Option Res}, (∃ a c h' nx' q' N', X = some (.tuple [.slice a N'.length c, .int .i64 0], h', nx') ∧ Ext h0 n0 h' nx' ∧ Rows (NodR h' nx' fun _ => False) h' nx' (fun _ => False) a 5 N' ∧ BF (i + 1) (q ++ kqn q[i]) (N ++ [recOf q.length q[i]]) q' N') →
        ∃ a c h' nx' q' N', X = some (.tuple [.slice a N'.length c, .int .i64 0], h', nx') ∧ Ext h0 n0 h' nx' ∧ Rows (NodR h' nx' fun _ => False) h' nx' (fun _ => False) a 5 N' ∧ BF i q N q' N' := fun ⟨a, c, h', nx', q', N', e1, e2, e3, e4⟩ => ⟨a, c, h', nx', q', N', e1, e2, e3, .step hx e4⟩
    obtain ⟨b, id, bi, k, ds, qq, rfl, ht, hAb, hb0, hkk⟩ := pr
    refine fin ?_
    clear fin
    generalize q[i] = x at *
    obtain ⟨lv, t⟩ := x
    simp only at ht hb0 hkk
    subst ht
    have lb := hA b hAb
    have hb1 : h b = some ⟨cellsN id bi lv qq ds, 1, true⟩ := (w.x.2 b lb).trans hb0
    rw [F11_L3_eq, if_pos (decide_eq_true (by omega)), rd _ _ rfl]
    simp only [mst_]
    rw [Nat.zero_add, Nat.zero_add, ld_at hb1 (v := .int .i64 (id : Int)) rfl]
    simp only [mst_]
    rw [ld_at hb1 (v := .int .i64 (bi : Int)) rfl]
    simp only [mst_]
    rw [ld_at hb1 (v := .int .i64 (lv : Int)) rfl]
    simp only [mst_]
    rw [st_all (put_same h (nx + 22) _) (by simp) (by simp) (by simp [allOne, AV.one]), put_put]
    rw [ifApart_pos (by
      simp only [AllApart]
      refine ⟨fun x hx => ?_, fun x hx => ?_, fun x hx => ?_, trivial⟩ <;> simp at hx ⊢ <;> omega)]
    have er : (h.put (nx + 22) (some ⟨[.int .i64 (id : Int), .int .i64 (bi : Int), .int .i64 (lv : Int), .slice none 0 false, .slice none 0 false], 5, true⟩)) (nx + 22) = _ := put_same _ _ _
    have x1 : Ext h nx (h.put (nx + 22) (some ⟨[.int .i64 (id : Int), .int .i64 (bi : Int), .int .i64 (lv : Int), .slice none 0 false, .slice none 0 false], 5, true⟩)) (nx + 23) := ⟨by omega, fun i hi => put_ne (by omega)⟩
    generalize h.put (nx + 22) (some ⟨[.int .i64 (id : Int), .int .i64 (bi : Int), .int .i64 (lv : Int), .slice none 0 false, .slice none 0 false], 5, true⟩) = h1 at *
    have hb2 : h1 b = some ⟨cellsN id bi lv qq ds, 1, true⟩ := (x1.2 b (by omega)).trans hb1
    rw [ld_at hb2 (v := .int .i64 (lv : Int)) rfl]
    simp only [mst_]
    cases lv with
    | zero =>
      rw [if_pos (by decide)]
      have hc : cutR h1 (some (b, 0 + 7)) 64 1 none none none = some (some (b, 7), 64, true) := by
        unfold cutR boundsD
        simp only [hb2, Option.bind_some, bound_none]
        rw [if_pos (by rw [Bool.and_eq_true]; exact ⟨beq_self_eq_true _, decide_eq_true (by rw [cellsN_len]; omega)⟩)]
        rfl
      rw [hc]
      simp only [mst_]
      obtain ⟨a2, c2, h2, g1, g2, g3⟩ := clone_spec (f := f) hf Y hb2 (show b < nx + 36 by omega) true
      rw [g1]
      simp only [mst_]
      have er2 := (g2.2 (nx + 22) (by omega)).trans er
      rw [st_to er2 (cs' := [.int .i64 (id : Int), .int .i64 (bi : Int), .int .i64 ((0 : Nat) : Int), .slice none 0 false, .slice a2 64 c2]) rfl (by simp) rfl, ldr_all (put_same _ _ _) (by simp)]
      simp only [mst_, mst5]
      have fr3 : Frm (fun _ => False) h nx (h2.put (nx + 22) (some ⟨[.int .i64 (id : Int), .int .i64 (bi : Int), .int .i64 ((0 : Nat) : Int), .slice none 0 false, .slice a2 64 c2], 5, true⟩)) (nx + 36 + 7) := ⟨by omega, fun i hi _ => by rw [put_ne (by omega), g2.2 i (by omega), x1.2 i (by omega)]⟩
      have g4 := g3.putLow (j := nx + 22) (b := some ⟨[.int .i64 (id : Int), .int .i64 (bi : Int), .int .i64 ((0 : Nat) : Int), .slice none 0 false, .slice a2 64 c2], 5, true⟩) (by omega) (Nat.le_refl _)
      generalize h2.put (nx + 22) (some ⟨[.int .i64 (id : Int), .int .i64 (bi : Int), .int .i64 ((0 : Nat) : Int), .slice none 0 false, .slice a2 64 c2], 5, true⟩) = h3 at *
      have nr : NodR h3 (nx + 36 + 7) (fun i => ownOf ra i ∨ ownOf oa i) (recOf q.length (0, .nd id bi k ds)) [.int .i64 (id : Int), .int .i64 (bi : Int), .int .i64 ((0 : Nat) : Int), .slice none 0 false, .slice a2 64 c2] :=
        ⟨_, _, rfl, byt_nilk, a2, c2, by simp [recOf, datL_len], by simp only [recOf, Tr.dat, datL_cells, datL_len]; exact g4.sl, by
          simp only [recOf, datL_len]
          exact g4.av (fun i i1 i2 q => by
            rcases q with q | q
            · have := w.oq.lt q; omega
            · have := w.oN.lt q; omega)⟩
      obtain ⟨e, p1, p2, p3, p4⟩ := out_push w (fr3.more (fun _ _ q => q.elim)) (w.oq.go fr3 (fun _ _ q => q) (fun _ _ r => r)) (fun i q => .inl q) (by omega) (id := nx + 36 + 7 + 2) (id2 := nx + 36 + 7 + 3) (by omega) (by omega) nr rfl oc
      rw [p1]
      simp only [mst_]
      rw [p2]
      simp only [mst_]
      rw [p3, wsucc (i := i) (by omega)]
      have bs := p4.ext (h' := (h3.put (nx + 36 + 7 + 2) (some ⟨[.int .i64 (id : Int), .int .i64 (bi : Int), .int .i64 ((0 : Nat) : Int), .slice none 0 false, .slice a2 64 c2], 5, true⟩)).puts e.sets) (nx' := nx + 36 + 7 + 8) ⟨by omega, fun _ _ => rfl⟩
      have hz : q ++ kqn (0, .nd id bi k ds) = q := by simp [kqn]
      have := nxt ra e.a rc e.c _ _ (by rw [hz]; exact bs)
      rw [hz] at this ⊢
      exact this
    | succ lv =>
      rw [if_neg (by simp; omega), ldr_at hb2 (by rw [cellsN_len]; omega), cellsN_kids]
      have key := n_loop4 (P := fun X => ∃ a c h' nx' q' N', X = some (.tuple [.slice a N'.length c, .int .i64 0], h', nx') ∧ Ext h0 n0 h' nx' ∧ Rows (NodR h' nx' fun _ => False) h' nx' (fun _ => False) a 5 N' ∧ BF (i + 1) (q ++ kqn (lv + 1, .nd id bi k ds)) (N ++ [recOf q.length (lv + 1, .nd id bi k ds)]) q' N') (f := f) (Y := Y) (g := g) (lf := lf) (i := i) (oc := oc) hA w (rb := nx + 22) (by omega) (by omega) (by omega) (by omega) hkk (fun ra' oa' rc' oc' h' nx' bs => nxt ra' oa' rc' oc' h' nx' bs) 4 g 0 ra none rc false h1 (nx + 34) (by omega) (by omega) ((x1.fr _).le (by omega)) (by omega)
        (by simp only [kq, List.append_nil]; exact w.oq.go (D := fun _ => False) ((x1.fr _).le (by omega)) (fun _ _ q => q) (fun _ _ r => r)) (fun i q => ⟨.inl q, by have := w.oq.lt q; omega, fun z => no_own z⟩) (OwnRows.nil _ _ _ _) (fun i q => (no_own q).elim) er
      simp only [kq, List.append_nil] at key
      exact key

theorem cntT_le : ∀ (l : Nat) (t : Tr), cntT l t ≤ 5 ^ (l + 1)
  | l, .nil => by rw [cntT_nil]; exact Nat.zero_le _
  | 0, .nd _ _ _ _ => by simp [cntT]
  | l + 1, .nd _ _ k _ => by
    have h0 := cntT_le l (k 0)
    have h1 := cntT_le l (k 1)
    have h2 := cntT_le l (k 2)
    have h3 := cntT_le l (k 3)
    have e : 5 ^ (l + 1 + 1) = 5 * 5 ^ (l + 1) := by rw [Nat.pow_succ]; omega
    have p := Nat.pow_pos (n := l + 1) (show 0 < 5 by omega)
    simp only [cntT]; omega

theorem Nodes_spec {f : Nat} (hf : 1010 ≤ f) (Y : YldF) {h0 : AHeap} {n0 : Nat} {xa : Option (Nat × Nat)} (xc : Bool) {jobs : List Stp} (hx : Rows (StepR h0 n0 fun _ => False) h0 n0 (fun _ => False) xa 5 jobs) (ok : OkAll fo0 jobs) (hj : jobs.length ≤ 300) {v : Nat} (hv : v < (runF fo0 jobs).vs.length) :
    ∃ a c h' nx' q N, callP Try.prog keepT f Y 11 [.slice xa jobs.length xc, .int .i64 (v : Int)] h0 n0 = some (.tuple [.slice a N.length c, .int .i64 0], h', nx') ∧ Ext h0 n0 h' nx' ∧ Rows (NodR h' nx' fun _ => False) h' nx' (fun _ => False) a 5 N ∧ BF 0 (one1 (lev (verV jobs v).s) (verV jobs v).t) [] q N := by
  obtain ⟨f, rfl⟩ : ∃ m, f = m + 1 := ⟨f - 1, by omega⟩
  rw [F11_eq]
  obtain ⟨a1, c1, h1, n1, A, F, va, r1, r2, r3, r4, _⟩ := play_spec (f := f) (by omega) Y xc (h0 := h0) (n0 := n0 + 11) (hx.same ⟨by omega, fun _ _ => rfl⟩ (fun _ _ r => r.ext ⟨by omega, fun _ _ => rfl⟩)) ok hj
  rw [r1]
  simp only [mst_]
  have l1 := r2.1
  obtain ⟨vc, hd⟩ := r3.hd
  have hF : h1 F = some ⟨[.slice va (runF fo0 jobs).vs.length vc, .int .i64 ((runF fo0 jobs).m : Int)], 2, true⟩ := hd
  have lF := r3.lF
  have vok := verV_ok ok hv
  have hg : (runF fo0 jobs).vs[v]? = some (verV jobs v) := by unfold verV; rw [List.getD_eq_getElem?_getD, List.getElem?_eq_getElem hv]; rfl
  have hvv : verV jobs v = verV jobs v := rfl
  have hvl : (v : Int) < (((runF fo0 jobs).vs.length : Nat) : Int) := by omega
  rw [if_neg (by decide), if_neg (by rw [decide_eq_true_eq]; omega), ld_at hF (v := .slice va (runF fo0 jobs).vs.length vc) rfl]
  simp only [mst_]
  rw [if_neg (by rw [decide_eq_true_eq]; omega), F11_J1_eq]
  simp only [mst_]
  rw [ld_at hF (v := .slice va (runF fo0 jobs).vs.length vc) rfl]
  simp only [mst_]
  obtain ⟨r, ⟨p, er, kd⟩, _, rd⟩ := (r3.hv.rows (A := fun _ => False) (fun _ _ q => q)).read0 (R := Res) hg (by omega)
  rw [rd (.ptr p) _ (by rw [er]; rfl)]
  simp only [mst_]
  have hs3 := lev_le (verV jobs v).s
  generalize verV jobs v = vv at *
  obtain ⟨t, s⟩ := vv
  simp only at kd hs3 ⊢
  cases t with
  | nil =>
    have hp : p = none := kd.nil_iff.2 rfl
    subst hp
    rw [if_neg (by simp), F11_J2_eq]
    have bs : BS h1 n1 A h1 (n1 + 13 + 13 + 1) none none [] [] := ⟨⟨by omega, fun _ _ => rfl⟩, OwnRows.nil _ _ _ _, OwnRows.nil _ _ _ _, fun i q => (no_own q).elim, fun i q => (no_own q).elim, fun i q => (no_own q).elim⟩
    obtain ⟨a, c, h', nx', q', N', e1, e2, e3, e4⟩ := n_loop3 (f := f) (by omega) (Y := Y) (g := f) (by omega) (fun b hb => (r3.hA b hb).1) 0 f 0 none none false false [] [] h1 _ bs (by simp) rfl (by simp [sumQ]) (by omega) (by omega)
    exact ⟨a, c, h', nx', q', N', e1, ⟨by have := e2.1; omega, fun i hi => by rw [e2.2 i (by omega), r2.2 i (by omega)]⟩, e3, e4⟩
  | nd id bi k ds =>
    rcases kd with ⟨_, e2⟩ | ⟨id2, bi2, k2, ds2, b, qq, e2, rfl, hAb, hb, hkk⟩
    · cases e2
    rw [if_pos (by simp)]
    obtain ⟨e, p1, p2, p3, p4, p5, p6, p7, p8⟩ := (OwnRows.nil (PtrR h1 A) h1 n1 1).push false (bytes := 8) (id := n1 + 13 + 15) (id2 := n1 + 13 + 16) (x := (lev s, .nd id bi k ds)) (r := [.ptr (some (b, 0))]) rfl ⟨b, id2, bi2, k2, ds2, qq, rfl, e2, hAb, hb, hkk⟩ (growOk_of (by simp) (by omega)) (by omega) (by omega)
    rw [p1]
    simp only [mst_]
    rw [List.length_nil] at p2
    rw [p2]
    simp only [mst_]
    rw [p3] at p5
    rw [p3, p4, F11_J2_eq]
    have bs : BS h1 n1 A ((h1.put (n1 + 13 + 15) (some ⟨[.ptr (some (b, 0))], 1, true⟩)).puts e.sets) (n1 + 13 + 18 + 1) (some (n1 + 13 + 16, 0)) none [(lev s, .nd id bi k ds)] [] :=
      ⟨⟨by omega, fun i hi => p6.2 i hi (fun q => no_own q)⟩, p5.go (D := fun _ => False) ⟨by omega, fun _ _ _ => rfl⟩ (fun _ _ q => q) (fun _ _ r => r), OwnRows.nil _ _ _ _, fun i q => by have := own_some q; omega, fun i q => (no_own q).elim, fun i _ q => no_own q⟩
    have hc := cntT_le (lev s) (.nd id bi k ds)
    have hc2 : 5 ^ (lev s + 1) ≤ 5 ^ 4 := Nat.pow_le_pow_right (by omega) (by omega)
    obtain ⟨a, c, h', nx', q', N', e1, e2, e3, e4⟩ := n_loop3 (f := f) (by omega) (Y := Y) (g := f) (by omega) (fun b hb => (r3.hA b hb).1) _ f 0 _ none e.c false _ [] _ _ bs (by simp) rfl rfl (by rw [List.drop_zero, sumQ_cons]; simp [sumQ]; omega) (by rw [List.drop_zero, sumQ_cons]; simp [sumQ]; omega)
    exact ⟨a, c, h', nx', q', N', e1, ⟨by have := e2.1; omega, fun i hi => by rw [e2.2 i (by omega), r2.2 i (by omega)]⟩, e3, e4⟩

end Go.Proofs.Ytogmdfbamgjjfaa.T
