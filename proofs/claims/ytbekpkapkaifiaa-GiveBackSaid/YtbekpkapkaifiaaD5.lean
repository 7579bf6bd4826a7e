/- A drive: Play. -/
import Derived.Test.YtbekpkapkaifiaaD4
set_option linter.unusedVariables false
set_option linter.unusedSimpArgs false
namespace Go.Proofs.Ytbekpkapkaifiaa.T
open Go Go.RowKit Go.Proofs

theorem do_dead {f : Nat} (hf : 310 ≤ f) (Y : YldF) {h : AHeap} {nx : Nat} {A : Nat → Prop} {dv pl : Nat} {wa : Option (Nat × Nat)} {s : DS} (w : Drv h nx A dv pl wa s) (hA : ∀ i, A i → i < nx)
    {j : Job} (k1 : 1 ≤ j.kind) (k2 : j.kind < 8) (hd : s.dead = true) {a : Option (Nat × Nat)} {c : Bool} :
    ∃ v h' nx', callP Try.prog keepT f Y 38 [.ptr (some (dv, 0)), .agg [.int .i64 j.kind, .int .i64 j.at_, .int .i64 j.keep, .slice a j.data.length c]] h nx = some (.agg [.int .i64 (doL s j).2.1, v], h', nx') ∧ DoR h nx A dv pl wa (doL s j).1 (doL s j).2.2 v h' nx' := by
  obtain ⟨f, rfl⟩ : ∃ m, f = m + 1 := ⟨f - 1, by omega⟩
  have ld := w.ld; have lp := w.lp
  rw [F38_eq]
  dsimp only
  generalize hh1 : AHeap.put (AHeap.put h nx _) (nx + 1) _ = h1
  have x1 : Ext h nx h1 (nx + 2) := ⟨by omega, fun i hi => by rw [← hh1, put_ne (by omega), put_ne (by omega)]⟩
  have e1 : h1 nx = some ⟨[.int .i64 j.kind, .int .i64 j.at_, .int .i64 j.keep, .slice a j.data.length c], 4, true⟩ := by rw [← hh1, put_ne (by omega), put_same]
  have e2 : h1 (nx + 1) = some ⟨[.int .i64 0, .slice none 0 false], 2, true⟩ := by rw [← hh1, put_same]
  have w1 : Drv h1 (nx + 6) A dv pl wa s := (w.go (D := fun _ => False) ⟨by omega, fun i hi _ => x1.2 i hi⟩ (fun _ _ q => q.elim) (fun _ _ q => q) (fun _ q => q) (fun q => q) (fun q => q) (fun _ _ q => q))
  rw [ldr_all e1 (by simp)]
  simp only [bind_some', asI_int, asB_bool, asStr_str, asP_ptr, asSl_sl, asAgg_1, asAgg_2, asAgg_3, asAgg_4, asTup_0, asTup_2, asTup_3, asTup_4, if_true', if_false', if_not_true', if_not_false', getD_0, getD_1, getD_2, getD_3]
  obtain ⟨h2, n2, g1, g2⟩ := fault_dead (f := f) (by omega) Y w1 k1 k2 hd a c
  rw [g1]
  simp only [bind_some', asI_int, asB_bool, asStr_str, asP_ptr, asSl_sl, asAgg_1, asAgg_2, asAgg_3, asAgg_4, asTup_0, asTup_2, asTup_3, asTup_4, if_true', if_false', if_not_true', if_not_false', getD_0, getD_1, getD_2, getD_3]
  have l2 := g2.1
  have x2 : Ext h nx h2 n2 := ⟨by omega, fun i hi => (g2.2 i (by omega)).trans (x1.2 i hi)⟩
  have e2 := (g2.2 (nx + 1) (by omega)).trans e2
  rw [if_pos (by decide), st_all e2 (by simp) (by simp) (by simp [allOne, AV.one])]
  rw [ldr_all (put_same _ (nx + 1) _) (by simp)]
  simp only [bind_some', asI_int, asB_bool, asStr_str, asP_ptr, asSl_sl, asAgg_1, asAgg_2, asAgg_3, asAgg_4, asTup_0, asTup_2, asTup_3, asTup_4, if_true', if_false', if_not_true', if_not_false', getD_0, getD_1, getD_2, getD_3]
  unfold doL
  rw [if_pos ⟨hd, by omega⟩]
  have fr : Frm (fun _ => False) h nx (h2.put (nx + 1) (some ⟨[.int .i64 13, .slice none 0 false], 2, true⟩)) (n2 + 5) := (x2.fr _).put (.inr (by omega)) (by omega)
  exact ⟨_, _, _, rfl, A, pl, wa, fr.more (fun _ _ q => q.elim), fun _ _ q => q, w.go fr (fun _ _ q => q.elim) (fun _ _ q => q) (fun _ q => q) (fun q => q) (fun q => q) (fun _ _ q => q), fun i q => by have := hA i q; omega, fun _ _ q => q, fun _ q => q, byt_nil⟩

def runL : DS → List Job → List (Int × List Int)
  | _, [] => []
  | s, j :: js => (doL s j).2 :: runL (doL s j).1 js
/-- What Play keeps true of a drive. -/
def DvOk (n k : Nat) (s : DS) : Prop := s.plate.length = n ∧ s.waits.length ≤ k ∧ ∀ x ∈ s.waits, x.1 < n

theorem markL_len (P : List Sec) (i : Nat) : (markL P i).length = P.length := by unfold markL; split <;> simp
theorem doL_ok {n k : Nat} {s : DS} (w : DvOk n k s) {j : Job} (ok : JobOk n j) : DvOk n (k + 1) (doL s j).1 := by
  obtain ⟨w1, w2, w3⟩ := w
  unfold doL
  by_cases c0 : s.dead = true ∧ j.kind ≠ 8
  · rw [if_pos c0]; exact ⟨w1, Nat.le_succ_of_le w2, w3⟩
  rw [if_neg c0]
  by_cases c1 : j.kind = 1
  · rw [if_pos c1]
    refine ⟨w1, by simp; omega, fun x hx => ?_⟩
    have : 0 ≤ j.at_ ∧ j.at_ < n := by rcases ok with z | z | z | z | z | z | z | z <;> first | exact ⟨z.2.1, z.2.2.1⟩ | omega
    rcases List.mem_append.1 hx with hx | hx
    · exact w3 x hx
    · simp at hx; subst hx; simp only; omega
  rw [if_neg c1]
  split
  · exact ⟨w1, Nat.le_succ_of_le w2, w3⟩
  split
  · exact ⟨by simpa [settleL_len] using w1, by simp, by simp⟩
  split
  · exact ⟨by simpa [settleL_len] using w1, by simp, by simp⟩
  split
  · exact ⟨by simpa [markL_len] using w1, Nat.le_succ_of_le w2, w3⟩
  split
  · exact ⟨by simpa using w1, Nat.le_succ_of_le w2, w3⟩
  split
  · exact ⟨w1, Nat.le_succ_of_le w2, w3⟩
  · exact ⟨by simpa [freshL] using w1, by simp [freshL], by simp [freshL]⟩

theorem do_any {f : Nat} (hf : 310 ≤ f) (Y : YldF) {h : AHeap} {nx n k : Nat} {A : Nat → Prop} {dv pl : Nat} {wa : Option (Nat × Nat)} {s : DS} (w : Drv h nx A dv pl wa s) (hA : ∀ i, A i → i < nx) (d : DvOk n k s) (hk : k ≤ 300) (hn : n ≤ 1000)
    {j : Job} (ok : JobOk n j) {a : Option (Nat × Nat)} {c : Bool} (sl : Sl h nx a j.data.length 1 (ints .u8 j.data)) (av : Av A a j.data.length) :
    ∃ v h' nx', callP Try.prog keepT f Y 38 [.ptr (some (dv, 0)), .agg [.int .i64 j.kind, .int .i64 j.at_, .int .i64 j.keep, .slice a j.data.length c]] h nx = some (.agg [.int .i64 (doL s j).2.1, v], h', nx') ∧ DoR h nx A dv pl wa (doL s j).1 (doL s j).2.2 v h' nx' := by
  obtain ⟨d1, d2, d3⟩ := d
  by_cases c0 : s.dead = true ∧ j.kind ≠ 8
  · have kk : 1 ≤ j.kind ∧ j.kind ≤ 8 := by rcases ok with z | z | z | z | z | z | z | z <;> omega
    exact do_dead hf Y w hA kk.1 (by have := c0.2; omega) c0.1
  · refine do_spec hf Y w hA (by omega) (by rw [d1]; exact d3) (by omega) (by rw [d1]; exact ok) ?_ sl av
    by_cases c : j.kind = 8
    · exact .inr c
    · cases hd : s.dead with
      | false => exact .inl rfl
      | true => exact absurd ⟨hd, c⟩ c0

def AnsR (h : AHeap) (nx : Nat) (A : Nat → Prop) (x : Int × List Int) (r : List AV) : Prop := ∃ v, r = [.int .i64 x.1, v] ∧ Byt .u8 h nx A v x.2
theorem AnsR.go {h h' : AHeap} {nx nx' : Nat} {A A' D : Nat → Prop} {s : Int × List Int} {r : List AV} (w : AnsR h nx A s r) (f : Frm D h nx h' nx') (d : ∀ i, i < nx → D i → A i) (g : ∀ i, i < nx → A' i → A i) : AnsR h' nx' A' s r := by
  obtain ⟨v, e, b⟩ := w
  exact ⟨v, e, b.go f d g⟩

theorem Drv.tv {h : AHeap} {nx : Nat} {A : Nat → Prop} {dv pl : Nat} {wa : Option (Nat × Nat)} {s : DS} (w : Drv h nx A dv pl wa s) {i : Nat} (q : i = dv ∨ i = pl ∨ ownOf wa i) : A i := by
  rcases q with q | q | q
  · rw [q]; exact w.ad
  · rw [q]; exact w.ap
  · exact w.aw _ q

theorem OwnRows.lt {α : Type} {Q : α → List AV → Prop} {h : AHeap} {nx : Nat} {a : Option (Nat × Nat)} {es : Nat} {l : List α} (w : OwnRows Q h nx a es l) {i : Nat} (hi : ownOf a i) : i < nx := by
  obtain ⟨rows, _, _, s⟩ := w
  obtain ⟨o, e⟩ := hi
  rcases s with ⟨e', _⟩ | ⟨b, e', b1, _⟩
  · rw [e'] at e; simp at e
  · rw [e'] at e; simp only [Option.some.injEq, Prod.mk.injEq] at e; omega

theorem play_loop {f n : Nat} (hf : 310 ≤ f) {Y : YldF} {dv : Nat} {h0 : AHeap} {n0 : Nat} {xa : Option (Nat × Nat)} {xc : Bool} {jobs : List Job} (hx : Rows (JobR h0 n0 fun _ => False) h0 n0 (fun _ => False) xa 4 jobs) (ok : ∀ j ∈ jobs, JobOk n j) (hj : jobs.length ≤ 300) (hn : n ≤ 1000) (d : Nat) :
    ∀ (lf k : Nat) (oc : Bool) (A : Nat → Prop) (pl : Nat) (wa oa : Option (Nat × Nat)) (s : DS) (outs : List (Int × List Int)) (h : AHeap) (nx : Nat), k + d = jobs.length → d < lf → Ext h0 n0 h nx → DvOk n k s → Drv h nx A dv pl wa s → (∀ i, A i → n0 ≤ i ∧ i < nx) → outs.length = k →
      OwnRows (AnsR h nx A) h nx oa 2 outs → (∀ i, ownOf oa i → A i ∧ ¬ (i = dv ∨ i = pl ∨ ownOf wa i)) →
      ∃ a c h' nx', F23_L2 (callP Try.prog keepT f) Y f lf (some (dv, 0)) oa outs.length oc xa jobs.length xc (jobs.length : Int) (k : Int) h nx = some (.tuple [.slice a jobs.length c, .int .i64 0], h', nx') ∧ Ext h0 n0 h' nx' ∧
        Rows (AnsR h' nx' fun _ => False) h' nx' (fun _ => False) a 2 (outs ++ runL s (jobs.drop k)) := by
  induction d with
  | zero =>
    intro lf k oc A pl wa oa s outs h nx e hl x dk w hA ho ow oA
    obtain ⟨lf, rfl⟩ : ∃ m, lf = m + 1 := ⟨lf - 1, by omega⟩
    obtain rfl : k = jobs.length := by omega
    rw [F23_L2_eq, if_neg (by rw [decide_eq_true_eq]; omega), List.drop_length, runL, List.append_nil]
    have fr : Frm (fun _ => False) h nx h (nx + 4) := ⟨by omega, fun _ _ _ => rfl⟩
    refine ⟨oa, oc, _, _, by rw [ho], ⟨by have := x.1; omega, x.2⟩, ?_⟩
    exact (ow.rows (A := fun _ => False) (fun _ _ q => q)).go fr (fun _ _ q => q) (fun _ _ q => q) (fun _ _ r => r.go fr (fun _ _ q => q.elim) (fun _ _ q => q.elim))
  | succ d ih =>
    intro lf k oc A pl wa oa s outs h nx e hl x dk w hA ho ow oA
    obtain ⟨lf, rfl⟩ : ∃ m, lf = m + 1 := ⟨lf - 1, by omega⟩
    have hk : k < jobs.length := by omega
    have lx := x.1
    obtain ⟨r, pr, _, rd, _⟩ := (hx.go (x.fr fun _ => False) (fun _ _ q => q) (fun _ _ q => q) (fun _ _ r => r) : Rows (JobR h0 n0 fun _ => False) h nx (fun _ => False) xa 4 jobs).read (R := Res) (List.getElem?_eq_getElem hk)
    have okj := ok _ (List.getElem_mem hk)
    have hdrop : jobs.drop k = jobs[k] :: jobs.drop (k + 1) := List.drop_eq_getElem_cons hk
    generalize jobs[k] = j at *
    obtain ⟨v, rfl, a, c, rfl, sl, _⟩ := pr
    rw [F23_L2_eq, if_pos (decide_eq_true (by omega)), rd]
    simp only [bind_some', asI_int, asB_bool, asStr_str, asP_ptr, asSl_sl, asAgg_1, asAgg_2, asAgg_3, asAgg_4, asTup_0, asTup_2, asTup_3, asTup_4, if_true', if_false', if_not_true', if_not_false', getD_0, getD_1, getD_2, getD_3]
    rw [st_all (put_same h (nx + 3) _) (by simp) (by simp) (by simp [allOne, AV.one]), put_put]
    rw [ldr_all (put_same h (nx + 3) _) (by simp)]
    simp only [bind_some', asI_int, asB_bool, asStr_str, asP_ptr, asSl_sl, asAgg_1, asAgg_2, asAgg_3, asAgg_4, asTup_0, asTup_2, asTup_3, asTup_4, if_true', if_false', if_not_true', if_not_false', getD_0, getD_1, getD_2, getD_3]
    have fr1 : Frm (fun _ => False) h nx (h.put (nx + 3) (some ⟨[.int .i64 j.kind, .int .i64 j.at_, .int .i64 j.keep, .slice a j.data.length c], 4, true⟩)) (nx + 12) := (Frm.refl _ h nx).put (.inr (by omega)) (by omega)
    generalize h.put (nx + 3) (some ⟨[.int .i64 j.kind, .int .i64 j.at_, .int .i64 j.keep, .slice a j.data.length c], 4, true⟩) = h1 at *
    have w1 : Drv h1 (nx + 12) (fun i => A i ∨ i = nx + 9 ∨ i = nx + 10) dv pl wa s := w.go fr1 (fun _ _ q => q.elim) (fun i hi q => by rcases q with q | q | q; exact q; omega; omega) (fun _ q => .inl q) (fun q => q) (fun q => q) (fun _ _ q => q)
    have sl1 : Sl h1 (nx + 12) a j.data.length 1 (ints .u8 j.data) := sl.ext ⟨by omega, fun i hi => (fr1.2 i (by omega) (fun q => q)).trans (x.2 i hi)⟩
    have av1 : Av (fun i => A i ∨ i = nx + 9 ∨ i = nx + 10) a j.data.length := fun hn p ep q => by
      obtain ⟨p', b, e1, e2, _⟩ := sl.2 0 hn
      rw [ep] at e1; obtain rfl := Option.some.inj e1
      rcases q with q | q | q
      · have := hA _ q; omega
      · omega
      · omega
    obtain ⟨v, h2, n2, g1, A', pl', wa', g2, g7, g3, g4, g5, g8, g6⟩ := do_any hf Y w1 (fun i q => by rcases q with q | q | q; have := hA i q; omega; omega; omega) dk (by omega) hn okj sl1 av1 (c := c)
    rw [g1]
    obtain ⟨b1, b2, rfl, b3⟩ := g6
    simp only [bind_some', asI_int, asB_bool, asStr_str, asP_ptr, asSl_sl, asAgg_1, asAgg_2, asAgg_3, asAgg_4, asTup_0, asTup_2, asTup_3, asTup_4, if_true', if_false', if_not_true', if_not_false', getD_0, getD_1, getD_2, getD_3]
    have l2 := g2.1
    have oA' : ∀ i, ownOf oa i → i < nx := fun i q => ow.lt q
    have fr2 : Frm (fun i => i = dv ∨ i = pl ∨ ownOf wa i) h nx h2 n2 := (fr1.more (fun _ _ q => q.elim)).trans g2 (fun _ _ q => q)
    have gg : ∀ i, i < nx → A' i → A i := fun i hi q => by
      rcases g5 i (by omega) q with q | q | q
      · exact q
      · omega
      · omega
    have ow2 : OwnRows (AnsR h2 n2 A') h2 (nx + 9) oa 2 outs := ow.go (D := fun i => i = dv ∨ i = pl ∨ ownOf wa i) ⟨by omega, fr2.2⟩ (fun i q => (oA i q).2) (fun _ _ r => r.go fr2 (fun _ _ q => w.tv q) gg)
    have nb : AnsR h2 n2 A' (doL s j).2 [.int .i64 (doL s j).2.1, .slice b1 (doL s j).2.2.length b2] := ⟨_, rfl, Byt.go (A := fun i => A' i ∨ i < nx + 12) ⟨b1, b2, rfl, b3⟩ (Frm.refl (fun _ => False) h2 n2) (fun _ _ q => q.elim) (fun i _ q => .inl q)⟩
    obtain ⟨e1, p1, p2, p3, p4, p5, p6, p7, p8⟩ := ow2.push oc (bytes := 32) (id := nx + 9) (id2 := nx + 10) rfl nb (growOk_of (by omega) (by omega)) (by omega) (by omega)
    rw [p1]
    simp only [bind_some', asI_int, asB_bool, asStr_str, asP_ptr, asSl_sl, asAgg_1, asAgg_2, asAgg_3, asAgg_4, asTup_0, asTup_2, asTup_3, asTup_4, if_true', if_false', if_not_true', if_not_false', getD_0, getD_1, getD_2, getD_3]
    rw [p2]
    simp only [bind_some', asI_int, asB_bool, asStr_str, asP_ptr, asSl_sl, asAgg_1, asAgg_2, asAgg_3, asAgg_4, asTup_0, asTup_2, asTup_3, asTup_4, if_true', if_false', if_not_true', if_not_false', getD_0, getD_1, getD_2, getD_3]
    rw [wsucc (by omega), p3, p4]
    have x5 : Frm (fun i => ownOf oa i ∨ i = nx + 9 ∨ i = nx + 10) h2 n2 ((h2.put (nx + 9) (some ⟨[.int .i64 (doL s j).2.1, .slice b1 (doL s j).2.2.length b2], 2, true⟩)).puts e1.sets) (n2 + 2) := ⟨by omega, fun i hi hd => by
      rw [puts_get, put_ne (fun q => hd (.inr (.inl q)))]
      intro q; rcases p8 i q with q | q; exact hd (.inl q); exact hd (.inr (.inr q))⟩
    rw [p3] at p5
    generalize (h2.put (nx + 9) (some ⟨[.int .i64 (doL s j).2.1, .slice b1 (doL s j).2.2.length b2], 2, true⟩)).puts e1.sets = h3 at *
    have own2 : ∀ i, ownOf (some (nx + 10, 0)) i → i = nx + 10 := fun i ⟨o, q⟩ => by simp only [Option.some.injEq, Prod.mk.injEq] at q; exact q.1.symm
    have x5A : ∀ i, i < n2 → (ownOf oa i ∨ i = nx + 9 ∨ i = nx + 10) → A' i := fun i _ q => by
      rcases q with q | q
      · exact g8 _ (.inl (oA i q).1)
      · exact g8 _ (.inr q)
    have nT : ∀ i, (ownOf oa i ∨ i = nx + 9 ∨ i = nx + 10) → ¬ (i = dv ∨ i = pl' ∨ ownOf wa' i) := fun i q t => by
      have t2 := g7 i (by rcases q with q | q | q; have := oA' i q; omega; omega; omega) t
      rcases q with q | q | q
      · exact (oA i q).2 t2
      · have := hA _ (w.tv t2); omega
      · have := hA _ (w.tv t2); omega
    have w3 : Drv h3 (n2 + 2) A' dv pl' wa' (doL s j).1 := g3.go x5 x5A (fun _ _ q => q) (fun _ q => q) (fun q => nT _ q (.inl rfl)) (fun q => nT _ q (.inr (.inl rfl))) (fun i q t => nT _ t (.inr (.inr q)))
    have ow3 : OwnRows (AnsR h3 (n2 + 2) A') h3 (n2 + 2) (some (nx + 10, 0)) 2 (outs ++ [(doL s j).2]) := p5.go (Frm.le (Frm.refl (fun _ => False) h3 (nx + 10 + 1)) (by omega)) (fun _ _ q => q) (fun _ _ r => r.go x5 x5A (fun _ _ q => q))
    have ex3 : Ext h0 n0 h3 (n2 + 2) := ⟨by omega, fun i hi => by
      rw [x5.2 i (by omega) (fun q => by have := (hA i (by rcases q with q | q | q; exact (oA i q).1; omega; omega)).1; omega), fr2.2 i (by omega) (fun q => by have := (hA i (w.tv q)).1; omega), x.2 i hi]⟩
    obtain ⟨a9, c9, h9, n9, r1, r2, r3⟩ := ih lf (k + 1) e1.c A' pl' wa' (some (nx + 10, 0)) (doL s j).1 (outs ++ [(doL s j).2]) h3 (n2 + 2) (by omega) (by omega) ex3 (doL_ok dk okj) w3 (fun i q => ⟨by
      by_cases hi : i < nx + 12
      · rcases g5 i hi q with q | q | q
        · exact (hA i q).1
        · omega
        · omega
      · omega, by have := g4 i q; omega⟩) (by simp; omega) ow3 (fun i q => by rw [own2 i q]; exact ⟨g8 _ (.inr (.inr rfl)), nT _ (.inr (.inr rfl))⟩)
    rw [List.length_append, List.length_singleton] at r1
    refine ⟨a9, c9, h9, n9, r1, r2, ?_⟩
    rw [hdrop, runL, List.append_cons]
    exact r3

/-- Play: what the jobs answer, one after the other, on a drive of 8 sectors. -/
theorem play_spec {f : Nat} (hf : 320 ≤ f) (Y : YldF) {h0 : AHeap} {n0 : Nat} {xa : Option (Nat × Nat)} (xc : Bool) {jobs : List Job} (hx : Rows (JobR h0 n0 fun _ => False) h0 n0 (fun _ => False) xa 4 jobs) (ok : ∀ j ∈ jobs, JobOk 8 j) (hj : jobs.length ≤ 300) :
    ∃ a c h' nx', callP Try.prog keepT f Y 23 [.int .i64 8, .slice xa jobs.length xc] h0 n0 = some (.tuple [.slice a jobs.length c, .int .i64 0], h', nx') ∧ Ext h0 n0 h' nx' ∧ Rows (AnsR h' nx' fun _ => False) h' nx' (fun _ => False) a 2 (runL (freshL 8) jobs) := by
  obtain ⟨f, rfl⟩ : ∃ m, f = m + 1 := ⟨f - 1, by omega⟩
  rw [F23_eq, if_neg (by decide), if_neg (by decide), F23_J1_eq, if_neg (by rw [decide_eq_true_eq]; omega)]
  obtain ⟨h1, g1, g2, g3, g5, g4⟩ := new_spec (f := f) (by omega) Y (n := 8) (by omega) h0 (n0 + 8 + 6)
  have x1 : Ext h0 n0 h1 (n0 + 8 + 6 + 6 + 4) := ⟨by omega, fun i hi => g2.2 i (by omega)⟩
  rw [show (8 : Int) = ((8 : Nat) : Int) from rfl, g1]
  simp only [bind_some', asI_int, asB_bool, asStr_str, asP_ptr, asSl_sl, asAgg_1, asAgg_2, asAgg_3, asAgg_4, asTup_0, asTup_2, asTup_3, asTup_4, if_true', if_false', if_not_true', if_not_false', getD_0, getD_1, getD_2, getD_3]
  have w : Drv h1 (n0 + 8 + 6 + 6 + 4) (fun i => i = n0 + 8 + 6 + 2 ∨ i = n0 + 8 + 6 + 4) (n0 + 8 + 6 + 4) (n0 + 8 + 6 + 2) none (freshL 8) := g4.go (D := fun _ => False) ⟨by omega, fun _ _ _ => rfl⟩ (fun _ _ q => q.elim) (fun _ _ q => q) (fun _ q => q) (fun q => q) (fun q => q) (fun _ _ q => q)
  obtain ⟨a, c, h', nx', r1, r2, r3⟩ := play_loop (f := f) (n := 8) (by omega) (Y := Y) (dv := n0 + 8 + 6 + 4) (xc := xc) hx ok hj (by omega) jobs.length f 0 false _ _ none none (freshL 8) [] h1 (n0 + 8 + 6 + 6 + 4) (by omega) (by omega) x1 ⟨by simp [freshL], by simp [freshL], by simp [freshL]⟩ w (fun i q => by omega) rfl (OwnRows.nil _ _ _ _) (fun i q => (no_own q).elim)
  exact ⟨a, c, h', nx', r1, r2, r3⟩

end Go.Proofs.Ytbekpkapkaifiaa.T
