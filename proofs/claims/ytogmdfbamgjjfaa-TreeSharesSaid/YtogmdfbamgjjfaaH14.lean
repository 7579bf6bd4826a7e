/- Trees: Play. -/
import Derived.Test.YtogmdfbamgjjfaaH13
set_option linter.unusedVariables false
set_option linter.unusedSimpArgs false
namespace Go.Proofs.Ytogmdfbamgjjfaa.T
open Go Go.RowKit Go.Proofs

theorem agg5 (a b c d e : AV) : asAgg 5 (.agg [a, b, c, d, e]) = some [a, b, c, d, e] := asAgg_mk (by simp)
theorem getD_4 (a b c d e f : AV) (l : List AV) : (a :: b :: c :: d :: e :: l).getD 4 f = e := by simp
theorem mst5 : (∀ a b c d e : AV, asAgg 5 (.agg [a, b, c, d, e]) = some [a, b, c, d, e]) ∧ (∀ (a b c d e f : AV) (l : List AV), (a :: b :: c :: d :: e :: l).getD 4 f = e) := ⟨agg5, getD_4⟩

def runF (fo : Fo) : List Stp → Fo
  | [] => fo
  | s :: l => runF (stepL fo s).1 l
def runA (fo : Fo) : List Stp → List (Nat × Nat × List Int)
  | [] => []
  | s :: l => (stepL fo s).2 :: runA (stepL fo s).1 l
def OkAll (fo : Fo) : List Stp → Prop
  | [] => True
  | s :: l => StOk fo.vs.length s ∧ OkAll (stepL fo s).1 l
def fo0 : Fo := ⟨[noV], 0⟩
theorem noV_ok : VOk 0 noV := ⟨by simp [noV], Gd.nil _ _, by simp [noV], fun x _ _ => cont_nil _ _⟩
theorem fo0_ok : FoOk fo0 := ⟨fun i v h => by
  cases i with
  | zero => simp [fo0] at h; subst h; exact noV_ok
  | succ i => simp [fo0] at h, by simp [fo0]⟩
theorem stepL_len (fo : Fo) (st : Stp) : fo.vs.length ≤ (stepL fo st).1.vs.length ∧ (stepL fo st).1.vs.length ≤ fo.vs.length + 1 := by
  unfold stepL; split
  · simp
  · split <;> simp

def AnsR (h : AHeap) (nx : Nat) (A : Nat → Prop) (x : Nat × Nat × List Int) (r : List AV) : Prop := ∃ v, r = [.int .i64 0, .int .i64 (x.1 : Int), .int .i64 (x.2.1 : Int), v] ∧ Byt .u8 h nx A v x.2.2
theorem AnsR.go {h h' : AHeap} {nx nx' : Nat} {A A' D : Nat → Prop} {s : Nat × Nat × List Int} {r : List AV} (w : AnsR h nx A s r) (f : Frm D h nx h' nx') (d : ∀ i, i < nx → D i → A i) (g : ∀ i, i < nx → A' i → A i) : AnsR h' nx' A' s r := by
  obtain ⟨v, e, b⟩ := w
  exact ⟨v, e, b.go f d g⟩

theorem play_loop {f : Nat} (hf : 110 ≤ f) {Y : YldF} {F : Nat} {h0 : AHeap} {n0 : Nat} {xa : Option (Nat × Nat)} {xc : Bool} {jobs : List Stp} (hx : Rows (StepR h0 n0 fun _ => False) h0 n0 (fun _ => False) xa 5 jobs) (hj : jobs.length ≤ 300) (hF0 : n0 ≤ F) (d : Nat) :
    ∀ (lf k : Nat) (oc : Bool) (A : Nat → Prop) (va oa : Option (Nat × Nat)) (fo : Fo) (outs : List (Nat × Nat × List Int)) (h : AHeap) (nx : Nat), k + d = jobs.length → d < lf → Ext h0 n0 h nx → For h nx A F va fo → FoOk fo → fo.vs.length ≤ k + 1 → OkAll fo (jobs.drop k) → (∀ i, A i ∨ ownOf va i ∨ ownOf oa i → n0 ≤ i) → outs.length = k →
      OwnRows (AnsR h nx fun i => i = F ∨ ownOf va i ∨ ownOf oa i) h nx oa 4 outs → (∀ i, ownOf oa i → ¬ A i ∧ i ≠ F ∧ ¬ ownOf va i) →
      ∃ a c h' nx' A' va', F17_L1 (callP Try.prog keepT f) Y f lf (some (F, 0)) oa outs.length oc xa jobs.length xc (jobs.length : Int) (k : Int) h nx = some (.tuple [.slice a jobs.length c, .ptr (some (F, 0)), .int .i64 0], h', nx') ∧ Ext h0 n0 h' nx' ∧
        For h' nx' A' F va' (runF fo (jobs.drop k)) ∧ FoOk (runF fo (jobs.drop k)) ∧ Rows (AnsR h' nx' fun _ => False) h' nx' (fun _ => False) a 4 (outs ++ runA fo (jobs.drop k)) := by
  induction d with
  | zero =>
    intro lf k oc A va oa fo outs h nx e hl x w fk hlen oka hA ho ow oA
    obtain ⟨lf, rfl⟩ : ∃ m, lf = m + 1 := ⟨lf - 1, by omega⟩
    obtain rfl : k = jobs.length := by omega
    rw [F17_L1_eq, if_neg (by rw [decide_eq_true_eq]; omega), List.drop_length, runA, runF, List.append_nil]
    have fr : Frm (fun _ => False) h nx h (nx + 6) := ⟨by omega, fun _ _ _ => rfl⟩
    refine ⟨oa, oc, _, _, A, va, by rw [ho], ⟨by have := x.1; omega, x.2⟩, w.ext ⟨by omega, fun _ _ => rfl⟩, fk, ?_⟩
    exact (ow.rows (A := fun _ => False) (fun _ _ q => q)).go fr (fun _ _ q => q) (fun _ _ q => q) (fun _ _ r => r.go fr (fun _ _ q => q.elim) (fun _ _ q => q.elim))
  | succ d ih =>
    intro lf k oc A va oa fo outs h nx e hl x w fk hlen oka hA ho ow oA
    obtain ⟨lf, rfl⟩ : ∃ m, lf = m + 1 := ⟨lf - 1, by omega⟩
    have hk : k < jobs.length := by omega
    have lx := x.1
    obtain ⟨r, pr, _, rd, _⟩ := (hx.go (x.fr fun _ => False) (fun _ _ q => q) (fun _ _ q => q) (fun _ _ r => r) : Rows (StepR h0 n0 fun _ => False) h nx (fun _ => False) xa 5 jobs).read (R := Res) (List.getElem?_eq_getElem hk)
    have hdrop : jobs.drop k = jobs[k] :: jobs.drop (k + 1) := List.drop_eq_getElem_cons hk
    rw [hdrop] at oka
    obtain ⟨okj, okr⟩ := oka
    generalize jobs[k] = j at *
    obtain ⟨v, rfl, a, c, rfl, sl, _⟩ := pr
    rw [F17_L1_eq, if_pos (decide_eq_true (by omega)), rd]
    simp only [mst_, mst5]
    rw [st_all (put_same h (nx + 3) _) (by simp) (by simp) (by simp [allOne, AV.one]), put_put]
    rw [ldr_all (put_same h (nx + 3) _) (by simp)]
    simp only [mst_, mst5]
    have fr1 : Ext h nx (h.put (nx + 3) (some ⟨[.int .i64 (j.kind : Int), .int .i64 (j.ver : Int), .int .i64 (j.off : Int), .int .i64 (j.cnt : Int), .slice a j.bs.length c], 5, true⟩)) (nx + 12) := ⟨by omega, fun i hi => put_ne (by omega)⟩
    generalize h.put (nx + 3) (some ⟨[.int .i64 (j.kind : Int), .int .i64 (j.ver : Int), .int .i64 (j.off : Int), .int .i64 (j.cnt : Int), .slice a j.bs.length c], 5, true⟩) = h1 at *
    have w1 : For h1 (nx + 12) A F va fo := w.ext fr1
    have sl1 : Sl h1 (nx + 12) a j.bs.length 1 (ints .u8 j.bs) := sl.ext ⟨by omega, fun i hi => (fr1.2 i (by omega)).trans (x.2 i hi)⟩
    have av1 : Av (fun i => i = F) a j.bs.length := fun hn p ep q => by
      obtain ⟨p', b, e1, e2, _⟩ := sl.2 0 hn
      rw [ep] at e1; obtain rfl := Option.some.inj e1
      omega
    obtain ⟨sv, h2, n2, A', va', g1, g2, g3, g4, g5, g6, g7⟩ := step_spec hf Y w1 fk (by omega) okj sl1 av1 (c := c)
    rw [g1]
    have fk2 := stepL_ok fk okj
    have sl2 := stepL_len fo j
    generalize hS : stepL fo j = S at *
    obtain ⟨fo2, ver2, siz2, dat2⟩ := S
    simp only at g1 g2 g7 fk2 sl2 okr ⊢
    obtain ⟨b1, b2, rfl, b3⟩ := g7
    simp only [mst_]
    have l2 := g3.1
    have lF := w.lF
    have oA' : ∀ i, ownOf oa i → i < nx := fun i q => ow.lt q
    have fr2 : Frm (fun i => i = F ∨ ownOf va i) h nx h2 n2 := (fr1.fr _).trans g3 (fun _ _ q => q)
    have ow2 : OwnRows (AnsR h2 n2 fun i => i = F ∨ ownOf va' i ∨ ownOf oa i ∨ i = nx + 9 ∨ i = nx + 10) h2 (nx + 9) oa 4 outs := ow.go (D := fun i => i = F ∨ ownOf va i) ⟨by omega, fr2.2⟩ (fun i q z => by rcases z with z | z; exact (oA i q).2.1 z; exact (oA i q).2.2 z) (fun _ _ r => r.go fr2 (fun _ _ q => by rcases q with q | q; exact .inl q; exact .inr (.inl q)) (fun i hi q => by
      rcases q with q | q | q | q
      · exact .inl q
      · rcases g6 i q with q | q
        · exact .inr (.inl q)
        · omega
      · exact .inr (.inr q)
      · omega))
    have nb : AnsR h2 n2 (fun i => i = F ∨ ownOf va' i ∨ ownOf oa i ∨ i = nx + 9 ∨ i = nx + 10) (ver2, siz2, dat2) [.int .i64 0, .int .i64 (ver2 : Int), .int .i64 (siz2 : Int), .slice b1 dat2.length b2] := ⟨_, rfl, Byt.go (A := fun i => i = F ∨ ownOf va' i ∨ i < nx + 12) ⟨b1, b2, rfl, b3⟩ (Frm.refl (fun _ => False) h2 n2) (fun _ _ q => q.elim) (fun i _ q => by
      rcases q with q | q | q | q
      · exact .inl q
      · exact .inr (.inl q)
      · exact .inr (.inr (by have := oA' i q; omega))
      · exact .inr (.inr (by omega)))⟩
    obtain ⟨e1, p1, p2, p3, p4, p5, p6, p7, p8⟩ := ow2.push oc (bytes := 48) (id := nx + 9) (id2 := nx + 10) rfl nb (growOk_of (by omega) (by omega)) (by omega) (by omega)
    rw [p1]
    simp only [mst_]
    rw [p2]
    simp only [mst_]
    rw [wsucc (by omega), p3, p4]
    have x5 : Frm (fun i => ownOf oa i ∨ i = nx + 9 ∨ i = nx + 10) h2 n2 ((h2.put (nx + 9) (some ⟨[.int .i64 0, .int .i64 (ver2 : Int), .int .i64 (siz2 : Int), .slice b1 dat2.length b2], 4, true⟩)).puts e1.sets) (n2 + 2) := ⟨by omega, fun i hi hd => by
      rw [puts_get, put_ne (fun q => hd (.inr (.inl q)))]
      intro q; rcases p8 i q with q | q; exact hd (.inl q); exact hd (.inr (.inr q))⟩
    rw [p3] at p5
    generalize (h2.put (nx + 9) (some ⟨[.int .i64 0, .int .i64 (ver2 : Int), .int .i64 (siz2 : Int), .slice b1 dat2.length b2], 4, true⟩)).puts e1.sets = h3 at *
    have nA : ∀ i, (ownOf oa i ∨ i = nx + 9 ∨ i = nx + 10) → ¬ A' i ∧ i ≠ F ∧ ¬ ownOf va' i := fun i q => by
      have hlt : i < nx + 12 := by rcases q with q | q | q; have := oA' i q; omega; omega; omega
      refine ⟨fun z => ?_, ?_, fun z => ?_⟩
      · rcases g5 i z with z | z
        · rcases q with q | q | q
          · exact (oA i q).1 z
          · have := (w.hA i z).1; omega
          · have := (w.hA i z).1; omega
        · omega
      · rcases q with q | q | q
        · exact (oA i q).2.1
        · omega
        · omega
      · rcases g6 i z with z | z
        · rcases q with q | q | q
          · exact (oA i q).2.2 z
          · have := w.hv.lt z; omega
          · have := w.hv.lt z; omega
        · omega
    have w3 : For h3 (n2 + 2) A' F va' fo2 := by
      obtain ⟨c2, hd2⟩ := g2.hd
      have lF2 := g2.lF
      have kp : ∀ i, i < n2 → (A' i ∨ i = F ∨ ownOf va' i) → h3 i = h2 i := fun i hi q => x5.2 i hi (fun z => by
        have := nA i z
        rcases q with q | q | q
        · exact this.1 q
        · exact this.2.1 q
        · exact this.2.2 q)
      exact ⟨⟨c2, (kp F lF2 (.inr (.inl rfl))).trans hd2⟩, g2.hv.go x5 (fun i q z => (nA i z).2.2 q) (fun _ _ r => r.go (fun _ q => q) (fun b hb => kp b (g2.hA b hb).1 (.inl hb))), by omega, g2.nF, fun y hy => ⟨by have := (g2.hA y hy).1; omega, (g2.hA y hy).2⟩⟩
    have ow3 : OwnRows (AnsR h3 (n2 + 2) fun i => i = F ∨ ownOf va' i ∨ ownOf (some (nx + 10, 0)) i) h3 (n2 + 2) (some (nx + 10, 0)) 4 (outs ++ [(ver2, siz2, dat2)]) := p5.go (Frm.le (Frm.refl (fun _ => False) h3 (nx + 10 + 1)) (by omega)) (fun _ _ q => q) (fun _ _ r => r.go x5 (fun i _ q => .inr (.inr q)) (fun i _ q => by
      rcases q with q | q | q
      · exact .inl q
      · exact .inr (.inl q)
      · exact .inr (.inr (.inr (.inr (own_some q))))))
    have ex3 : Ext h0 n0 h3 (n2 + 2) := ⟨by omega, fun i hi => by
      rw [x5.2 i (by omega) (fun q => by rcases q with q | q | q; have := hA i (.inr (.inr q)); omega; omega; omega), fr2.2 i (by omega) (fun q => by rcases q with q | q; omega; have := hA i (.inr (.inl q)); omega), x.2 i hi]⟩
    obtain ⟨a9, c9, h9, n9, A9, va9, r1, r2, r3, r4, r5⟩ := ih lf (k + 1) e1.c A' va' (some (nx + 10, 0)) fo2 (outs ++ [(ver2, siz2, dat2)]) h3 (n2 + 2) (by omega) (by omega) ex3 w3 fk2 (by omega) okr (fun i q => by
      rcases q with q | q | q
      · rcases g5 i q with q | q
        · exact hA i (.inl q)
        · omega
      · rcases g6 i q with q | q
        · exact hA i (.inr (.inl q))
        · omega
      · have := own_some q; omega) (by simp; omega) ow3 (fun i q => nA i (.inr (.inr (own_some q))))
    rw [List.length_append, List.length_singleton] at r1
    refine ⟨a9, c9, h9, n9, A9, va9, r1, r2, ?_, ?_, ?_⟩
    · rw [hdrop, runF, hS]; exact r3
    · rw [hdrop, runF, hS]; exact r4
    · rw [hdrop, runA, hS, List.append_cons]; exact r5

theorem play_spec {f : Nat} (hf : 320 ≤ f) (Y : YldF) {h0 : AHeap} {n0 : Nat} {xa : Option (Nat × Nat)} (xc : Bool) {jobs : List Stp} (hx : Rows (StepR h0 n0 fun _ => False) h0 n0 (fun _ => False) xa 5 jobs) (ok : OkAll fo0 jobs) (hj : jobs.length ≤ 300) :
    ∃ a c h' nx' A F va, callP Try.prog keepT f Y 17 [.slice xa jobs.length xc] h0 n0 = some (.tuple [.slice a jobs.length c, .ptr (some (F, 0)), .int .i64 0], h', nx') ∧ Ext h0 n0 h' nx' ∧ For h' nx' A F va (runF fo0 jobs) ∧ FoOk (runF fo0 jobs) ∧ Rows (AnsR h' nx' fun _ => False) h' nx' (fun _ => False) a 4 (runA fo0 jobs) := by
  obtain ⟨f, rfl⟩ : ∃ m, f = m + 1 := ⟨f - 1, by omega⟩
  rw [F17_eq, if_neg (by rw [decide_eq_true_eq]; omega), if_pos (by decide)]
  dsimp only
  generalize hh2 : (h0.put (n0 + 6) _).put (n0 + 8) _ = h2
  have x2 : Ext h0 n0 h2 (n0 + 14) := ⟨by omega, fun i hi => by rw [← hh2, put_ne (by omega), put_ne (by omega)]⟩
  have eF : FrB h2 (n0 + 8) (some (n0 + 6, 0)) 1 true 0 := by unfold FrB; rw [← hh2, put_same]; rfl
  have ev : h2 (n0 + 6) = some ⟨[.ptr none, .int .i64 0], 2, true⟩ := by rw [← hh2, put_ne (by omega), put_same]; rfl
  have w : For h2 (n0 + 14) (fun _ => False) (n0 + 8) (some (n0 + 6, 0)) fo0 := ⟨⟨true, eF⟩, ⟨[[.ptr none, .int .i64 0]], All2.one ⟨none, rfl, Kd.nil _ _ _⟩, by simp, .inr ⟨n0 + 6, rfl, by omega, ev⟩⟩, by omega, fun q => by have := own_some q; omega, fun x q => q.elim⟩
  obtain ⟨a, c, h', nx', A', va', r1, r2, r3, r4, r5⟩ := play_loop (f := f) (by omega) (Y := Y) (F := n0 + 8) (xc := xc) hx hj (by omega) jobs.length f 0 false (fun _ => False) (some (n0 + 6, 0)) none fo0 [] h2 (n0 + 14) (by omega) (by omega) x2 w fo0_ok (by simp [fo0]) (by simpa using ok) (fun i q => by
    rcases q with q | q | q
    · exact q.elim
    · have := own_some q; omega
    · exact (no_own q).elim) rfl (OwnRows.nil _ _ _ _) (fun i q => (no_own q).elim)
  exact ⟨a, c, h', nx', A', n0 + 8, va', r1, r2, r3, r4, r5⟩

theorem Play_spec {f : Nat} (hf : 321 ≤ f) (Y : YldF) {h0 : AHeap} {n0 : Nat} {xa : Option (Nat × Nat)} (xc : Bool) {jobs : List Stp} (hx : Rows (StepR h0 n0 fun _ => False) h0 n0 (fun _ => False) xa 5 jobs) (ok : OkAll fo0 jobs) (hj : jobs.length ≤ 300) :
    ∃ a c h' nx', callP Try.prog keepT f Y 16 [.slice xa jobs.length xc] h0 n0 = some (.tuple [.slice a jobs.length c, .int .i64 0], h', nx') ∧ Ext h0 n0 h' nx' ∧ FoOk (runF fo0 jobs) ∧ Rows (AnsR h' nx' fun _ => False) h' nx' (fun _ => False) a 4 (runA fo0 jobs) := by
  obtain ⟨f, rfl⟩ : ∃ m, f = m + 1 := ⟨f - 1, by omega⟩
  rw [F16_eq]
  obtain ⟨a, c, h', nx', A, F, va, r1, r2, r3, r4, r5⟩ := play_spec (f := f) (by omega) Y xc (h0 := h0) (n0 := n0 + 11) (hx.go (Frm.le (Frm.refl (fun _ => False) h0 n0) (by omega)) (fun _ _ q => q) (fun _ _ q => q) (fun _ _ r => r.go (Frm.le (Frm.refl (fun _ => False) h0 n0) (by omega)) (fun _ _ q => q) (fun _ _ q => q))) ok hj
  rw [r1]
  simp only [mst_]
  have fr : Frm (fun _ => False) h' nx' h' (nx' + 4) := ⟨by omega, fun _ _ _ => rfl⟩
  exact ⟨a, c, h', nx' + 4, rfl, ⟨by have := r2.1; omega, fun i hi => r2.2 i (by omega)⟩, r4, r5.go fr (fun _ _ q => q) (fun _ _ q => q) (fun _ _ r => r.go fr (fun _ _ q => q) (fun _ _ q => q))⟩

end Go.Proofs.Ytogmdfbamgjjfaa.T
