/- Trees: TreeReads. -/
import Derived.Test.YtogmdfbamgjjfaaH17
set_option linter.unusedVariables false
set_option linter.unusedSimpArgs false
namespace Go.Proofs.Ytogmdfbamgjjfaa.T
open Go Go.RowKit Go.Proofs

def wantB (u : List Int) (off : Nat) (d : List Int) (i : Nat) : Int := if off ≤ i ∧ i < off + d.length then d.getD (i - off) 0 else u.getD i 0

theorem rd_loop {f : Nat} {Y : YldF} {g jb off : Nat} {v : Int} {a b da : Option (Nat × Nat)} {ca cb dc : Bool} {u w ds : List Int} {h : AHeap} {n0 : Nat} (su : Sl h n0 a u.length 1 (ints .u8 u)) (sw : Sl h n0 b w.length 1 (ints .u8 w)) (sd : Sl h n0 da ds.length 1 (ints .u8 ds))
    (ej : h jb = some ⟨[.int .i64 1, .int .i64 v, .int .i64 (off : Int), .int .i64 0, .slice da ds.length dc], 5, true⟩) (hu : u.length ≤ 10000) (hw : w.length ≤ 10000) (hd : ds.length ≤ 10000) (ho : off ≤ 10000) (eq : ∀ i, i < w.length → w.getD i 0 = wantB u off ds i) (d : Nat) :
    ∀ (lf k nx : Nat), k + d = w.length → d < lf → ∃ m, F3_L2 (callP Try.prog keepT f) Y g lf (some (jb, 0)) a u.length ca b w.length cb (k : Int) h nx = some (.bool true, h, m) := by
  induction d with
  | zero =>
    intro lf k nx e hl
    obtain ⟨lf, rfl⟩ : ∃ m, lf = m + 1 := ⟨lf - 1, by omega⟩
    rw [F3_L2_eq, if_neg (by rw [decide_eq_true_eq]; omega)]
    exact ⟨_, rfl⟩
  | succ d ih =>
    intro lf k nx e hl
    obtain ⟨lf, rfl⟩ : ∃ m, lf = m + 1 := ⟨lf - 1, by omega⟩
    have hk : k < w.length := by omega
    have hq := eq k hk
    have hwk : w.getD k 0 = w[k] := by rw [List.getD_eq_getElem?_getD, List.getElem?_eq_getElem hk]; rfl
    rw [hwk] at hq
    have j4 : ∀ (c : Nat), ∃ m, F3_J4 (callP Try.prog keepT f) Y g lf (some (jb, 0)) a u.length ca b w.length cb (k : Int) (wantB u off ds k) h c = some (.bool true, h, m) := fun c => by
      rw [F3_J4_eq, sw.read0 (v := .int .u8 w[k]) (i := k) (by omega) (by omega) (by omega) (by simp [ints, hk])]
      simp only [mst_]
      rw [if_neg (by simp [hq]), wsucc (by omega)]
      exact ih lf (k + 1) _ (by omega) (by omega)
    have j3 : ∀ (c : Nat), ∃ m, F3_J3 (callP Try.prog keepT f) Y g lf (some (jb, 0)) a u.length ca b w.length cb (k : Int) (u.getD k 0) h c = some (.bool true, h, m) := fun c => by
      rw [F3_J3_eq]
      simp only [mst_]
      rw [Nat.zero_add, ld_at ej (v := .int .i64 (off : Int)) rfl]
      simp only [mst_]
      by_cases c1 : off ≤ k
      · rw [if_pos (decide_eq_true (by omega)), ld_at ej (v := .int .i64 (off : Int)) rfl]
        simp only [mst_]
        rw [Nat.zero_add, ld_at ej (v := .slice da ds.length dc) rfl]
        simp only [mst_]
        rw [show wrapA .i64 ((off : Int) + ((ds.length : Nat) : Int)) = ((off + ds.length : Nat) : Int) by rw [wA (by omega) (by omega)]; omega]
        by_cases c2 : k < off + ds.length
        · have hi : k - off < ds.length := by omega
          rw [if_pos (decide_eq_true (by omega)), ld_at ej (v := .slice da ds.length dc) rfl]
          simp only [mst_]
          rw [ld_at ej (v := .int .i64 (off : Int)) rfl]
          simp only [mst_]
          rw [show wrapA .i64 ((k : Int) - (off : Int)) = ((k - off : Nat) : Int) by rw [wA (by omega) (by omega)]; omega]
          rw [sd.read0 (v := .int .u8 ds[k - off]) (i := ((k - off : Nat) : Int)) (by omega) (by omega) (by omega) (by simp [ints, hi])]
          simp only [mst_]
          have := j4 (c + 23)
          unfold wantB at this
          rw [if_pos ⟨c1, c2⟩, List.getD_eq_getElem?_getD, List.getElem?_eq_getElem hi] at this
          exact this
        · rw [if_neg (by rw [decide_eq_true_eq]; omega)]
          have := j4 (c + 14)
          unfold wantB at this
          rw [if_neg (fun q => c2 q.2)] at this
          exact this
      · rw [if_neg (by rw [decide_eq_true_eq]; omega)]
        have := j4 (c + 14)
        unfold wantB at this
        rw [if_neg (fun q => c1 q.1)] at this
        exact this
    rw [F3_L2_eq, if_pos (decide_eq_true (by omega))]
    by_cases c : k < u.length
    · rw [if_pos (decide_eq_true (by omega)), su.read0 (v := .int .u8 u[k]) (i := k) (by omega) (by omega) (by omega) (by simp [ints, c])]
      simp only [mst_]
      have := j3 (nx + 14)
      rw [List.getD_eq_getElem?_getD, List.getElem?_eq_getElem c] at this
      exact this
    · rw [if_neg (by rw [decide_eq_true_eq]; omega)]
      have := j3 (nx + 9)
      rw [List.getD_eq_getElem?_getD, List.getElem?_eq_none (by omega)] at this
      exact this

/-! ### what a write on top makes -/
theorem bytesV_get (v : Vn) (i : Nat) : (bytesV v.s v.t).getD i 0 = byV v i := by
  unfold bytesV byV
  rw [List.getD_eq_getElem?_getD, List.getElem?_map]
  by_cases c : i < v.s
  · rw [if_pos c]; simp [c]
  · rw [if_neg c]; simp [c]
theorem bytesJ_get (jobs : List Stp) (v i : Nat) : (bytesJ jobs v).getD i 0 = byV (verV jobs v) i := bytesV_get _ _

theorem verV_old {jobs more : List Stp} (mk : MkAll more) {v : Nat} (hv : v < (runF fo0 jobs).vs.length) : verV (jobs ++ more) v = verV jobs v := by
  obtain ⟨vs, _, e⟩ := runF_mk more (runF fo0 jobs) mk
  unfold verV
  rw [runF_app, e, List.getD_eq_getElem?_getD, List.getElem?_append_left hv, ← List.getD_eq_getElem?_getD]
theorem verV_write {jobs : List Stp} {st : Stp} (h : st.kind = 1) : verV (jobs ++ [st]) (runF fo0 jobs).vs.length = ⟨(wrV (runF fo0 jobs).vs.length st.off st.bs (verV jobs st.ver) (runF fo0 jobs).m).1, max (verV jobs st.ver).s (st.off + st.bs.length)⟩ := by
  unfold verV
  rw [runF_app, runF, runF, stepL, if_pos h, List.getD_eq_getElem?_getD, List.getElem?_append_right (Nat.le_refl _)]
  simp
theorem bytesJ_write {jobs : List Stp} (ok : OkAll fo0 jobs) {st : Stp} (h : st.kind = 1) (hv : st.ver < (runF fo0 jobs).vs.length) (h2 : st.off + st.bs.length ≤ 4096) :
    (bytesJ (jobs ++ [st]) (runF fo0 jobs).vs.length).length = max (bytesJ jobs st.ver).length (st.off + st.bs.length) ∧
      ∀ i, i < (bytesJ (jobs ++ [st]) (runF fo0 jobs).vs.length).length → (bytesJ (jobs ++ [st]) (runF fo0 jobs).vs.length).getD i 0 = wantB (bytesJ jobs st.ver) st.off st.bs i := by
  have vok := verV_ok ok hv
  have l1 : (bytesJ (jobs ++ [st]) (runF fo0 jobs).vs.length).length = max (bytesJ jobs st.ver).length (st.off + st.bs.length) := by rw [bytesJ_len, bytesJ_len, verV_write h]
  refine ⟨l1, fun i hi => ?_⟩
  rw [l1, bytesJ_len] at hi
  have hs := vok.hs
  rw [bytesJ_get, verV_write h]
  unfold byV
  simp only
  rw [if_pos hi, wrV_cont vok _ (by have := lev_room (show max (verV jobs st.ver).s (st.off + st.bs.length) ≤ 4096 by omega); omega)]
  unfold wantB
  rw [bytesJ_get]

theorem picked3000 {f : Nat} (hf : 1 ≤ f) (Y : YldF) (x : Int) (h : AHeap) (nx : Nat) : callP Try.prog keepT f Y 8 [.int .i64 x, .int .i64 3000] h nx = some (.int .i64 (pickN x 3000 : Int), h, nx + pickK x 3000) := by
  rw [picked_spec hf Y x 3000 (by omega) (by omega), show pickL x 3000 = (pickN x 3000 : Int) from pickN_eq (n := 3000) (by omega)]

abbrev EdtSh : Sh := .st [.bool, .int .i64, .int .i64, .sl (.int .u8)]
theorem edts_of {h : AHeap} {nx : Nat} : ∀ {cells : List (List AV)}, (∀ c ∈ cells, Ty h nx EdtSh c) → ∃ l : List Edt, l.length = cells.length ∧ All2 (EdtR h nx) l cells
  | [], _ => ⟨[], rfl, rfl⟩
  | c :: cells, w => by
    obtain ⟨l, hl, hq⟩ := edts_of (fun x hx => w x (List.mem_cons_of_mem _ hx))
    have t := w c List.mem_cons_self
    simp only [Ty, TyL] at t
    obtain ⟨ps, rfl, p1, r1, rfl, ⟨b, rfl⟩, p2, r2, rfl, ⟨x, rfl, _⟩, p3, r3, rfl, ⟨y, rfl, _⟩, p4, r4, rfl, ⟨a, cs, rfl, hc, sl⟩, rfl⟩ := t
    obtain ⟨a', bs, e, _, sb⟩ := Ty.ints (h := h) (nx := nx) (k := .u8) (vs := [.slice a (List.length cs) false]) (by simp only [Ty]; exact ⟨a, cs, rfl, hc, sl⟩)
    simp only [List.cons.injEq, AV.slice.injEq, and_true] at e
    obtain ⟨rfl, e⟩ := e
    refine ⟨⟨b, x, y, bs⟩ :: l, by simp [hl], _, _, rfl, ⟨a, ?_, sb⟩, hq⟩
    simp [e]
theorem edts_rows {h : AHeap} {nx : Nat} {a : Option (Nat × Nat)} {cells : List (List AV)} (w : ∀ c ∈ cells, Ty h nx EdtSh c) (sl : Sl h nx a cells.length EdtSh.n cells.flatten) : ∃ l : List Edt, l.length = cells.length ∧ Rows (EdtR h nx) h nx (fun _ => False) a 4 l := by
  obtain ⟨l, hl, hq⟩ := edts_of w
  refine ⟨l, hl, cells, hq, fun r hr => (w r hr).length, ?_, fun _ _ _ q => q⟩
  rw [hl]; exact sl
theorem EdtR.ext {h h' : AHeap} {nx nx' : Nat} {e : Edt} {r : List AV} (w : EdtR h nx e r) (x : Ext h nx h' nx') : EdtR h' nx' e r := by
  obtain ⟨a, q, s⟩ := w
  exact ⟨a, q, s.ext x⟩
theorem Rows.same {α : Type} {Q Q' : α → List AV → Prop} {h h' : AHeap} {nx nx' : Nat} {a : Option (Nat × Nat)} {es : Nat} {l : List α} (w : Rows Q h nx (fun _ => False) a es l) (x : Ext h nx h' nx') (k : ∀ x r, Q x r → Q' x r) : Rows Q' h' nx' (fun _ => False) a es l :=
  w.go (x.fr fun _ => False) (fun _ _ q => q) (fun _ _ q => q) k
theorem StepR.ext {h h' : AHeap} {nx nx' : Nat} {s : Stp} {r : List AV} (w : StepR h nx (fun _ => False) s r) (x : Ext h nx h' nx') : StepR h' nx' (fun _ => False) s r := w.go (x.fr fun _ => False) (fun _ _ q => q) (fun _ _ q => q)

theorem TreeReads_run (h : AHeap) (nx : Nat) (a0 : Option (Nat × Nat)) (c0 : List (List AV)) (g0 : c0.length * 48 ≤ 140737488351232) (t0 : ∀ c ∈ c0, Ty h nx EdtSh c) (sl0 : Sl h nx a0 c0.length EdtSh.n c0.flatten) (x1 : Int) (_ : (Lit.int .i64 x1).wf = true)
    (l2 : List Int) (g2 : l2.length * 1 ≤ 140737488351232) (_ : ∀ n ∈ l2, (Lit.int .u8 n).wf = true) (a2 : Option (Nat × Nat)) (sl2 : Sl h nx a2 l2.length 1 (l2.map (AV.int .u8))) (x3 : Int) (_ : (Lit.int .i64 x3).wf = true) :
    ∃ f h' nx', callP Try.prog keepT f Y0 3 [.slice a0 c0.length false, .int .i64 x1, .slice a2 l2.length false, .int .i64 x3] h nx = some (.bool true, h', nx') := by
  obtain ⟨el, hel, ew⟩ := edts_rows t0 sl0
  rw [← hel] at g0 ⊢
  clear hel t0 sl0
  refine ⟨20001, ?_⟩
  rw [F3_eq]
  obtain ⟨sa, sc, h1, n1, q1, q2, q3⟩ := steps_spec (f := 20000) (by omega) Y0 false (h0 := h) (n0 := nx + 4) (ew.same ⟨by omega, fun _ _ => rfl⟩ (fun _ _ r => r.ext ⟨by omega, fun _ _ => rfl⟩)) (m := 20) (by omega)
  have q1' : callP Try.prog keepT 20000 Y0 7 [.slice a0 el.length false, .int .i64 20] h (nx + 4) = _ := q1
  rw [q1']
  simp only [mst_]
  have hl20 : (stepsL 0 20 el).length ≤ 20 := by rw [stepsL_len]; omega
  have okj : OkAll fo0 (stepsL 0 20 el) := stepsL_ok 0 20 el fo0 (by simp [fo0])
  have mkj := stepsL_mk 0 20 el
  generalize stepsL 0 20 el = jobs at *
  obtain ⟨vs, hvs, hrun⟩ := runF_mk jobs fo0 mkj
  have hlen : (runF fo0 jobs).vs.length = jobs.length + 1 := by rw [hrun, List.length_append, hvs]; simp [fo0]; omega
  rw [wsucc (by omega)]
  have hv := pickN_lt (x := x3) (show 0 < jobs.length + 1 by omega)
  rw [picked_spec (f := 20000) (by omega) Y0 x3 ((jobs.length + 1 : Nat) : Int) (by omega) (by omega), pickN_eq (n := jobs.length + 1) (by omega)]
  simp only [mst_]
  generalize pickN x3 (jobs.length + 1) = v at *
  rw [picked3000 (f := 20000) (by omega)]
  simp only [mst_]
  have hoff := pickN_lt (x := x1) (show 0 < 3000 by omega)
  generalize pickN x1 3000 = off at *
  generalize hjb : n1 + 6 + pickK x3 ((jobs.length + 1 : Nat) : Int) + 6 = jb
  generalize hc2 : n1 + 6 + pickK x3 ((jobs.length + 1 : Nat) : Int) + 8 + pickK x1 3000 = c2
  have l1 := q2.1
  obtain ⟨da, dc, h2, n2, b1, b2, b3, _⟩ := block_spec (f := 20000) (by omega) Y0 (bs := l2) (n := 400) (by omega) (by omega) false (h := h1) (nx := c2) (ns := n1) (sl2.ext ⟨by omega, fun i hi => q2.2 i (by omega)⟩) (by omega)
  have b1' : callP Try.prog keepT 20000 Y0 9 [.slice a2 l2.length false, .int .i64 400] h1 c2 = _ := b1
  rw [b1']
  simp only [mst_]
  have hbl := blockL_len (bs := l2) (show 1 ≤ 400 by omega)
  generalize blockL l2 400 = ds at *
  have l2' := b2.1
  rw [st_all (put_same h2 jb _) (by simp) (by simp) (by simp [allOne, AV.one]), put_put]
  obtain ⟨st, hst⟩ : ∃ st : Stp, st = ⟨1, v, off, 0, ds⟩ := ⟨_, rfl⟩
  generalize hh3 : h2.put jb _ = h3
  have x3' : Ext h1 n1 h3 (n2 + 8) := ⟨by omega, fun i hi => by rw [← hh3, put_ne (by omega), b2.2 i (by omega)]⟩
  have ej : h3 jb = some ⟨[.int .i64 1, .int .i64 (v : Int), .int .i64 (off : Int), .int .i64 0, .slice da ds.length dc], 5, true⟩ := by rw [← hh3, put_same]
  have sd3 : Sl h3 (n2 + 8) da ds.length 1 (ints .u8 ds) := by rw [← hh3]; exact (b3.putLow (by omega) (by omega)).sl
  have rw3 : Rows (StepR h3 (n2 + 8) fun _ => False) h3 (n2 + 8) (fun _ => False) sa 5 jobs := q3.same x3' (fun _ _ r => r.ext x3')
  obtain ⟨ua, uc, h4, n4, u1, u2, u3⟩ := bytesOf_spec (f := 20000) (by omega) Y0 sc rw3 okj (by omega) (v := v) (by omega)
  rw [u1]
  simp only [mst_]
  have l4 := u2.1
  have ej4 := (u2.2 jb (by omega)).trans ej
  have rw4 : Rows (StepR h4 n4 fun _ => False) h4 n4 (fun _ => False) sa 5 jobs := rw3.same u2 (fun _ _ r => r.ext u2)
  obtain ⟨rows, rd, e5, r1, r2, r3, r4, r5, r6, r7, r8⟩ := copy_rows rw4 (bytes := 56) (id := n4 + 1) (by omega) (by omega) (by omega)
  rw [r1]
  simp only [mst_]
  rw [r2]
  simp only [mst_]
  have ej5 := (r4.2 jb (by omega)).trans ej4
  rw [ldr_all ej5 (by simp)]
  simp only [mst_, mst5]
  have sd4 := sd3.ext u2
  obtain ⟨e6, p1, p2, p3, p4, p5, p6, p7, p8⟩ := r5.push e5.c (bytes := 56) (id := n4 + 3) (id2 := n4 + 4) (x := st) (r := [.int .i64 1, .int .i64 (v : Int), .int .i64 (off : Int), .int .i64 0, .slice da ds.length dc]) rfl (by rw [hst]; exact ⟨_, rfl, da, dc, rfl, sd4, fun _ _ _ q => q⟩) (growOk_of (by omega) (by omega)) (by omega) (by omega)
  rw [p1]
  simp only [mst_]
  rw [r3, p2]
  simp only [mst_]
  rw [p3] at p5
  rw [p3, p4]
  have x6 : Ext h4 n4 (((h4.puts e5.sets).put (n4 + 3) (some ⟨[.int .i64 1, .int .i64 (v : Int), .int .i64 (off : Int), .int .i64 0, .slice da ds.length dc], 5, true⟩)).puts e6.sets) (n4 + 14) := ⟨by omega, fun i hi => by rw [p6.2 i (by omega) (fun q => by have := r6 i q; omega), r4.2 i hi]⟩
  generalize ((h4.puts e5.sets).put (n4 + 3) (some ⟨[.int .i64 1, .int .i64 (v : Int), .int .i64 (off : Int), .int .i64 0, .slice da ds.length dc], 5, true⟩)).puts e6.sets = h6 at *
  have rw6 : Rows (StepR h6 (n4 + 14) fun _ => False) h6 (n4 + 14) (fun _ => False) (some (n4 + 4, 0)) 5 (jobs ++ [st]) := (p5.rows (A := fun _ => False) (fun _ _ q => q)).same ⟨by omega, fun _ _ => rfl⟩ (fun _ _ r => r.ext x6)
  have ok6 : OkAll fo0 (jobs ++ [st]) := OkAll_app okj ⟨⟨by rw [hst]; simp only; omega, .inl (by rw [hst]; exact ⟨rfl, by simp only; omega, by simp only; omega⟩)⟩, trivial⟩
  obtain ⟨vs2, hvs2, hrun2⟩ := runF_mk (jobs ++ [st]) fo0 (fun s hs => by
    rcases List.mem_append.1 hs with hs | hs
    · exact mkj s hs
    · simp at hs; subst hs; rw [hst]; exact .inl rfl)
  obtain ⟨wa, wc, h7, n7, w1, w2, w3⟩ := bytesOf_spec (f := 20000) (by omega) Y0 e6.c rw6 ok6 (by simp; omega) (v := jobs.length + 1) (by rw [hrun2, List.length_append, hvs2]; simp [fo0])
  rw [List.length_append, List.length_singleton] at w1
  rw [w1]
  simp only [mst_]
  rw [ifApart_pos (by
    simp only [AllApart]
    exact ⟨fun x hx => by have := r7 x hx; simp; omega, fun x hx q => by have := r8 x q; simp at hx; omega, trivial⟩)]
  have ej7 : h7 jb = some ⟨[.int .i64 1, .int .i64 (v : Int), .int .i64 (off : Int), .int .i64 0, .slice da ds.length dc], 5, true⟩ := by rw [w2.2 jb (by omega), x6.2 jb (by omega)]; exact ej4
  rw [ld_at ej7 (v := .int .i64 (off : Int)) rfl]
  simp only [mst_]
  rw [ld_at ej7 (v := .slice da ds.length dc) rfl]
  simp only [mst_]
  have hw := bytesJ_write okj (st := st) (by rw [hst]) (by rw [hst]; simp only; omega) (by rw [hst]; simp only; omega)
  rw [hlen, hst] at hw
  simp only at hw
  rw [← hst] at hw
  obtain ⟨hw1, hw2⟩ := hw
  have hu : (bytesJ jobs v).length ≤ 4096 := by rw [bytesJ_len]; exact (verV_ok okj (by omega)).hs
  rw [show wrapA .i64 ((off : Int) + ((ds.length : Nat) : Int)) = ((off + ds.length : Nat) : Int) by rw [wA (by omega) (by omega)]; omega]
  rw [if_neg (by rw [bne_iff_ne, hw1]; split <;> omega), F3_J1_eq]
  have x7 : Ext h4 n4 h7 n7 := ⟨by have := x6.1; have := w2.1; omega, fun i hi => by rw [w2.2 i (by omega), x6.2 i hi]⟩
  obtain ⟨m, hm⟩ := rd_loop (f := 20000) (Y := Y0) (g := 20000) (ca := uc) (cb := wc) (u3.ext x7) w3 (sd4.ext x7) ej7 (by omega) (by omega) (by omega) (by omega) hw2 _ 20000 0 (n7 + 20 + 1) (Nat.zero_add _) (by omega)
  exact ⟨h7, m, hm⟩

end Go.Proofs.Ytogmdfbamgjjfaa.T
