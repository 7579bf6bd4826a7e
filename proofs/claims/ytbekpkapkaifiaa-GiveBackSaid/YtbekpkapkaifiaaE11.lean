/- Deeds out of acts: the whole. -/
import Derived.Test.YtbekpkapkaifiaaE10
set_option linter.unusedVariables false
set_option linter.unusedSimpArgs false
namespace Go.Proofs.Ytbekpkapkaifiaa.T
open Go Go.RowKit Go.Proofs

theorem rows3 (l : List Act3) : ∀ r ∈ l.map Act3.row, r.length = 3 := fun r hr => by
  obtain ⟨a, _, rfl⟩ := List.mem_map.1 hr; rfl

theorem deeds_end {f N : Nat} (hN : N ≤ 4096) (h1N : 1 ≤ N) (hf : N + 310 ≤ f) {Y : YldF} {h0 : AHeap} {n0 m : Nat} (hm : m ≤ 250) {ds : List Deed} {hd : List (Nat × Nat)} {da ha : Option (Nat × Nat)} {h : AHeap} {nx : Nat} (w : DInv N h0 n0 h nx da ha ds hd) (hds : ds.length ≤ m) (dc : Bool) {lf : Nat} :
    DRes N h0 n0 m (F16_J3 (callP Try.prog keepT f) Y lf (N : Int) da ds.length dc h nx) := by
  have lx := w.x.1
  rw [F16_J3_eq]
  obtain ⟨rows, rd, e12, r1, r2, r3, r4, r5, r6, _⟩ := copy_rows (w.od.rows (A := none') (fun _ _ q => q)) (bytes := 24) (id := nx + 2) (by omega) (by omega) (by omega)
  rw [r1]
  simp only [bind_some', asI_int, asB_bool, asStr_str, asP_ptr, asSl_sl, asAgg_1, asAgg_2, asAgg_3, asAgg_4, asTup_0, asTup_2, asTup_3, asTup_4, if_true', if_false', if_not_true', if_not_false', getD_0, getD_1, getD_2, getD_3]
  rw [r2]
  simp only [bind_some', asI_int, asB_bool, asStr_str, asP_ptr, asSl_sl, asAgg_1, asAgg_2, asAgg_3, asAgg_4, asTup_0, asTup_2, asTup_3, asTup_4, if_true', if_false', if_not_true', if_not_false', getD_0, getD_1, getD_2, getD_3]
  rw [r3]
  have w13 := w.ext r4
  generalize h.puts e12.sets = h13 at *
  obtain ⟨a14, c14, la, lc, h14, n14, g1, g2, g3, g4⟩ := playS_spec (f := f) hN h1N hf Y e12.c (n0 := nx + 11) ((r5.rows (A := none') (fun _ _ q => q)).go (D := none') ⟨by omega, fun _ _ _ => rfl⟩ (fun _ _ q => q) (fun _ _ q => q) (fun _ _ q => q)) (by omega)
  rw [g1]
  simp only [bind_some', asI_int, asB_bool, asStr_str, asP_ptr, asSl_sl, asAgg_1, asAgg_2, asAgg_3, asAgg_4, asTup_0, asTup_2, asTup_3, asTup_4, if_true', if_false', if_not_true', if_not_false', getD_0, getD_1, getD_2, getD_3]
  have l14 := g2.1
  have w14 : DInv N h0 n0 h14 n14 da ha ds hd := w13.ext ⟨by omega, fun i hi => g2.2 i (by omega)⟩
  rw [if_pos (by decide)]
  have x16 : Frm none' h14 n14 h14 (n14 + 16) := ⟨by omega, fun _ _ _ => rfl⟩
  refine ⟨ds, da, dc, a14, c14, la, lc, h14, n14 + 16, by simp, ⟨by have := w14.x.1; omega, w14.x.2⟩, (w14.od.rows (A := none') (fun _ _ q => q)).go x16 (fun _ _ q => q) (fun _ _ q => q) (fun _ _ q => q), g3.go x16 (fun _ _ q => q) (fun _ _ q => q) (fun _ _ q => q), g4.go x16 (fun _ _ q => q) (fun _ _ q => q) (fun _ _ q => q), hds, w14.okd⟩

theorem deeds_loop {f N : Nat} (hN : N ≤ 4096) (h1N : 1 ≤ N) (hf : N + 310 ≤ f) {Y : YldF} {h0 : AHeap} {n0 m : Nat} (hm : m ≤ 250) {xa : Option (Nat × Nat)} {xc : Bool} {l : List Act3} (sl : Sl h0 n0 xa l.length 3 (l.map Act3.row).flatten) (hl : l.length ≤ 10000000000000) (d : Nat) :
    ∀ (lf k : Nat) (dc hc : Bool) (da ha : Option (Nat × Nat)) (ds : List Deed) (hd : List (Nat × Nat)) (h : AHeap) (nx : Nat), k + d = min l.length m → d < lf → DInv N h0 n0 h nx da ha ds hd → ds.length = k → hd.length ≤ k →
      DRes N h0 n0 m (F16_L1 (callP Try.prog keepT f) Y f lf xa l.length xc (m : Int) (N : Int) da ds.length dc ha hd.length hc (k : Int) h nx) := by
  induction d with
  | zero =>
    intro lf k dc hc da ha ds hd h nx e hlf w hds hhd
    obtain ⟨lf, rfl⟩ : ∃ m, lf = m + 1 := ⟨lf - 1, by omega⟩
    have w' : DInv N h0 n0 h (nx + 9) da ha ds hd := w.ext ⟨by omega, fun _ _ => rfl⟩
    rw [F16_L1_eq]
    by_cases c : k < l.length
    · rw [if_pos (decide_eq_true (by omega)), if_neg (by rw [decide_eq_true_eq]; omega)]
      exact deeds_end hN h1N hf hm w' (by omega) dc
    · rw [if_neg (by rw [decide_eq_true_eq]; omega)]
      exact deeds_end hN h1N hf hm w' (by omega) dc
  | succ d ih =>
    intro lf k dc hc da ha ds hd h nx e hlf w hds hhd
    obtain ⟨lf, rfl⟩ : ∃ m, lf = m + 1 := ⟨lf - 1, by omega⟩
    have hkl : k < l.length := by omega
    have lx := w.x.1
    have next : ∀ (ds' : List Deed) (hd' : List (Nat × Nat)) (da' ha' : Option (Nat × Nat)) (dc' hc' : Bool) (h' : AHeap) (nx' : Nat), DInv N h0 n0 h' nx' da' ha' ds' hd' → ds'.length = k + 1 → hd'.length ≤ k + 1 → DRes N h0 n0 m (F16_L1 (callP Try.prog keepT f) Y f lf xa l.length xc (m : Int) (N : Int) da' ds'.length dc' ha' hd'.length hc' ((k + 1 : Nat) : Int) h' nx') :=
      fun ds' hd' da' ha' dc' hc' h' nx' q1 q2 q3 => ih lf (k + 1) dc' hc' da' ha' ds' hd' h' nx' (by omega) (by omega) q1 q2 q3
    obtain ⟨p, blk, rfl, hp, eb0, _, hle, hq⟩ := sl.2 k hkl
    have eb := (w.x.2 _ hp).trans eb0
    obtain ⟨bc, bes, bow⟩ := blk
    have hrow : (l.map Act3.row)[k]? = some l[k].row := by simp [hkl]
    have cell : ∀ (fl : Nat) (v : AV), fl < 3 → l[k].row[fl]? = some v → bc[p.2 + (k * 3 + fl)]? = some v := fun fl v h1 h2 => by
      rw [hq _ (by omega), flat_get (rows3 l) hrow h1, h2]
    generalize l[k] = act at *
    have P1 := pickL_in (x := act.n) (n := 12) (by omega)
    have P2 := pickL_in (x := act.k) (n := 8) (by omega)
    rw [F16_L1_eq, if_pos (decide_eq_true (by omega)), if_pos (decide_eq_true (by omega)), F16_J2_eq]
    simp only [bind_some', asI_int, asB_bool, asStr_str, asP_ptr, asSl_sl, asAgg_1, asAgg_2, asAgg_3, asAgg_4, asTup_0, asTup_2, asTup_3, asTup_4, if_true', if_false', if_not_true', if_not_false', getD_0, getD_1, getD_2, getD_3]
    rw [if_pos ⟨by omega, by omega⟩, Int.toNat_natCast, ld_at eb (v := .int .i64 act.n) (by simpa [Nat.add_assoc] using cell 2 _ (by omega) rfl)]
    simp only [bind_some', asI_int, asB_bool, asStr_str, asP_ptr, asSl_sl, asAgg_1, asAgg_2, asAgg_3, asAgg_4, asTup_0, asTup_2, asTup_3, asTup_4, if_true', if_false', if_not_true', if_not_false', getD_0, getD_1, getD_2, getD_3]
    rw [picked_spec (f := f) (by omega) Y act.n 12 (by omega) (by omega)]
    simp only [bind_some', asI_int, asB_bool, asStr_str, asP_ptr, asSl_sl, asAgg_1, asAgg_2, asAgg_3, asAgg_4, asTup_0, asTup_2, asTup_3, asTup_4, if_true', if_false', if_not_true', if_not_false', getD_0, getD_1, getD_2, getD_3]
    obtain ⟨jb, hjb⟩ : ∃ jb, jb = nx + 9 + 8 := ⟨_, rfl⟩
    rw [← hjb, st_all (put_same h jb _) (by simp) (by simp) (by simp [allOne, AV.one]), put_put]
    have hw1 : wrapA .i64 (1 + pickL act.n 12) = 1 + pickL act.n 12 := wA (by omega) (by omega)
    rw [hw1]
    have x1 : Ext h nx (h.put jb (some ⟨[.int .i64 1, .int .i64 0, .int .i64 (1 + pickL act.n 12)], 3, true⟩)) (jb + 1) := ⟨by omega, fun i hi => put_ne (by omega)⟩
    have e1 := put_same h jb (some ⟨[.int .i64 1, .int .i64 0, .int .i64 (1 + pickL act.n 12)], 3, true⟩)
    have w1 := w.ext x1
    clear hw1
    generalize h.put jb (some ⟨[.int .i64 1, .int .i64 0, .int .i64 (1 + pickL act.n 12)], 3, true⟩) = h1 at *
    have eb1 := (x1.2 p.1 (by omega)).trans eb
    generalize hc0 : nx + 9 + 10 + pickK act.n 12 = c0
    rw [if_pos ⟨by omega, by omega⟩, ld_at eb1 (v := .int .i64 act.k) (by simpa using cell 0 _ (by omega) rfl)]
    simp only [bind_some', asI_int, asB_bool, asStr_str, asP_ptr, asSl_sl, asAgg_1, asAgg_2, asAgg_3, asAgg_4, asTup_0, asTup_2, asTup_3, asTup_4, if_true', if_false', if_not_true', if_not_false', getD_0, getD_1, getD_2, getD_3]
    rw [picked_spec (f := f) (by omega) Y act.k 8 (by omega) (by omega)]
    simp only [bind_some', asI_int, asB_bool, asStr_str, asP_ptr, asSl_sl, asAgg_1, asAgg_2, asAgg_3, asAgg_4, asTup_0, asTup_2, asTup_3, asTup_4, if_true', if_false', if_not_true', if_not_false', getD_0, getD_1, getD_2, getD_3]
    generalize hc1 : c0 + 7 + pickK act.k 8 = c1
    have jd : ¬ ownOf da jb := fun q => by have := w.od.lt q; omega
    by_cases k0 : pickL act.k 8 = 0
    · rw [if_pos (by simp [k0]), st_all e1 (by simp) (by simp) (by simp [allOne, AV.one])]
      have f2 : Frm (fun i => i = jb) h1 (jb + 1) (h1.put jb (some ⟨[.int .i64 3, .int .i64 0, .int .i64 0], 3, true⟩)) (c1 + 5) := (Frm.refl _ _ _).put (.inl rfl) (by omega)
      have x2 : Ext h nx (h1.put jb (some ⟨[.int .i64 3, .int .i64 0, .int .i64 0], 3, true⟩)) (c1 + 5) := ⟨by omega, fun i hi => by rw [put_ne (by omega), x1.2 i hi]⟩
      exact deed_tail hN h1N hf hm (by omega) (w.ext x2) hds hhd (y := ⟨3, 0, 0⟩) (.inr (.inr ⟨rfl, rfl, rfl⟩)) (put_same _ _ _) (by omega) jd dc hc next
    rw [if_neg (by simpa using k0)]
    have base : ∀ c2, c1 ≤ c2 → DRes N h0 n0 m (F16_J4 (callP Try.prog keepT f) Y f lf (some p) l.length xc (m : Int) (N : Int) da ds.length dc ha hd.length hc (k : Int) (some (jb, 0)) h1 c2) := fun c2 hc2 =>
      deed_tail hN h1N hf hm (by omega) (w.ext (⟨by omega, x1.2⟩ : Ext h nx h1 c2)) hds hhd (y := ⟨1, 0, 1 + pickL act.n 12⟩) (.inl ⟨rfl, rfl, by simp only; omega, by simp only; omega⟩) e1 (by omega) jd dc hc next
    by_cases k4 : pickL act.k 8 < 4
    · rw [if_pos (decide_eq_true k4)]
      by_cases hz : hd.length = 0
      · rw [if_neg (by rw [decide_eq_true_eq]; omega)]
        exact base _ (by omega)
      · rw [if_pos (decide_eq_true (by omega)), if_pos ⟨by omega, by omega⟩, ld_at eb1 (v := .int .i64 act.w) (by simpa [Nat.add_assoc] using cell 1 _ (by omega) rfl)]
        simp only [bind_some', asI_int, asB_bool, asStr_str, asP_ptr, asSl_sl, asAgg_1, asAgg_2, asAgg_3, asAgg_4, asTup_0, asTup_2, asTup_3, asTup_4, if_true', if_false', if_not_true', if_not_false', getD_0, getD_1, getD_2, getD_3]
        have P3 := pickL_in (x := act.w) (n := (hd.length : Int)) (by omega)
        rw [picked_spec (f := f) (by omega) Y act.w (hd.length : Int) (by omega) (by omega)]
        simp only [bind_some', asI_int, asB_bool, asStr_str, asP_ptr, asSl_sl, asAgg_1, asAgg_2, asAgg_3, asAgg_4, asTup_0, asTup_2, asTup_3, asTup_4, if_true', if_false', if_not_true', if_not_false', getD_0, getD_1, getD_2, getD_3]
        obtain ⟨q, hq2⟩ : ∃ q : Nat, pickL act.w (hd.length : Int) = (q : Int) := ⟨(pickL act.w (hd.length : Int)).toNat, by omega⟩
        have hqk : q < hd.length := by omega
        rw [hq2]
        generalize hc2 : c1 + 20 + pickK act.w (hd.length : Int) = c2
        have oh1 : Rows RgR h1 c2 none' ha 2 hd := (w1.oh.rows (A := none') (fun _ _ q => q)).go (D := none') ⟨by omega, fun _ _ _ => rfl⟩ (fun _ _ q => q) (fun _ _ q => q) (fun _ _ q => q)
        obtain ⟨b, hb⟩ : ∃ b, ha = some b := by
          obtain ⟨rws, _, _, ss⟩ := w1.oh
          rcases ss with ⟨_, ss⟩ | ⟨b, ss, _⟩
          · rw [ss] at hz; simp at hz
          · exact ⟨_, ss⟩
        obtain ⟨r0, pr0, _, rd0⟩ := oh1.read0 (R := Res) (List.getElem?_eq_getElem hqk) (by omega)
        obtain ⟨r1', pr1', _, _, rd1⟩ := oh1.read (R := Res) (List.getElem?_eq_getElem hqk)
        obtain ⟨o1, o2⟩ := w1.okh _ (List.getElem_mem hqk)
        generalize hd[q] = rg at *
        obtain ⟨ra, rb⟩ := rg
        simp only [RgR] at pr0 pr1'
        subst pr0 pr1'
        simp only at o1 o2
        rw [rd0 _ _ rfl]
        simp only [bind_some', asI_int, asB_bool, asStr_str, asP_ptr, asSl_sl, asAgg_1, asAgg_2, asAgg_3, asAgg_4, asTup_0, asTup_2, asTup_3, asTup_4, if_true', if_false', if_not_true', if_not_false', getD_0, getD_1, getD_2, getD_3]
        rw [rd1 1 (.int .i64 (rb : Int)) _ (by omega) rfl]
        simp only [bind_some', asI_int, asB_bool, asStr_str, asP_ptr, asSl_sl, asAgg_1, asAgg_2, asAgg_3, asAgg_4, asTup_0, asTup_2, asTup_3, asTup_4, if_true', if_false', if_not_true', if_not_false', getD_0, getD_1, getD_2, getD_3]
        rw [rd0 _ _ rfl]
        simp only [bind_some', asI_int, asB_bool, asStr_str, asP_ptr, asSl_sl, asAgg_1, asAgg_2, asAgg_3, asAgg_4, asTup_0, asTup_2, asTup_3, asTup_4, if_true', if_false', if_not_true', if_not_false', getD_0, getD_1, getD_2, getD_3]
        rw [show wrapA .i64 ((rb : Int) - (ra : Int)) = (rb : Int) - (ra : Int) from wA (by omega) (by omega), st_all e1 (by simp) (by simp) (by simp [allOne, AV.one])]
        have x3 : Ext h nx (h1.put jb (some ⟨[.int .i64 2, .int .i64 (ra : Int), .int .i64 ((rb : Int) - (ra : Int))], 3, true⟩)) (jb + 1) := ⟨by omega, fun i hi => by rw [put_ne (by omega), x1.2 i hi]⟩
        have e3 := put_same h1 jb (some ⟨[.int .i64 2, .int .i64 (ra : Int), .int .i64 ((rb : Int) - (ra : Int))], 3, true⟩)
        have w3 := w.ext x3
        generalize h1.put jb (some ⟨[.int .i64 2, .int .i64 (ra : Int), .int .i64 ((rb : Int) - (ra : Int))], 3, true⟩) = h3 at *
        have oh3 : Rows RgR h3 (jb + 1) none' ha 2 hd := w3.oh.rows (A := none') (fun _ _ q => q)
        obtain ⟨a4, c4, s1, s2⟩ := rows_take oh3 hc (k := q) (by omega)
        rw [s1]
        simp only [bind_some', asI_int, asB_bool, asStr_str, asP_ptr, asSl_sl, asAgg_1, asAgg_2, asAgg_3, asAgg_4, asTup_0, asTup_2, asTup_3, asTup_4, if_true', if_false', if_not_true', if_not_false', getD_0, getD_1, getD_2, getD_3]
        have htl : (hd.take q).length = q := by rw [List.length_take]; omega
        obtain ⟨rows, rd, e34, t1, t2, t3, t4, t5, t6, t7⟩ := copy_rows (s2.go (D := none') ⟨Nat.le_refl _, fun _ _ _ => rfl⟩ (fun _ _ q => q) (fun _ _ q => q) (fun _ _ q => q)) (bytes := 16) (id := c2 + 21) (by omega) (by omega) (by omega)
        rw [htl] at t1 t2 t3
        rw [t1]
        simp only [bind_some', asI_int, asB_bool, asStr_str, asP_ptr, asSl_sl, asAgg_1, asAgg_2, asAgg_3, asAgg_4, asTup_0, asTup_2, asTup_3, asTup_4, if_true', if_false', if_not_true', if_not_false', getD_0, getD_1, getD_2, getD_3]
        rw [t2]
        simp only [bind_some', asI_int, asB_bool, asStr_str, asP_ptr, asSl_sl, asAgg_1, asAgg_2, asAgg_3, asAgg_4, asTup_0, asTup_2, asTup_3, asTup_4, if_true', if_false', if_not_true', if_not_false', getD_0, getD_1, getD_2, getD_3]
        have w5 : DInv N h0 n0 (h3.puts e34.sets) (c2 + 21 + 1) da ha ds hd := w3.ext t4
        have e5 := (t4.2 jb (by omega)).trans e3
        generalize h3.puts e34.sets = h5 at *
        rw [wsucc (by omega)]
        obtain ⟨a6, c6, s3, s4⟩ := rows_drop (w5.oh.rows (A := none') (fun _ _ q => q)) hc (k := q + 1) (by omega)
        rw [s3]
        simp only [bind_some', asI_int, asB_bool, asStr_str, asP_ptr, asSl_sl, asAgg_1, asAgg_2, asAgg_3, asAgg_4, asTup_0, asTup_2, asTup_3, asTup_4, if_true', if_false', if_not_true', if_not_false', getD_0, getD_1, getD_2, getD_3]
        obtain ⟨rows2, rd2, u1, u2, u3⟩ := s4.srcs
        have hdl : (hd.drop (q + 1)).length = hd.length - (q + 1) := List.length_drop
        rw [hdl] at u3
        rw [u3]
        simp only [bind_some', asI_int, asB_bool, asStr_str, asP_ptr, asSl_sl, asAgg_1, asAgg_2, asAgg_3, asAgg_4, asTup_0, asTup_2, asTup_3, asTup_4, if_true', if_false', if_not_true', if_not_false', getD_0, getD_1, getD_2, getD_3]
        obtain ⟨e38, v1, v2, v3, v4, v5⟩ := t5.app e34.c (bytes := 16) (id := c2 + 26) u1 u2 rd2 (growOk_of (by omega) (by omega)) (by omega)
        rw [htl, hdl] at v1 v2
        rw [t3, v1]
        simp only [bind_some', asI_int, asB_bool, asStr_str, asP_ptr, asSl_sl, asAgg_1, asAgg_2, asAgg_3, asAgg_4, asTup_0, asTup_2, asTup_3, asTup_4, if_true', if_false', if_not_true', if_not_false', getD_0, getD_1, getD_2, getD_3]
        have aa : AllApart [(idsOf e34.sets, rdOf ha)] := ⟨fun i hi hi2 => by
          have := t7 i hi
          rw [hb] at hi2
          simp only [rdOf, List.mem_singleton] at hi2
          have := w.oh.lt (i := b.1) ⟨b.2, by rw [hb]⟩
          omega, trivial⟩
        rw [ifApart_pos aa, v2]
        have own38 : ∀ i, ownOf e38.a i → c2 + 21 ≤ i := fun i z => by rcases v5 i z with z | z; have := t6 i z; omega; omega
        have x7 : Frm (ownOf e34.a) h5 (c2 + 21 + 1) (h5.puts e38.sets) (c2 + 26 + 1) := v4.le (Nat.le_refl _) |> fun z => ⟨by have := z.1; omega, z.2⟩
        have e7 : (h5.puts e38.sets) jb = _ := (x7.2 jb (by omega) (fun z => by have := t6 _ z; omega)).trans e5
        have w7 : DInv N h0 n0 (h5.puts e38.sets) (c2 + 28) da e38.a ds (hd.take q ++ hd.drop (q + 1)) := ⟨⟨by omega, fun i hi => (x7.2 i (by omega) (fun z => by have := t6 i z; omega)).trans (w5.x.2 i hi)⟩, w5.od.go (x7.le (by omega)) (fun i z1 z2 => by have := t6 i z2; have := w.od.lt z1; omega) (fun _ _ q => q), v3.go (D := none') ⟨by omega, fun _ _ _ => rfl⟩ (fun _ _ q => q) (fun _ _ q => q), w5.gd, fun i z => by have := own38 i z; omega, fun i z1 z2 => by have := own38 i z2; have := w.od.lt z1; omega, w5.okd, fun r hr => by
          rcases List.mem_append.1 hr with z | z
          · exact w5.okh r (List.mem_of_mem_take z)
          · exact w5.okh r (List.mem_of_mem_drop z)⟩
        have hl7 : q + (hd.length - (q + 1)) = (hd.take q ++ hd.drop (q + 1)).length := by rw [List.length_append, htl, hdl]
        rw [hl7]
        exact deed_tail hN h1N hf hm (by omega) w7 hds (by rw [← hl7]; omega) (y := ⟨2, (ra : Int), (rb : Int) - (ra : Int)⟩) (.inr (.inl ⟨rfl, by simp only; omega, by simp only; omega, by simp only; omega⟩)) e7 (by omega) jd dc e38.c next
    · rw [if_neg (by rw [decide_eq_true_eq]; exact k4)]
      exact base _ (by omega)

theorem deeds_spec {f N : Nat} (hN : N ≤ 4096) (h1N : 1 ≤ N) (hf : N + 320 ≤ f) (Y : YldF) {h0 : AHeap} {n0 m : Nat} (hm : m ≤ 250) {xa : Option (Nat × Nat)} (xc : Bool) {l : List Act3} (sl : Sl h0 n0 xa l.length 3 (l.map Act3.row).flatten) (hl : l.length ≤ 10000000000000) :
    DRes N h0 n0 m (callP Try.prog keepT f Y 16 [.slice xa l.length xc, .int .i64 (m : Int), .int .i64 (N : Int)] h0 n0) := by
  obtain ⟨f, rfl⟩ : ∃ m, f = m + 1 := ⟨f - 1, by omega⟩
  rw [F16_eq]
  exact deeds_loop hN h1N (by omega) hm sl hl (min l.length m) f 0 false false none none [] [] h0 (n0 + 7) (by omega) (by omega) ⟨⟨by omega, fun _ _ => rfl⟩, OwnRows.nil _ _ _ _, OwnRows.nil _ _ _ _, fun i q => (no_own q).elim, fun i q => (no_own q).elim, fun i q => (no_own q).elim, (fun d hd => by cases hd), (fun r hr => by cases hr)⟩ rfl (Nat.le_refl _)

end Go.Proofs.Ytbekpkapkaifiaa.T
