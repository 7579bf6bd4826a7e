/- Deeds out of acts: the loop. -/
import Derived.Test.YtbekpkapkaifiaaE9
set_option linter.unusedVariables false
set_option linter.unusedSimpArgs false
namespace Go.Proofs.Ytbekpkapkaifiaa.T
open Go Go.RowKit Go.Proofs

/-- What the deeds' loop keeps true. -/
structure DInv (N : Nat) (h0 : AHeap) (n0 : Nat) (h : AHeap) (nx : Nat) (da ha : Option (Nat × Nat)) (ds : List Deed) (hd : List (Nat × Nat)) : Prop where
  x : Ext h0 n0 h nx
  od : OwnRows DdR h nx da 3 ds
  oh : OwnRows RgR h nx ha 2 hd
  gd : ∀ i, ownOf da i → n0 ≤ i
  gh : ∀ i, ownOf ha i → n0 ≤ i
  ap : ∀ i, ownOf da i → ¬ ownOf ha i
  okd : ∀ d ∈ ds, DdOk N d
  okh : HdOk N hd
theorem DInv.ext {N : Nat} {h0 : AHeap} {n0 : Nat} {h h' : AHeap} {nx nx' : Nat} {da ha : Option (Nat × Nat)} {ds : List Deed} {hd : List (Nat × Nat)} (w : DInv N h0 n0 h nx da ha ds hd) (x : Ext h nx h' nx') : DInv N h0 n0 h' nx' da ha ds hd :=
  ⟨⟨by have := w.x.1; have := x.1; omega, fun i hi => (x.2 i (by have := w.x.1; omega)).trans (w.x.2 i hi)⟩, w.od.go (x.fr none') (fun _ _ q => q) (fun _ _ q => q), w.oh.go (x.fr none') (fun _ _ q => q) (fun _ _ q => q), w.gd, w.gh, w.ap, w.okd, w.okh⟩

def DRes (N : Nat) (h0 : AHeap) (n0 m : Nat) (r : Option (AV × AHeap × Nat)) : Prop :=
  ∃ ds a1 c1 a2 c2 a3 c3 h' nx', r = some (.tuple [.slice a1 ds.length c1, .slice a2 ds.length c2, .slice a3 (stP (freshS N) ds).log.length c3, .bool true], h', nx') ∧ Ext h0 n0 h' nx' ∧ Rows DdR h' nx' none' a1 3 ds ∧
    Rows AnQ h' nx' none' a2 3 (runP (freshS N) ds) ∧ Rows RecR h' nx' none' a3 3 (stP (freshS N) ds).log ∧ ds.length ≤ m ∧ ∀ d ∈ ds, DdOk N d

/-- From a deed in memory on: it is appended, played, and what it took is held. -/
theorem deed_tail {f N : Nat} (hN : N ≤ 4096) (h1N : 1 ≤ N) (hf : N + 310 ≤ f) {Y : YldF} {h0 : AHeap} {n0 : Nat} {xa : Option (Nat × Nat)} {xn : Nat} {xc : Bool} {m lf k : Nat} (hm : m ≤ 250) (hk : k < m) {ds : List Deed} {hd : List (Nat × Nat)} {da ha : Option (Nat × Nat)} {h : AHeap} {nx : Nat} (w : DInv N h0 n0 h nx da ha ds hd) (hds : ds.length = k) (hhd : hd.length ≤ k) {jb : Nat} {y : Deed} (ok : DdOk N y) (ej : h jb = some ⟨y.row, 3, true⟩) (jn : jb < nx) (jd : ¬ ownOf da jb) (dc hc : Bool)
    (next : ∀ (ds' : List Deed) (hd' : List (Nat × Nat)) (da' ha' : Option (Nat × Nat)) (dc' hc' : Bool) (h' : AHeap) (nx' : Nat), DInv N h0 n0 h' nx' da' ha' ds' hd' → ds'.length = k + 1 → hd'.length ≤ k + 1 → DRes N h0 n0 m (F16_L1 (callP Try.prog keepT f) Y f lf xa xn xc (m : Int) (N : Int) da' ds'.length dc' ha' hd'.length hc' ((k + 1 : Nat) : Int) h' nx')) :
    DRes N h0 n0 m (F16_J4 (callP Try.prog keepT f) Y f lf xa xn xc (m : Int) (N : Int) da ds.length dc ha hd.length hc (k : Int) (some (jb, 0)) h nx) := by
  have lx := w.x.1
  rw [F16_J4_eq]
  simp only [bind_some', asI_int, asB_bool, asStr_str, asP_ptr, asSl_sl, asAgg_1, asAgg_2, asAgg_3, asAgg_4, asTup_0, asTup_2, asTup_3, asTup_4, if_true', if_false', if_not_true', if_not_false', getD_0, getD_1, getD_2, getD_3]
  rw [ldr_all ej (by simp [Deed.row])]
  simp only [Deed.row]
  simp only [bind_some', asI_int, asB_bool, asStr_str, asP_ptr, asSl_sl, asAgg_1, asAgg_2, asAgg_3, asAgg_4, asTup_0, asTup_2, asTup_3, asTup_4, if_true', if_false', if_not_true', if_not_false', getD_0, getD_1, getD_2, getD_3]
  obtain ⟨e9, p1, p2, p3, p4, p5, p6, p7, _⟩ := w.od.push dc (bytes := 24) (id := nx + 2) (id2 := nx + 3) (x := y) (r := [.int .i64 y.k, .int .i64 y.a, .int .i64 y.n]) rfl rfl (growOk_of (by omega) (by omega)) (by omega) (by omega)
  rw [p1]
  simp only [bind_some', asI_int, asB_bool, asStr_str, asP_ptr, asSl_sl, asAgg_1, asAgg_2, asAgg_3, asAgg_4, asTup_0, asTup_2, asTup_3, asTup_4, if_true', if_false', if_not_true', if_not_false', getD_0, getD_1, getD_2, getD_3]
  rw [p2]
  simp only [bind_some', asI_int, asB_bool, asStr_str, asP_ptr, asSl_sl, asAgg_1, asAgg_2, asAgg_3, asAgg_4, asTup_0, asTup_2, asTup_3, asTup_4, if_true', if_false', if_not_true', if_not_false', getD_0, getD_1, getD_2, getD_3]
  have own9 : ∀ i, ownOf e9.a i → i = nx + 3 := fun i q => by rw [p3] at q; obtain ⟨o, q⟩ := q; simp only [Option.some.injEq, Prod.mk.injEq] at q; exact q.1.symm
  have ej10 := (p6.2 jb jn jd).trans ej
  have oh10 := w.oh.go p6 (fun i q z => w.ap i z q) (fun _ _ q => q)
  have x10 : Ext h0 n0 ((h.put (nx + 2) (some ⟨[.int .i64 y.k, .int .i64 y.a, .int .i64 y.n], 3, true⟩)).puts e9.sets) (nx + 3 + 1) := ⟨by omega, fun i hi => (p6.2 i (by omega) (fun q => by have := w.gd i q; omega)).trans (w.x.2 i hi)⟩
  have w10 : DInv N h0 n0 ((h.put (nx + 2) (some ⟨[.int .i64 y.k, .int .i64 y.a, .int .i64 y.n], 3, true⟩)).puts e9.sets) (nx + 3 + 1) e9.a ha (ds ++ [y]) hd := ⟨x10, p5, oh10, fun i q => by have := own9 i q; omega, w.gh, fun i q z => by have := own9 i q; have := w.oh.lt z; omega, fun d hd => by rcases List.mem_append.1 hd with q | q; exact w.okd d q; simp at q; subst q; exact ok, w.okh⟩
  generalize (h.put (nx + 2) (some ⟨[.int .i64 y.k, .int .i64 y.a, .int .i64 y.n], 3, true⟩)).puts e9.sets = h10 at *
  have hlen : (ds ++ [y]).length = k + 1 := by simp [hds]
  rw [p4, show ds.length + 1 = (ds ++ [y]).length by simp]
  obtain ⟨rows, rd, e12, r1, r2, r3, r4, r5, r6, _⟩ := copy_rows (w10.od.rows (A := none') (fun _ _ q => q)) (bytes := 24) (id := nx + 7) (by omega) (by omega) (by omega)
  rw [r1]
  simp only [bind_some', asI_int, asB_bool, asStr_str, asP_ptr, asSl_sl, asAgg_1, asAgg_2, asAgg_3, asAgg_4, asTup_0, asTup_2, asTup_3, asTup_4, if_true', if_false', if_not_true', if_not_false', getD_0, getD_1, getD_2, getD_3]
  rw [r2]
  simp only [bind_some', asI_int, asB_bool, asStr_str, asP_ptr, asSl_sl, asAgg_1, asAgg_2, asAgg_3, asAgg_4, asTup_0, asTup_2, asTup_3, asTup_4, if_true', if_false', if_not_true', if_not_false', getD_0, getD_1, getD_2, getD_3]
  rw [r3]
  have w13 : DInv N h0 n0 (h10.puts e12.sets) (nx + 7 + 1) e9.a ha (ds ++ [y]) hd := w10.ext r4
  have ej13 := (r4.2 jb (by omega)).trans ej10
  generalize h10.puts e12.sets = h13 at *
  obtain ⟨a14, c14, la, lc, h14, n14, g1, g2, g3, g4⟩ := playS_spec (f := f) hN h1N hf Y e12.c (n0 := nx + 16) ((r5.rows (A := none') (fun _ _ q => q)).go (D := none') ⟨by omega, fun _ _ _ => rfl⟩ (fun _ _ q => q) (fun _ _ q => q) (fun _ _ q => q)) (by omega)
  rw [g1]
  simp only [bind_some', asI_int, asB_bool, asStr_str, asP_ptr, asSl_sl, asAgg_1, asAgg_2, asAgg_3, asAgg_4, asTup_0, asTup_2, asTup_3, asTup_4, if_true', if_false', if_not_true', if_not_false', getD_0, getD_1, getD_2, getD_3]
  have l14 := g2.1
  have w14 : DInv N h0 n0 h14 n14 e9.a ha (ds ++ [y]) hd := w13.ext ⟨by omega, fun i hi => g2.2 i (by omega)⟩
  have ej14 := (g2.2 jb (by omega)).trans ej13
  rw [if_neg (by decide), if_neg (by simp), F16_J5_eq]
  rw [show wrapA .i64 ((((ds ++ [y]).length : Nat) : Int) - 1) = (k : Int) by rw [wA (by omega) (by omega)]; omega]
  have hlast : (runP (freshS N) (ds ++ [y]))[k]? = some ((doS (stP (freshS N) ds) y).2.1, (doS (stP (freshS N) ds) y).2.2, (doS (stP (freshS N) ds) y).1.free) := by
    rw [runP_app, List.getElem?_append_right (by rw [runP_len]; omega), runP_len, hds, Nat.sub_self]; rfl
  obtain ⟨rr, pr, _, rdd, _⟩ := g3.read (R := Res) hlast
  simp only [AnQ] at pr
  subst pr
  rw [runP_len] at rdd
  rw [rdd]
  simp only [bind_some', asI_int, asB_bool, asStr_str, asP_ptr, asSl_sl, asAgg_1, asAgg_2, asAgg_3, asAgg_4, asTup_0, asTup_2, asTup_3, asTup_4, if_true', if_false', if_not_true', if_not_false', getD_0, getD_1, getD_2, getD_3]
  rw [st_all (put_same h14 (n14 + 9 + 6) _) (by simp) (by simp) (by simp [allOne, AV.one]), put_put]
  have x15 : Ext h14 n14 (h14.put (n14 + 9 + 6) (some ⟨[.int .i64 (doS (stP (freshS N) ds) y).2.1, .int .i64 (doS (stP (freshS N) ds) y).2.2, .int .i64 (doS (stP (freshS N) ds) y).1.free], 3, true⟩)) (n14 + 9 + 7) := ⟨by omega, fun i hi => put_ne (by omega)⟩
  have e15 := put_same h14 (n14 + 9 + 6) (some ⟨[.int .i64 (doS (stP (freshS N) ds) y).2.1, .int .i64 (doS (stP (freshS N) ds) y).2.2, .int .i64 (doS (stP (freshS N) ds) y).1.free], 3, true⟩)
  have ej15 := (x15.2 jb (by omega)).trans ej14
  have w15 := w14.ext x15
  generalize h14.put (n14 + 9 + 6) (some ⟨[.int .i64 (doS (stP (freshS N) ds) y).2.1, .int .i64 (doS (stP (freshS N) ds) y).2.2, .int .i64 (doS (stP (freshS N) ds) y).1.free], 3, true⟩) = h15 at *
  rw [ld_at ej15 (v := .int .i64 y.k) rfl]
  simp only [bind_some', asI_int, asB_bool, asStr_str, asP_ptr, asSl_sl, asAgg_1, asAgg_2, asAgg_3, asAgg_4, asTup_0, asTup_2, asTup_3, asTup_4, if_true', if_false', if_not_true', if_not_false', getD_0, getD_1, getD_2, getD_3]
  have plain : ∀ nx2, n14 + 9 + 7 ≤ nx2 → DRes N h0 n0 m (F16_L1 (callP Try.prog keepT f) Y f lf xa xn xc (m : Int) (N : Int) e9.a (ds ++ [y]).length e9.c ha hd.length hc ((k + 1 : Nat) : Int) h15 nx2) := fun nx2 hn => next _ _ _ _ _ _ _ _ (w15.ext ⟨hn, fun _ _ => rfl⟩) hlen (by omega)
  by_cases k1 : y.k = 1
  · rw [if_pos (by simp [k1]), ld_at e15 (v := .int .i64 (doS (stP (freshS N) ds) y).2.1) rfl]
    simp only [bind_some', asI_int, asB_bool, asStr_str, asP_ptr, asSl_sl, asAgg_1, asAgg_2, asAgg_3, asAgg_4, asTup_0, asTup_2, asTup_3, asTup_4, if_true', if_false', if_not_true', if_not_false', getD_0, getD_1, getD_2, getD_3]
    by_cases z : (doS (stP (freshS N) ds) y).2.1 = 0
    · rw [if_pos (by simp [z]), ld_at e15 (v := .int .i64 (doS (stP (freshS N) ds) y).2.2) rfl]
      simp only [bind_some', asI_int, asB_bool, asStr_str, asP_ptr, asSl_sl, asAgg_1, asAgg_2, asAgg_3, asAgg_4, asTup_0, asTup_2, asTup_3, asTup_4, if_true', if_false', if_not_true', if_not_false', getD_0, getD_1, getD_2, getD_3]
      have hdo : doS (stP (freshS N) ds) y = takeS (stP (freshS N) ds) y.n := by unfold doS; rw [if_pos k1]
      rw [hdo] at z e15 ⊢
      obtain ⟨t1, t2, t3⟩ := takeS_in (stP_ok (freshS_ok N) (ds := ds)) z
      obtain ⟨fr, hfr⟩ : ∃ fr : Nat, (takeS (stP (freshS N) ds) y.n).2.2 = (fr : Int) := ⟨(takeS (stP (freshS N) ds) y.n).2.2.toNat, by omega⟩
      obtain ⟨cn, hcn⟩ : ∃ cn : Nat, y.n = (cn : Int) := ⟨y.n.toNat, by omega⟩
      rw [if_neg (by rw [decide_eq_true_eq]; omega), ld_at e15 (v := .int .i64 (takeS (stP (freshS N) ds) y.n).2.2) rfl]
      simp only [bind_some', asI_int, asB_bool, asStr_str, asP_ptr, asSl_sl, asAgg_1, asAgg_2, asAgg_3, asAgg_4, asTup_0, asTup_2, asTup_3, asTup_4, if_true', if_false', if_not_true', if_not_false', getD_0, getD_1, getD_2, getD_3]
      rw [ld_at ej15 (v := .int .i64 y.n) rfl]
      simp only [bind_some', asI_int, asB_bool, asStr_str, asP_ptr, asSl_sl, asAgg_1, asAgg_2, asAgg_3, asAgg_4, asTup_0, asTup_2, asTup_3, asTup_4, if_true', if_false', if_not_true', if_not_false', getD_0, getD_1, getD_2, getD_3]
      rw [show wrapA .i64 ((N : Int) - y.n) = (N : Int) - y.n from wA (by omega) (by omega), if_neg (by rw [decide_eq_true_eq]; omega), F16_J6_eq]
      simp only [bind_some', asI_int, asB_bool, asStr_str, asP_ptr, asSl_sl, asAgg_1, asAgg_2, asAgg_3, asAgg_4, asTup_0, asTup_2, asTup_3, asTup_4, if_true', if_false', if_not_true', if_not_false', getD_0, getD_1, getD_2, getD_3]
      rw [ld_at e15 (v := .int .i64 (takeS (stP (freshS N) ds) y.n).2.2) rfl]
      simp only [bind_some', asI_int, asB_bool, asStr_str, asP_ptr, asSl_sl, asAgg_1, asAgg_2, asAgg_3, asAgg_4, asTup_0, asTup_2, asTup_3, asTup_4, if_true', if_false', if_not_true', if_not_false', getD_0, getD_1, getD_2, getD_3]
      rw [ld_at e15 (v := .int .i64 (takeS (stP (freshS N) ds) y.n).2.2) rfl]
      simp only [bind_some', asI_int, asB_bool, asStr_str, asP_ptr, asSl_sl, asAgg_1, asAgg_2, asAgg_3, asAgg_4, asTup_0, asTup_2, asTup_3, asTup_4, if_true', if_false', if_not_true', if_not_false', getD_0, getD_1, getD_2, getD_3]
      rw [ld_at ej15 (v := .int .i64 y.n) rfl]
      simp only [bind_some', asI_int, asB_bool, asStr_str, asP_ptr, asSl_sl, asAgg_1, asAgg_2, asAgg_3, asAgg_4, asTup_0, asTup_2, asTup_3, asTup_4, if_true', if_false', if_not_true', if_not_false', getD_0, getD_1, getD_2, getD_3]
      rw [show wrapA .i64 ((takeS (stP (freshS N) ds) y.n).2.2 + y.n) = ((fr + cn : Nat) : Int) by rw [wA (by omega) (by omega)]; omega, hfr]
      obtain ⟨e16, q1, q2, q3, q4, q5, q6, _⟩ := w15.oh.push hc (bytes := 16) (id := n14 + 9 + 28 + 9) (id2 := n14 + 9 + 28 + 10) (x := (fr, fr + cn)) (r := [.int .i64 (fr : Int), .int .i64 ((fr + cn : Nat) : Int)]) rfl rfl (growOk_of (by omega) (by omega)) (by omega) (by omega)
      rw [q1]
      simp only [bind_some', asI_int, asB_bool, asStr_str, asP_ptr, asSl_sl, asAgg_1, asAgg_2, asAgg_3, asAgg_4, asTup_0, asTup_2, asTup_3, asTup_4, if_true', if_false', if_not_true', if_not_false', getD_0, getD_1, getD_2, getD_3]
      rw [q2]
      simp only [bind_some', asI_int, asB_bool, asStr_str, asP_ptr, asSl_sl, asAgg_1, asAgg_2, asAgg_3, asAgg_4, asTup_0, asTup_2, asTup_3, asTup_4, if_true', if_false', if_not_true', if_not_false', getD_0, getD_1, getD_2, getD_3]
      have own16 : ∀ i, ownOf e16.a i → i = n14 + 9 + 28 + 10 := fun i q => by rw [q3] at q; obtain ⟨o, q⟩ := q; simp only [Option.some.injEq, Prod.mk.injEq] at q; exact q.1.symm
      rw [q4, wsucc (by omega), show hd.length + 1 = (hd ++ [(fr, fr + cn)]).length by simp]
      refine next _ _ _ _ _ _ _ _ ⟨⟨by omega, fun i hi => (q6.2 i (by omega) (fun q => by have := w15.gh i q; omega)).trans (w15.x.2 i hi)⟩, w15.od.go (q6.le (by omega)) (fun i q => w15.ap i q) (fun _ _ q => q), q5.go (D := none') ⟨by omega, fun _ _ _ => rfl⟩ (fun _ _ q => q) (fun _ _ q => q), w15.gd, fun i q => by have := own16 i q; omega, fun i q z => by have := own16 i z; have := w15.od.lt q; omega, w15.okd, fun r hr => ?_⟩ hlen (by simp; omega)
      rcases List.mem_append.1 hr with q | q
      · exact w15.okh r q
      · simp at q; subst q; simp only; omega
    · rw [if_neg (by simpa using z), wsucc (by omega)]
      exact plain _ (by omega)
  · rw [if_neg (by simpa using k1), wsucc (by omega)]
    exact plain _ (by omega)

end Go.Proofs.Ytbekpkapkaifiaa.T
