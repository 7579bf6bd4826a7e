/- A space: Play. -/
import Derived.Test.YtbekpkapkaifiaaE7
set_option linter.unusedVariables false
set_option linter.unusedSimpArgs false
namespace Go.Proofs.Ytbekpkapkaifiaa.T
open Go Go.RowKit Go.Proofs

def DdR (d : Deed) (r : List AV) : Prop := r = d.row
def AnQ (x : Int × Int × Int) (r : List AV) : Prop := r = [.int .i64 x.1, .int .i64 x.2.1, .int .i64 x.2.2]
abbrev none' : Nat → Prop := fun _ => False

theorem playS_loop {f N : Nat} (hN : N ≤ 4096) (hf : N + 8 ≤ f) {Y : YldF} {sp ub : Nat} {h0 : AHeap} {n0 : Nat} {xa : Option (Nat × Nat)} {xc : Bool} {ds : List Deed} (hx : Rows DdR h0 n0 none' xa 3 ds) (hd : ds.length ≤ 300) (d : Nat) :
    ∀ (lf k : Nat) (oc : Bool) (la oa : Option (Nat × Nat)) (s : SP) (outs : List (Int × Int × Int)) (h : AHeap) (nx : Nat), k + d = ds.length → d < lf → Ext h0 n0 h nx → Sok N s → s.log.length ≤ k * 5000 → Spc h nx sp ub la s → (∀ i, TS3 sp ub la i → n0 ≤ i) → outs.length = k → OwnRows AnQ h nx oa 3 outs → (∀ i, ownOf oa i → n0 ≤ i ∧ ¬ TS3 sp ub la i) →
      ∃ a c la' lc h' nx', F17_L1 (callP Try.prog keepT f) Y f lf (some (sp, 0)) oa outs.length oc xa ds.length xc (ds.length : Int) (k : Int) h nx = some (.tuple [.slice a ds.length c, .slice la' (stP s (ds.drop k)).log.length lc, .int .i64 0], h', nx') ∧ Ext h0 n0 h' nx' ∧
        Rows AnQ h' nx' none' a 3 (outs ++ runP s (ds.drop k)) ∧ Rows RecR h' nx' none' la' 3 (stP s (ds.drop k)).log := by
  induction d with
  | zero =>
    intro lf k oc la oa s outs h nx e hl x ok hlog w hT ho ow oA
    obtain ⟨lf, rfl⟩ : ∃ m, lf = m + 1 := ⟨lf - 1, by omega⟩
    obtain rfl : k = ds.length := by omega
    obtain ⟨c0, lc, e0⟩ := w.hd
    rw [F17_L1_eq, if_neg (by rw [decide_eq_true_eq]; omega), List.drop_length]
    simp only [bind_some', asI_int, asB_bool, asStr_str, asP_ptr, asSl_sl, asAgg_1, asAgg_2, asAgg_3, asAgg_4, asTup_0, asTup_2, asTup_3, asTup_4, if_true', if_false', if_not_true', if_not_false', getD_0, getD_1, getD_2, getD_3]
    rw [ld_at e0 (v := .slice la s.log.length lc) rfl]
    simp only [bind_some', asI_int, asB_bool, asStr_str, asP_ptr, asSl_sl, asAgg_1, asAgg_2, asAgg_3, asAgg_4, asTup_0, asTup_2, asTup_3, asTup_4, if_true', if_false', if_not_true', if_not_false', getD_0, getD_1, getD_2, getD_3]
    simp only [runP, stP, List.append_nil]
    have fr : Frm none' h nx h (nx + 9) := ⟨by omega, fun _ _ _ => rfl⟩
    exact ⟨oa, oc, la, lc, _, _, by rw [ho], ⟨by have := x.1; omega, x.2⟩, (ow.rows (A := none') (fun _ _ q => q)).go fr (fun _ _ q => q) (fun _ _ q => q) (fun _ _ q => q), (w.hl.rows (A := none') (fun _ _ q => q)).go fr (fun _ _ q => q) (fun _ _ q => q) (fun _ _ q => q)⟩
  | succ d ih =>
    intro lf k oc la oa s outs h nx e hl x ok hlog w hT ho ow oA
    obtain ⟨lf, rfl⟩ : ∃ m, lf = m + 1 := ⟨lf - 1, by omega⟩
    have hk : k < ds.length := by omega
    have lx := x.1
    obtain ⟨r, pr, _, rd, _⟩ := (hx.go (x.fr none') (fun _ _ q => q) (fun _ _ q => q) (fun _ _ q => q) : Rows DdR h nx none' xa 3 ds).read (R := Res) (List.getElem?_eq_getElem hk)
    have hdrop : ds.drop k = ds[k] :: ds.drop (k + 1) := List.drop_eq_getElem_cons hk
    generalize ds[k] = y at *
    simp only [DdR, Deed.row] at pr
    subst pr
    have ls := w.ls; have lu := w.lu
    rw [F17_L1_eq, if_pos (decide_eq_true (by omega)), rd]
    simp only [bind_some', asI_int, asB_bool, asStr_str, asP_ptr, asSl_sl, asAgg_1, asAgg_2, asAgg_3, asAgg_4, asTup_0, asTup_2, asTup_3, asTup_4, if_true', if_false', if_not_true', if_not_false', getD_0, getD_1, getD_2, getD_3]
    rw [st_all (put_same h (nx + 3) _) (by simp) (by simp) (by simp [allOne, AV.one]), put_put]
    rw [ldr_all (put_same h (nx + 3) _) (by simp)]
    simp only [bind_some', asI_int, asB_bool, asStr_str, asP_ptr, asSl_sl, asAgg_1, asAgg_2, asAgg_3, asAgg_4, asTup_0, asTup_2, asTup_3, asTup_4, if_true', if_false', if_not_true', if_not_false', getD_0, getD_1, getD_2, getD_3]
    have x1 : Ext h nx (h.put (nx + 3) (some ⟨[.int .i64 y.k, .int .i64 y.a, .int .i64 y.n], 3, true⟩)) (nx + 10) := ⟨by omega, fun i hi => put_ne (by omega)⟩
    generalize h.put (nx + 3) (some ⟨[.int .i64 y.k, .int .i64 y.a, .int .i64 y.n], 3, true⟩) = h1 at *
    obtain ⟨h2, n2, g1, la', g2, g3, g4⟩ := do_specS (f := f) (Y := Y) (w.ext x1) ok hN (by omega) hf y
    simp only [Deed.row] at g1
    rw [g1]
    simp only [bind_some', asI_int, asB_bool, asStr_str, asP_ptr, asSl_sl, asAgg_1, asAgg_2, asAgg_3, asAgg_4, asTup_0, asTup_2, asTup_3, asTup_4, if_true', if_false', if_not_true', if_not_false', getD_0, getD_1, getD_2, getD_3]
    have l2 := g3.1
    rw [st_all (put_same h2 (nx + 8) _) (by simp) (by simp) (by simp [allOne, AV.one]), put_put]
    have f8 : Frm (fun i => i = nx + 8) h2 n2 (h2.put (nx + 8) (some ⟨[.int .i64 (doS s y).2.1, .int .i64 (doS s y).2.2, .int .i64 0], 3, true⟩)) n2 := (Frm.refl _ _ _).put (.inl rfl) (Nat.le_refl _)
    have e8 := put_same h2 (nx + 8) (some ⟨[.int .i64 (doS s y).2.1, .int .i64 (doS s y).2.2, .int .i64 0], 3, true⟩)
    obtain ⟨c5, lc5, e5⟩ := g2.hd
    have nsp : sp ≠ nx + 8 ∧ ub ≠ nx + 8 := ⟨by omega, by omega⟩
    have nla' : ∀ i, ownOf la' i → i ≠ nx + 8 := fun i q => by
      rcases g4 i q with q | q
      · have := w.hl.lt q; omega
      · omega
    have e5' := (f8.2 sp g2.ls nsp.1).trans e5
    have s8 : Spc (h2.put (nx + 8) (some ⟨[.int .i64 (doS s y).2.1, .int .i64 (doS s y).2.2, .int .i64 0], 3, true⟩)) n2 sp ub la' (doS s y).1 := ⟨⟨c5, lc5, e5'⟩, (f8.2 ub g2.lu nsp.2).trans g2.hu, g2.hl.go f8 (fun i q => nla' i q) (fun _ _ q => q), g2.ls, g2.lu, g2.ne, g2.nl⟩
    have fr8 : Frm (TS3 sp ub la) h nx (h2.put (nx + 8) (some ⟨[.int .i64 (doS s y).2.1, .int .i64 (doS s y).2.2, .int .i64 0], 3, true⟩)) n2 := ⟨by omega, fun i hi hd => by rw [put_ne (by omega), g3.2 i (by omega) hd, x1.2 i hi]⟩
    generalize h2.put (nx + 8) (some ⟨[.int .i64 (doS s y).2.1, .int .i64 (doS s y).2.2, .int .i64 0], 3, true⟩) = h3 at *
    rw [ld_at e5' (v := .int .i64 (doS s y).1.free) rfl]
    simp only [bind_some', asI_int, asB_bool, asStr_str, asP_ptr, asSl_sl, asAgg_1, asAgg_2, asAgg_3, asAgg_4, asTup_0, asTup_2, asTup_3, asTup_4, if_true', if_false', if_not_true', if_not_false', getD_0, getD_1, getD_2, getD_3]
    rw [st_to e8 rfl (by simp) (cs' := [.int .i64 (doS s y).2.1, .int .i64 (doS s y).2.2, .int .i64 (doS s y).1.free]) rfl]
    rw [ldr_all (put_same h3 (nx + 8) _) (by simp)]
    simp only [bind_some', asI_int, asB_bool, asStr_str, asP_ptr, asSl_sl, asAgg_1, asAgg_2, asAgg_3, asAgg_4, asTup_0, asTup_2, asTup_3, asTup_4, if_true', if_false', if_not_true', if_not_false', getD_0, getD_1, getD_2, getD_3]
    have f9 : Frm (fun i => i = nx + 8) h3 n2 (h3.put (nx + 8) (some ⟨[.int .i64 (doS s y).2.1, .int .i64 (doS s y).2.2, .int .i64 (doS s y).1.free], 3, true⟩)) n2 := (Frm.refl _ _ _).put (.inl rfl) (Nat.le_refl _)
    have s9 : Spc (h3.put (nx + 8) (some ⟨[.int .i64 (doS s y).2.1, .int .i64 (doS s y).2.2, .int .i64 (doS s y).1.free], 3, true⟩)) n2 sp ub la' (doS s y).1 := ⟨⟨c5, lc5, (f9.2 sp s8.ls nsp.1).trans e5'⟩, (f9.2 ub s8.lu nsp.2).trans s8.hu, s8.hl.go f9 (fun i q => nla' i q) (fun _ _ q => q), s8.ls, s8.lu, s8.ne, s8.nl⟩
    have fr9 : Frm (TS3 sp ub la) h nx (h3.put (nx + 8) (some ⟨[.int .i64 (doS s y).2.1, .int .i64 (doS s y).2.2, .int .i64 (doS s y).1.free], 3, true⟩)) n2 := ⟨fr8.1, fun i hi hd => by rw [put_ne (by omega), fr8.2 i hi hd]⟩
    generalize h3.put (nx + 8) (some ⟨[.int .i64 (doS s y).2.1, .int .i64 (doS s y).2.2, .int .i64 (doS s y).1.free], 3, true⟩) = h4 at *
    have ow4 : OwnRows AnQ h4 n2 oa 3 outs := ow.go fr9 (fun i q => (oA i q).2) (fun _ _ q => q)
    obtain ⟨e1, p1, p2, p3, p4, p5, p6, _⟩ := ow4.push oc (bytes := 24) (id := n2 + 8) (id2 := n2 + 9) (x := ((doS s y).2.1, (doS s y).2.2, (doS s y).1.free)) (r := [.int .i64 (doS s y).2.1, .int .i64 (doS s y).2.2, .int .i64 (doS s y).1.free]) rfl rfl (growOk_of (by omega) (by omega)) (by omega) (by omega)
    rw [p1]
    simp only [bind_some', asI_int, asB_bool, asStr_str, asP_ptr, asSl_sl, asAgg_1, asAgg_2, asAgg_3, asAgg_4, asTup_0, asTup_2, asTup_3, asTup_4, if_true', if_false', if_not_true', if_not_false', getD_0, getD_1, getD_2, getD_3]
    rw [p2]
    simp only [bind_some', asI_int, asB_bool, asStr_str, asP_ptr, asSl_sl, asAgg_1, asAgg_2, asAgg_3, asAgg_4, asTup_0, asTup_2, asTup_3, asTup_4, if_true', if_false', if_not_true', if_not_false', getD_0, getD_1, getD_2, getD_3]
    rw [wsucc (by omega), p4]
    have own2 : ∀ i, ownOf e1.a i → i = n2 + 9 := fun i q => by rw [p3] at q; obtain ⟨o, q⟩ := q; simp only [Option.some.injEq, Prod.mk.injEq] at q; exact q.1.symm
    have hoa : ∀ i, ownOf oa i → i < nx := fun i q => ow.lt q
    have T' : ∀ i, TS3 sp ub la' i → i < n2 ∧ (TS3 sp ub la i ∨ nx + 10 ≤ i) := fun i q => by
      rcases q with q | q | q
      · exact ⟨by have := s9.ls; omega, .inl (.inl q)⟩
      · exact ⟨by have := s9.lu; omega, .inl (.inr (.inl q))⟩
      · refine ⟨s9.hl.lt q, ?_⟩
        rcases g4 i q with q | q
        · exact .inl (.inr (.inr q))
        · exact .inr q
    have noa : ∀ i, TS3 sp ub la' i → ¬ ownOf oa i := fun i q z => by
      rcases (T' i q).2 with t | t
      · exact (oA i z).2 t
      · have := hoa i z; omega
    generalize (h4.put (n2 + 8) (some ⟨[.int .i64 (doS s y).2.1, .int .i64 (doS s y).2.2, .int .i64 (doS s y).1.free], 3, true⟩)).puts e1.sets = h5 at *
    obtain ⟨c6, lc6, e6⟩ := s9.hd
    have s5 : Spc h5 (n2 + 13) sp ub la' (doS s y).1 := ⟨⟨c6, lc6, (p6.2 sp s9.ls (noa sp (.inl rfl))).trans e6⟩, (p6.2 ub s9.lu (noa ub (.inr (.inl rfl)))).trans s9.hu, s9.hl.go (p6.le (by omega)) (fun i q => noa i (.inr (.inr q))) (fun _ _ q => q), by have := s9.ls; omega, by have := s9.lu; omega, s9.ne, s9.nl⟩
    have x5 : Ext h0 n0 h5 (n2 + 13) := ⟨by omega, fun i hi => by rw [p6.2 i (by omega) (fun q => by have := (oA i q).1; omega), fr9.2 i (by omega) (fun q => by have := hT i q; omega), x.2 i hi]⟩
    obtain ⟨ok', lg'⟩ := doS_ok ok y
    have hfin := ih lf (k + 1) e1.c la' e1.a (doS s y).1 (outs ++ [((doS s y).2.1, (doS s y).2.2, (doS s y).1.free)]) h5 (n2 + 13) (by omega) (by omega) x5 ok' (by omega) s5 (fun i q => by rcases (T' i q).2 with t | t; exact hT i t; omega) (by simp; omega) (p5.go (D := none') ⟨by omega, fun _ _ _ => rfl⟩ (fun _ _ q => q) (fun _ _ q => q)) (fun i q => ⟨by have := own2 i q; omega, fun t => by have := own2 i q; have := (T' i t).1; omega⟩)
    rw [List.length_append, List.length_singleton] at hfin
    obtain ⟨a, c, la2, lc2, h', nx', z1, z2, z3, z4⟩ := hfin
    rw [hdrop]
    refine ⟨a, c, la2, lc2, h', nx', z1, z2, ?_, z4⟩
    rw [runP, show ∀ (a : List (Int × Int × Int)) (b : Int × Int × Int) c, a ++ b :: c = a ++ [b] ++ c from fun a b c => by simp]
    exact z3

def freshS (n : Nat) : SP := ⟨List.replicate n 0, n, []⟩
theorem freshS_ok (n : Nat) : Sok n (freshS n) := ⟨by simp [freshS], by simp [freshS, zc_rep0], fun x hx => by simp only [freshS] at hx; rw [List.eq_of_mem_replicate hx]; omega⟩

theorem playS_spec {f N : Nat} (hN : N ≤ 4096) (h1N : 1 ≤ N) (hf : N + 310 ≤ f) (Y : YldF) {h0 : AHeap} {n0 : Nat} {xa : Option (Nat × Nat)} (xc : Bool) {ds : List Deed} (hx : Rows DdR h0 n0 none' xa 3 ds) (hd : ds.length ≤ 300) :
    ∃ a c la lc h' nx', callP Try.prog keepT f Y 17 [.int .i64 (N : Int), .slice xa ds.length xc] h0 n0 = some (.tuple [.slice a ds.length c, .slice la (stP (freshS N) ds).log.length lc, .int .i64 0], h', nx') ∧ Ext h0 n0 h' nx' ∧
      Rows AnQ h' nx' none' a 3 (runP (freshS N) ds) ∧ Rows RecR h' nx' none' la 3 (stP (freshS N) ds).log := by
  obtain ⟨f, rfl⟩ : ∃ m, f = m + 1 := ⟨f - 1, by omega⟩
  obtain ⟨g, rfl⟩ : ∃ m, f = m + 1 := ⟨f - 1, by omega⟩
  rw [F17_eq, F35_eq, if_pos (decide_eq_true (by omega))]
  simp only [bind_some', asI_int, asB_bool, asStr_str, asP_ptr, asSl_sl, asAgg_1, asAgg_2, asAgg_3, asAgg_4, asTup_0, asTup_2, asTup_3, asTup_4, if_true', if_false', if_not_true', if_not_false', getD_0, getD_1, getD_2, getD_3]
  rw [show decide ((N : Int) ≤ 4096) = true from decide_eq_true (by omega)]
  simp only [bind_some', asI_int, asB_bool, asStr_str, asP_ptr, asSl_sl, asAgg_1, asAgg_2, asAgg_3, asAgg_4, asTup_0, asTup_2, asTup_3, asTup_4, if_true', if_false', if_not_true', if_not_false', getD_0, getD_1, getD_2, getD_3]
  rw [if_neg (by rw [decide_eq_true_eq]; omega), if_pos (by simp; omega)]
  have hm : madeA [AV.int .u8 0] (Int.toNat (N : Int) * 1) = ints .u8 (List.replicate N 0) := by simp [madeA, ints]
  rw [hm, Int.toNat_natCast]
  obtain ⟨m, hmm⟩ : ∃ m, m = n0 + 6 + 8 := ⟨_, rfl⟩
  rw [← hmm]
  have x1 : Ext h0 n0 ((h0.put (m + 4) (some ⟨ints .u8 (List.replicate N 0), 1, true⟩)).put (m + 7) (some ⟨[.slice (some (m + 4, 0)) N ((N : Int) == (N : Int)), .int .i64 (N : Int), .slice none 0 false], 3, true⟩)) (m + 13) := ⟨by omega, fun i hi => by rw [put_ne (by omega), put_ne (by omega)]⟩
  have w : Spc ((h0.put (m + 4) (some ⟨ints .u8 (List.replicate N 0), 1, true⟩)).put (m + 7) (some ⟨[.slice (some (m + 4, 0)) N ((N : Int) == (N : Int)), .int .i64 (N : Int), .slice none 0 false], 3, true⟩)) (m + 13) (m + 7) (m + 4) none (freshS N) := ⟨⟨(N : Int) == (N : Int), false, by rw [put_same]; simp [freshS]⟩, by rw [put_ne (by omega), put_same]; rfl, OwnRows.nil _ _ _ _, by omega, by omega, by omega, fun i q => (no_own q).elim⟩
  obtain ⟨a, c, la, lc, h', nx', r⟩ := playS_loop (f := g + 1) hN (by omega) (Y := Y) (xc := xc) hx hd ds.length (g + 1) 0 false none none (freshS N) [] _ (m + 13) (by omega) (by omega) x1 (freshS_ok N) (by simp [freshS]) w (fun i q => by rcases q with q | q | q; omega; omega; exact (no_own q).elim) rfl (OwnRows.nil _ _ _ _) (fun i q => (no_own q).elim)
  exact ⟨a, c, la, lc, h', nx', r⟩

end Go.Proofs.Ytbekpkapkaifiaa.T
