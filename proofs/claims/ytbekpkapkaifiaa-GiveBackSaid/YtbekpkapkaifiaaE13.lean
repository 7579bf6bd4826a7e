/- TakeApart: the law. -/
import Derived.Test.YtbekpkapkaifiaaE12
set_option linter.unusedVariables false
set_option linter.unusedSimpArgs false
namespace Go.Proofs.Ytbekpkapkaifiaa.T
open Go Go.RowKit Go.Proofs

/-- What the law keeps of a unit. -/
def phi (x : Int) : Int := if x = 0 then 0 else if x = 1 then -1 else if x = 2 then 2 else 1
theorem izc_phi (u : List Int) : izc (u.map phi) = zc u := by
  unfold izc zc
  rw [List.countP_map]
  congr 1
  funext x
  simp only [Function.comp_apply, phi]
  by_cases h : x = 0
  · subst h; rfl
  · rw [if_neg h]
    have : ¬ (if x = 1 then (-1 : Int) else if x = 2 then 2 else 1) = 0 := by split; omega; split <;> omega
    rw [beq_eq_false_iff_ne.2 h, beq_eq_false_iff_ne.2 this]
theorem map_setR (g : Int → Int) (v : Int) : ∀ (n a : Nat) (u : List Int), (setR v u a n).map g = setR (g v) (u.map g) a n
  | 0, a, u => rfl
  | n + 1, a, u => by simp only [setR]; rw [map_setR g v n, List.map_set]
theorem phi_step {u : List Int} (h : ∀ x ∈ u, 0 ≤ x ∧ x ≤ 3) : (u.map stepU).map phi = (u.map phi).map decU := by
  rw [List.map_map, List.map_map]
  apply List.map_congr_left
  intro x hx
  have := h x hx
  simp only [Function.comp_apply]
  have : x = 0 ∨ x = 1 ∨ x = 2 ∨ x = 3 := by omega
  rcases this with rfl | rfl | rfl | rfl <;> decide
theorem phi_in (u : List Int) : ∀ z ∈ u.map phi, -1 ≤ z ∧ z ≤ 2 := fun z hz => by
  obtain ⟨x, _, rfl⟩ := List.mem_map.1 hz
  unfold phi; split; omega; split; omega; split <;> omega

variable {f : Nat} {Y : YldF} {h0 : AHeap} {n0 zb N : Nat} {xa ya : Option (Nat × Nat)} {xc yc zc' : Bool} {ds : List Deed}

theorem apart_loop (hf : 400 ≤ f) (hfN : N + 3 ≤ f) (w : TFix h0 n0 zb xa ya ds (runP (freshS N) ds)) (hN : N ≤ 4096) (okd : ∀ d ∈ ds, DdOk N d) (d : Nat) :
    ∀ (lf k : Nat) (h : AHeap) (nx : Nat), k + d = ds.length → d < lf → Frm (fun i => i = zb) h0 n0 h nx → h zb = some ⟨ints .i64 ((stP (freshS N) (ds.take k)).u.map phi), 1, true⟩ →
      OkT (F3_L1 (callP Try.prog keepT f) Y f lf (N : Int) xa ds.length xc ya ds.length yc (some (zb, 0)) N zc' (k : Int) h nx) := by
  have hl := w.hl
  induction d with
  | zero =>
    intro lf k h nx e hlf fr hv
    obtain ⟨lf, rfl⟩ : ∃ m, lf = m + 1 := ⟨lf - 1, by omega⟩
    have lx := fr.1
    rw [F3_L1_eq, if_neg (by rw [decide_eq_true_eq]; omega)]
    dsimp only
    have e1 := put_same h (nx + 5) (some ⟨[.int .i64 1, .int .i64 0, .int .i64 1], 3, true⟩)
    generalize h.put (nx + 5) (some ⟨[.int .i64 1, .int .i64 0, .int .i64 1], 3, true⟩) = h1 at *
    have rws : Rows DdR h1 (nx + 14) none' (some (nx + 5, 0)) 3 [⟨1, 0, 1⟩] := ⟨[[.int .i64 1, .int .i64 0, .int .i64 1]], All2.one rfl, (fun r hr => by simp at hr; subst hr; rfl), OwnSl.sl (nx0 := 0) ⟨rfl, .inr ⟨nx + 5, rfl, by omega, by omega, e1⟩⟩, fun _ _ _ q => q⟩
    obtain ⟨a, c, la, lc, h2, n2, g1, g2, g3, g4⟩ := playS_spec (f := f) (N := 1) (by omega) (by omega) (by omega) Y true rws (by simp)
    change callP Try.prog keepT f Y 17 [.int .i64 1, .slice (some (nx + 5, 0)) 1 true] h1 (nx + 14) = _ at g1
    rw [g1]
    simp only [bind_some', asI_int, asB_bool, asStr_str, asP_ptr, asSl_sl, asAgg_1, asAgg_2, asAgg_3, asAgg_4, asTup_0, asTup_2, asTup_3, asTup_4, if_true', if_false', if_not_true', if_not_false', getD_0, getD_1, getD_2, getD_3]
    have hr : runP (freshS 1) [⟨1, 0, 1⟩] = [(0, 0, 0)] := by decide
    rw [hr] at g3
    obtain ⟨r, pr, _, _, rd⟩ := g3.read (R := Res) (i := 0) (x := (0, 0, 0)) rfl
    simp only [AnQ] at pr
    subst pr
    rw [if_pos (by decide), if_pos (by simp)]
    have := rd 2 (.int .i64 0) (fun v => (asI .i64 v).bind fun n33 => some ((.bool ((n33 : Int) == 0)), h2, (n2 + 15))) (by omega) rfl
    exact ⟨_, _, this⟩
  | succ d ih =>
    intro lf k h nx e hlf fr hv
    obtain ⟨lf, rfl⟩ : ∃ m, lf = m + 1 := ⟨lf - 1, by omega⟩
    have hk : k < ds.length := by omega
    have lx := fr.1
    have lz := w.hz
    obtain ⟨r, pr, _, rd, _⟩ := (w.dds fr).read (R := Res) (List.getElem?_eq_getElem hk)
    have htk : ds.take (k + 1) = ds.take k ++ [ds[k]] := by rw [List.take_add_one, List.getElem?_eq_getElem hk]; rfl
    have oky := okd _ (List.getElem_mem hk)
    have hout : (runP (freshS N) ds)[k]? = some ((doS (stP (freshS N) (ds.take k)) ds[k]).2.1, (doS (stP (freshS N) (ds.take k)) ds[k]).2.2, (doS (stP (freshS N) (ds.take k)) ds[k]).1.free) := by
      have e0 : ds = ds.take k ++ (ds[k] :: ds.drop (k + 1)) := by rw [← List.drop_eq_getElem_cons hk, List.take_append_drop]
      have e2 : (ds.take k).length = k := by rw [List.length_take]; omega
      conv => lhs; rw [e0]
      rw [runP_app, List.getElem?_append_right (by rw [runP_len]; omega), runP_len, e2, Nat.sub_self]; rfl
    have hst : stP (freshS N) (ds.take (k + 1)) = (doS (stP (freshS N) (ds.take k)) ds[k]).1 := by rw [htk, stP_app]; rfl
    have ok : Sok N (stP (freshS N) (ds.take k)) := stP_ok (freshS_ok N)
    generalize hy : ds[k] = y at *
    generalize hs : stP (freshS N) (ds.take k) = s at *
    obtain ⟨k1, k2, k3⟩ := ok
    have hZ : (s.u.map phi).length = N := by rw [List.length_map]; exact k1
    obtain ⟨ok1, ok2, ok3⟩ := (doS_ok (n := N) (s := s) ⟨k1, k2, k3⟩ y).1
    simp only [DdR, Deed.row] at pr
    subst pr
    rw [F3_L1_eq, if_pos (decide_eq_true (by omega)), rd]
    simp only [bind_some', asI_int, asB_bool, asStr_str, asP_ptr, asSl_sl, asAgg_1, asAgg_2, asAgg_3, asAgg_4, asTup_0, asTup_2, asTup_3, asTup_4, if_true', if_false', if_not_true', if_not_false', getD_0, getD_1, getD_2, getD_3]
    obtain ⟨jb, hjb⟩ : ∃ jb, jb = nx + 8 := ⟨_, rfl⟩
    rw [← hjb, st_all (put_same h jb _) (by simp) (by simp) (by simp [allOne, AV.one]), put_put]
    have fr1 : Frm (fun i => i = zb) h0 n0 (h.put jb (some ⟨[.int .i64 y.k, .int .i64 y.a, .int .i64 y.n], 3, true⟩)) (jb + 1) := fr.put (.inr (by omega)) (by omega)
    have ej := put_same h jb (some ⟨[.int .i64 y.k, .int .i64 y.a, .int .i64 y.n], 3, true⟩)
    have hv1 : (h.put jb (some ⟨[.int .i64 y.k, .int .i64 y.a, .int .i64 y.n], 3, true⟩)) zb = _ := (put_ne (by omega)).trans hv
    generalize h.put jb (some ⟨[.int .i64 y.k, .int .i64 y.a, .int .i64 y.n], 3, true⟩) = h1 at *
    obtain ⟨r2, pr2, _, rd2⟩ := (w.ans fr1).read0 (R := Res) hout (by omega)
    obtain ⟨r3, pr3, _, _, rd3⟩ := (w.ans fr1).read (R := Res) hout
    simp only [AnQ] at pr2 pr3
    subst pr2 pr3
    rw [runP_len] at rd2 rd3
    rw [rd2 _ _ rfl]
    simp only [bind_some', asI_int, asB_bool, asStr_str, asP_ptr, asSl_sl, asAgg_1, asAgg_2, asAgg_3, asAgg_4, asTup_0, asTup_2, asTup_3, asTup_4, if_true', if_false', if_not_true', if_not_false', getD_0, getD_1, getD_2, getD_3]
    -- once what is kept has become that of the next state
    have fin : ∀ (h' : AHeap) (nx' : Nat), Frm (fun i => i = zb) h0 n0 h' nx' → h' zb = some ⟨ints .i64 ((doS s y).1.u.map phi), 1, true⟩ → OkT (F3_J5 (callP Try.prog keepT f) Y f lf (N : Int) xa ds.length xc ya ds.length yc (some (zb, 0)) N zc' (k : Int) h' nx') := fun h' nx' q1 q2 => by
      rw [F3_J5_eq]
      refine count_loop w hk (Z := (doS s y).1.u.map phi) (by rw [List.length_map]; exact ok1) hN hout (by rw [izc_phi]; exact ok2) q2 (fun nx2 q3 => ?_) N f 0 (nx' + 2) (by omega) (by omega) (q1.le (by omega))
      exact ih lf (k + 1) h' nx2 (by omega) (by omega) q3 (by rw [hst]; exact q2)
    by_cases z : (doS s y).2.1 = 0
    · rw [if_neg (by rw [z]; decide), ld_at ej (v := .int .i64 y.k) rfl]
      simp only [bind_some', asI_int, asB_bool, asStr_str, asP_ptr, asSl_sl, asAgg_1, asAgg_2, asAgg_3, asAgg_4, asTup_0, asTup_2, asTup_3, asTup_4, if_true', if_false', if_not_true', if_not_false', getD_0, getD_1, getD_2, getD_3]
      rcases oky with ⟨o1, o2, o3, o4⟩ | ⟨o1, o2, o3, o4⟩ | ⟨o1, o2, o3⟩
      · -- a take
        have hdo : doS s y = takeS s y.n := by unfold doS; rw [if_pos o1]
        rw [hdo] at z hout fin rd3
        obtain ⟨t1, t2, t3⟩ := takeS_in (N := N) ⟨k1, k2, k3⟩ z
        obtain ⟨cn, hcn⟩ : ∃ cn : Nat, y.n = (cn : Int) := ⟨y.n.toNat, by omega⟩
        obtain ⟨e0, hfind, hres⟩ : ∃ e0, findL cn s.u 0 0 = some e0 ∧ takeS s y.n = (⟨setR 1 s.u (e0 - cn) cn, s.free - cn, s.log ++ [(false, (e0 : Int) - cn, (e0 : Int))]⟩, (0, (e0 : Int) - cn)) := by
          rw [hcn] at z ⊢
          rw [takeS_eq (by omega) (by omega)] at z ⊢
          cases hf : findL cn s.u 0 0 with
          | none => rw [hf] at z; simp [takeM] at z
          | some e0 => exact ⟨e0, rfl, rfl⟩
        obtain ⟨f1, f2, f3⟩ := take_found (by omega) hfind
        have hfr : (takeS s y.n).2.2 = ((e0 - cn : Nat) : Int) := by rw [hres]; simp only; omega
        rw [if_pos (by simp [o1]), rd3 1 (.int .i64 (takeS s y.n).2.2) _ (by omega) rfl]
        simp only [bind_some', asI_int, asB_bool, asStr_str, asP_ptr, asSl_sl, asAgg_1, asAgg_2, asAgg_3, asAgg_4, asTup_0, asTup_2, asTup_3, asTup_4, if_true', if_false', if_not_true', if_not_false', getD_0, getD_1, getD_2, getD_3]
        rw [if_neg (by rw [decide_eq_true_eq]; omega), ld_at ej (v := .int .i64 y.n) rfl]
        simp only [bind_some', asI_int, asB_bool, asStr_str, asP_ptr, asSl_sl, asAgg_1, asAgg_2, asAgg_3, asAgg_4, asTup_0, asTup_2, asTup_3, asTup_4, if_true', if_false', if_not_true', if_not_false', getD_0, getD_1, getD_2, getD_3]
        rw [if_neg (by rw [decide_eq_true_eq]; omega), rd3 1 (.int .i64 (takeS s y.n).2.2) _ (by omega) rfl]
        simp only [bind_some', asI_int, asB_bool, asStr_str, asP_ptr, asSl_sl, asAgg_1, asAgg_2, asAgg_3, asAgg_4, asTup_0, asTup_2, asTup_3, asTup_4, if_true', if_false', if_not_true', if_not_false', getD_0, getD_1, getD_2, getD_3]
        rw [ld_at ej (v := .int .i64 y.n) rfl]
        simp only [bind_some', asI_int, asB_bool, asStr_str, asP_ptr, asSl_sl, asAgg_1, asAgg_2, asAgg_3, asAgg_4, asTup_0, asTup_2, asTup_3, asTup_4, if_true', if_false', if_not_true', if_not_false', getD_0, getD_1, getD_2, getD_3]
        rw [show wrapA .i64 ((N : Int) - y.n) = (N : Int) - y.n from wA (by omega) (by omega), if_neg (by rw [decide_eq_true_eq]; omega), F3_J2_eq]
        refine take_walk w hk (y := y) hcn hout hfr hN (by omega) (by omega) cn f 0 (s.u.map phi) h1 _ (by omega) (by omega) hZ (fr1.le (by omega)) hv1 ej (fun j j1 j2 => ?_) (fun h' nx' q1 q2 => fin h' nx' q1 ?_)
        · rw [List.getElem?_map, f3 j (by omega) (by omega)]; rfl
        · rw [q2, hres]
          simp only [Nat.add_zero]
          rw [map_setR]; rfl
      · -- a give
        have hdo : doS s y = ((giveS s y.a y.n).1, ((giveS s y.a y.n).2, 0)) := by unfold doS; rw [if_neg (by omega), if_pos o1]
        rw [hdo] at z fin
        simp only at z fin
        rw [if_neg (by simp [o1]), if_pos (by simp [o1])]
        obtain ⟨cn, hcn⟩ : ∃ cn : Nat, y.n = (cn : Int) := ⟨y.n.toNat, by omega⟩
        obtain ⟨an, han⟩ : ∃ an : Nat, y.a = (an : Int) := ⟨y.a.toNat, by omega⟩
        have hg : (giveS s y.a y.n).1.u = setR 2 s.u an cn := by
          unfold giveS at z ⊢
          by_cases c : y.a < 0 ∨ y.n < 1 ∨ y.n > s.u.length ∨ y.a > s.u.length - y.n
          · rw [if_pos c] at z; simp at z
          · rw [if_neg c] at z ⊢
            by_cases c2 : ((s.u.drop y.a.toNat).take y.n.toNat).all (fun x => decide (x = 1)) = true
            · rw [if_pos c2, hcn, han]; simp
            · rw [if_neg c2] at z; simp at z
        refine give_walk w hk (y := y) hcn han hN (by omega) (by omega) cn f 0 (s.u.map phi) h1 _ (by omega) (by omega) hZ (fr1.le (by omega)) hv1 ej (fun h' nx' q1 q2 => fin h' nx' q1 ?_)
        rw [q2, hg, map_setR]; rfl
      · -- a commit
        have hdo : doS s y = (commitS s, (0, 0)) := by unfold doS; rw [if_neg (by omega), if_neg (by omega), if_pos o1]
        rw [hdo] at fin
        rw [if_neg (by simp [o1]), if_neg (by simp [o1]), if_pos (by simp [o1])]
        refine commit_walk hN N f 0 (s.u.map phi) h1 _ (by omega) (by omega) hZ (phi_in _) (fr1.le (by omega)) hv1 (fun h' nx' q1 q2 => fin h' nx' q1 ?_)
        rw [q2, commit_u, phi_step k3]; simp
    · have hsame : (doS s y).1 = s := by
        unfold doS at z ⊢
        by_cases c1 : y.k = 1
        · rw [if_pos c1] at z ⊢
          unfold takeS at z ⊢
          split
          · rfl
          · rename_i c
            rw [if_neg c] at z
            cases hf : findL y.n.toNat s.u 0 0 with
            | none => rfl
            | some e0 => rw [hf] at z; simp at z
        rw [if_neg c1] at z ⊢
        by_cases c2 : y.k = 2
        · rw [if_pos c2] at z ⊢
          unfold giveS at z ⊢
          split
          · rfl
          · rename_i c
            rw [if_neg c] at z
            split
            · rename_i c'; rw [if_pos c'] at z; simp at z
            · rfl
        rw [if_neg c2] at z ⊢
        by_cases c3 : y.k = 3
        · rw [if_pos c3] at z; simp at z
        · rw [if_neg c3]
      rw [if_pos (by rw [bne_iff_ne]; exact z), wsucc (by omega)]
      exact ih lf (k + 1) h1 _ (by omega) (by omega) (fr1.le (by omega)) (by rw [hst, hsame]; exact hv1)

abbrev ActSh3 : Sh := .st [.int .i64, .int .i64, .int .i64]
theorem acts3_of {h : AHeap} {nx : Nat} : ∀ {cells : List (List AV)}, (∀ c ∈ cells, Ty h nx ActSh3 c) → ∃ l : List Act3, cells = l.map Act3.row
  | [], _ => ⟨[], rfl⟩
  | c :: cells, w => by
    obtain ⟨l, hl⟩ := acts3_of (fun x hx => w x (List.mem_cons_of_mem _ hx))
    have t := w c List.mem_cons_self
    simp only [Ty, TyL] at t
    obtain ⟨ps, rfl, p1, r1, rfl, ⟨a, rfl, _⟩, p2, r2, rfl, ⟨b, rfl, _⟩, p3, r3, rfl, ⟨d, rfl, _⟩, rfl⟩ := t
    exact ⟨⟨a, b, d⟩ :: l, by rw [hl]; rfl⟩

theorem TakeApart_run (h : AHeap) (nx : Nat) (a : Option (Nat × Nat)) (cells : List (List AV)) (hB : cells.length * 24 ≤ 140737488351232) (ht : ∀ c ∈ cells, Ty h nx ActSh3 c) (sl : Sl h nx a cells.length ActSh3.n cells.flatten) (x : Int) (_hx : (Lit.int .i64 x).wf = true) :
    ∃ f h' nx', callP Try.prog keepT f Y0 3 [.slice a cells.length false, .int .i64 x] h nx = some (.bool true, h', nx') := by
  obtain ⟨l, rfl⟩ := acts3_of ht
  rw [List.length_map] at hB sl ⊢
  refine ⟨6001, ?_⟩
  obtain ⟨P1, P2⟩ := pickL_in (x := x) (n := 100) (by omega)
  rw [F3_eq, picked_spec (f := 6000) (by omega) Y0 x 100 (by omega) (by omega)]
  simp only [bind_some', asI_int, asB_bool, asStr_str, asP_ptr, asSl_sl, asAgg_1, asAgg_2, asAgg_3, asAgg_4, asTup_0, asTup_2, asTup_3, asTup_4, if_true', if_false', if_not_true', if_not_false', getD_0, getD_1, getD_2, getD_3]
  obtain ⟨N, hN⟩ : ∃ N : Nat, 1 + pickL x 100 = (N : Int) := ⟨(1 + pickL x 100).toNat, by omega⟩
  rw [show wrapA .i64 (1 + pickL x 100) = (N : Int) by rw [wA (by omega) (by omega)]; exact hN]
  have hN1 : 1 ≤ N ∧ N ≤ 100 := by omega
  clear hN P1 P2
  have x1 : Ext h nx h (nx + 5 + pickK x 100 + 12) := ⟨by omega, fun _ _ => rfl⟩
  obtain ⟨ds, a1, c1, a2, c2, a3, c3, h1, n1, g1, g2, g3, g4, g5, g6, g7⟩ := deeds_spec (f := 6000) (N := N) (by omega) (by omega) (by omega) Y0 (m := 60) (by omega) false (sl.ext x1) (by omega)
  change callP Try.prog keepT 6000 Y0 16 [.slice a l.length false, .int .i64 60, .int .i64 (N : Int)] h _ = _ at g1
  rw [g1]
  simp only [bind_some', asI_int, asB_bool, asStr_str, asP_ptr, asSl_sl, asAgg_1, asAgg_2, asAgg_3, asAgg_4, asTup_0, asTup_2, asTup_3, asTup_4, if_true', if_false', if_not_true', if_not_false', getD_0, getD_1, getD_2, getD_3]
  rw [if_pos (by simp; omega), Int.toNat_natCast]
  have x2 : Ext h1 n1 (h1.put (n1 + 3) (some ⟨madeA [.int .i64 0] (N * 1), 1, true⟩)) (n1 + 6) := ⟨by omega, fun i hi => put_ne (by omega)⟩
  have e2 : (h1.put (n1 + 3) (some ⟨madeA [.int .i64 0] (N * 1), 1, true⟩)) (n1 + 3) = some ⟨ints .i64 ((stP (freshS N) (ds.take 0)).u.map phi), 1, true⟩ := by rw [put_same]; simp [madeA, ints, stP, freshS, phi]
  generalize h1.put (n1 + 3) (some ⟨madeA [.int .i64 0] (N * 1), 1, true⟩) = h2 at *
  have w : TFix h2 (n1 + 6) (n1 + 3) a1 a2 ds (runP (freshS N) ds) := ⟨g3.go (x2.fr none') (fun _ _ q => q) (fun i hi q => by omega) (fun _ _ q => q), g4.go (x2.fr none') (fun _ _ q => q) (fun i hi q => by omega) (fun _ _ q => q), by omega, by omega, runP_len _ _⟩
  exact apart_loop (f := 6000) (by omega) (by omega) w (by omega) g7 ds.length 6000 0 h2 (n1 + 6) (by omega) (by omega) (Frm.refl _ _ _) e2

end Go.Proofs.Ytbekpkapkaifiaa.T
