import Derived.Test.YtalfcokiooaliaaG13
set_option linter.unusedVariables false
set_option linter.unusedSimpArgs false
namespace Go.Proofs.Ytalfcokiooaliaa.T
open Go Go.RowKit Go.Proofs

theorem app4 {l3 : List Int} (j : Nat) (hj : j < 4) : ((l3 ++ [(0 : Int), 1, 2, 3])[l3.length + j]'(by simp; omega)) = (j : Int) := by
  rw [List.getElem_append_right (by omega)]
  have e : l3.length + j - l3.length = j := by omega
  simp only [e]
  match j, hj with
  | 0, _ => rfl
  | 1, _ => rfl
  | 2, _ => rfl
  | 3, _ => rfl
theorem cnt_firsts {g : Nat → Bool} (n : Nat) : ∀ m, m ≤ n → (∀ j, j < m → g j = true) → m ≤ cnt g n
  | 0, _, _ => by omega
  | m + 1, h, k => by
    induction n with
    | zero => omega
    | succ n ih =>
      rw [cnt_succ]
      by_cases e : m + 1 ≤ n
      · have := ih e; omega
      · obtain rfl : m = n := by omega
        have := cnt_firsts m m (Nat.le_refl _) fun j hj => k j (by omega)
        rw [if_pos (k m (by omega))]; omega

theorem GatherMany_run (h : AHeap) (nx : Nat) (x0 : Int) (_ : (Lit.int .i64 x0).wf = true) (x1 : Int) (_ : (Lit.int .i64 x1).wf = true) (x2 : Int) (_ : (Lit.int .i64 x2).wf = true)
    (l3 : List Int) (g3 : l3.length * 1 ≤ 140737488351232) (w3 : ∀ n ∈ l3, (Lit.int .u8 n).wf = true) (a3 : Option (Nat × Nat)) (sl3 : Sl h nx a3 l3.length 1 (l3.map (AV.int .u8)))
    (l4 : List Int) (g4 : l4.length * 8 ≤ 140737488351232) (_ : ∀ n ∈ l4, (Lit.int .i64 n).wf = true) (a4 : Option (Nat × Nat)) (sl4 : Sl h nx a4 l4.length 1 (l4.map (AV.int .i64))) :
    ∃ f h' nx', callP Try.prog keepT f Y0 6 [.int .i64 x0, .int .i64 x1, .int .i64 x2, .slice a3 l3.length false, .slice a4 l4.length false] h nx = some (.bool true, h', nx') := by
  obtain ⟨k, hk⟩ : ∃ k, k = 20000 + l4.length := ⟨_, rfl⟩
  refine ⟨k + 1, ?_⟩
  obtain ⟨b3, rfl, s3, z3⟩ := ofB w3
  rw [nints_len] at sl3 g3 ⊢
  have sl3 : Sl h nx a3 b3.length 1 (ints .u8 (nints b3)) := sl3
  clear w3 z3
  obtain ⟨dI, pI, n1, l1, hd, hd', hp, hp', hpd, e1⟩ := B.shape_spec (k := k) (by omega) x0 x1 h (nx + 9)
  obtain ⟨d, rfl⟩ : ∃ d : Nat, dI = (d : Int) := ⟨dI.toNat, by omega⟩
  obtain ⟨p, rfl⟩ : ∃ p : Nat, pI = (p : Int) := ⟨pI.toNat, by omega⟩
  obtain ⟨n2, e2, l2⟩ := picked_spec (k := k) (by omega) x2 60000 h (n1 + 3) (by omega) (by omega)
  have q0 := Int.emod_nonneg x2 (show (60000 : Int) ≠ 0 by omega)
  have q1 := Int.emod_lt_of_pos x2 (show (0 : Int) < 60000 by omega)
  obtain ⟨a, hae⟩ : ∃ a : Nat, x2 % 60000 = (a : Int) := ⟨(x2 % 60000).toNat, by omega⟩
  rw [hae] at e2 q0 q1
  have xa0 : Ext h nx h (n2 + 3) := ⟨by omega, fun _ _ => rfl⟩
  obtain ⟨D, oB, cB, hB, nB, sD', D1, D2, eB, xB, slB⟩ := Block_spec (f := k) (by omega) s3 (by omega) false (sl3.ext xa0)
  have yB := xB.1
  obtain ⟨m, hm⟩ : ∃ m, D.length = m := ⟨_, rfl⟩
  rw [hm] at D1 D2 eB slB
  obtain ⟨n, hn⟩ : ∃ n, n = (m + 127) / 128 := ⟨_, rfl⟩
  have g := geo d p n (by omega) (by omega) (by omega) (by omega) (by omega) (by omega) (by omega)
  have gp := g.pN
  have g8 := g.N8
  obtain ⟨P, xa, xc, hL, nL, eL, xL, oL, cL, aL, lL⟩ := laid_spec (f := k) (by omega) (d := d) (p := p) (a := a) (m := m) (n := n) (by omega) (by omega) (by omega) (by omega) (by omega) (by omega) D1 (by omega) hn hm sD' cB (slB.ext (nx' := nB + 13) ⟨by omega, fun _ _ => rfl⟩)
  have yL := xL.1
  obtain ⟨pid, hxa, pl, pb⟩ := PRow.blk oL (by omega)
  have pid0 := lL pid ⟨0, hxa⟩
  subst hxa
  rw [F6_eq, e1]
  simp only [bind_some', asI_int, asB_bool, asStr_str, asP_ptr, asSl_sl, asAgg_1, asAgg_2, asAgg_3, asAgg_4, asTup_0, asTup_2, asTup_3, asTup_4, if_true', if_false', if_not_true', if_not_false', getD_0, getD_1, getD_2, getD_3]
  rw [e2]
  simp only [bind_some', asI_int, asB_bool, asStr_str, asP_ptr, asSl_sl, asAgg_1, asAgg_2, asAgg_3, asAgg_4, asTup_0, asTup_2, asTup_3, asTup_4, if_true', if_false', if_not_true', if_not_false', getD_0, getD_1, getD_2, getD_3]
  rw [eB]
  simp only [bind_some', asI_int, asB_bool, asStr_str, asP_ptr, asSl_sl, asAgg_1, asAgg_2, asAgg_3, asAgg_4, asTup_0, asTup_2, asTup_3, asTup_4, if_true', if_false', if_not_true', if_not_false', getD_0, getD_1, getD_2, getD_3]
  rw [eL]
  simp only [bind_some', asI_int, asB_bool, asStr_str, asP_ptr, asSl_sl, asAgg_1, asAgg_2, asAgg_3, asAgg_4, asTup_0, asTup_2, asTup_3, asTup_4, if_true', if_false', if_not_true', if_not_false', getD_0, getD_1, getD_2, getD_3]
  rw [st_all (put_same _ _ _) (by simp) (by simp) (by simp [allOne, AV.one])]
  obtain ⟨S, hS⟩ : ∃ S, S = [AV.int .i64 (sA (padW (n * 128) D)), AV.int .i64 (sB (padW (n * 128) D)), AV.int .i64 (sC (padW (n * 128) D)), AV.int .i64 (sD (padW (n * 128) D))] := ⟨_, rfl⟩
  rw [← hS]
  obtain ⟨H, hH⟩ : ∃ H, H = AHeap.put (AHeap.put hL (nB + 9) (some ⟨[.int .i64 0, .int .i64 0, .int .i64 0, .int .i64 0], 4, true⟩)) (nB + 9) (some ⟨S, 4, true⟩) := ⟨_, rfl⟩
  rw [← hH]
  have pH : ∀ j, j ≠ nB + 9 → H j = hL j := fun j hj => by rw [hH, put_ne hj, put_ne hj]
  have bS : H (nB + 9) = some ⟨S, 4, true⟩ := by rw [hH, put_same]
  have bP : H pid = some ⟨(prows P (fun _ => false) (colN d p n)).flatten, 2, true⟩ := by rw [pH pid (by omega), pb]
  have xH : Ext h nx H (nL + 3) := ⟨by omega, fun j hj => by rw [pH j (by omega), xL.2 j (by omega), xB.2 j (by omega)]⟩
  have sl4' : Sl h nx a4 l4.length 1 (ints .i64 l4) := sl4
  obtain ⟨rd, c6⟩ := (sl4'.ext xH).src'
  obtain ⟨E8, f1, f2, f3, f4⟩ := copyOf (h := H) (nx := nL + 3) (n := l4.length) (es := 1) (vs := ints .i64 l4) (bytes := 8) (id := nL + 3) (rd := rd) (by simp) (growOk_big (by omega) (by omega) (by omega)) (by omega)
  rw [c6, some_bind, f1, some_bind, f2]
  generalize H.puts E8.sets = H8 at f3 f4 ⊢
  have f3' : OwnSl (H8.put (nL + 4) (some ⟨[.int .i64 0, .int .i64 1, .int .i64 2, .int .i64 3], 1, true⟩)) (nL + 3) (nL + 5) E8.a l4.length 1 (ints .i64 l4) := f3.put (by omega) (by omega)
  obtain ⟨E12, k1, k2, k3, k4, _⟩ := f3'.appendS E8.c (bytes := 8) (id := nL + 5) (k := 4) (ws := [.int .i64 0, .int .i64 1, .int .i64 2, .int .i64 3]) (rd := [nL + 4]) rfl (growOk_big (by omega) (by omega) (by omega)) (by omega) (by omega)
  have src4 : srcS (H8.put (nL + 4) (some ⟨[.int .i64 0, .int .i64 1, .int .i64 2, .int .i64 3], 1, true⟩)) (some (nL + 4, 0)) 4 1 = some (4, [.int .i64 0, .int .i64 1, .int .i64 2, .int .i64 3], [nL + 4]) := by simp [srcS]
  rw [src4, some_bind, k1, some_bind, k2]
  have x12 : Ext H (nL + 3) ((H8.put (nL + 4) (some ⟨[.int .i64 0, .int .i64 1, .int .i64 2, .int .i64 3], 1, true⟩)).puts E12.sets) (nL + 12) := ⟨by omega, fun j hj => by rw [k4.2 j hj, put_ne (by omega), f4.2 j hj]⟩
  generalize (H8.put (nL + 4) (some ⟨[.int .i64 0, .int .i64 1, .int .i64 2, .int .i64 3], 1, true⟩)).puts E12.sets = H12 at k3 k4 x12 ⊢
  have s12 : Sl H12 (nL + 12) E12.a (l4 ++ [0, 1, 2, 3]).length 1 (ints .i64 (l4 ++ [0, 1, 2, 3])) := by
    have := (k3.sl.ext (nx' := nL + 12) (h' := H12) ⟨by omega, fun _ _ => rfl⟩)
    simpa using this
  obtain ⟨N, hN⟩ : ∃ N, colN d p n = N := ⟨_, rfl⟩
  rw [hN] at gp g8
  obtain ⟨gg, oG, cG, h5, n5, e5, x5, o5, c5, d5, lo5⟩ := sev_spec2 (f := k) (l := l4 ++ [0, 1, 2, 3]) (by simp; omega) (by simp; omega) E12.c (most := p + 1) (n := N) (by omega) (by omega) (by omega) s12
  rw [show (l4 ++ [(0 : Int), 1, 2, 3]).length = l4.length + 4 from by simp] at e5
  have y5 := x5.1
  have hct : cnt gg N = p + 1 := by
    rcases d5 with z | z
    · exact z
    · have : min N 4 ≤ cnt gg N := cnt_firsts N _ (by omega) fun j hj => by
        have hz := z (l4.length + j) (by rw [List.length_append]; simp only [List.length_cons, List.length_nil]; omega)
        rw [app4 j (by omega), Int.emod_eq_of_lt (by omega) (by omega), Int.toNat_natCast] at hz
        exact hz
      omega
  rw [hN, show wrapA .i64 ((p : Int) + 1) = ((p + 1 : Nat) : Int) from wsucc (by omega), e5]
  simp only [bind_some', asI_int, asB_bool, asStr_str, asP_ptr, asSl_sl, asAgg_1, asAgg_2, asAgg_3, asAgg_4, asTup_0, asTup_2, asTup_3, asTup_4, if_true', if_false', if_not_true', if_not_false', getD_0, getD_1, getD_2, getD_3]
  rw [hct]
  have bP5 : h5 pid = some ⟨(prows P (inL ((List.range N).filter gg) 0) N).flatten, 2, true⟩ := by
    rw [inL_zero, x5.2 pid (by omega), x12.2 pid (by omega), bP, hN]
  obtain ⟨f', h6, n6, e6, x6, b6⟩ := lose7_loop (callP Try.prog keepT k) k (N := N) (by omega) (ls := (List.range N).filter gg) hct (by omega) (fun i hi => List.mem_range.1 (List.mem_filter.1 hi).1) (P := P) (d : Int) (p : Int) (a : Int) oB m cB xc (some (nB + 9, 0)) cG (h0 := h5) (n0 := n5) ((NRow.sl o5 hct)) (by omega) (fun q hq _ => by have := lo5 q.1 ⟨q.2, by rw [hq]⟩; omega) (p + 1) k 0 h5 (n5 + 1) (by omega) (by omega) ⟨by omega, fun _ _ _ => rfl⟩ bP5
  rw [show ((0 : Nat) : Int) = 0 from rfl] at e6
  have y6 := x6.1
  have bS6 : h6 (nB + 9) = some ⟨S, 4, true⟩ := by rw [x6.2 _ (by omega) (by omega), x5.2 _ (by omega), x12.2 _ (by omega), bS]
  rw [e6, F6_L1_eq, if_neg (by simp)]
  simp only [bind_some', asI_int, asB_bool, asStr_str, asP_ptr, asSl_sl, asAgg_1, asAgg_2, asAgg_3, asAgg_4, asTup_0, asTup_2, asTup_3, asTup_4, if_true', if_false', if_not_true', if_not_false', getD_0, getD_1, getD_2, getD_3]
  rw [ldr_all bS6 (by rw [hS]; rfl), hS]
  simp only [bind_some', asI_int, asB_bool, asStr_str, asP_ptr, asSl_sl, asAgg_1, asAgg_2, asAgg_3, asAgg_4, asTup_0, asTup_2, asTup_3, asTup_4, if_true', if_false', if_not_true', if_not_false', getD_0, getD_1, getD_2, getD_3]
  have hlost : ∀ j, j < N → inL ((List.range N).filter gg) (p + 1) j = gg j := fun j hj => inL_all hj hct
  have hcl : cnt (inL ((List.range N).filter gg) (p + 1)) (colN d p n) = p + 1 := by rw [hN, cnt_congr N hlost, hct]
  obtain ⟨h7, n7, e7⟩ := gather_many (f := k) (by omega) (d := d) (p := p) (a := a) (m := m) (n := n) (by omega) (by omega) (by omega) (by omega) (by omega) (by omega) D1 (by omega) hn (P := P) (lost := inL ((List.range N).filter gg) (p + 1)) xc (s0 := sA (padW (n * 128) D)) (s1 := sB (padW (n * 128) D)) (s2 := sC (padW (n * 128) D)) (s3 := sD (padW (n * 128) D)) (h := h6) (nx := n6 + 19) (by rw [hN]; exact Sl.pcs b6 (by omega)) (fun j hj _ => (cL j hj).1) (by rw [hcl]; omega)
  rw [hN] at e7
  rw [e7]
  simp only [bind_some', asI_int, asB_bool, asStr_str, asP_ptr, asSl_sl, asAgg_1, asAgg_2, asAgg_3, asAgg_4, asTup_0, asTup_2, asTup_3, asTup_4, if_true', if_false', if_not_true', if_not_false', getD_0, getD_1, getD_2, getD_3]
  rw [show wrapA .i64 ((p : Int) + 1) = ((p + 1 : Nat) : Int) from wsucc (by omega), if_pos (by simp), if_pos (by simp), if_pos (by simp)]
  exact ⟨_, _, rfl⟩

end Go.Proofs.Ytalfcokiooaliaa.T
