import Derived.Test.YtdfopcgfhjijgaaRC
import Derived.Test.YtdfopcgfhjijgaaRD
set_option linter.unusedVariables false
set_option linter.unusedSimpArgs false
namespace Go.Proofs.Ytdfopcgfhjijgaa.T
open Go Go.RowKit Go.Proofs

theorem cnt_four {g : Nat → Bool} (n : Nat) : ∀ m, m ≤ n → (∀ j, j < m → g j = true) → m ≤ cnt g n
  | 0, _, _ => by omega
  | m + 1, h, k => by
    induction n with
    | zero => omega
    | succ n ih =>
      rw [cnt_succ]
      by_cases e : m + 1 ≤ n
      · have := ih e; omega
      · obtain rfl : m = n := by omega
        have := cnt_four m m (Nat.le_refl _) fun j hj => k j (by omega)
        rw [if_pos (k m (by omega))]; omega

theorem RebuildMany_run (h : AHeap) (nx : Nat) (l1 : List Int) (g1 : l1.length * 1 ≤ 140737488351232) (w1 : ∀ n ∈ l1, (Lit.int .u8 n).wf = true) (a1 : Option (Nat × Nat)) (sl1 : Sl h nx a1 l1.length 1 (l1.map (AV.int .u8)))
    (x1 : Int) (_ : (Lit.int .i64 x1).wf = true) (x2 : Int) (_ : (Lit.int .i64 x2).wf = true)
    (l3 : List Int) (g3 : l3.length * 8 ≤ 140737488351232) (_ : ∀ n ∈ l3, (Lit.int .i64 n).wf = true) (a3 : Option (Nat × Nat)) (sl3 : Sl h nx a3 l3.length 1 (l3.map (AV.int .i64))) :
    ∃ f h' nx', callP Try.prog keepT f Y0 14 [.slice a1 l1.length false, .int .i64 x1, .int .i64 x2, .slice a3 l3.length false] h nx = some (.bool true, h', nx') := by
  obtain ⟨k, hk⟩ : ∃ k, k = 20000 + l3.length := ⟨_, rfl⟩
  refine ⟨k + 1, ?_⟩
  obtain ⟨b1, rfl, s1, z1⟩ := ofB w1
  rw [nints_len] at sl1 g1 ⊢
  have sl1 : Sl h nx a1 b1.length 1 (ints .u8 (nints b1)) := sl1
  clear w1 z1
  have p0 := Int.emod_nonneg x1 (show (10 : Int) ≠ 0 by omega)
  have p1 := Int.emod_lt_of_pos x1 (show (0 : Int) < 10 by omega)
  have q0 := Int.emod_nonneg x2 (show (3 : Int) ≠ 0 by omega)
  have q1 := Int.emod_lt_of_pos x2 (show (0 : Int) < 3 by omega)
  obtain ⟨n, hn⟩ : ∃ n : Nat, 3 + x1 % 10 = (n : Int) := ⟨(3 + x1 % 10).toNat, by omega⟩
  obtain ⟨p, hp⟩ : ∃ p : Nat, 1 + x2 % 3 = (p : Int) := ⟨(1 + x2 % 3).toNat, by omega⟩
  have hn1 : 3 ≤ n ∧ n ≤ 12 := by omega
  have hp1 : 1 ≤ p ∧ p ≤ 3 := by omega
  obtain ⟨m1, e1, y1⟩ := picked_spec (k := k) (by omega) x1 10 h (nx + 5) (by omega) (by omega)
  obtain ⟨m2, e2, y2⟩ := picked_spec (k := k) (by omega) x2 3 h (m1 + 4) (by omega) (by omega)
  have xa : Ext h nx h (m2 + 4) := ⟨by omega, fun _ _ => rfl⟩
  obtain ⟨oX, cX, h3, n3, e3, mX, x3'⟩ := cols_spec (f := k) (by omega) (l := b1) (by omega) (show 1 ≤ n by omega) (by omega) false (sl1.ext xa)
  have x3h : Ext h nx h3 n3 := xa.trans x3'
  have hsn : n * min (b1.length / n) 64 ≤ b1.length := Nat.le_trans (Nat.mul_le_mul_left _ (Nat.min_le_left _ _)) (Nat.mul_div_le _ _)
  have hs64 : min (b1.length / n) 64 ≤ 64 := Nat.min_le_right _ _
  generalize hs : min (b1.length / n) 64 = s at *
  have rX : ∀ r ∈ cols b1 s n, r.length = s := cols_rows (by omega)
  have sX : SmallM (cols b1 s n) := cols_small s1 _ _
  have lX := cols_len b1 s n
  generalize cols b1 s n = X at *
  have y3 := x3h.1
  obtain ⟨oS, cS, h4, n4, e4, mS, x4⟩ := encode_spec (f := k) (by omega) (M := X) (w := s) (by omega) (by omega) (by omega) sX cX (h := h3) (nx := n3 + 8) (a := oX) (mX.mat.ext ⟨by omega, fun _ _ => rfl⟩) p (by omega) (by omega)
  rw [lX] at e4
  have y4 := x4.1
  have mX4 : Mat h4 (n4 + 8) .u8 oX X s := mX.mat.ext ⟨by omega, fun j hj => x4.2 j (by omega)⟩
  have mS4 : Mat h4 (n4 + 8) .u8 oS (encs X s p) s := mS.mat.ext ⟨by omega, fun _ _ => rfl⟩
  rw [F14_eq, e1]
  simp only [bind_some', asI_int, asB_bool, asStr_str, asP_ptr, asSl_sl, asAgg_1, asAgg_2, asAgg_3, asAgg_4, asTup_0, asTup_2, asTup_3, asTup_4, if_true', if_false', if_not_true', if_not_false', getD_0, getD_1, getD_2, getD_3]
  rw [e2]
  simp only [bind_some', asI_int, asB_bool, asStr_str, asP_ptr, asSl_sl, asAgg_1, asAgg_2, asAgg_3, asAgg_4, asTup_0, asTup_2, asTup_3, asTup_4, if_true', if_false', if_not_true', if_not_false', getD_0, getD_1, getD_2, getD_3]
  rw [show wrapA .i64 (3 + x1 % 10) = (n : Int) from by rw [wA (by omega) (by omega), hn], show wrapA .i64 (1 + x2 % 3) = (p : Int) from by rw [wA (by omega) (by omega), hp], e3]
  simp only [bind_some', asI_int, asB_bool, asStr_str, asP_ptr, asSl_sl, asAgg_1, asAgg_2, asAgg_3, asAgg_4, asTup_0, asTup_2, asTup_3, asTup_4, if_true', if_false', if_not_true', if_not_false', getD_0, getD_1, getD_2, getD_3]
  rw [e4]
  simp only [bind_some', asI_int, asB_bool, asStr_str, asP_ptr, asSl_sl, asAgg_1, asAgg_2, asAgg_3, asAgg_4, asTup_0, asTup_2, asTup_3, asTup_4, if_true', if_false', if_not_true', if_not_false', getD_0, getD_1, getD_2, getD_3]
  rw [if_neg (by decide), if_neg (by simp), F14_J1_eq]
  clear e1 e2 e3 e4
  obtain ⟨q1', E2, q4, E5, j1, j2, j3, j4, j5, mA, xA⟩ := mat_join (id1 := n4 + 8 + 1) (id2 := n4 + 8 + 3) mX4 mS4 lX (encs_len X s p) (by omega) (by omega) (by omega) (by omega)
  rw [j1, some_bind, j2, some_bind]
  dsimp only
  rw [j3, some_bind, j4, some_bind]
  generalize (h4.puts E2.sets).puts E5.sets = H at mA xA ⊢
  rw [j5]
  have yA := xA.1
  obtain ⟨N, hN⟩ : ∃ N, N = n + p := ⟨_, rfl⟩
  rw [← hN]
  have xH : Ext h nx H (n4 + 8 + 3 + 1) := ⟨by omega, fun j hj => by rw [xA.2 j (by omega), x4.2 j (by omega), x3h.2 j hj]⟩
  have sl3' : Sl h nx a3 l3.length 1 (ints .i64 l3) := sl3
  -- the numbers that are added
  obtain ⟨rd, c6⟩ := (sl3'.ext xH).src'
  obtain ⟨E8, f1, f2, f3, f4⟩ := copyOf (h := H) (nx := n4 + 8 + 3 + 1) (n := l3.length) (es := 1) (vs := ints .i64 l3) (bytes := 8) (id := n4 + 8 + 6) (rd := rd) (by simp) (growOk_big (by omega) (by omega) (by omega)) (by omega)
  rw [c6, some_bind, f1, some_bind, f2]
  generalize H.puts E8.sets = H8 at f3 f4 ⊢
  have f3' : OwnSl (H8.put (n4 + 8 + 7) (some ⟨[.int .i64 0, .int .i64 1, .int .i64 2, .int .i64 3, .int .i64 4], 1, true⟩)) (n4 + 8 + 3 + 1) (n4 + 8 + 8) E8.a l3.length 1 (ints .i64 l3) := f3.put (by omega) (by omega)
  obtain ⟨E12, k1, k2, k3, k4, _⟩ := f3'.appendS E8.c (bytes := 8) (id := n4 + 8 + 8) (k := 5) (ws := [.int .i64 0, .int .i64 1, .int .i64 2, .int .i64 3, .int .i64 4]) (rd := [n4 + 8 + 7]) rfl (growOk_big (by omega) (by omega) (by omega)) (by omega) (by omega)
  have src5 : srcS (H8.put (n4 + 8 + 7) (some ⟨[.int .i64 0, .int .i64 1, .int .i64 2, .int .i64 3, .int .i64 4], 1, true⟩)) (some (n4 + 8 + 7, 0)) 5 1 = some (5, [.int .i64 0, .int .i64 1, .int .i64 2, .int .i64 3, .int .i64 4], [n4 + 8 + 7]) := by simp [srcS]
  rw [src5, some_bind, k1, some_bind, k2]
  have x8 : Ext H (n4 + 8 + 3 + 1) ((H8.put (n4 + 8 + 7) (some ⟨[.int .i64 0, .int .i64 1, .int .i64 2, .int .i64 3, .int .i64 4], 1, true⟩)).puts E12.sets) (n4 + 8 + 8 + 1) := ⟨by omega, fun j hj => by rw [k4.2 j hj, put_ne (by omega), f4.2 j hj]⟩
  generalize (H8.put (n4 + 8 + 7) (some ⟨[.int .i64 0, .int .i64 1, .int .i64 2, .int .i64 3, .int .i64 4], 1, true⟩)).puts E12.sets = H12 at k3 k4 x8 ⊢
  have s12 : Sl H12 (n4 + 8 + 15) E12.a (l3 ++ [0, 1, 2, 3, 4]).length 1 (ints .i64 (l3 ++ [0, 1, 2, 3, 4])) := by
    have := (k3.sl.ext (nx' := n4 + 8 + 15) (h' := H12) ⟨by omega, fun _ _ => rfl⟩)
    simpa using this
  obtain ⟨g, oL, cL, h5, n5, e5, x5, o5, c5, d5⟩ := sev_spec (f := k) (l := l3 ++ [0, 1, 2, 3, 4]) (by simp; omega) (by simp; omega) E12.c (most := p + 1) (n := N) (by omega) (by omega) (by omega) s12
  rw [show (l3 ++ [(0 : Int), 1, 2, 3, 4]).length = l3.length + 5 from by simp] at e5
  have y5 := x5.1
  have hct : cnt g N = p + 1 := by
    rcases d5 with z | z
    · exact z
    · have : min N 5 ≤ cnt g N := cnt_four N _ (by omega) fun j hj => by
        have hz := z (l3.length + j) (by rw [List.length_append]; simp only [List.length_cons, List.length_nil]; omega)
        rw [List.getElem_append_right (by omega)] at hz
        have : ([(0 : Int), 1, 2, 3, 4][l3.length + j - l3.length]'(by simp; omega)) = (j : Int) := by
          have hj5 : j < 5 := by omega
          have e : l3.length + j - l3.length = j := by omega
          simp only [e]
          match j, hj5 with
          | 0, _ => rfl
          | 1, _ => rfl
          | 2, _ => rfl
          | 3, _ => rfl
          | 4, _ => rfl
        rw [this, Int.emod_eq_of_lt (by omega) (by omega), Int.toNat_natCast] at hz
        exact hz
      omega
  rw [show wrapA .i64 ((p : Int) + 1) = ((p + 1 : Nat) : Int) from wsucc (by omega), e5]
  simp only [bind_some', asI_int, asB_bool, asStr_str, asP_ptr, asSl_sl, asAgg_1, asAgg_2, asAgg_3, asAgg_4, asTup_0, asTup_2, asTup_3, asTup_4, if_true', if_false', if_not_true', if_not_false', getD_0, getD_1, getD_2, getD_3]
  have lA : (X ++ encs X s p).length = N := by rw [List.length_append, lX, encs_len]; omega
  have mA5 : Mat h5 (n5 + 9) .u8 E5.a (X ++ encs X s p) s := mA.ext ⟨by omega, fun j hj => by rw [x5.2 j (by omega), x8.2 j hj]⟩
  have T5 : Torn h5 (n5 + 9) E5.a N g s (colD X n s) := by
    obtain ⟨P0, sP, kP⟩ := Torn.of mA5 lA g
    refine ⟨P0, sP, fun j hj hg => ?_⟩
    obtain ⟨z1, z2, z3⟩ := kP j hj hg
    dsimp only at z2 z3
    rw [all_colD lX (by omega)] at z2 z3
    exact ⟨z1, z2, z3⟩
  obtain ⟨h6, n6, e6⟩ := (rebuild_spec (f := k) (by omega) lX (by omega) hn1.2 hp1.1 hp1.2 hN rX sX (by omega) hct E5.c cL T5 ((NRow.sl o5 hct).ext (nx' := n5 + 9) ⟨by omega, fun _ _ => rfl⟩)).2 (by omega)
  rw [hct, e6]
  simp only [bind_some', asI_int, asB_bool, asStr_str, asP_ptr, asSl_sl, asAgg_1, asAgg_2, asAgg_3, asAgg_4, asTup_0, asTup_2, asTup_3, asTup_4, if_true', if_false', if_not_true', if_not_false', getD_0, getD_1, getD_2, getD_3]
  rw [if_pos (by simp), if_pos (by simp)]
  exact ⟨_, _, rfl⟩

end Go.Proofs.Ytdfopcgfhjijgaa.T
