/- Snaps: SnapBirths. -/
import Derived.Test.YtaikceooeahfeaaS14
set_option linter.unusedVariables false
set_option linter.unusedSimpArgs false
namespace Go.Proofs.Ytaikceooeahfeaa.T
open Go Go.RowKit Go.Proofs

theorem sortL_len (l : List Int) : (sortL l).length = l.length := List.length_mergeSort _

/-- The play at the end. -/
theorem births_end : ∃ g0 g1 g2 g3 : Int × List Int, playP pk0 [(1, 0), (3, 0), (2, 0), (4, 0)] = [g0, g1, g2, g3] ∧ g2.2.length = 0 ∧ g3.2.length = 1 := by
  refine ⟨_, _, _, _, rfl, rfl, ?_⟩
  show (sortL _).length = 1
  rw [sortL_len]
  decide

theorem births_loop {f lf : Nat} (hf : 1700 ≤ f) (hlf : 1100 ≤ lf) {h0 : AHeap} {nb : Nat} {ma ga : Option (Nat × Nat)} {mc gc : Option Nat} {ms : List (Int × Int)} {gs : List (Int × List Int)} (hN : ms.length ≤ 300) (hgl : gs.length = ms.length) (sm : Sl h0 nb ma ms.length 2 (ms.map mrow).flatten) (sg : Rows (fun g r => Gon h0 nb (fun _ => False) r g) h0 nb (fun _ => False) ga 2 gs) (d : Nat) :
    ∀ (n0 k : Nat) (h : AHeap) (nx : Nat) (K : PK) (born : List Int) (T : List (Int × Bool)) (x6a x7a x8a : Option (Nat × Nat)) (x6c x7c x8c : Option Nat), k + d = ms.length → d < n0 → K.now = k → gs.drop k = playP K (ms.drop k) → BI K born T → born.length ≤ k → T.length ≤ k → (∀ x ∈ K.blocks, 1 ≤ x.1) →
      Spr h nx x6a x6c 1 (born.map one1) → Spr h nx x7a x7c 1 ((T.map (·.1)).map one1) → Spr h nx x8a x8c 1 ((T.map (·.2)).map brw1) → (∀ j, ownOf x6a j → nb ≤ j ∧ ¬ ownOf x7a j ∧ ¬ ownOf x8a j) → (∀ j, ownOf x7a j → nb ≤ j ∧ ¬ ownOf x8a j) → (∀ j, ownOf x8a j → nb ≤ j) → Ext h0 nb h nx →
      ∃ h' nx', F5_L1 (callP Try.prog keepT f) Y0 lf n0 ma ms.length mc ga gs.length gc x6a born.length x6c x7a T.length x7c x8a T.length x8c (k : Int) h nx = some (.bool true, h', nx') := by
  induction d with
  | zero =>
    intro n0 k h nx K born T x6a x7a x8a x6c x7c x8c e hl hnow hG w hbl hTl hB s6 s7 s8 o6 o7 o8 x
    obtain ⟨n0, rfl⟩ : ∃ m, n0 = m + 1 := ⟨n0 - 1, by omega⟩
    rw [F5_L1_eq, if_neg (by rw [decide_eq_true_eq]; omega)]
    have sl : Sl (h.put (nx + 8) (some ⟨[.int .i64 1, .int .i64 0, .int .i64 3, .int .i64 0, .int .i64 2, .int .i64 0, .int .i64 4, .int .i64 0], 2, true⟩)) (nx + 15) (some (nx + 8, 0)) ([(1, 0), (3, 0), (2, 0), (4, 0)] : List (Int × Int)).length 2 (([(1, 0), (3, 0), (2, 0), (4, 0)] : List (Int × Int)).map mrow).flatten :=
      ⟨rfl, fun j _ => ⟨(nx + 8, 0), _, rfl, by simp only; omega, put_same _ _ _, rfl, (by show 0 + 4 * 2 ≤ 8; decide), fun q _ => by rw [Nat.zero_add]; rfl⟩⟩
    obtain ⟨oa, oc, h', nx', r1, r2, r3, r4⟩ := snapped_spec (f := f) hf (some 4) (by decide) sl
    have r1' : callP Try.prog keepT f Y0 7 [.slice (some (nx + 8, 0)) 4 (some 4)] (h.put (nx + 8) (some ⟨[.int .i64 1, .int .i64 0, .int .i64 3, .int .i64 0, .int .i64 2, .int .i64 0, .int .i64 4, .int .i64 0], 2, true⟩)) (nx + 15) = some (.tuple [.slice oa 4 oc, .bool true], h', nx') := r1
    dsimp only
    rw [r1']
    simp only [mst_]
    obtain ⟨g0, g1, g2, g3, pe, l2, l3⟩ := births_end
    rw [pe] at r2
    have rg : Rows (fun g r => Gon h' nx' (fun _ => False) r g) h' nx' (fun _ => False) oa 2 [g0, g1, g2, g3] := (r2.rows (A := fun _ => False) (fun _ _ q => q)).go (D := fun _ => False) (Frm.refl _ _ _) (fun _ _ q => q) (fun _ _ q => q) fun g r q => q.go (D := fun _ => False) (Frm.refl _ _ _) (fun _ _ q => q.elim) fun _ _ q => q.elim
    obtain ⟨a2, c2, _, _, q2⟩ := gs_read (R := Res) rg (k := 2) (g := g2) rfl
    obtain ⟨a3, c3, _, _, q3⟩ := gs_read (R := Res) rg (k := 3) (g := g3) rfl
    rw [if_pos trivial]
    have q2' := q2
    have q3' := q3
    simp only [List.length_cons, List.length_nil] at q2' q3'
    refine ⟨h', nx' + 18, ?_⟩
    refine (q2' _).trans ?_
    simp only [mst_]
    rw [if_pos (by rw [l2]; rfl)]
    refine (q3' _).trans ?_
    simp only [mst_]
    rw [l3]; rfl
  | succ d ih =>
    intro n0 k h nx K born T x6a x7a x8a x6c x7c x8c e hl hnow hG w hbl hTl hB s6 s7 s8 o6 o7 o8 x
    obtain ⟨n0, rfl⟩ : ∃ m, n0 = m + 1 := ⟨n0 - 1, by omega⟩
    have hk : k < ms.length := by omega
    have hm : ms[k]? = some ms[k] := List.getElem?_eq_getElem hk
    rw [List.drop_eq_getElem_cons hk, playP] at hG
    have hg : gs[k]? = some (stepP K ms[k]).2 := by
      have := congrArg (fun l => l[0]?) hG
      simp only [List.getElem?_drop, Nat.add_zero, List.getElem?_cons_zero] at this
      exact this
    have hG' : gs.drop (k + 1) = playP (stepP K ms[k]).1 (ms.drop (k + 1)) := by
      have := congrArg (List.drop 1) hG
      simpa [List.drop_drop] using this
    have smh : Sl h nx ma ms.length 2 (ms.map mrow).flatten := sm.ext x
    have sgh := gs_go (A' := fun _ => False) sg x fun _ _ q => q
    obtain ⟨m0, m1⟩ := ms_read (R := Res) smh hm
    obtain ⟨da, dc, dsl, g0, g1⟩ := gs_read (R := Res) sgh hg
    have hnow' : (stepP K ms[k]).1.now = ((k + 1 : Nat) : Int) := by rw [step_now, hnow]; omega
    have hway := step_ways K ms[k]
    generalize ms[k] = m at *
    generalize hS : stepP K m = S at *
    rw [F5_L1_eq, if_pos (decide_eq_true (by omega)), g0]
    simp only [mst_]
    rw [wsucc (i := k) (by omega)]
    -- nothing is turned
    have same : ∀ (N : Nat), nx ≤ N → Spr h N x6a x6c 1 (born.map one1) ∧ Spr h N x7a x7c 1 ((T.map (·.1)).map one1) ∧ Spr h N x8a x8c 1 ((T.map (·.2)).map brw1) := fun N hN =>
      have fr := (Frm.refl (fun _ => False) h nx).le hN
      ⟨s6.go fr fun _ _ q => q, s7.go fr fun _ _ q => q, s8.go fr fun _ _ q => q⟩
    cases hway with
    | no ec he =>
      rw [if_pos (by rw [bne_iff_ne]; exact he), g1]
      simp only [mst_]
      rw [if_neg (show ¬ decide ((([] : List Int).length : Int) > 0) = true by simp)]
      obtain ⟨t6, t7, t8⟩ := same (nx + 20) (by omega)
      exact ih n0 (k + 1) h (nx + 20) _ born T x6a x7a x8a x6c x7c x8c (by omega) (by omega) hnow' hG' w.tick (by omega) (by omega) hB t6 t7 t8 o6 o7 o8 (x.le (by omega))
    | born hm1 =>
      rw [if_neg (show ¬ ((0 : Int) != 0) = true by decide), m0]
      simp only [mst_]
      rw [if_pos (by rw [hm1]; rfl)]
      obtain ⟨e12, q1, q2, q3, q4, q5, _, _, q8⟩ := s6.push (bytes := 8) (id := nx + 19) (id2 := nx + 20) (r := one1 (k : Int)) rfl (growOk_of (by rw [List.length_map]; omega) (by omega)) (by omega) (by omega)
      rw [List.length_map] at q2 q3
      unfold one1 at q1 q2
      rw [q1]
      simp only [mst_]
      rw [q2]
      simp only [mst_]
      rw [show e12.n = (born ++ [(k : Int)]).length by rw [q3]; simp]
      have q4' := q4
      rw [show born.map one1 ++ [one1 (k : Int)] = (born ++ [(k : Int)]).map one1 by simp] at q4'
      have fr := (Frm.refl (fun _ => False) ((h.put (nx + 19) (some ⟨one1 (k : Int), 1, true⟩)).puts e12.sets) (nx + 20 + 1)).le (show nx + 20 + 1 ≤ nx + 25 by omega)
      have wb := w.birth
      rw [hnow] at wb
      rw [hnow] at hnow'
      refine ih n0 (k + 1) _ (nx + 25) _ (born ++ [(k : Int)]) T e12.a x7a x8a e12.c x7c x8c (by omega) (by omega) hnow' (by rw [hnow] at hG'; exact hG') wb (by simp; omega) (by omega) (fun y hy => ?_) (q4'.go fr fun _ _ q => q) ((s7.go q5 fun j hj q => (o6 j q).2.1 hj).go fr fun _ _ q => q) ((s8.go q5 fun j hj q => (o6 j q).2.2 hj).go fr fun _ _ q => q) (fun j hj => ?_) o7 o8 ⟨by have := x.1; omega, fun j hj => ?_⟩
      · rcases List.mem_append.1 hy with hy | hy
        · exact hB y hy
        · simp at hy; subst hy; show (1 : Int) ≤ (k : Int) + 1; omega
      · rcases q8 j hj with q | q
        · exact o6 j q
        · have := x.1
          exact ⟨by omega, fun z => by have := s7.lt j z; omega, fun z => by have := s8.lt j z; omega⟩
      · have := x.1
        exact (q5.2 j (by omega) (fun q => by have := (o6 j q).1; omega)).trans (x.2 j hj)
    | keep hm1 =>
      rw [if_neg (show ¬ ((0 : Int) != 0) = true by decide), m0]
      simp only [mst_]
      rw [if_neg (by rw [hm1]; decide), if_pos (by rw [hm1]; rfl)]
      obtain ⟨e16, q1, q2, q3, q4, q5, _, _, q8⟩ := s7.push (bytes := 8) (id := nx + 21) (id2 := nx + 22) (r := one1 (k : Int)) rfl (growOk_of (by rw [List.length_map, List.length_map]; omega) (by omega)) (by omega) (by omega)
      rw [List.length_map, List.length_map] at q2 q3
      unfold one1 at q1 q2
      rw [q1]
      simp only [mst_]
      rw [q2]
      simp only [mst_]
      have q5' := q5
      have q4' := q4
      have s8' := s8.go q5 fun j hj q => (o7 j q).2 hj
      have s6' := s6.go q5 fun j hj q => (o6 j hj).2.1 q
      unfold one1 at q5' q4' s8' s6'
      generalize (h.put (nx + 21) (some ⟨[.int .i64 (k : Int)], 1, true⟩)).puts e16.sets = h17 at *
      obtain ⟨e20, p1, p2, p3, p4, p5, _, _, p8⟩ := s8'.push (bytes := 1) (id := nx + 25) (id2 := nx + 26) (r := brw1 true) rfl (growOk_of (by rw [List.length_map, List.length_map]; omega) (by omega)) (by omega) (by omega)
      rw [List.length_map, List.length_map] at p2 p3
      unfold brw1 at p1 p2
      rw [p1]
      simp only [mst_]
      rw [p2]
      simp only [mst_]
      rw [show e16.n = (T ++ [((k : Int), true)]).length by rw [q3]; simp, show e20.n = (T ++ [((k : Int), true)]).length by rw [p3]; simp]
      have q4'' : Spr h17 (nx + 22 + 1) e16.a e16.c 1 (((T ++ [((k : Int), true)]).map (·.1)).map one1) := by
        rw [show ((T ++ [((k : Int), true)]).map (·.1)).map one1 = (T.map (·.1)).map one1 ++ [[.int .i64 (k : Int)]] by simp [one1]]
        exact q4'
      have p4' : Spr ((h17.put (nx + 25) (some ⟨brw1 true, 1, true⟩)).puts e20.sets) (nx + 26 + 1) e20.a e20.c 1 (((T ++ [((k : Int), true)]).map (·.2)).map brw1) := by
        rw [show ((T ++ [((k : Int), true)]).map (·.2)).map brw1 = (T.map (·.2)).map brw1 ++ [brw1 true] by simp]
        exact p4
      have own7 : ∀ j, ownOf e16.a j → (ownOf x7a j ∨ j = nx + 22) := q8
      have n7 : ∀ j, ownOf e16.a j → ¬ ownOf x8a j := fun j hj q => by
        rcases own7 j hj with z | z
        · exact (o7 j z).2 q
        · have := s8.lt j q; omega
      have fr := (Frm.refl (fun _ => False) ((h17.put (nx + 25) (some ⟨brw1 true, 1, true⟩)).puts e20.sets) (nx + 26 + 1)).le (show nx + 26 + 1 ≤ nx + 31 by omega)
      have wb := w.snap
      rw [show T ++ [(K.now, true)] = T ++ [((k : Int), true)] by rw [hnow]] at wb
      have p5l : Frm (ownOf x8a) h17 (nx + 22 + 1) ((h17.put (nx + 25) (some ⟨brw1 true, 1, true⟩)).puts e20.sets) (nx + 26 + 1) := p5
      have hx := x.1
      refine ih n0 (k + 1) _ (nx + 31) _ born (T ++ [((k : Int), true)]) x6a e16.a e20.a x6c e16.c e20.c (by omega) (by omega) hnow' hG' wb (by omega) (by simp; omega) hB ((s6'.go p5l fun j hj q => (o6 j hj).2.2 q).go fr fun _ _ q => q) ((q4''.go p5l fun j hj q => n7 j hj q).go fr fun _ _ q => q) (p4'.go fr fun _ _ q => q) (fun j hj => ?_) (fun j hj => ?_) (fun j hj => ?_) ⟨by omega, fun j hj => ?_⟩
      · have lt6 := s6.lt j hj
        refine ⟨(o6 j hj).1, fun q => ?_, fun q => ?_⟩
        · rcases own7 j q with z | z
          · exact (o6 j hj).2.1 z
          · omega
        · rcases p8 j q with z | z
          · exact (o6 j hj).2.2 z
          · omega
      · refine ⟨?_, fun q => ?_⟩
        · rcases own7 j hj with z | z
          · exact (o7 j z).1
          · omega
        · rcases p8 j q with z | z
          · exact n7 j hj z
          · rcases own7 j hj with y | y
            · have := s7.lt j y; omega
            · omega
      · rcases p8 j hj with z | z
        · exact o8 j z
        · omega
      · exact (p5l.2 j (by omega) (fun q => by have := o8 j q; omega)).trans ((q5'.2 j (by omega) (fun q => by have := (o7 j q).1; omega)).trans (x.2 j hj))
    | kill hm1 b hb at_ hkb hlast =>
      rw [if_neg (show ¬ ((0 : Int) != 0) = true by decide), m0]
      simp only [mst_]
      rw [if_neg (by rw [hm1]; decide), if_neg (by rw [hm1]; decide), if_neg (by rw [hm1]; decide), if_pos (by rw [hm1]; rfl), m1]
      simp only [mst_]
      have hbK : b < K.blocks.length := (List.getElem?_eq_some_iff.1 hkb).1
      have hbb : b < born.length := by rw [w.b, List.length_map]; exact hbK
      have hbv : born[b]? = some (at_ - 1) := by rw [w.b, List.getElem?_map, hkb]; rfl
      rw [if_neg (show ¬ decide (m.2 ≥ ((born.length : Nat) : Int)) = true by rw [decide_eq_true_eq]; omega)]
      have s6l := s6.sl
      have s7l := s7.sl
      have s8l := s8.sl
      rw [List.length_map] at s6l
      rw [List.length_map, List.length_map] at s7l s8l
      have cell : ((born.map one1).flatten)[b * 1]? = some (.int .i64 (at_ - 1)) := by rw [one1_flat, Nat.mul_one]; simp [ints, hbv]
      have w' := w.marked hkb false
      have hcmp : lastT T (-1) < at_ - 1 := by
        rw [w.last]
        have h1 := hB _ (List.mem_of_getElem? hkb)
        simp only at h1
        cases hl : K.shots.getLast? with
        | none => simp only; omega
        | some s => have := hlast s hl; simp only; omega
      refine births_last (P := fun r => ∃ h' nx', r = some (.bool true, h', nx')) (f := f) (lf := lf) (Y := Y0) (T := T) (by omega) (nb := nx) s7l s8l (fun n1 N hN => ?_) T.length lf 0 (-1) (nx + 33) (by omega) (by omega) rfl (by omega)
      rw [F5_L2_eq, if_neg (by simp), g1]
      simp only [mst_]
      rw [if_pos (by rfl), g1]
      simp only [mst_]
      rw [dsl.read0 (i := 0) (v := .int .i64 (b : Int)) (by omega) (by show (0 : Int) < ((1 : Nat) : Int); decide) (by omega) rfl]
      simp only [mst_]
      rw [m1]
      simp only [mst_]
      rw [m1]
      simp only [mst_]
      rw [hb, s6l.read0 (i := (b : Int)) (v := .int .i64 (at_ - 1)) (by omega) (by omega) (by omega) (by rw [Int.toNat_natCast]; exact cell)]
      simp only [mst_]
      rw [wsucc (i := k) (by omega), if_neg (by rw [decide_eq_true (show at_ - 1 > lastT T (-1) from hcmp)]; simp)]
      obtain ⟨t6, t7, t8⟩ := same (N + 40) (by omega)
      exact ih n0 (k + 1) h (N + 40) _ born T x6a x7a x8a x6c x7c x8c (by omega) (by omega) hnow' hG' w' (by omega) (by omega) (fun y hy => by
        rcases List.mem_or_eq_of_mem_set hy with hy | rfl
        · exact hB y hy
        · have := hB _ (List.mem_of_getElem? hkb); exact this) t6 t7 t8 o6 o7 o8 (x.le (by omega))
    | bury hm1 b hb at_ hkb s hs hlast =>
      rw [if_neg (show ¬ ((0 : Int) != 0) = true by decide), m0]
      simp only [mst_]
      rw [if_neg (by rw [hm1]; decide), if_neg (by rw [hm1]; decide), if_neg (by rw [hm1]; decide), if_pos (by rw [hm1]; rfl), m1]
      simp only [mst_]
      have hbK : b < K.blocks.length := (List.getElem?_eq_some_iff.1 hkb).1
      have hbb : b < born.length := by rw [w.b, List.length_map]; exact hbK
      have hbv : born[b]? = some (at_ - 1) := by rw [w.b, List.getElem?_map, hkb]; rfl
      rw [if_neg (show ¬ decide (m.2 ≥ ((born.length : Nat) : Int)) = true by rw [decide_eq_true_eq]; omega)]
      have s6l := s6.sl
      have s7l := s7.sl
      have s8l := s8.sl
      rw [List.length_map] at s6l
      rw [List.length_map, List.length_map] at s7l s8l
      have cell : ((born.map one1).flatten)[b * 1]? = some (.int .i64 (at_ - 1)) := by rw [one1_flat, Nat.mul_one]; simp [ints, hbv]
      have w' := w.buried hkb false hs (s.dead ++ [(b : Int)])
      have hcmp : ¬ lastT T (-1) < at_ - 1 := by
        rw [w.last, hs]
        simp only; omega
      refine births_last (P := fun r => ∃ h' nx', r = some (.bool true, h', nx')) (f := f) (lf := lf) (Y := Y0) (T := T) (by omega) (nb := nx) s7l s8l (fun n1 N hN => ?_) T.length lf 0 (-1) (nx + 33) (by omega) (by omega) rfl (by omega)
      rw [F5_L2_eq, if_neg (by simp), g1]
      simp only [mst_]
      rw [if_neg (show ¬ ((([] : List Int).length : Int) == 1) = true by simp), m1]
      simp only [mst_]
      rw [hb, s6l.read0 (i := (b : Int)) (v := .int .i64 (at_ - 1)) (by omega) (by omega) (by omega) (by rw [Int.toNat_natCast]; exact cell)]
      simp only [mst_]
      rw [wsucc (i := k) (by omega), if_neg (by rw [decide_eq_false (show ¬ at_ - 1 > lastT T (-1) from hcmp)]; decide)]
      obtain ⟨t6, t7, t8⟩ := same (N + 40) (by omega)
      exact ih n0 (k + 1) h (N + 40) _ born T x6a x7a x8a x6c x7c x8c (by omega) (by omega) hnow' hG' w' (by omega) (by omega) (fun y hy => by
        rcases List.mem_or_eq_of_mem_set hy with hy | rfl
        · exact hB y hy
        · have := hB _ (List.mem_of_getElem? hkb); exact this) t6 t7 t8 o6 o7 o8 (x.le (by omega))
    | drop hm1 i s hi hs =>
      rw [if_neg (show ¬ ((0 : Int) != 0) = true by decide), m0]
      simp only [mst_]
      rw [if_neg (by rw [hm1]; decide), if_neg (by rw [hm1]; decide), if_pos (by rw [hm1]; rfl), m1]
      simp only [mst_]
      obtain ⟨j, z1, z2, z3⟩ := w.drop hi (s.dead.filter fun b => !decide (aheadP K.shots i < bornOf K.blocks b))
      rw [if_neg (show ¬ decide (m.2 ≥ ((T.length : Nat) : Int)) = true by rw [decide_eq_true_eq]; omega), m1]
      simp only [mst_]
      have hmj : m.2 = (j : Int) := by rw [← hs]; exact z1
      rw [hmj]
      have trow : ((T.map (·.2)).map brw1)[j]? = some (brw1 (T[j]'z2).2) := by simp [z2]
      obtain ⟨tb, sp, e1, e2, e3, e4⟩ := s8.turn (R := Res) (f := 0) (v := .bool false) trow (by omega) rfl
      rw [e1]
      simp only [mst_]
      rw [if_pos ⟨by omega, by omega⟩, Int.toNat_natCast]
      rw [Nat.add_zero] at e3
      rw [e3]
      have hset : ((T.map (·.2)).map brw1).set j ((brw1 (T[j]'z2).2).set 0 (.bool false)) = ((T.set j ((T[j]?.map (·.1)).getD 0, false)).map (·.2)).map brw1 := by
        rw [List.map_set, List.map_set]; rfl
      have hset1 : (T.map (·.1)) = (T.set j ((T[j]?.map (·.1)).getD 0, false)).map (·.1) := by
        rw [List.map_set]
        apply List.ext_getElem?
        intro q
        rw [List.getElem?_set]
        split
        · rename_i cq; subst cq; simp [z2]
        · rfl
      rw [hset] at e4 ⊢
      rw [hset1] at s7
      have own8 : ∀ q, ownOf x8a q ↔ q = tb := fun q => ⟨fun ⟨o, y⟩ => by rw [e1] at y; cases y; rfl, fun y => ⟨0, by rw [e1, y]⟩⟩
      have f8 : ∀ bk, Frm (fun q => q = tb) h nx (h.put tb (some bk)) (nx + 40) := fun bk => ⟨by omega, fun q _ hq => put_ne hq⟩
      obtain ⟨T2, hT2⟩ : ∃ T2, T2 = T.set j ((T[j]?.map (·.1)).getD 0, false) := ⟨_, rfl⟩
      obtain ⟨K2, hK2⟩ : ∃ K2 : PK, K2 = { tickP K with shots := (buryP K.shots (i - 1) (s.dead.filter fun b => !decide (aheadP K.shots i < bornOf K.blocks b))).eraseIdx i } := ⟨_, rfl⟩
      rw [← hT2] at e4 s7 z3 ⊢
      rw [← hK2] at z3
      have hG2 : gs.drop (k + 1) = playP K2 (ms.drop (k + 1)) := by rw [hK2]; exact hG'
      have hn2 : K2.now = ((k + 1 : Nat) : Int) := by rw [hK2]; exact hnow'
      have hB2 : ∀ x ∈ K2.blocks, 1 ≤ x.1 := by rw [hK2]; exact hB
      have hlenT : T.length = T2.length := by rw [hT2, List.length_set]
      clear hG' hnow'
      rw [← e1, hlenT]
      have fr := fun (H : AHeap) => (Frm.refl (fun _ => False) H nx).le (show nx ≤ nx + 40 by omega)
      refine ih n0 (k + 1) _ (nx + 40) K2 born T2 x6a x7a x8a x6c x7c x8c (by omega) (by omega) hn2 hG2 z3 (by omega) (by omega) hB2 (s6.go (f8 _) fun q hq y => (o6 q hq).2.2 ((own8 q).2 y)) (s7.go (f8 _) fun q hq y => (o7 q hq).2 ((own8 q).2 y)) (e4.go (fr _) fun _ _ q => q) o6 o7 o8 ⟨by have := x.1; omega, fun q hq => ?_⟩
      rw [put_ne (fun y => by have := o8 q ((own8 q).2 y); omega)]; exact x.2 q hq

theorem rows_moves : ∀ (l : List (Int × Int)) (rows : List (List AV)), All2 (fun m r => r = mrow m) l rows → rows = l.map mrow
  | [], rows, q => by simpa [All2] using q
  | x :: l, rows, q => by obtain ⟨y, r, rfl, rfl, q⟩ := q; rw [rows_moves l r q]; rfl
theorem turns_of {h : AHeap} {nx : Nat} : ∀ (c : List (List AV)), (∀ v ∈ c, Ty h nx (.st [.int .i64, .int .i64]) v) → ∃ ts : List (Int × Int), c = ts.map mrow
  | [], _ => ⟨[], rfl⟩
  | v :: c, each => by
    obtain ⟨ts, rfl⟩ := turns_of c (fun v hv => each v (List.mem_cons_of_mem _ hv))
    have := each v List.mem_cons_self
    simp only [Ty, TyL] at this
    obtain ⟨parts, rfl, p, r, rfl, ⟨x, rfl, _⟩, q, r2, rfl, ⟨y, rfl, _⟩, rfl⟩ := this
    exact ⟨(x, y) :: ts, rfl⟩

theorem SnapBirths_run (h : AHeap) (nx : Nat) (a : Option (Nat × Nat)) (c : List (List AV)) (_ : c.length * 16 ≤ 140737488351232) (each : ∀ v ∈ c, Ty h nx (.st [.int .i64, .int .i64]) v) (sl : Sl h nx a c.length (Sh.st [.int .i64, .int .i64]).n c.flatten) :
    ∃ f h' nx', callP Try.prog keepT f Y0 5 [.slice a c.length none] h nx = some (.bool true, h', nx') := by
  obtain ⟨ts, rfl⟩ := turns_of c each
  rw [List.length_map] at sl ⊢
  refine ⟨3001, ?_⟩
  rw [F5_eq]
  obtain ⟨oa, oc, h1, n1, r1, r2, r3, r4⟩ := moves_spec (f := 3000) (by omega) none (ts := ts) (n := 150) (nx := nx + 4) (by omega) (sl.ext ⟨by omega, fun _ _ => rfl⟩)
  rw [show ((150 : Nat) : Int) = 150 from rfl] at r1
  rw [r1]
  simp only [mst_]
  have hml : (movesP ts 150).length ≤ 150 := by unfold movesP; rw [List.length_map, List.length_take]; omega
  have sm : Sl h1 n1 oa (movesP ts 150).length 2 ((movesP ts 150).map mrow).flatten := by
    obtain ⟨rows, q, len, _, _⟩ := r2.rows (A := fun _ => False) (fun _ _ q => q)
    have hr := rows_moves _ _ q
    subst hr
    assumption
  obtain ⟨ga, gc, h2, n2, p1, p2, p3, p4⟩ := snapped_spec (f := 3000) (by omega) oc (ms := movesP ts 150) (nx := n1 + 7) (by omega) (sm.ext ⟨by omega, fun _ _ => rfl⟩)
  rw [p1]
  simp only [mst_]
  have hgl := playP_len (movesP ts 150) pk0
  rw [← hgl]
  have sg : Rows (fun g r => Gon h2 (n2 + 6) (fun _ => False) r g) h2 (n2 + 6) (fun _ => False) ga 2 (playP pk0 (movesP ts 150)) :=
    (p2.rows (A := fun _ => False) (fun _ _ q => q)).go (D := fun _ => False) ((Frm.refl _ _ _).le (by omega)) (fun _ _ q => q) (fun _ _ q => q) fun g r q => q.go (D := fun _ => False) ((Frm.refl _ _ _).le (by omega)) (fun _ _ q => q.elim) fun _ _ q => q.elim
  have sm2 : Sl h2 (n2 + 6) oa (movesP ts 150).length 2 ((movesP ts 150).map mrow).flatten := sm.ext ⟨by have := p3.1; omega, fun i hi => p3.2 i (by omega)⟩
  have fin := births_loop (f := 3000) (lf := 3000) (by omega) (by omega) (mc := oc) (gc := gc) (by omega) hgl sm2 sg (movesP ts 150).length 3000 0 h2 (n2 + 6) pk0 [] [] none none none none none none (by omega) (by omega) rfl rfl ⟨rfl, rfl, rfl⟩ (by simp) (by simp) (fun y hy => by cases hy) (Spr.nil _ _ _) (Spr.nil _ _ _) (Spr.nil _ _ _) (fun j ⟨o, q⟩ => by cases q) (fun j ⟨o, q⟩ => by cases q) (fun j ⟨o, q⟩ => by cases q) ⟨Nat.le_refl _, fun _ _ => rfl⟩
  rw [hgl] at fin ⊢
  exact fin

end Go.Proofs.Ytaikceooeahfeaa.T
