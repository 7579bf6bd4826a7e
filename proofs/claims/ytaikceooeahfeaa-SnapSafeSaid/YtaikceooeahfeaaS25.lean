/- Snaps: SnapSafe. -/
import Derived.Test.YtaikceooeahfeaaS24
set_option linter.unusedVariables false
set_option linter.unusedSimpArgs false
namespace Go.Proofs.Ytaikceooeahfeaa.T
open Go Go.RowKit Go.Proofs

theorem safe_end : ∃ g0 g1 : Int × List Int, playP pk0 [(1, 0), (2, 0)] = [g0, g1] ∧ g1.2 = [0] := ⟨_, _, rfl, rfl⟩
theorem ans_nil (lives goneL : List Bool) (T : List (Int × Bool)) (S : List (List Bool)) : AnsOk lives goneL T S [] := ⟨List.nodup_nil, fun b hb => by cases hb⟩

theorem safe_loop {f lf : Nat} (hf : 1700 ≤ f) (hlf : 1100 ≤ lf) {h0 : AHeap} {n0 : Nat} {ma ga : Option (Nat × Nat)} {mc gc : Option Nat} {ms : List (Int × Int)} {gs : List (Int × List Int)} (hN : ms.length ≤ 300) (hgl : gs.length = ms.length) (sm : Sl h0 n0 ma ms.length 2 (ms.map mrow).flatten) (sg : Rows (fun g r => Gon h0 n0 (fun _ => False) r g) h0 n0 (fun _ => False) ga 2 gs) (d : Nat) :
    ∀ (m0 k : Nat) (h : AHeap) (nx : Nat) (K : PK) (lives goneL : List Bool) (T : List (Int × Bool)) (S : List (List Bool)) (x6a x7a x8a x9a : Option (Nat × Nat)) (x6c x7c x8c x9c : Option Nat), k + d = ms.length → d < m0 → K.now = k → gs.drop k = playP K (ms.drop k) → SI K lives goneL T S → PW 0 K → (∀ l ∈ S, l.length ≤ K.blocks.length) → SM h0 n0 h nx lives goneL T S x6a x7a x8a x9a x6c x7c x8c x9c →
      ∃ h' nx', F3_L1 (callP Try.prog keepT f) Y0 lf m0 ma ms.length mc ga gs.length gc x6a lives.length x6c x7a goneL.length x7c x8a S.length x8c x9a T.length x9c (k : Int) h nx = some (.bool true, h', nx') := by
  induction d with
  | zero =>
    intro m0 k h nx K lives goneL T S x6a x7a x8a x9a x6c x7c x8c x9c e hl hnow hG w pw hS W
    obtain ⟨m0, rfl⟩ : ∃ m, m0 = m + 1 := ⟨m0 - 1, by omega⟩
    rw [F3_L1_eq, if_neg (by rw [decide_eq_true_eq]; omega)]
    have sl : Sl (h.put (nx + 6) (some ⟨[.int .i64 1, .int .i64 0, .int .i64 2, .int .i64 0], 2, true⟩)) (nx + 13) (some (nx + 6, 0)) ([(1, 0), (2, 0)] : List (Int × Int)).length 2 (([(1, 0), (2, 0)] : List (Int × Int)).map mrow).flatten :=
      ⟨rfl, fun j _ => ⟨(nx + 6, 0), _, rfl, by simp only; omega, put_same _ _ _, rfl, (by show 0 + 2 * 2 ≤ 4; decide), fun q _ => by rw [Nat.zero_add]; rfl⟩⟩
    obtain ⟨oa, oc, h', nx', r1, r2, r3, r4⟩ := snapped_spec (f := f) hf (some 2) (by decide) sl
    have r1' : callP Try.prog keepT f Y0 7 [.slice (some (nx + 6, 0)) 2 (some 2)] (h.put (nx + 6) (some ⟨[.int .i64 1, .int .i64 0, .int .i64 2, .int .i64 0], 2, true⟩)) (nx + 13) = some (.tuple [.slice oa 2 oc, .bool true], h', nx') := r1
    dsimp only
    rw [r1']
    simp only [mst_]
    obtain ⟨g0, g1, pe, l1⟩ := safe_end
    rw [pe] at r2
    have rg : Rows (fun g r => Gon h' nx' (fun _ => False) r g) h' nx' (fun _ => False) oa 2 [g0, g1] := (r2.rows (A := fun _ => False) (fun _ _ q => q)).go (D := fun _ => False) (Frm.refl _ _ _) (fun _ _ q => q) (fun _ _ q => q) fun g r q => q.go (D := fun _ => False) (Frm.refl _ _ _) (fun _ _ q => q.elim) fun _ _ q => q.elim
    obtain ⟨a1, c1, dsl, _, q1⟩ := gs_read (R := Res) rg (k := 1) (g := g1) rfl
    have q1' := q1
    simp only [List.length_cons, List.length_nil] at q1'
    rw [if_pos trivial]
    refine ⟨h', nx' + 19, ?_⟩
    refine (q1' _).trans ?_
    simp only [mst_]
    rw [l1] at dsl ⊢
    rw [if_pos (show ((([0] : List Int).length : Int) == 1) = true by decide)]
    rw [l1] at q1'
    refine (q1' _).trans ?_
    simp only [mst_]
    refine (dsl.read0 (i := 0) (v := .int .i64 0) (by omega) (by decide) (by omega) rfl _).trans ?_
    simp only [mst_]
    rfl
  | succ d ih =>
    intro m0 k h nx K lives goneL T S x6a x7a x8a x9a x6c x7c x8c x9c e hl hnow hG w pw hS W
    obtain ⟨m0, rfl⟩ : ∃ m, m0 = m + 1 := ⟨m0 - 1, by omega⟩
    have hk : k < ms.length := by omega
    have hm : ms[k]? = some ms[k] := List.getElem?_eq_getElem hk
    rw [List.drop_eq_getElem_cons hk, playP] at hG
    have hg : gs[k]? = some (stepP K ms[k]).2 := by
      have := congrArg (fun l => l[0]?) hG
      simp only [List.getElem?_drop, Nat.add_zero, List.getElem?_cons_zero] at this
      exact this
    have hG' : gs.drop (k + 1) = playP (stepP K ms[k]).1 (ms.drop (k + 1)) := by
      have := congrArg (List.drop 1) hG
      simpa [List.drop_drop] using this
    have smh : Sl h nx ma ms.length 2 (ms.map mrow).flatten := sm.ext W.x
    have sgh := gs_go (A' := fun _ => False) sg W.x fun _ _ q => q
    obtain ⟨m0', m1⟩ := ms_read (R := Res) smh hm
    obtain ⟨da, dc, dsl, g0, g1⟩ := gs_read (R := Res) sgh hg
    have hnow' : (stepP K ms[k]).1.now = ((k + 1 : Nat) : Int) := by rw [step_now, hnow]; omega
    have pw' : PW 0 (stepP K ms[k]).1 := step_pw pw (by omega) _
    have hway := step_ways K ms[k]
    have hll : lives.length = K.blocks.length := by rw [w.lv, List.length_map]
    have hbl := pw.bl
    have hTk : T.length ≤ 400 := by have h1 := pw.k0; have h2 := w.kept; have h3 := pw.n0; omega
    have hlb : (stepP K ms[k]).2.2.length ≤ 1000 ∨ True := .inr trivial
    -- behind the turn of the lists
    have go : ∀ (h1 : AHeap) (N : Nat) (lives1 goneL1 : List Bool) (T1 : List (Int × Bool)) (S1 : List (List Bool)) (y6a y7a y8a y9a : Option (Nat × Nat)) (y6c y7c y8c y9c : Option Nat), (stepP K ms[k]).2.2.length ≤ 1000 → AnsOk lives1 goneL1 T1 S1 (stepP K ms[k]).2.2 → SI (stepP K ms[k]).1 lives1 (marks goneL1 (stepP K ms[k]).2.2) T1 S1 → (∀ l ∈ S1, l.length ≤ (stepP K ms[k]).1.blocks.length) → SM h0 n0 h1 N lives1 goneL1 T1 S1 y6a y7a y8a y9a y6c y7c y8c y9c →
        ∃ h' nx', F3_J2 (callP Try.prog keepT f) Y0 lf m0 ma ms.length mc ga gs.length gc y6a lives1.length y6c y7a goneL1.length y7c y8a S1.length y8c y9a T1.length y9c (k : Int) h1 N = some (.bool true, h', nx') := by
      intro h1 N lives1 goneL1 T1 S1 y6a y7a y8a y9a y6c y7c y8c y9c hb an si hS1 sm1
      rw [F3_J2_eq]
      have hT1 : T1.length ≤ 1000 := by have h1 := pw'.k0; have h2 := si.kept; have h3 := pw'.n0; omega
      have hgl1 : goneL1.length = lives1.length := by have h1 := si.gl; rw [marks_len] at h1; rw [si.lv, List.length_map]; exact h1
      refine safe_l5 (P := fun r => ∃ h' nx', r = some (.bool true, h', nx')) (f := f) (code := (stepP K ms[k]).2.1) (bs := (stepP K ms[k]).2.2) hlf sg hg hT1 si.sl hb (by omega) hgl1 an (fun h' nx' sm2 => ?_) (stepP K ms[k]).2.2.length lf 0 h1 (N + 1) (by omega) (by omega) (sm1.le (by omega))
      have := ih m0 (k + 1) h' nx' _ lives1 (marks goneL1 (stepP K ms[k]).2.2) T1 S1 y6a y7a y8a y9a y6c y7c y8c y9c (by omega) (by omega) hnow' hG' si pw' hS1 sm2
      rw [marks_len] at this
      exact this
    generalize ms[k] = m at *
    generalize hSS : stepP K m = SS at *
    rw [F3_L1_eq, if_pos (decide_eq_true (by omega)), g0]
    simp only [mst_]
    cases hway with
    | no ec he =>
      rw [if_neg (show ¬ (ec == 0) = true by simpa using he)]
      exact go h (nx + 10) lives goneL T S _ _ _ _ _ _ _ _ (by simp) (ans_nil _ _ _ _) w.tick hS (W.le (by omega))
    | born hm1 =>
      rw [if_pos (show ((0 : Int) == 0) = true by decide), m0']
      simp only [mst_]
      rw [if_pos (by rw [hm1]; rfl)]
      obtain ⟨e9, q1, q2, q3, q4⟩ := W.push6 (id := nx + 18) (id2 := nx + 19) (by omega) (by omega) (by omega) true
      rw [q1]
      simp only [mst_]
      rw [q2]
      simp only [mst_]
      obtain ⟨e13, p1, p2, p3, p4⟩ := q4.push7 (id := nx + 22) (id2 := nx + 23) (by omega) (by omega) (by have := w.gl; omega) false
      rw [p1]
      simp only [mst_]
      rw [p2]
      simp only [mst_]
      rw [q3, p3]
      exact go _ (nx + 25) (lives ++ [true]) (goneL ++ [false]) T S _ _ _ _ _ _ _ _ (by simp) (ans_nil _ _ _ _) (w.birth (by omega) hS) (fun l hl => by have := hS l hl; show l.length ≤ (K.blocks ++ [(K.now + 1, true)]).length; simp; omega) (p4.le (by omega))
    | keep hm1 =>
      rw [if_pos (show ((0 : Int) == 0) = true by decide), m0']
      simp only [mst_]
      rw [if_neg (by rw [hm1]; decide), if_neg (by rw [hm1]; decide), if_pos (by rw [hm1]; rfl)]
      obtain ⟨rd, e25, e29, q0, q1, q2, q3, q4, q5⟩ := W.push8 (i0 := nx + 23) (by omega) (by omega) (by have := w.sl; omega)
      rw [q0]
      simp only [mst_]
      rw [q1]
      simp only [mst_]
      rw [q2]
      simp only [mst_]
      rw [q3]
      simp only [mst_]
      obtain ⟨e33, p1, p2, p3, p4⟩ := q5.push9 (id := nx + 28) (id2 := nx + 29) (by omega) (by omega) (by omega) (K.now, true)
      rw [p1]
      simp only [mst_]
      rw [p2]
      simp only [mst_]
      rw [q4, p3]
      exact go _ (nx + 31) lives goneL (T ++ [(K.now, true)]) (S ++ [lives]) _ _ _ _ _ _ _ _ (by simp) (ans_nil _ _ _ _) w.snap (fun l hl => by
        rcases List.mem_append.1 hl with hl | hl
        · exact hS l hl
        · simp at hl; subst hl; exact Nat.le_of_eq hll) (p4.le (by omega))
    | kill hm1 b hb at_ hkb hlast =>
      rw [if_pos (show ((0 : Int) == 0) = true by decide), m0']
      simp only [mst_]
      rw [if_neg (by rw [hm1]; decide), if_pos (by rw [hm1]; rfl), m1]
      simp only [mst_]
      have hbK := (List.getElem?_eq_some_iff.1 hkb).1
      have hlv : lives[b]? = some true := by rw [w.lv, List.getElem?_map, hkb]; rfl
      have lsl := W.l.sl
      rw [List.length_map] at lsl
      rw [if_neg (show ¬ decide (m.2 ≥ ((lives.length : Nat) : Int)) = true by rw [decide_eq_true_eq]; omega), m1]
      simp only [mst_]
      rw [hb, lsl.read0 (i := (b : Int)) (v := .bool true) (by omega) (by omega) (by omega) (by rw [Int.toNat_natCast]; exact brw1_get hlv)]
      simp only [mst_]
      rw [F3_J3_eq, m1]
      simp only [mst_]
      obtain ⟨tb, bk, e1, e2, W2⟩ := W.dies hlv
      rw [hb, e1]
      simp only [mst_]
      rw [if_pos ⟨by omega, by omega⟩, Int.toNat_natCast, e2, ← e1]
      obtain ⟨z1, z2⟩ := w.kill hkb hlast
      have hlen : lives.length = (lives.set b false).length := by rw [List.length_set]
      rw [hlen]
      exact go _ _ (lives.set b false) goneL T S _ _ _ _ _ _ _ _ (by simp) z2 z1 (fun l hl => by have := hS l hl; show l.length ≤ (K.blocks.set b (at_, false)).length; rw [List.length_set]; exact this) (W2.le (by omega))
    | bury hm1 b hb at_ hkb s hs hlast =>
      rw [if_pos (show ((0 : Int) == 0) = true by decide), m0']
      simp only [mst_]
      rw [if_neg (by rw [hm1]; decide), if_pos (by rw [hm1]; rfl), m1]
      simp only [mst_]
      have hbK := (List.getElem?_eq_some_iff.1 hkb).1
      have hlv : lives[b]? = some true := by rw [w.lv, List.getElem?_map, hkb]; rfl
      have lsl := W.l.sl
      rw [List.length_map] at lsl
      rw [if_neg (show ¬ decide (m.2 ≥ ((lives.length : Nat) : Int)) = true by rw [decide_eq_true_eq]; omega), m1]
      simp only [mst_]
      rw [hb, lsl.read0 (i := (b : Int)) (v := .bool true) (by omega) (by omega) (by omega) (by rw [Int.toNat_natCast]; exact brw1_get hlv)]
      simp only [mst_]
      rw [F3_J3_eq, m1]
      simp only [mst_]
      obtain ⟨tb, bk, e1, e2, W2⟩ := W.dies hlv
      rw [hb, e1]
      simp only [mst_]
      rw [if_pos ⟨by omega, by omega⟩, Int.toNat_natCast, e2, ← e1]
      have hlen : lives.length = (lives.set b false).length := by rw [List.length_set]
      rw [hlen]
      exact go _ _ (lives.set b false) goneL T S _ _ _ _ _ _ _ _ (by simp) (ans_nil _ _ _ _) (w.bury hkb hs) (fun l hl => by have := hS l hl; show l.length ≤ (K.blocks.set b (at_, false)).length; rw [List.length_set]; exact this) (W2.le (by omega))
    | drop hm1 i s hi hs =>
      rw [if_pos (show ((0 : Int) == 0) = true by decide), m0']
      simp only [mst_]
      rw [if_neg (by rw [hm1]; decide), if_neg (by rw [hm1]; decide), if_neg (by rw [hm1]; decide), if_pos (by rw [hm1]; rfl), m1]
      simp only [mst_]
      obtain ⟨j, z1, z2, z3, z4, z5⟩ := w.drop hi
      have hmj : m.2 = (j : Int) := by rw [← hs]; exact z1
      have tsl := W.t.sl
      rw [List.length_map, List.length_map] at tsl
      rw [if_neg (show ¬ decide (m.2 ≥ ((T.length : Nat) : Int)) = true by rw [decide_eq_true_eq]; omega), m1]
      simp only [mst_]
      rw [hmj, tsl.read0 (i := (j : Int)) (v := .bool true) (by omega) (by omega) (by omega) (by rw [Int.toNat_natCast]; exact brw1_get (by rw [List.getElem?_map]; exact z3))]
      simp only [mst_]
      rw [F3_J4_eq, m1]
      simp only [mst_]
      obtain ⟨tb, bk, e1, e2, W2⟩ := W.leaves z2
      rw [hmj, e1]
      simp only [mst_]
      rw [if_pos ⟨by omega, by omega⟩, Int.toNat_natCast, e2, ← e1]
      have hlen : T.length = (T.set j ((T[j]?.map (·.1)).getD 0, false)).length := by rw [List.length_set]
      have hlenb : (sortL (s.dead.filter fun b => decide (aheadP K.shots i < bornOf K.blocks b))).length ≤ 1000 := by
        rw [sortL_len]
        have h1 := dsum_mem (List.mem_of_getElem? hi)
        have h2 := pw.ds
        have h3 : (s.dead.filter fun b => decide (aheadP K.shots i < bornOf K.blocks b)).length ≤ s.dead.length := List.length_filter_le _ _
        omega
      obtain ⟨T2, hT2⟩ : ∃ T2, T2 = T.set j ((T[j]?.map (·.1)).getD 0, false) := ⟨_, rfl⟩
      rw [← hT2] at z4 z5 W2 hlen
      rw [hlen]
      exact go _ _ lives goneL T2 S _ _ _ _ _ _ _ _ hlenb z5 z4 hS (W2.le (by omega))

end Go.Proofs.Ytaikceooeahfeaa.T
