/- Labels: Decode, all of it. -/
import Derived.Test.YtkidbgfegnmhdaaK5
set_option linter.unusedVariables false
set_option linter.unusedSimpArgs false
namespace Go.Proofs.Ytkidbgfegnmhdaa.T
open Go Go.RowKit Go.Proofs

noncomputable def v4 (bs : List Int) (i : Nat) : Int := wrapA .i64 (valL ((bs.drop (4 * i)).take 4))
noncomputable def v8 (bs : List Int) (i : Nat) : Int := wrapA .i64 (valL ((bs.drop (36 + 8 * i)).take 8))
noncomputable def vS (bs : List Int) (i : Nat) : Int := wrapA .i64 (valL ((bs.drop (96 + 8 * i)).take 8))
noncomputable def decX (bs : List Int) : Lb := ⟨v4 bs 0, v4 bs 1, v4 bs 2, v4 bs 3, v4 bs 4, v4 bs 5, v4 bs 6, v4 bs 7, v4 bs 8, v8 bs 0, v8 bs 1, v8 bs 2, v8 bs 3⟩
noncomputable def decS (bs : List Int) : List Int := [vS bs 0, vS bs 1, vS bs 2, vS bs 3]
def lb0 : Lb := ⟨0, 0, 0, 0, 0, 0, 0, 0, 0, 0, 0, 0, 0⟩
open Classical in
/-- What Decode answers. -/
noncomputable def decR (bs : List Int) : Lb × Int :=
  if bs.length ≠ 128 then (lb0, 1) else if sealS (bs.take 96) ≠ decS bs then (lb0, 11) else if ¬ (decX bs).may then (lb0, 4) else if encL (decX bs) ≠ bs then (lb0, 4) else (decX bs, 0)
theorem decX_v4 (bs : List Int) : ∀ i (hi : i < 9), (decX bs).ns[i]'(by rw [Lb.ns_len]; omega) = wrapA .i64 (valL ((bs.drop (4 * i)).take 4))
  | 0, _ => rfl
  | 1, _ => rfl
  | 2, _ => rfl
  | 3, _ => rfl
  | 4, _ => rfl
  | 5, _ => rfl
  | 6, _ => rfl
  | 7, _ => rfl
  | 8, _ => rfl
theorem decX_v8 (bs : List Int) : ∀ i (hi : i < 4), (decX bs).ns[9 + i]'(by rw [Lb.ns_len]; omega) = wrapA .i64 (valL ((bs.drop (36 + 8 * i)).take 8))
  | 0, _ => rfl
  | 1, _ => rfl
  | 2, _ => rfl
  | 3, _ => rfl
theorem decS_v (bs : List Int) : ∀ i (hi : i < 4), (decS bs)[i]'(by show i < 4; omega) = wrapA .i64 (valL ((bs.drop (96 + 8 * i)).take 8))
  | 0, _ => rfl
  | 1, _ => rfl
  | 2, _ => rfl
  | 3, _ => rfl
theorem eq4I (a b c d a' b' c' d' : Int) : eqCells [.int .i64 a, .int .i64 b, .int .i64 c, .int .i64 d] [.int .i64 a', .int .i64 b', .int .i64 c', .int .i64 d'] = decide ([a, b, c, d] = [a', b', c', d']) := by
  rw [Bool.eq_iff_iff]; simp [eqCells, eqA1]

theorem cutb96 {h : AHeap} {nx n : Nat} {a : Option (Nat × Nat)} {vs : List AV} (s : Sl h nx a n 1 vs) (hn : n = 128) (c : Option Nat) : cutA h a n c 1 none (some (.int .i64 96)) none = some (a, 96, c) ∧ Sl h nx a 96 1 (vs.take 96) := by
  subst hn
  obtain ⟨hc, hs, _⟩ := s.cut c (lo := 0) (hi := 96) (by omega) (by omega) (l := none) (r := some (.int .i64 96)) bound_none (bound_some (k := .i64) (i := 96) (by omega))
  obtain ⟨p, _, rfl, _⟩ := s.2 0 (by omega)
  simp only [shiftAddr, Option.map_some, Nat.zero_mul, Nat.add_zero, Nat.sub_zero, List.drop_zero, Nat.mul_one] at hc hs
  refine ⟨?_, hs⟩
  rw [hc]
  simp

/-- The answer is written into its block, read, and told. -/
theorem ans_tail {h : AHeap} {rb : Nat} {cs : List AV} (hb : h rb = some ⟨cs, 13, true⟩) (hc : cs.length = 13) (x : Lb) (z : Int) (c : Nat) {P : Option Res → Prop}
    (fin : P (some (.tuple [.agg x.row, .int .i64 z], h.put rb (some ⟨x.row, 13, true⟩), c))) :
    P ((stA h rb 0 (.agg x.row) 13).bind fun b34 => (ldR (h.put rb (some b34)) rb 0 13).bind fun l37 => (asAgg 13 (AV.agg l37)).bind fun d38 => (asI .i64 (d38.getD 0 .bad)).bind fun n39 => (asI .i64 (d38.getD 1 .bad)).bind fun n40 => (asI .i64 (d38.getD 2 .bad)).bind fun n41 => (asI .i64 (d38.getD 3 .bad)).bind fun n42 => (asI .i64 (d38.getD 4 .bad)).bind fun n43 => (asI .i64 (d38.getD 5 .bad)).bind fun n44 => (asI .i64 (d38.getD 6 .bad)).bind fun n45 => (asI .i64 (d38.getD 7 .bad)).bind fun n46 => (asI .i64 (d38.getD 8 .bad)).bind fun n47 => (asI .i64 (d38.getD 9 .bad)).bind fun n48 => (asI .i64 (d38.getD 10 .bad)).bind fun n49 => (asI .i64 (d38.getD 11 .bad)).bind fun n50 => (asI .i64 (d38.getD 12 .bad)).bind fun n51 =>
      some ((.tuple [(.agg [(.int .i64 n39), (.int .i64 n40), (.int .i64 n41), (.int .i64 n42), (.int .i64 n43), (.int .i64 n44), (.int .i64 n45), (.int .i64 n46), (.int .i64 n47), (.int .i64 n48), (.int .i64 n49), (.int .i64 n50), (.int .i64 n51)]), (.int .i64 z)]), h.put rb (some b34), c)) := by
  rw [st_all hb (n := 13) rfl hc (by rfl), ldr_all (put_same _ _ _) (n := 13) rfl]
  have er : ∀ (K : List AV → Option Res), (asAgg 13 (AV.agg x.row)).bind K = K x.row := fun K => by rw [asAgg_mk (n := 13) rfl, some_bind]
  rw [er]
  unfold Lb.row at fin ⊢
  simp only [mst_, mstL]
  exact fin

theorem dec_spec {f : Nat} (hf : 1100 ≤ f) {bs : List Int} (hl : bs.length = 128) (hb : Bytes bs) {a : Option (Nat × Nat)} (c : Option Nat) {h : AHeap} {nx : Nat} (sl : Sl h nx a bs.length 1 (ints .u8 bs)) :
    ∃ h' nx', callP Try.prog keepT f Y0 9 [.slice a bs.length c] h nx = some (.tuple [.agg (decR bs).1.row, .int .i64 (decR bs).2], h', nx') ∧ Ext h nx h' nx' := by
  obtain ⟨f, rfl⟩ : ∃ m, f = m + 1 := ⟨f - 1, by omega⟩
  rw [F9_eq, if_neg (by rw [hl]; decide)]
  dsimp only
  generalize hh4 : ((h.put nx _).put (nx + 5) _).put (nx + 6) _ = h4
  have e0 : h4 nx = some ⟨lb0.row, 13, true⟩ := by rw [← hh4, put_ne (by omega), put_ne (by omega), put_same]; rfl
  have e5 : h4 (nx + 5) = some ⟨ints .i64 (part (decX bs).ns 0), 13, true⟩ := by rw [← hh4, put_ne (by omega), put_same]; rfl
  have e6 : h4 (nx + 6) = some ⟨ints .i64 (part (decS bs) 0), 4, true⟩ := by rw [← hh4, put_same]; rfl
  have x4 : ∀ i, i < nx → h4 i = h i := fun i hi => by rw [← hh4, put_ne (by omega), put_ne (by omega), put_ne (by omega)]
  rw [st_to (put_same h4 (nx + 8) _) (cs' := [.slice a bs.length c]) rfl (by simp) rfl, put_put]
  generalize hh5 : h4.put (nx + 8) _ = h5
  have e8 : h5 (nx + 8) = some ⟨[.slice a bs.length c], 1, true⟩ := by rw [← hh5, put_same]
  have y5 : ∀ i, i ≠ nx + 8 → h5 i = h4 i := fun i hi => by rw [← hh5, put_ne hi]
  obtain ⟨h6, s1, s2⟩ := small_spec (f := f) (by omega) Y0 (nx + 5) h5 (nx + 12)
  rw [s1]
  simp only [mst_]
  rw [show asRow (AV.agg (ptrsL (nx + 5) 0 9)) = some (ptrsL (nx + 5) 0 9) from rfl, some_bind]
  have f0 : h6 nx = some ⟨lb0.row, 13, true⟩ := by rw [s2.2 nx (by omega), y5 _ (by omega)]; exact e0
  have f5 : h6 (nx + 5) = some ⟨ints .i64 (part (decX bs).ns 0), 13, true⟩ := by rw [s2.2 _ (by omega), y5 _ (by omega)]; exact e5
  have f6 : h6 (nx + 6) = some ⟨ints .i64 (part (decS bs) 0), 4, true⟩ := by rw [s2.2 _ (by omega), y5 _ (by omega)]; exact e6
  have x6 : ∀ i, i < nx → h6 i = h i := fun i hi => by rw [s2.2 i (by omega), y5 i (by omega), x4 i hi]
  have w6 : Rdr h6 nx (nx + 8) (bs.drop (4 * 0)) := ⟨a, c, by rw [s2.2 _ (by omega)]; exact e8, sl.ext ⟨Nat.le_refl _, x6⟩⟩
  let P : Option Res → Prop := fun r => ∃ h' nx', r = some (.tuple [.agg (decR bs).1.row, .int .i64 (decR bs).2], h', nx') ∧ Ext h nx h' nx'
  have key := dec_l1 (P := P) (f := f) (by omega) (Y := Y0) (g := f) (n0 := nx) (n1 := nx + 12 + 34) (rb := nx) (xb := nx + 5) (sb := nx + 6) (qb := nx + 8) (by omega) (by omega) (by omega) (by omega) (by omega) (a := a) (n := bs.length) (c := c) hb hl (Lb.ns_len _) (decX_v4 bs) (h0 := h6) ?_ 9 f 0 h6 (nx + 12 + 34) (by omega) (by omega) (Frm.refl _ _ _) f5 w6
  · exact key
  intro h7 n7 lf7 fr7 ex7 w7
  have l7 := fr7.1
  show P _
  rw [F9_L1_eq, if_neg (by decide)]
  simp only [mst_]
  obtain ⟨h8, t1, t2⟩ := sums_spec (f := f) (by omega) Y0 (nx + 5) 9 h7 (n7 + 5)
  have t1' : callP Try.prog keepT f Y0 16 [.ptr (some (nx + 5, 0 + 5 + 4))] h7 (n7 + 5) = _ := t1
  rw [t1']
  simp only [mst_]
  rw [show asRow (AV.agg (ptrsL (nx + 5) 9 4)) = some (ptrsL (nx + 5) 9 4) from rfl, some_bind]
  have key := dec_l2 (P := P) (f := f) (by omega) (Y := Y0) (g := f) (n0 := nx) (n1 := n7 + 5 + 15) (rb := nx) (xb := nx + 5) (sb := nx + 6) (qb := nx + 8) (by omega) (by omega) (by omega) (by omega) (by omega) (a := a) (n := bs.length) (c := c) hb hl (Lb.ns_len _) (decX_v8 bs) (h0 := h8) ?_ 4 f 0 h8 (n7 + 5 + 15) (by omega) (by omega) (Frm.refl _ _ _) ((t2.2 _ (by omega)).trans ex7) (w7.go (t2.2 _ (by omega)) (fun i hi => t2.2 i (by omega)))
  · exact key
  intro h9 n9 lf9 fr9 ex9 w9
  have l9 := fr9.1
  show P _
  have keep9 : ∀ i, i < nx + 12 → i ≠ nx + 8 → i ≠ nx + 5 → h9 i = h6 i := fun i hi a b => by rw [fr9.2 i (by omega) (by omega), t2.2 i (by omega), fr7.2 i (by omega) (by omega)]
  rw [F9_L2_eq, if_neg (by decide)]
  have x9 : ∀ i, i < nx → h9 i = h i := fun i hi => by rw [keep9 i (by omega) (by omega) (by omega), x6 i hi]
  have sl9 : Sl h9 nx a bs.length 1 (ints .u8 bs) := sl.ext ⟨Nat.le_refl _, x9⟩
  obtain ⟨ce, cs, _⟩ := sl9.cut c (lo := 96) (hi := bs.length) (by omega) (Nat.le_refl _) (l := some (.int .i64 96)) (r := none) (bound_some (k := .i64) (i := 96) (by omega)) bound_none
  rw [ce]
  simp only [mst_]
  obtain ⟨ra9, rc9, eq9, _⟩ := w9
  rw [st_to eq9 (cs' := [.slice (shiftAddr a (96 * 1)) (bs.length - 96) (c.map fun k => k - 96)]) rfl (by simp) rfl]
  generalize hh10 : h9.put (nx + 8) _ = h10
  have q10 : h10 (nx + 8) = some ⟨[.slice (shiftAddr a (96 * 1)) (bs.length - 96) (c.map fun k => k - 96)], 1, true⟩ := by rw [← hh10, put_same]
  have y10 : ∀ i, i ≠ nx + 8 → h10 i = h9 i := fun i hi => by rw [← hh10, put_ne hi]
  obtain ⟨h11, u1, u2⟩ := sums_spec (f := f) (by omega) Y0 (nx + 6) 0 h10 (n9 + 6)
  rw [u1]
  simp only [mst_]
  rw [show asRow (AV.agg (ptrsL (nx + 6) 0 4)) = some (ptrsL (nx + 6) 0 4) from rfl, some_bind]
  have w11 : Rdr h11 nx (nx + 8) (bs.drop (96 + 8 * 0)) := by
    refine ⟨shiftAddr a (96 * 1), c.map fun k => k - 96, by rw [u2.2 _ (by omega), q10, List.length_drop], ?_⟩
    have hd : ((ints .u8 bs).drop (96 * 1)).take ((bs.length - 96) * 1) = ints .u8 (bs.drop 96) := by
      rw [Nat.mul_one, Nat.mul_one, ints, ← List.map_drop, List.take_of_length_le (by simp)]
    rw [hd] at cs
    rw [List.length_drop]
    exact cs.ext ⟨Nat.le_refl _, fun i hi => by rw [u2.2 i (by omega), y10 i (by omega)]⟩
  have g6 : h11 (nx + 6) = some ⟨ints .i64 (part (decS bs) 0), 4, true⟩ := by rw [u2.2 _ (by omega), y10 _ (by omega), keep9 _ (by omega) (by omega) (by omega)]; exact f6
  have key := dec_l3 (P := P) (f := f) (by omega) (Y := Y0) (g := f) (n0 := nx) (n1 := n9 + 6 + 15) (rb := nx) (xb := nx + 5) (sb := nx + 6) (qb := nx + 8) (by omega) (by omega) (by omega) (by omega) (by omega) (a := a) (n := bs.length) (c := c) hb hl (ns := decS bs) rfl (decS_v bs) (h0 := h11) ?_ 4 f 0 h11 (n9 + 6 + 15) (by omega) (by omega) (Frm.refl _ _ _) g6 w11
  · exact key
  intro h12 n12 lf12 fr12 es12
  have l12 := fr12.1
  show P _
  have k12 : ∀ i, i < nx + 12 → i ≠ nx + 8 → i ≠ nx + 6 → h12 i = h9 i := fun i hi a b => by rw [fr12.2 i (by omega) (by omega), u2.2 i (by omega), y10 i a]
  have x12 : ∀ i, i < nx → h12 i = h i := fun i hi => by rw [k12 i (by omega) (by omega) (by omega), x9 i hi]
  have r12 : h12 nx = some ⟨lb0.row, 13, true⟩ := by rw [k12 nx (by omega) (by omega) (by omega), keep9 nx (by omega) (by omega) (by omega)]; exact f0
  have ex12 : h12 (nx + 5) = some ⟨(decX bs).row, 13, true⟩ := by
    rw [k12 _ (by omega) (by omega) (by omega), ex9, Lb.row_ns]
    have : part (decX bs).ns 13 = (decX bs).ns := part_full _
    rw [this]
  have sl12 : Sl h12 nx a bs.length 1 (ints .u8 bs) := sl.ext ⟨Nat.le_refl _, x12⟩
  rw [F9_L3_eq, if_neg (by decide)]
  obtain ⟨ce2, cs2⟩ := cutb96 sl12 hl c
  rw [ce2]
  simp only [mst_]
  have ht : (ints .u8 bs).take 96 = ints .u8 (bs.take 96) := by simp [ints]
  have hl96 : (bs.take 96).length = 96 := by rw [List.length_take]; omega
  rw [ht] at cs2
  have cs3 : Sl h12 (n12 + 10) a (bs.take 96).length 1 (ints .u8 (bs.take 96)) := by rw [hl96]; exact cs2.ext ⟨by omega, fun _ _ => rfl⟩
  obtain ⟨h13, n13, o1, o2⟩ := ofb_spec (k := f) (bs.take 96) 24 hl96 (by omega) (fun x hx => hb x (List.mem_of_mem_take hx)) c cs3
  rw [hl96] at o1
  rw [o1]
  simp only [mst_]
  have l13 := o2.1
  rw [← sealS_cells]
  have es : ∀ (K : List AV → Option Res), (asAgg 4 (AV.agg (ints .i64 (sealS (bs.take 96))))).bind K = K (ints .i64 (sealS (bs.take 96))) := fun K => by rw [asAgg_mk (n := 4) rfl, some_bind]
  rw [es]
  have hdec : decR bs = if sealS (bs.take 96) ≠ decS bs then (lb0, 11) else if ¬ (decX bs).may then (lb0, 4) else if encL (decX bs) ≠ bs then (lb0, 4) else (decX bs, 0) := by
    unfold decR; rw [if_neg (by omega)]
  obtain ⟨q0, q1, q2, q3, hq⟩ : ∃ q0 q1 q2 q3, sealS (bs.take 96) = [q0, q1, q2, q3] := ⟨_, _, _, _, rfl⟩
  rw [hq] at hdec ⊢
  simp only [ints, List.map_cons, List.map_nil]
  simp only [mst_]
  rw [st_all (put_same h13 (n12 + 7) _) (by simp) (by simp) (by simp [allOne, AV.one]), put_put]
  generalize hh14 : h13.put (n12 + 7) _ = h14
  have e14 : h14 (n12 + 7) = some ⟨[.int .i64 q0, .int .i64 q1, .int .i64 q2, .int .i64 q3], 4, true⟩ := by rw [← hh14, put_same]
  have y14 : ∀ i, i < n12 + 7 → h14 i = h12 i := fun i hi => by rw [← hh14, put_ne (by omega), o2.2 i (by omega)]
  rw [ldr_all e14 (n := 4) rfl]
  simp only [mst_]
  have es14 : h14 (nx + 6) = some ⟨[.int .i64 (vS bs 0), .int .i64 (vS bs 1), .int .i64 (vS bs 2), .int .i64 (vS bs 3)], 4, true⟩ := by rw [y14 _ (by omega), es12]; rfl
  rw [ldr_all es14 (n := 4) rfl]
  simp only [mst_]
  rw [eq4I]
  have r14 : h14 nx = some ⟨lb0.row, 13, true⟩ := (y14 nx (by omega)).trans r12
  have hS : decS bs = [vS bs 0, vS bs 1, vS bs 2, vS bs 3] := rfl
  rw [← hS]
  have fin : ∀ (h' : AHeap) (c' : Nat) (x : Lb) (z : Int), decR bs = (x, z) → (∀ i, i < nx → h' i = h i) → nx ≤ c' → P (some (.tuple [.agg x.row, .int .i64 z], h'.put nx (some ⟨x.row, 13, true⟩), c')) := fun h' c' x z e k lc =>
    ⟨_, c', by rw [e], ⟨lc, fun i hi => by rw [put_ne (by omega), k i hi]⟩⟩
  have x14 : ∀ i, i < nx → h14 i = h i := fun i hi => by rw [y14 i (by omega), x12 i hi]
  by_cases c1 : [q0, q1, q2, q3] = decS bs
  case neg =>
    rw [decide_eq_false c1, if_not_false']
    exact ans_tail r14 rfl lb0 11 _ (fin h14 _ lb0 11 (by rw [hdec, if_pos c1]) x14 (by omega))
  rw [if_neg (by simpa using c1)] at hdec
  rw [decide_eq_true c1, if_not_true']
  have ex14 : h14 (nx + 5) = some ⟨(decX bs).row, 13, true⟩ := (y14 _ (by omega)).trans ex12
  have er : ∀ (K : List AV → Option Res), (asAgg 13 (AV.agg (decX bs).row)).bind K = K (decX bs).row := fun K => by rw [asAgg_mk (n := 13) rfl, some_bind]
  rw [ldr_all ex14 (n := 13) rfl, er]
  generalize hX : decX bs = X at *
  by_cases c2 : X.may
  case neg =>
    obtain ⟨h15, n15, v1, v2⟩ := enc_no (f := f) (by omega) X c2 h14 (n13 + 10)
    unfold Lb.row at v1 ⊢
    simp only [mst_, mstL]
    rw [v1]
    simp only [mst_]
    rw [if_pos (by decide)]
    exact ans_tail ((v2.2 nx (by omega)).trans r14) rfl lb0 4 _ (fin h15 _ lb0 4 (by rw [hdec, if_pos c2]) (fun i hi => by rw [v2.2 i (by omega), x14 i hi]) (by have := v2.1; omega))
  rw [if_neg (by simpa using c2)] at hdec
  obtain ⟨b15, h15, n15, v1, v2, v3, v4', v5⟩ := enc_ok (f := f) (by omega) X c2 h14 (n13 + 10)
  have l15 := v2.1
  have x15 : ∀ i, i < nx → h15 i = h i := fun i hi => by rw [v2.2 i (by omega), x14 i hi]
  have er15 : h15 (nx + 5) = some ⟨X.row, 13, true⟩ := (v2.2 _ (by omega)).trans ex14
  have r15 : h15 nx = some ⟨lb0.row, 13, true⟩ := (v2.2 _ (by omega)).trans r14
  have se : Sl h15 (n15 + 8) (some (b15, 0)) (encL X).length 1 (ints .u8 (encL X)) := ⟨by simp [ints], fun j hj => ⟨(b15, 0), _, rfl, by simp only; omega, v5, rfl, by simp [ints], fun q hq => by simp⟩⟩
  have sl15 : Sl h15 (n15 + 8) a bs.length 1 (ints .u8 bs) := sl.ext ⟨by omega, x15⟩
  obtain ⟨m, lm, e1⟩ := equal_spec (f := f) (by omega) Y0 (some 128) c se sl15 (by rw [encL_len]; omega) (n15 + 8)
  rw [encL_len] at e1
  have er15' : ∀ (K : List AV → Option Res), (ldR h15 (nx + 5) 0 13).bind (fun l => (asAgg 13 (AV.agg l)).bind K) = K X.row := fun K => by rw [ldr_all er15 (n := 13) rfl, asAgg_mk (n := 13) rfl, some_bind]
  unfold Lb.row at v1 ⊢
  simp only [mst_, mstL]
  rw [v1]
  simp only [mst_]
  rw [if_neg (by decide), e1]
  simp only [mst_]
  by_cases c3 : encL X = bs
  case neg =>
    rw [decide_eq_false c3, if_not_false']
    exact ans_tail r15 rfl lb0 4 _ (fin h15 _ lb0 4 (by rw [hdec, if_pos c3]) x15 (by omega))
  rw [if_neg (by simpa using c3)] at hdec
  rw [decide_eq_true c3, if_not_true', er15']
  unfold Lb.row
  simp only [mst_, mstL]
  exact ans_tail r15 rfl X 0 _ (fin h15 _ X 0 hdec x15 (by omega))

end Go.Proofs.Ytkidbgfegnmhdaa.T
