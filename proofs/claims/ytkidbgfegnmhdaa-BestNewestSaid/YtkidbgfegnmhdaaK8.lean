/- Labels, plain law: what is encoded is decoded; LabelBack. -/
import Derived.Test.YtkidbgfegnmhdaaK7
set_option linter.unusedVariables false
set_option linter.unusedSimpArgs false
namespace Go.Proofs.Ytkidbgfegnmhdaa.T
open Go Go.RowKit Go.Proofs

theorem les_get (k : Nat) : ∀ (l : List Int) (i : Nat) (h : i < l.length), ((les k l).drop (k * i)).take k = leL k l[i]
  | [], i, h => by simp at h
  | x :: l, 0, _ => by
    simp only [les, List.map_cons, List.flatten_cons, Nat.mul_zero, List.drop_zero, List.getElem_cons_zero]
    rw [← leL_len k x, leL_len k x]
    exact List.take_left' (leL_len k x)
  | x :: l, i + 1, h => by
    have ih := les_get k l i (by simpa using h)
    simp only [les, List.map_cons, List.flatten_cons, List.getElem_cons_succ] at ih ⊢
    rw [show k * (i + 1) = (leL k x).length + k * i by rw [leL_len, Nat.mul_add, Nat.mul_one, Nat.add_comm], List.drop_append, List.drop_of_length_le (by omega), List.nil_append, Nat.add_sub_cancel_left]
    exact ih
theorem cut_left {A B : List Int} {n m : Nat} (h : n + m ≤ A.length) : ((A ++ B).drop n).take m = (A.drop n).take m := by
  rw [List.drop_append_of_le_length (by omega), List.take_append_of_le_length (by rw [List.length_drop]; omega)]
theorem cut_right {A B : List Int} {n m : Nat} : ((A ++ B).drop (A.length + n)).take m = (B.drop n).take m := by
  rw [List.drop_append, List.drop_of_length_le (by omega), List.nil_append, Nat.add_sub_cancel_left]

theorem w_in (n : Int) : -9223372036854775808 ≤ wrapA .i64 n ∧ wrapA .i64 n ≤ 9223372036854775807 := by
  rw [wrapA_def]; show -9223372036854775808 ≤ wrap64 n ∧ wrap64 n ≤ 9223372036854775807; unfold wrap64; omega
theorem decS_of {l : List Int} {s0 s1 s2 s3 : Int} (hl : l.length = 96) (h0 : -9223372036854775808 ≤ s0 ∧ s0 ≤ 9223372036854775807) (h1 : -9223372036854775808 ≤ s1 ∧ s1 ≤ 9223372036854775807) (h2 : -9223372036854775808 ≤ s2 ∧ s2 ≤ 9223372036854775807) (h3 : -9223372036854775808 ≤ s3 ∧ s3 ≤ 9223372036854775807) : decS (l ++ les 8 [s0, s1, s2, s3]) = [s0, s1, s2, s3] := by
  have g : ∀ i (hi : i < 4), ((l ++ les 8 [s0, s1, s2, s3]).drop (96 + 8 * i)).take 8 = leL 8 ([s0, s1, s2, s3][i]'hi) := fun i hi => by
    rw [← hl, cut_right, les_get 8 [s0, s1, s2, s3] i hi]
  have g0 := g 0 (by omega)
  have g1 := g 1 (by omega)
  have g2 := g 2 (by omega)
  have g3 := g 3 (by omega)
  unfold decS vS
  rw [g0, g1, g2, g3]
  show [wrapA .i64 (valL (leL 8 s0)), wrapA .i64 (valL (leL 8 s1)), wrapA .i64 (valL (leL 8 s2)), wrapA .i64 (valL (leL 8 s3))] = _
  rw [wrap_le8 s0 h0, wrap_le8 s1 h1, wrap_le8 s2 h2, wrap_le8 s3 h3]
theorem decS_enc (x : Lb) : decS (encL x) = sealS (encH x) := by
  unfold encL sealS
  exact decS_of (encH_len x) (w_in _) (w_in _) (w_in _) (w_in _)
theorem take_enc (x : Lb) : (encL x).take 96 = encH x := by
  unfold encL
  exact List.take_left' (encH_len x)

def In64 (n : Int) : Prop := -9223372036854775808 ≤ n ∧ n ≤ 9223372036854775807
structure Lb.fits (x : Lb) : Prop where
  n : ∀ (i : Nat) (hi : i < 9), (0 : Int) ≤ x.ns[i]'(by rw [Lb.ns_len]; omega) ∧ x.ns[i]'(by rw [Lb.ns_len]; omega) < (4294967296 : Int)
  s : ∀ (i : Nat) (hi : i < 4), In64 (x.ns[9 + i]'(by rw [Lb.ns_len]; omega))
theorem may_fits {x : Lb} (h : x.may) (h0 : In64 x.s0) (h1 : In64 x.s1) (h2 : In64 x.s2) (h3 : In64 x.s3) : x.fits := by
  obtain ⟨a1, a2, a3, a4, a5, a6, a7, a8, a9⟩ := h
  have a4' : x.parity ≤ 8 := by have := a4.2; split at this <;> omega
  refine ⟨fun i hi => ?_, fun i hi => ?_⟩
  · match i, hi with
    | 0, _ => show 0 ≤ x.pool ∧ x.pool < _; omega
    | 1, _ => show 0 ≤ x.drive ∧ x.drive < _; omega
    | 2, _ => show 0 ≤ x.drives ∧ x.drives < _; omega
    | 3, _ => show 0 ≤ x.parity ∧ x.parity < _; omega
    | 4, _ => show 0 ≤ x.time ∧ x.time < _; omega
    | 5, _ => show 0 ≤ x.addr ∧ x.addr < _; omega
    | 6, _ => show 0 ≤ x.count ∧ x.count < _; omega
    | 7, _ => show 0 ≤ x.bytes ∧ x.bytes < _; omega
    | 8, _ => show 0 ≤ x.birth ∧ x.birth < _; omega
  · match i, hi with
    | 0, _ => exact h0
    | 1, _ => exact h1
    | 2, _ => exact h2
    | 3, _ => exact h3
theorem decX_enc {x : Lb} (hx : x.fits) : decX (encL x) = x := by
  have h4 : ∀ i (hi : i < 9), v4 (encL x) i = x.ns[i]'(by rw [Lb.ns_len]; omega) := fun i hi => by
    unfold v4 encL encH encP
    rw [List.append_assoc, List.append_assoc, cut_left (by rw [les_len]; simp [Lb.ns]; omega), les_get 4 (x.ns.take 9) i (by simp [Lb.ns]; omega), List.getElem_take]
    have := hx.n i hi
    rw [valL_le4 _ this, wA (by omega) (by omega)]
  have h8 : ∀ i (hi : i < 4), v8 (encL x) i = x.ns[9 + i]'(by rw [Lb.ns_len]; omega) := fun i hi => by
    unfold v8 encL encH encP
    rw [show 36 + 8 * i = (les 4 (x.ns.take 9)).length + 8 * i by rw [les_len]; simp [Lb.ns], List.append_assoc, List.append_assoc, cut_right, cut_left (by rw [les_len]; simp [Lb.ns]; omega), les_get 8 (x.ns.drop 9) i (by simp [Lb.ns]; omega), List.getElem_drop]
    exact wrap_le8 _ (hx.s i hi)
  unfold decX
  rw [h4 0 (by omega), h4 1 (by omega), h4 2 (by omega), h4 3 (by omega), h4 4 (by omega), h4 5 (by omega), h4 6 (by omega), h4 7 (by omega), h4 8 (by omega), h8 0 (by omega), h8 1 (by omega), h8 2 (by omega), h8 3 (by omega)]
  cases x; rfl
theorem decR_enc {x : Lb} (hm : x.may) (hx : x.fits) : decR (encL x) = (x, 0) := by
  unfold decR
  rw [if_neg (by rw [encL_len]; simp), take_enc, decS_enc, if_neg (by simp), decX_enc hx, if_neg (by simpa using hm), if_neg (by simp)]

abbrev TgSh : Sh := .st [.int .i64, .int .i64, .int .i64, .int .i64, .int .i64, .int .i64, .int .i64, .int .i64, .st [.int .i64, .int .i64, .int .i64, .int .i64]]
theorem wf64 {n : Int} (h : (Lit.int .i64 n).wf = true) : In64 n := by
  simp only [Lit.wf, Bool.and_eq_true, decide_eq_true_eq] at h
  exact h
theorem tg_of {h : AHeap} {nx : Nat} {vs : List AV} (w : Ty h nx TgSh vs) : ∃ t : Tg, vs = t.row ∧ In64 t.s0 ∧ In64 t.s1 ∧ In64 t.s2 ∧ In64 t.s3 := by
  simp only [Ty, TyL] at w
  obtain ⟨ps, rfl, _, _, rfl, ⟨a, rfl, _⟩, _, _, rfl, ⟨b, rfl, _⟩, _, _, rfl, ⟨c, rfl, _⟩, _, _, rfl, ⟨d, rfl, _⟩, _, _, rfl, ⟨e, rfl, _⟩, _, _, rfl, ⟨f, rfl, _⟩, _, _, rfl, ⟨g, rfl, _⟩, _, _, rfl, ⟨i, rfl, _⟩, _, _, rfl, ⟨qs, rfl, _, _, rfl, ⟨j, rfl, wj⟩, _, _, rfl, ⟨k, rfl, wk⟩, _, _, rfl, ⟨l, rfl, wl⟩, _, _, rfl, ⟨m, rfl, wm⟩, rfl⟩, rfl⟩ := w
  exact ⟨⟨a, b, c, d, e, f, g, i, j, k, l, m⟩, rfl, wf64 wj, wf64 wk, wf64 wl, wf64 wm⟩
theorem eqRow (x : Lb) : eqCells x.row x.row = true := by simp [Lb.row, eqCells, eqA1]

theorem LabelBack_run (h : AHeap) (nx : Nat) (vs : List AV) (w : Ty h nx TgSh vs) : ∃ f h' nx', callP Try.prog keepT f Y0 3 [.agg vs] h nx = some (.bool true, h', nx') := by
  obtain ⟨t, rfl, w0, w1, w2, w3⟩ := tg_of w
  refine ⟨2001, ?_⟩
  show ∃ h' nx', callP Try.prog keepT (2000 + 1) Y0 3 [.agg [.int .i64 t.pool, .int .i64 t.drive, .int .i64 t.drives, .int .i64 t.parity, .int .i64 t.time, .int .i64 t.addr, .int .i64 t.count, .int .i64 t.bytes, .int .i64 t.s0, .int .i64 t.s1, .int .i64 t.s2, .int .i64 t.s3]] h nx = _
  rw [F3_eq]
  dsimp only
  generalize hh1 : h.put nx _ = h1
  have e1 : h1 nx = some ⟨t.row, 12, true⟩ := by rw [← hh1, put_same]; rfl
  rw [ldr_all e1 (n := 12) rfl, ag12]
  obtain ⟨h2, n2, r1, r2⟩ := labelOf_spec (f := 2000) (by omega) t h1 (nx + 6)
  unfold Tg.row at r1 ⊢
  simp only [mst_, mstL]
  rw [r1]
  simp only [mst_]
  rw [ag13]
  have hm := labelOf_may t
  have hf : (labelOf t).fits := may_fits hm w0 w1 w2 w3
  have hdr := decR_enc hm hf
  generalize labelOf t = X at *
  have l2 := r2.1
  obtain ⟨b, h4, n4, s1, s2, s3, s4, s5⟩ : ∃ b h4 n4, callP Try.prog keepT 2000 Y0 8 [.agg X.row] ((h2.put (nx + 4) (some ⟨lb0.row, 13, true⟩)).put (nx + 4) (some ⟨X.row, 13, true⟩)) (n2 + 7) = some (.tuple [.slice (some (b, 0)) 128 (some 128), .int .i64 0], h4, n4) ∧ Ext ((h2.put (nx + 4) (some ⟨lb0.row, 13, true⟩)).put (nx + 4) (some ⟨X.row, 13, true⟩)) (n2 + 7) h4 n4 ∧ n2 + 7 ≤ b ∧ b < n4 ∧ h4 b = some ⟨ints .u8 (encL X), 1, true⟩ := enc_ok (by omega) X hm _ _
  have e3 : h4 (nx + 4) = some ⟨X.row, 13, true⟩ := by rw [s2.2 _ (by omega), put_same]
  have l4 := s2.1
  have sl : Sl h4 (n4 + 8) (some (b, 0)) (encL X).length 1 (ints .u8 (encL X)) := ⟨by simp [ints], fun j hj => ⟨(b, 0), _, rfl, by simp only; omega, s5, rfl, by simp [ints], fun q hq => by simp⟩⟩
  obtain ⟨h5, n5, u1, u2⟩ := dec_spec (f := 2000) (by omega) (encL_len X) (encL_bytes X) (some 128) sl
  rw [hdr, encL_len] at u1
  simp only at u1
  have l5 := u2.1
  have pX : (h2.put (nx + 4) (some ⟨lb0.row, 13, true⟩)) (nx + 4) = some ⟨lb0.row, 13, true⟩ := put_same _ _ _
  obtain ⟨h7, n7, v1, v2⟩ := may_spec (f := 2000) (by omega) Y0 X ((h5.put (n4 + 5) (some ⟨lb0.row, 13, true⟩)).put (n4 + 5) (some ⟨X.row, 13, true⟩)) (n5 + 21)
  have e7 : h7 (nx + 4) = some ⟨X.row, 13, true⟩ := by rw [v2.2 _ (by omega), put_ne (by omega), put_ne (by omega), u2.2 _ (by omega), e3]
  have e8 : h7 (n4 + 5) = some ⟨X.row, 13, true⟩ := by rw [v2.2 _ (by omega), put_same]
  have pY : (h5.put (n4 + 5) (some ⟨lb0.row, 13, true⟩)) (n4 + 5) = some ⟨lb0.row, 13, true⟩ := put_same _ _ _
  have pE : ((h5.put (n4 + 5) (some ⟨lb0.row, 13, true⟩)).put (n4 + 5) (some ⟨X.row, 13, true⟩)) (nx + 4) = some ⟨X.row, 13, true⟩ := by rw [put_ne (by omega), put_ne (by omega), u2.2 _ (by omega), e3]
  have pZ : ((h2.put (nx + 4) (some ⟨lb0.row, 13, true⟩)).put (nx + 4) (some ⟨X.row, 13, true⟩)) (nx + 4) = some ⟨X.row, 13, true⟩ := put_same _ _ _
  have hq := eqRow X
  unfold Lb.row at *
  simp only [mst_, mstL]
  unfold lb0 at *
  simp only at pX pY pZ pE s1 u1 v1
  rw [st_all pX (n := 13) rfl rfl (by rfl), ldr_all pZ (n := 13) rfl]
  simp only [mst_, mstL]
  rw [s1]
  simp only [mst_]
  rw [u1]
  simp only [mst_, mstL]
  rw [st_all pY (n := 13) rfl rfl (by rfl), ldr_all pE (n := 13) rfl]
  simp only [mst_, mstL]
  rw [v1]
  simp only [mst_]
  rw [decide_eq_true hm, if_true', if_pos (by decide), if_pos (by decide), if_pos (by decide), ldr_all e8 (n := 13) rfl]
  simp only [mst_, mstL]
  rw [ldr_all e7 (n := 13) rfl]
  simp only [mst_, mstL]
  rw [hq]
  exact ⟨_, _, rfl⟩

end Go.Proofs.Ytkidbgfegnmhdaa.T
