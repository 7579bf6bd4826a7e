/- Labels: Encode, all of it. -/
import Derived.Test.YtkidbgfegnmhdaaK3
set_option linter.unusedVariables false
set_option linter.unusedSimpArgs false
namespace Go.Proofs.Ytkidbgfegnmhdaa.T
open Go Go.RowKit Go.Proofs

def Lb.ns (x : Lb) : List Int := [x.pool, x.drive, x.drives, x.parity, x.time, x.addr, x.count, x.bytes, x.birth, x.s0, x.s1, x.s2, x.s3]
theorem Lb.row_ns (x : Lb) : x.row = ints .i64 x.ns := rfl
theorem Lb.ns_len (x : Lb) : x.ns.length = 13 := rfl
/-- The first 68 bytes, and all that is sealed. -/
def encP (x : Lb) : List Int := les 4 (x.ns.take 9) ++ les 8 (x.ns.drop 9)
def encH (x : Lb) : List Int := encP x ++ List.replicate 28 0
theorem encP_len (x : Lb) : (encP x).length = 68 := by simp [encP, les_len, Lb.ns]
theorem encH_len (x : Lb) : (encH x).length = 96 := by simp [encH, encP_len]
theorem encH_bytes (x : Lb) : Bytes (encH x) := fun y hy => by
  simp only [encH, encP, List.mem_append] at hy
  rcases hy with (hy | hy) | hy
  · exact les_bytes _ _ y hy
  · exact les_bytes _ _ y hy
  · have := List.eq_of_mem_replicate hy; omega
noncomputable def sealS (l : List Int) : List Int := [wrapA .i64 (Sm.zero.fold (wordsOf l)).a, wrapA .i64 (Sm.zero.fold (wordsOf l)).b, wrapA .i64 (Sm.zero.fold (wordsOf l)).c, wrapA .i64 (Sm.zero.fold (wordsOf l)).d]
theorem sealS_cells (l : List Int) : ints .i64 (sealS l) = (Sm.zero.fold (wordsOf l)).cells := rfl
noncomputable def encL (x : Lb) : List Int := encH x ++ les 8 (sealS (encH x))
theorem encL_len (x : Lb) : (encL x).length = 128 := by simp [encL, encH_len, les_len, sealS]
theorem encL_bytes (x : Lb) : Bytes (encL x) := fun y hy => by
  simp only [encL, List.mem_append] at hy
  rcases hy with hy | hy
  · exact encH_bytes x y hy
  · exact les_bytes _ _ y hy

theorem cut96 (h : AHeap) (b n : Nat) (hn : n ≤ 96) : cutA h (some (b, 0)) n (some 128) 1 none (some (.int .i64 96)) none = some (some (b, 0), 96, some 128) := by
  have hm : max n 128 = 128 := by omega
  unfold cutA boundsD topOf
  simp [boundA, hm, shiftAddr]

theorem row_start {f : Nat} (x : Lb) (h : AHeap) (nx : Nat) {R : Option Res} (e : R = callP Try.prog keepT f Y0 8 [.agg x.row] h nx) : R = callP Try.prog keepT f Y0 8 [.agg [.int .i64 x.pool, .int .i64 x.drive, .int .i64 x.drives, .int .i64 x.parity, .int .i64 x.time, .int .i64 x.addr, .int .i64 x.count, .int .i64 x.bytes, .int .i64 x.birth, .int .i64 x.s0, .int .i64 x.s1, .int .i64 x.s2, .int .i64 x.s3]] h nx := e

theorem enc_no {f : Nat} (hf : 10 ≤ f) (x : Lb) (hx : ¬ x.may) (h : AHeap) (nx : Nat) : ∃ h' nx', callP Try.prog keepT f Y0 8 [.agg x.row] h nx = some (.tuple [.slice none 0 none, .int .i64 4], h', nx') ∧ Ext h nx h' nx' := by
  obtain ⟨f, rfl⟩ : ∃ m, f = m + 1 := ⟨f - 1, by omega⟩
  rw [row_start x h nx rfl, F8_eq]
  dsimp only
  generalize hh1 : h.put nx _ = h1
  have e1 : h1 nx = some ⟨x.row, 13, true⟩ := by rw [← hh1, put_same]; rfl
  have x1 : Ext h nx h1 (nx + 6) := ⟨by omega, fun i hi => by rw [← hh1, put_ne (by omega)]⟩
  rw [ldr_all e1 (n := 13) rfl]
  unfold Lb.row
  simp only [mst_, mstL]
  obtain ⟨h2, n2, r1, r2⟩ := may_spec (f := f) (by omega) Y0 x h1 (nx + 6)
  unfold Lb.row at r1
  rw [r1]
  simp only [mst_]
  rw [decide_eq_false hx, if_not_false']
  exact ⟨_, _, rfl, ⟨by have := r2.1; omega, fun i hi => by rw [r2.2 i (by omega), x1.2 i hi]⟩⟩

theorem enc_ok {f : Nat} (hf : 60 ≤ f) (x : Lb) (hx : x.may) (h : AHeap) (nx : Nat) : ∃ b h' nx', callP Try.prog keepT f Y0 8 [.agg x.row] h nx = some (.tuple [.slice (some (b, 0)) 128 (some 128), .int .i64 0], h', nx') ∧ Ext h nx h' nx' ∧ nx ≤ b ∧ b < nx' ∧ h' b = some ⟨ints .u8 (encL x), 1, true⟩ := by
  obtain ⟨f, rfl⟩ : ∃ m, f = m + 1 := ⟨f - 1, by omega⟩
  rw [row_start x h nx rfl, F8_eq]
  dsimp only
  generalize hh1 : h.put nx _ = h1
  have e1 : h1 nx = some ⟨x.row, 13, true⟩ := by rw [← hh1, put_same]; rfl
  have x1 : Ext h nx h1 (nx + 6) := ⟨by omega, fun i hi => by rw [← hh1, put_ne (by omega)]⟩
  rw [ldr_all e1 (n := 13) rfl]
  have er : ∀ (K : List AV → Option Res), (asAgg 13 (AV.agg x.row)).bind K = K x.row := fun K => by rw [asAgg_mk (n := 13) rfl, some_bind]
  rw [er]
  unfold Lb.row
  simp only [mst_, mstL]
  obtain ⟨h2, n2, r1, r2⟩ := may_spec (f := f) (by omega) Y0 x h1 (nx + 6)
  unfold Lb.row at r1
  rw [r1]
  simp only [mst_]
  rw [decide_eq_true hx, if_not_true', if_pos (by decide)]
  have hm0 : madeA [.int .u8 0] (Int.toNat 128 * 1) = bufC (les 4 (x.ns.take 0)) := by simp [madeA, bufC, ints, les]
  rw [hm0]
  have l2 := r2.1
  generalize hh3 : h2.put n2 _ = h3
  have x3 : Ext h1 (nx + 6) h3 (n2 + 4) := ⟨by omega, fun i hi => by rw [← hh3, put_ne (by omega), r2.2 i hi]⟩
  have b3 : h3 n2 = some ⟨bufC (les 4 (x.ns.take 0)), 1, true⟩ := by rw [← hh3, put_same]
  obtain ⟨h4, s1, s2⟩ := small_spec (f := f) (by omega) Y0 nx h3 (n2 + 4)
  rw [s1]
  simp only [mst_]
  rw [show asRow (AV.agg (ptrsL nx 0 9)) = some (ptrsL nx 0 9) from rfl, some_bind]
  have b4 := (s2.2 n2 (by omega)).trans b3
  have e4 : h4 nx = some ⟨ints .i64 x.ns, 13, true⟩ := by rw [s2.2 nx (by omega), x3.2 nx (by omega), e1]; rfl
  have x4 : Ext h nx h4 (n2 + 4 + 34) := ⟨by omega, fun i hi => by rw [s2.2 i (by omega), x3.2 i (by omega), x1.2 i hi]⟩
  have key := enc_l1 (f := f) (by omega) (Y := Y0) (g := f) (b := n2) (lb := nx) (by omega) x.ns_len (h0 := h4) (n0 := n2 + 4 + 34) (by omega) (by omega) e4 (P := fun r => ∃ b h' nx', r = some (.tuple [.slice (some (b, 0)) 128 (some 128), .int .i64 0], h', nx') ∧ Ext h nx h' nx' ∧ nx ≤ b ∧ b < nx' ∧ h' b = some ⟨ints .u8 (encL x), 1, true⟩) ?_ 9 f 0 h4 (n2 + 4 + 34) (by omega) (by omega) (Frm.refl _ _ _) b4
  · exact key
  intro h5 n5 fr5 b5
  have l5 := fr5.1
  simp only [mst_]
  obtain ⟨h6, t1, t2⟩ := sums_spec (f := f) (by omega) Y0 nx 9 h5 (n5 + 5)
  have t1' : callP Try.prog keepT f Y0 16 [.ptr (some (nx, 0 + 5 + 4))] h5 (n5 + 5) = _ := t1
  rw [t1']
  simp only [mst_]
  rw [show asRow (AV.agg (ptrsL nx 9 4)) = some (ptrsL nx 9 4) from rfl, some_bind]
  have e6 : h6 nx = some ⟨ints .i64 x.ns, 13, true⟩ := by rw [t2.2 nx (by omega), fr5.2 nx (by omega) (by omega)]; exact e4
  have b6 : h6 n2 = some ⟨bufC (les 4 (x.ns.take 9) ++ les 8 ((x.ns.drop 9).take 0)), 1, true⟩ := by rw [t2.2 n2 (by omega), b5]; simp [les]
  have key2 := enc_l2 (f := f) (by omega) (Y := Y0) (g := f) (b := n2) (lb := nx) (o := 9) (by omega) (pre := les 4 (x.ns.take 9)) (fs := x.ns.drop 9) rfl (by rw [les_len]; simp [Lb.ns]) (h0 := h6) (n0 := n5 + 5 + 15) (by omega) (by omega) e6 (fun i hi => by
    have hi' : i < 4 := hi
    rw [List.getElem_drop]; simp [ints, show 9 + i < x.ns.length by rw [Lb.ns_len]; omega]) (P := fun r => ∃ b h' nx', r = some (.tuple [.slice (some (b, 0)) 128 (some 128), .int .i64 0], h', nx') ∧ Ext h nx h' nx' ∧ nx ≤ b ∧ b < nx' ∧ h' b = some ⟨ints .u8 (encL x), 1, true⟩) ?_ 4 f 0 h6 (n5 + 5 + 15) (by omega) (by omega) (Frm.refl _ _ _) b6
  · have hz : les 8 ((x.ns.drop 9).take 0) = [] := by simp [les]
    rw [hz, List.append_nil] at key2
    exact key2
  intro h7 n7 lf7 fr7 b7
  have l7 := fr7.1
  have hp : les 4 (x.ns.take 9) ++ les 8 (x.ns.drop 9) = encP x := rfl
  rw [hp] at b7 ⊢
  rw [F8_L2_eq, if_neg (by decide), cut96 _ _ _ (by rw [encP_len]; omega), some_bind]
  have hbuf : bufC (encP x) = bufC (encH x) := by
    unfold bufC
    rw [encH_len, encP_len]
    unfold encH
    rw [List.append_assoc, List.replicate_append_replicate]
  rw [hbuf] at b7
  have sl7 : Sl h7 (n7 + 12) (some (n2, 0)) (encH x).length 1 (ints .u8 (encH x)) := by
    refine ⟨by simp [ints], fun j hj => ⟨(n2, 0), _, rfl, by simp only; omega, b7, rfl, by rw [bufC_len _ (by rw [encH_len]; omega), encH_len]; omega, fun q hq => ?_⟩⟩
    simp only [Nat.zero_add]
    unfold bufC
    rw [ints, List.map_append, List.getElem?_append_left (by simp; omega)]
  obtain ⟨h8, n8, u1, u2⟩ := ofb_spec (k := f) (encH x) 24 (encH_len x) (by omega) (encH_bytes x) (some 128) sl7
  rw [encH_len] at u1
  rw [u1]
  simp only [mst_]
  have l8 := u2.1
  rw [← sealS_cells]
  have es : ∀ (K : List AV → Option Res), (asAgg 4 (AV.agg (ints .i64 (sealS (encH x))))).bind K = K (ints .i64 (sealS (encH x))) := fun K => by rw [asAgg_mk (n := 4) rfl, some_bind]
  rw [es]
  obtain ⟨q0, q1, q2, q3, hq⟩ : ∃ q0 q1 q2 q3, sealS (encH x) = [q0, q1, q2, q3] := ⟨_, _, _, _, rfl⟩
  rw [hq]
  simp only [ints, List.map_cons, List.map_nil]
  simp only [mst_]
  rw [st_all (put_same h8 (n7 + 9) _) (by simp) (by simp) (by simp [allOne, AV.one]), put_put]
  generalize hh9 : h8.put (n7 + 9) _ = h9
  have e9 : h9 (n7 + 9) = some ⟨ints .i64 [q0, q1, q2, q3], 4, true⟩ := by rw [← hh9, put_same]; rfl
  have b9 : h9 n2 = some ⟨bufC (encH x), 1, true⟩ := by rw [← hh9, put_ne (by omega), u2.2 n2 (by omega)]; exact b7
  obtain ⟨h10, v1, v2⟩ := sums_spec (f := f) (by omega) Y0 (n7 + 9) 0 h9 (n8 + 2)
  rw [v1]
  simp only [mst_]
  rw [show asRow (AV.agg (ptrsL (n7 + 9) 0 4)) = some (ptrsL (n7 + 9) 0 4) from rfl, some_bind]
  have b10 : h10 n2 = some ⟨bufC (encH x ++ les 8 ([q0, q1, q2, q3].take 0)), 1, true⟩ := by rw [v2.2 n2 (by omega), b9]; simp [les]
  obtain ⟨h11, n11, w1, w2, w3⟩ := enc_l3 (f := f) (by omega) (Y := Y0) (g := f) (b := n2) (lb := n7 + 9) (o := 0) (by omega) (pre := encH x) (fs := [q0, q1, q2, q3]) rfl (by rw [encH_len]; omega) (h0 := h10) (n0 := n8 + 2 + 15) (by omega) (by omega) ((v2.2 (n7 + 9) (by omega)).trans e9) (fun i hi => by
    rw [Nat.zero_add, ints, List.getElem?_map, List.getElem?_eq_getElem hi]; rfl) 4 f 0 h10 (n8 + 2 + 15) (by omega) (by omega) (Frm.refl _ _ _) b10
  have hz : les 8 ([q0, q1, q2, q3].take 0) = [] := by simp [les]
  rw [hz, List.append_nil, encH_len] at w1
  have hel : encH x ++ les 8 [q0, q1, q2, q3] = encL x := by rw [← hq]; rfl
  rw [hel] at w1 w3
  rw [encL_len] at w1
  have l11 := w2.1
  refine ⟨n2, h11, n11, w1, ⟨by omega, fun i hi => ?_⟩, by omega, by omega, ?_⟩
  · rw [w2.2 i (by omega) (by omega), v2.2 i (by omega), ← hh9, put_ne (by omega), u2.2 i (by omega), fr7.2 i (by omega) (by omega), t2.2 i (by omega), fr5.2 i (by omega) (by omega), x4.2 i hi]
  · rw [w3]; unfold bufC; rw [encL_len]; simp

end Go.Proofs.Ytkidbgfegnmhdaa.T
