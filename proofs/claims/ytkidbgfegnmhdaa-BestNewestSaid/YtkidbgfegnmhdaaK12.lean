/- Labels: the newest of sectors. -/
import Derived.Test.YtkidbgfegnmhdaaK11
set_option linter.unusedVariables false
set_option linter.unusedSimpArgs false
namespace Go.Proofs.Ytkidbgfegnmhdaa.T
open Go Go.RowKit Go.Proofs

/-- A sector in a list of sectors. -/
def Cel (h : AHeap) (nx : Nat) (A : Nat → Prop) (bs : List Int) (r : List AV) : Prop := ∃ v, r = [v] ∧ Bytes bs ∧ Byt .u8 h nx A v bs
theorem Cel.go {h h' : AHeap} {nx nx' : Nat} {A A' D : Nat → Prop} {bs : List Int} {r : List AV} (b : Cel h nx A bs r) (f : Frm D h nx h' nx') (d : ∀ i, i < nx → D i → A i) (g : ∀ i, i < nx → A' i → A i) : Cel h' nx' A' bs r := by
  obtain ⟨v, e, B, w⟩ := b
  exact ⟨v, e, B, w.go f d g⟩

noncomputable def bs1 (s : Lb × Int) (i : Int) (bs : List Int) : Lb × Int := if (decR bs).2 = 0 ∧ s.1.time < (decR bs).1.time then ((decR bs).1, i) else s
noncomputable def bestR : List (List Int) → Int → Lb × Int → Lb × Int
  | [], _, s => s
  | b :: l, i, s => bestR l (i + 1) (bs1 s i b)
theorem bestR_app : ∀ (l m : List (List Int)) (i : Int) (s : Lb × Int), bestR (l ++ m) i s = bestR m (i + l.length) (bestR l i s)
  | [], m, i, s => by simp [bestR]
  | b :: l, m, i, s => by simp only [List.cons_append, bestR, bestR_app l, List.length_cons]; congr 1; omega
def ansB (r : Lb × Int) : Lb × Int × Int := if r.2 < 0 then (lb0, 0, 6) else (r.1, r.2, 0)

theorem best_end {lf n0 : Nat} {f : Nat} {x12a : Option (Nat × Nat)} {x12c : Option Nat} {N : Nat} {x14 : Int} (s : Lb × Int) {h : AHeap} {nx : Nat} {b2 b5 : Nat} {z : List AV} (hz : z.length = 13) (h2 : h b2 = some ⟨z, 13, true⟩) (h5 : h b5 = some ⟨s.1.row, 13, true⟩) (hx : ¬ x14 < (N : Int)) :
    ∃ h' nx', F13_L1 (callP Try.prog keepT f) Y0 lf (n0 + 1) (some (b2, 0)) (some (b5, 0)) s.2 x12a N x12c (N : Int) x14 h nx = some (.tuple [.agg (ansB s).1.row, .int .i64 (ansB s).2.1, .int .i64 (ansB s).2.2], h', nx') := by
  rw [F13_L1_eq, if_neg (by rw [decide_eq_true_eq]; exact hx)]
  by_cases c : s.2 < 0
  · rw [if_pos (decide_eq_true c)]
    have e : ansB s = (lb0, 0, 6) := by unfold ansB; rw [if_pos c]
    rw [e]
    unfold lb0 Lb.row
    simp only [mst_, mstL]
    rw [st_all h2 (n := 13) rfl hz (by rfl), ldr_all (put_same _ _ _) (n := 13) rfl]
    simp only [agg13, mst_, mstL]
    exact ⟨_, _, rfl⟩
  · rw [if_neg (by rw [decide_eq_true_eq]; exact c)]
    have e : ansB s = (s.1, s.2, 0) := by unfold ansB; rw [if_neg c]
    rw [e]
    simp only [mst_]
    rw [ldr_all h5 (n := 13) rfl, ag13]
    unfold Lb.row
    simp only [mst_, mstL]
    rw [st_all h2 (n := 13) rfl hz (by rfl), ldr_all (put_same _ _ _) (n := 13) rfl]
    simp only [agg13, mst_, mstL]
    exact ⟨_, _, rfl⟩

theorem best_loop {f : Nat} (hf : 1100 ≤ f) {lf : Nat} {a : Option (Nat × Nat)} {c : Option Nat} {bss : List (List Int)} (hN : bss.length ≤ 1000) {h0 : AHeap} {nx0 : Nat} (w : Rows (Cel h0 nx0 fun _ => False) h0 nx0 (fun _ => False) a 1 bss) {b2 b5 : Nat} (l2 : nx0 ≤ b2) (l5 : nx0 ≤ b5) (h25 : b2 ≠ b5) (d : Nat) :
    ∀ (n0 k : Nat) (s : Lb × Int) (h : AHeap) (nx : Nat) (z : List AV), k + d = bss.length → d < n0 → z.length = 13 → h b2 = some ⟨z, 13, true⟩ → h b5 = some ⟨s.1.row, 13, true⟩ → b2 < nx → b5 < nx → Ext h0 nx0 h nx →
      ∃ h' nx', F13_L1 (callP Try.prog keepT f) Y0 lf n0 (some (b2, 0)) (some (b5, 0)) s.2 a bss.length c (bss.length : Int) (k : Int) h nx =
        some (.tuple [.agg (ansB (bestR (bss.drop k) k s)).1.row, .int .i64 (ansB (bestR (bss.drop k) k s)).2.1, .int .i64 (ansB (bestR (bss.drop k) k s)).2.2], h', nx') := by
  induction d with
  | zero =>
    intro n0 k s h nx z e hl hz e2 e5 _ _ _
    obtain ⟨n0, rfl⟩ : ∃ m, n0 = m + 1 := ⟨n0 - 1, by omega⟩
    rw [List.drop_of_length_le (by omega), bestR]
    exact best_end s hz e2 e5 (by omega)
  | succ d ih =>
    intro n0 k s h nx z e hl hz e2 e5 b2l b5l x
    obtain ⟨n0, rfl⟩ : ∃ m, n0 = m + 1 := ⟨n0 - 1, by omega⟩
    have hk : k < bss.length := by omega
    rw [F13_L1_eq, if_pos (decide_eq_true (by omega))]
    have w' : Rows (Cel h nx fun _ => False) h nx (fun _ => False) a 1 bss := w.go (x.fr fun _ => False) (fun _ _ q => q) (fun _ _ q => q) (fun b r q => q.go (x.fr fun _ => False) (fun _ _ q => q) (fun _ _ q => q))
    obtain ⟨r, ⟨v, rfl, hB, pa, pc, rfl, sl, _⟩, _, rd⟩ := w'.read0 (R := Res) (i := k) (x := bss[k]) (by simp [hk]) (by omega)
    rw [rd _ _ rfl]
    simp only [mst_]
    obtain ⟨h1, n1, u1, u2⟩ := dec_any (f := f) hf (nx := nx + 14) hB pc (Sl.ext sl (h' := h) (nx' := nx + 14) ⟨by omega, fun _ _ => rfl⟩)
    have hdrop : bss.drop k = bss[k] :: bss.drop (k + 1) := List.drop_eq_getElem_cons hk
    rw [hdrop, bestR]
    generalize bss[k] = B at *
    obtain ⟨X, z2, hr⟩ : ∃ X z, decR B = (X, z) := ⟨_, _, rfl⟩
    have hs1 : bs1 s (k : Int) B = if z2 = 0 ∧ s.1.time < X.time then (X, (k : Int)) else s := by unfold bs1; rw [hr]
    rw [hs1]
    rw [hr] at u1
    simp only at u1
    rw [u1]
    simp only [mst_]
    rw [ag13]
    have l1 := u2.1
    have k1 : (h1.put (nx + 11) (some ⟨lb0.row, 13, true⟩)) (nx + 11) = some ⟨lb0.row, 13, true⟩ := put_same _ _ _
    have k2 : ((h1.put (nx + 11) (some ⟨lb0.row, 13, true⟩)).put (nx + 11) (some ⟨X.row, 13, true⟩)) (nx + 11) = some ⟨X.row, 13, true⟩ := put_same _ _ _
    have keep : ∀ i, i < nx → ((h1.put (nx + 11) (some ⟨lb0.row, 13, true⟩)).put (nx + 11) (some ⟨X.row, 13, true⟩)) i = h i := fun i hi => by rw [put_ne (by omega), put_ne (by omega), u2.2 i (by omega)]
    have hw : wrapA .i64 ((k : Int) + 1) = ((k + 1 : Nat) : Int) := wsucc (i := k) (by omega)
    rw [hw, show ((k : Int) + 1) = ((k + 1 : Nat) : Int) by omega]
    have go := ih n0 (k + 1)
    generalize hH : (h1.put (nx + 11) (some ⟨lb0.row, 13, true⟩)).put (nx + 11) (some ⟨X.row, 13, true⟩) = H at *
    have hH' : (h1.put (nx + 11) (some ⟨[.int .i64 0, .int .i64 0, .int .i64 0, .int .i64 0, .int .i64 0, .int .i64 0, .int .i64 0, .int .i64 0, .int .i64 0, .int .i64 0, .int .i64 0, .int .i64 0, .int .i64 0], 13, true⟩)).put (nx + 11) (some ⟨X.row, 13, true⟩) = H := hH
    unfold Lb.row at k2 hH' ⊢
    unfold lb0 Lb.row at k1
    simp only [mst_, mstL]
    rw [st_all k1 (n := 13) rfl rfl (by rfl), hH']
    have e2' : H b2 = some ⟨z, 13, true⟩ := by rw [keep b2 b2l]; exact e2
    have e5' : H b5 = some ⟨s.1.row, 13, true⟩ := by rw [keep b5 b5l]; exact e5
    have x' : Ext h0 nx0 H (n1 + 11) := ⟨by have := x.1; omega, fun i hi => by rw [keep i (by have := x.1; omega)]; exact x.2 i hi⟩
    by_cases c0 : z2 = 0
    · subst c0
      rw [if_pos (show ((0 : Int) == 0) = true by rfl), ld_at k2 (v := .int .i64 X.time) rfl]
      simp only [mst_]
      rw [ld_at e5' (v := .int .i64 s.1.time) (by rfl)]
      simp only [mst_]
      by_cases c1 : s.1.time < X.time
      · rw [if_pos (decide_eq_true c1), if_pos ⟨trivial, c1⟩, ldr_all k2 (n := 13) rfl]
        simp only [agg13, mst_, mstL]
        rw [st_all e5' (n := 13) rfl rfl (by rfl)]
        refine go (X, (k : Int)) _ _ z (by omega) (by omega) hz (by rw [put_ne h25]; exact e2') (put_same _ _ _) (by omega) (by omega) ⟨by have := x.1; omega, fun i hi => by rw [put_ne (by omega)]; exact x'.2 i hi⟩
      · rw [if_neg (by rw [decide_eq_true_eq]; exact c1), if_neg (fun q => c1 q.2)]
        exact go s _ _ z (by omega) (by omega) hz e2' e5' (by omega) (by omega) x'
    · rw [if_neg (show ¬ (z2 == 0) = true by simpa using c0), if_neg (fun q => c0 q.1)]
      exact go s _ _ z (by omega) (by omega) hz e2' e5' (by omega) (by omega) x'

def lbm : Lb := ⟨0, 0, 0, 0, -1, 0, 0, 0, 0, 0, 0, 0, 0⟩
theorem best_spec {f : Nat} (hf : 1200 ≤ f) {a : Option (Nat × Nat)} (c : Option Nat) {bss : List (List Int)} (hN : bss.length ≤ 1000) {h0 : AHeap} {nx0 : Nat} (w : Rows (Cel h0 nx0 fun _ => False) h0 nx0 (fun _ => False) a 1 bss) :
    ∃ h' nx', callP Try.prog keepT f Y0 13 [.slice a bss.length c] h0 nx0 = some (.tuple [.agg (ansB (bestR bss 0 (lbm, -1))).1.row, .int .i64 (ansB (bestR bss 0 (lbm, -1))).2.1, .int .i64 (ansB (bestR bss 0 (lbm, -1))).2.2], h', nx') := by
  obtain ⟨f, rfl⟩ : ∃ m, f = m + 1 := ⟨f - 1, by omega⟩
  rw [F13_eq]
  dsimp only
  rw [st_all (put_same _ _ _) (n := 13) rfl rfl (by rfl)]
  exact best_loop (f := f) (by omega) hN w (b2 := nx0) (b5 := nx0 + 4) (by omega) (by omega) (by omega) bss.length f 0 (lbm, -1) _ _ lb0.row (by omega) (by omega) rfl (by rw [put_ne (by omega), put_ne (by omega), put_same]; rfl) (by rw [put_same]; rfl) (by omega) (by omega) ⟨by omega, fun i hi => by rw [put_ne (by omega), put_ne (by omega), put_ne (by omega)]⟩
end Go.Proofs.Ytkidbgfegnmhdaa.T
