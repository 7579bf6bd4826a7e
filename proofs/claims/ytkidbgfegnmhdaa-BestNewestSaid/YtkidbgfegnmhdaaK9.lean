/- Labels: LabelFixed. -/
import Derived.Test.YtkidbgfegnmhdaaK8
set_option linter.unusedVariables false
set_option linter.unusedSimpArgs false
namespace Go.Proofs.Ytkidbgfegnmhdaa.T
open Go Go.RowKit Go.Proofs

theorem decR_cases (bs : List Int) : (∃ c : Int, c ≠ 0 ∧ decR bs = (lb0, c)) ∨ (bs.length = 128 ∧ (decX bs).may ∧ encL (decX bs) = bs ∧ decR bs = (decX bs, 0)) := by
  unfold decR
  by_cases h1 : bs.length ≠ 128
  · rw [if_pos h1]; exact .inl ⟨1, by decide, rfl⟩
  rw [if_neg h1]
  by_cases h2 : sealS (bs.take 96) ≠ decS bs
  · rw [if_pos h2]; exact .inl ⟨11, by decide, rfl⟩
  rw [if_neg h2]
  by_cases h3 : ¬ (decX bs).may
  · rw [if_pos h3]; exact .inl ⟨4, by decide, rfl⟩
  rw [if_neg h3]
  by_cases h4 : encL (decX bs) ≠ bs
  · rw [if_pos h4]; exact .inl ⟨4, by decide, rfl⟩
  rw [if_neg h4]
  exact .inr ⟨by omega, Decidable.not_not.1 h3, Classical.not_not.1 h4, rfl⟩

theorem dec_any {f : Nat} (hf : 1100 ≤ f) {bs : List Int} (hb : Bytes bs) {a : Option (Nat × Nat)} (c : Option Nat) {h : AHeap} {nx : Nat} (sl : Sl h nx a bs.length 1 (ints .u8 bs)) :
    ∃ h' nx', callP Try.prog keepT f Y0 9 [.slice a bs.length c] h nx = some (.tuple [.agg (decR bs).1.row, .int .i64 (decR bs).2], h', nx') ∧ Ext h nx h' nx' := by
  by_cases hl : bs.length = 128
  · exact dec_spec hf hl hb c sl
  obtain ⟨f, rfl⟩ : ∃ m, f = m + 1 := ⟨f - 1, by omega⟩
  have hr : decR bs = (lb0, 1) := by unfold decR; rw [if_pos hl]
  rw [F9_eq, if_pos (by rw [bne_iff_ne]; omega), hr]
  dsimp only
  have k1 : (h.put nx (some ⟨lb0.row, 13, true⟩)) nx = some ⟨lb0.row, 13, true⟩ := put_same _ _ _
  exact ans_tail (P := fun r => ∃ h' nx', r = some (.tuple [.agg lb0.row, .int .i64 1], h', nx') ∧ Ext h nx h' nx') k1 rfl lb0 1 (nx + 8) ⟨_, _, rfl, ⟨by omega, fun i hi => by rw [put_ne (by omega), put_ne (by omega)]⟩⟩

theorem wf8 {l : List Int} (h : ∀ n ∈ l, (Lit.int .u8 n).wf = true) : Bytes l := fun x hx => by
  have := h x hx
  simp only [Lit.wf, Bool.and_eq_true, decide_eq_true_eq] at this
  have h1 : (0 : Int) ≤ x := this.1
  have h2 : x ≤ 255 := this.2
  omega
def tg0 : Tg := ⟨0, 0, 0, 0, 0, 0, 0, 0, 0, 0, 0, 0⟩

theorem LabelFixed_run (h : AHeap) (nx : Nat) (bs : List Int) (gb : bs.length * 1 ≤ 140737488351232) (wb : ∀ n ∈ bs, (Lit.int .u8 n).wf = true) (a : Option (Nat × Nat)) (sl : Sl h nx a bs.length 1 (bs.map (AV.int .u8))) :
    ∃ f h' nx', callP Try.prog keepT f Y0 4 [.slice a bs.length none] h nx = some (.bool true, h', nx') := by
  have hB := wf8 wb
  refine ⟨3001, ?_⟩
  rw [F4_eq]
  obtain ⟨rd, src⟩ := sl.src'
  rw [src]
  simp only [mst_]
  obtain ⟨e2, p1, p2, p3, p4⟩ := copyOf (h := h) (nx := nx) (n := bs.length) (es := 1) (bytes := 1) (id := nx + 2) (vs := ints .u8 bs) (rd := rd) (by simp [ints]) (by unfold growOk; simp only [Bool.and_eq_true, decide_eq_true_eq]; omega) (by omega)
  have p1' : appD h none 0 none 1 1 (nx + 2) (bs.length, List.map (AV.int .u8) bs, rd) = some e2 := p1
  rw [p1']
  simp only [mst_]
  rw [p2]
  have sl3 : Sl (h.puts e2.sets) (nx + 10) e2.a bs.length 1 (ints .u8 bs) := p3.sl.ext ⟨by omega, fun _ _ => rfl⟩
  have x3 : Ext h nx (h.puts e2.sets) (nx + 10) := p4.le (by omega)
  generalize h.puts e2.sets = h3 at *
  obtain ⟨h4, n4, u1, u2⟩ := dec_any (f := 3000) (by omega) hB e2.c sl3
  have hcs := decR_cases bs
  obtain ⟨X, z, hr⟩ : ∃ X z, decR bs = (X, z) := ⟨_, _, rfl⟩
  rw [hr] at u1 hcs
  simp only at u1
  rw [u1]
  simp only [mst_]
  have l4 := u2.1
  rw [ag13]
  have k1 : (h4.put (nx + 7) (some ⟨lb0.row, 13, true⟩)) (nx + 7) = some ⟨lb0.row, 13, true⟩ := put_same _ _ _
  obtain ⟨h6, n6, v1, v2⟩ := labelOf_spec (f := 3000) (by omega) tg0 ((h4.put (nx + 7) (some ⟨lb0.row, 13, true⟩)).put (nx + 7) (some ⟨X.row, 13, true⟩)) (n4 + 4)
  obtain ⟨h7, n7, w1, w2⟩ := may_spec (f := 3000) (by omega) Y0 (labelOf tg0) h6 n6
  have hm := labelOf_may tg0
  have l6 := v2.1
  have l7 := w2.1
  have e7 : h7 (nx + 7) = some ⟨X.row, 13, true⟩ := by rw [w2.2 _ (by omega), v2.2 _ (by omega), put_same]
  have sl7 : Sl h7 nx a bs.length 1 (ints .u8 bs) := Sl.ext (vs := ints .u8 bs) sl ⟨Nat.le_refl _, fun i hi => by rw [w2.2 i (by have := x3.1; omega), v2.2 i (by have := x3.1; omega), put_ne (by omega), put_ne (by omega), u2.2 i (by have := x3.1; omega), x3.2 i hi]⟩
  generalize labelOf tg0 = Z at *
  have hq0 := eqRow lb0
  -- Encode, of what was decoded
  have enc : z = 0 → ∃ b h9 n9, callP Try.prog keepT 3000 Y0 8 [.agg X.row] h7 (n7 + 9) = some (.tuple [.slice (some (b, 0)) 128 (some 128), .int .i64 0], h9, n9) ∧ Ext h7 (n7 + 9) h9 n9 ∧ n7 + 9 ≤ b ∧ b < n9 ∧ h9 b = some ⟨ints .u8 bs, 1, true⟩ ∧ bs.length = 128 := fun hz => by
    rcases hcs with ⟨c, hc, e⟩ | ⟨hl, c2, c3, e⟩
    · simp only [Prod.mk.injEq] at e; exact absurd (e.2.symm.trans hz) hc
    · simp only [Prod.mk.injEq] at e
      rw [← e.1] at c2 c3
      obtain ⟨b, h9, n9, r1, r2, r3, r4, r5⟩ := enc_ok (f := 3000) (by omega) X c2 h7 (n7 + 9)
      rw [c3] at r5
      exact ⟨b, h9, n9, r1, r2, r3, r4, r5, hl⟩
  have bad : z ≠ 0 → X = lb0 := fun hz => by
    rcases hcs with ⟨c, hc, e⟩ | ⟨hl, c2, c3, e⟩
    · simp only [Prod.mk.injEq] at e; exact e.1
    · simp only [Prod.mk.injEq] at e; exact absurd e.2 hz
  by_cases hz : z = 0
  case neg =>
    have hX := bad hz
    subst hX
    clear enc bad hcs
    unfold tg0 Tg.row at v1
    unfold lb0 Lb.row at *
    simp only at v1 w1 k1 e7 hq0
    simp only [mst_, mstL]
    rw [st_all k1 (n := 13) rfl rfl (by rfl), v1]
    simp only [mst_, mstL]
    rw [w1]
    simp only [mst_]
    rw [decide_eq_true hm, if_not_true', if_pos (by rw [bne_iff_ne]; exact hz), ldr_all e7 (n := 13) rfl]
    simp only [mst_, mstL]
    rw [hq0]
    exact ⟨_, _, rfl⟩
  obtain ⟨b, h9, n9, r1, r2, r3, r4, r5, hl⟩ := enc hz
  have l9 := r2.1
  have se : Sl h9 (n9 + 8) (some (b, 0)) bs.length 1 (ints .u8 bs) := ⟨by simp [ints], fun j hj => ⟨(b, 0), _, rfl, by simp only; omega, r5, rfl, by simp [ints], fun q hq => by simp⟩⟩
  have sl9 : Sl h9 (n9 + 8) a bs.length 1 (ints .u8 bs) := Sl.ext (vs := ints .u8 bs) sl7 ⟨by have := x3.1; omega, fun i hi => r2.2 i (by have := x3.1; omega)⟩
  obtain ⟨m, lm, e1⟩ := same_spec (f := 3000) Y0 none (some 128) sl9 se (by omega) (by omega) (n9 + 8)
  rw [hl] at e1
  clear enc bad hcs
  unfold tg0 Tg.row at v1
  unfold lb0 at *
  unfold Lb.row at *
  simp only at v1 w1 k1 e7
  simp only [mst_, mstL]
  rw [st_all k1 (n := 13) rfl rfl (by rfl), v1]
  simp only [mst_, mstL]
  rw [w1]
  simp only [mst_]
  rw [decide_eq_true hm, if_not_true', if_neg (by rw [bne_iff_ne]; exact fun q => q hz), ldr_all e7 (n := 13) rfl]
  simp only [mst_, mstL]
  rw [r1]
  simp only [mst_]
  rw [if_pos (by decide), hl, e1]
  simp only [mst_]
  exact ⟨_, _, by rw [show decide True = true from rfl]⟩

end Go.Proofs.Ytkidbgfegnmhdaa.T
