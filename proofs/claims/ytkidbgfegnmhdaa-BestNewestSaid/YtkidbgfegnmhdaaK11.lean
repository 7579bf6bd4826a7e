/- Labels: LabelTouched. -/
import Derived.Test.YtkidbgfegnmhdaaK10
set_option linter.unusedVariables false
set_option linter.unusedSimpArgs false
namespace Go.Proofs.Ytkidbgfegnmhdaa.T
open Go Go.RowKit Go.Proofs

theorem xor8 (a b : Int) : 0 ≤ bits .xor .u8 a b ∧ bits .xor .u8 a b < 256 := by
  unfold bits
  simp only
  rw [IntKind.wrap_u8]; omega

/-- Some bytes are turned, all within a word. -/
theorem tch_loop {P : Option Res → Prop} {f : Nat} {Y : YldF} {g w : Nat} {a2 x7 : Option (Nat × Nat)} {c2 c7 c9 : Option Nat} {n7 cb n0 n1 : Nat} {l2 b : List Int} {h0 : AHeap} (hl2 : l2.length ≤ 4000000000000000000) (hb : b.length = 128) (hw : w < 32) (s2 : Sl h0 n0 a2 l2.length 1 (ints .u8 l2)) (hcb : n0 ≤ cb)
    (next : ∀ (h : AHeap) (nx : Nat) (cs : List Int), cs.length = 128 → Bytes cs → (∀ j, j < 4 * w ∨ 4 * w + 4 ≤ j → cs[j]? = b[j]?) → (∀ i, i ≠ cb → h i = h0 i) → h cb = some ⟨ints .u8 cs, 1, true⟩ → n1 ≤ nx → P (F5_J4 (callP Try.prog keepT f) Y g x7 n7 c7 (some (cb, 0)) 128 c9 h nx)) (d : Nat) :
    ∀ (lf k : Nat) (cs : List Int) (h : AHeap) (nx : Nat), k + d = 4 → d < lf → cs.length = 128 → Bytes cs → (∀ j, j < 4 * w ∨ 4 * w + 4 ≤ j → cs[j]? = b[j]?) → (∀ i, i ≠ cb → h i = h0 i) → h cb = some ⟨ints .u8 cs, 1, true⟩ → n1 ≤ nx →
      P (F5_L2 (callP Try.prog keepT f) Y g lf a2 l2.length c2 x7 n7 c7 (some (cb, 0)) 128 c9 ((4 * w : Nat) : Int) (k : Int) h nx) := by
  induction d with
  | zero =>
    intro lf k cs h nx e hl h1 h2 h3 h4 h5 h6
    obtain ⟨lf, rfl⟩ : ∃ m, lf = m + 1 := ⟨lf - 1, by omega⟩
    obtain rfl : k = 4 := by omega
    rw [F5_L2_eq, if_neg (by decide)]
    exact next h _ cs h1 h2 h3 h4 h5 (by omega)
  | succ d ih =>
    intro lf k cs h nx e hl h1 h2 h3 h4 h5 h6
    obtain ⟨lf, rfl⟩ : ∃ m, lf = m + 1 := ⟨lf - 1, by omega⟩
    rw [F5_L2_eq, if_pos (decide_eq_true (by omega))]
    by_cases ck : k < l2.length
    case neg =>
      rw [if_neg (by rw [decide_eq_true_eq]; omega)]
      exact next h _ cs h1 h2 h3 h4 h5 (by omega)
    have hi : 4 * w + k < cs.length := by omega
    have hcell : (ints .u8 cs)[4 * w + k]? = some (.int .u8 cs[4 * w + k]) := by simp [ints, hi]
    have hwk : wrapA .i64 (((4 * w : Nat) : Int) + (k : Int)) = ((4 * w + k : Nat) : Int) := by rw [wA (by omega) (by omega)]; omega
    rw [if_pos (decide_eq_true (by omega)), F5_J3_eq, hwk]
    simp only [mst_]
    rw [if_pos ⟨by omega, by omega⟩, Int.toNat_natCast, Nat.mul_one, Nat.zero_add, ld_at h5 hcell]
    simp only [mst_]
    have s2' : Sl h n0 a2 l2.length 1 (ints .u8 l2) := s2.ext ⟨Nat.le_refl _, fun i hi => h4 i (by omega)⟩
    rw [s2'.read0 (v := .int .u8 l2[k]) (i := k) (by omega) (by omega) (by omega) (by simp [ints, ck])]
    simp only [mst_]
    have hx := xor8 cs[4 * w + k] l2[k]
    generalize bits .xor .u8 cs[4 * w + k] l2[k] = z at *
    rw [if_pos ⟨by omega, by omega⟩, st_to h5 (cs' := ints .u8 (cs.set (4 * w + k) z)) rfl (by simp [ints]; omega) (by unfold ints; rw [List.map_set]), wsucc (i := k) (by omega)]
    refine ih lf (k + 1) (cs.set (4 * w + k) z) _ _ (by omega) (by omega) (by simpa using h1) (fun y hy => ?_) (fun j hj => ?_) (fun i hi => (put_ne hi).trans (h4 i hi)) (put_same _ _ _) (by omega)
    · rcases List.mem_or_eq_of_mem_set hy with hy | rfl
      · exact h2 y hy
      · exact hx
    · rw [List.getElem?_set_ne (by omega)]; exact h3 j hj

theorem LabelTouched_run (h : AHeap) (nx : Nat) (vs : List AV) (w : Ty h nx TgSh vs) (x1 : Int) (_ : (Lit.int .i64 x1).wf = true) (l2 : List Int) (g2 : l2.length * 1 ≤ 140737488351232) (_ : ∀ n ∈ l2, (Lit.int .u8 n).wf = true) (a2 : Option (Nat × Nat)) (sl2 : Sl h nx a2 l2.length 1 (l2.map (AV.int .u8))) :
    ∃ f h' nx', callP Try.prog keepT f Y0 5 [.agg vs, .int .i64 x1, .slice a2 l2.length none] h nx = some (.bool true, h', nx') := by
  obtain ⟨t, rfl, w0, w1, w2, w3⟩ := tg_of w
  refine ⟨3001, ?_⟩
  show ∃ h' nx', callP Try.prog keepT (3000 + 1) Y0 5 [.agg [.int .i64 t.pool, .int .i64 t.drive, .int .i64 t.drives, .int .i64 t.parity, .int .i64 t.time, .int .i64 t.addr, .int .i64 t.count, .int .i64 t.bytes, .int .i64 t.s0, .int .i64 t.s1, .int .i64 t.s2, .int .i64 t.s3], .int .i64 x1, .slice a2 l2.length none] h nx = _
  rw [F5_eq]
  dsimp only
  generalize hh1 : h.put nx _ = h1
  have e1 : h1 nx = some ⟨t.row, 12, true⟩ := by rw [← hh1, put_same]; rfl
  have x1' : ∀ i, i < nx → h1 i = h i := fun i hi => by rw [← hh1, put_ne (by omega)]
  rw [ldr_all e1 (n := 12) rfl, ag12]
  have hm := labelOf_may t
  have hf := may_fits hm w0 w1 w2 w3
  have hdr := decR_enc hm hf
  have lo := fun (n : Nat) => labelOf_spec (f := 3000) (by omega) t h1 n
  unfold Tg.row at lo ⊢
  simp only [mst_, mstL]
  obtain ⟨h2, n2, r1, r2⟩ := lo (nx + 10)
  rw [r1]
  simp only [mst_]
  rw [ag13]
  generalize labelOf t = X at *
  have l2' := r2.1
  obtain ⟨b, h4, n4, s1, s2, s3, s4, s5⟩ := enc_ok (f := 3000) (by omega) X hm h2 n2
  have l4 := s2.1
  unfold Lb.row at s1 ⊢
  simp only [mst_, mstL]
  rw [s1]
  simp only [mst_]
  rw [if_neg (by decide), if_neg (by decide), F5_J1_eq]
  have slb : Sl h4 n4 (some (b, 0)) (encL X).length 1 (ints .u8 (encL X)) := ⟨by simp [ints], fun j hj => ⟨(b, 0), _, rfl, s4, s5, rfl, by simp [ints], fun q hq => by simp⟩⟩
  obtain ⟨rd, src⟩ := slb.src'
  rw [encL_len] at src
  rw [src]
  simp only [mst_]
  obtain ⟨e2, p1, p2, p3, p4⟩ := copyOf (h := h4) (nx := n4 + 7 + 1) (n := 128) (es := 1) (bytes := 1) (id := n4 + 7 + 1) (vs := ints .u8 (encL X)) (rd := rd) (by simp [ints, encL_len]) (growOk_of (by omega) (by omega)) (by omega)
  rw [p1]
  simp only [mst_]
  obtain ⟨cb, hcb, cb1, cb2, cb3⟩ : ∃ cb, e2.a = some (cb, 0) ∧ n4 + 8 ≤ cb ∧ cb < n4 + 9 ∧ (h4.puts e2.sets) cb = some ⟨ints .u8 (encL X), 1, true⟩ := by
    rcases p3.2 with ⟨_, q⟩ | ⟨i, q1, q2, q3, q4⟩
    · omega
    · exact ⟨i, q1, by omega, by omega, q4⟩
  rw [hcb, p2]
  have x5 : ∀ i, i < n4 + 8 → (h4.puts e2.sets) i = h4 i := fun i hi => p4.2 i (by omega)
  generalize h4.puts e2.sets = h5 at *
  have hpw := pickL_in (x := x1) (n := 32) (by omega)
  rw [picked_spec (f := 3000) (by omega) Y0 x1 32 (by omega) (by omega)]
  simp only [mst_]
  obtain ⟨wd, hwd⟩ : ∃ wd : Nat, pickL x1 32 = (wd : Int) := ⟨(pickL x1 32).toNat, by omega⟩
  rw [hwd, show wrapA .i64 (4 * (wd : Int)) = ((4 * wd : Nat) : Int) by rw [wA (by omega) (by omega)]; omega]
  have s2h : Sl h5 nx a2 l2.length 1 (ints .u8 l2) := Sl.ext (vs := ints .u8 l2) sl2 ⟨Nat.le_refl _, fun i hi => by rw [x5 i (by omega), s2.2 i (by omega), r2.2 i (by omega), x1' i hi]⟩
  refine tch_loop (P := fun r => ∃ h' nx', r = some (.bool true, h', nx')) (f := 3000) (Y := Y0) (g := 3000) (w := wd) (b := encL X) (x7 := some (b, 0)) (c7 := some 128) (c9 := e2.c) (c2 := none) (n7 := 128) (cb := cb) (n0 := nx) (n1 := n4 + 9) (by omega) (encL_len X) (by omega) s2h (by omega) (fun h7 n7 cs q1 q2 q3 q4 q5 nn => ?_) 4 3000 0 (encL X) h5 _ (by omega) (by omega) (encL_len X) (encL_bytes X) (fun j _ => rfl) (fun _ _ => rfl) cb3 (by omega)
  have e7 : h7 b = some ⟨ints .u8 (encL X), 1, true⟩ := by rw [q4 b (by omega), x5 b (by omega)]; exact s5
  rw [F5_J4_eq]
  have slc : Sl h7 (n7 + 8) (some (cb, 0)) cs.length 1 (ints .u8 cs) := ⟨by simp [ints], fun j hj => ⟨(cb, 0), _, rfl, by simp only; omega, q5, rfl, by simp [ints], fun q hq => by simp⟩⟩
  obtain ⟨h8, n8, u1, u2⟩ := dec_any (f := 3000) (by omega) q2 e2.c slc
  rw [q1] at u1
  obtain ⟨Z, z, hz⟩ : ∃ Z z, decR cs = (Z, z) := ⟨_, _, rfl⟩
  rw [hz] at u1
  simp only at u1
  rw [u1]
  simp only [mst_]
  have l8 := u2.1
  rw [ag13]
  have k1 : (h8.put (n7 + 5) (some ⟨lb0.row, 13, true⟩)) (n7 + 5) = some ⟨lb0.row, 13, true⟩ := put_same _ _ _
  have pZ : ((h8.put (n7 + 5) (some ⟨lb0.row, 13, true⟩)).put (n7 + 5) (some ⟨Z.row, 13, true⟩)) (n7 + 5) = some ⟨Z.row, 13, true⟩ := put_same _ _ _
  have keep : ∀ i, i < n7 + 5 → ((h8.put (n7 + 5) (some ⟨lb0.row, 13, true⟩)).put (n7 + 5) (some ⟨Z.row, 13, true⟩)) i = h7 i := fun i hi => by rw [put_ne (by omega), put_ne (by omega), u2.2 i (by omega)]
  have sb : Sl ((h8.put (n7 + 5) (some ⟨lb0.row, 13, true⟩)).put (n7 + 5) (some ⟨Z.row, 13, true⟩)) (n7 + 5) (some (b, 0)) (encL X).length 1 (ints .u8 (encL X)) := ⟨by simp [ints], fun j hj => ⟨(b, 0), _, rfl, by simp only; omega, by rw [keep b (by omega)]; exact e7, rfl, by simp [ints], fun q hq => by simp⟩⟩
  have sc : Sl ((h8.put (n7 + 5) (some ⟨lb0.row, 13, true⟩)).put (n7 + 5) (some ⟨Z.row, 13, true⟩)) (n7 + 5) (some (cb, 0)) cs.length 1 (ints .u8 cs) := ⟨by simp [ints], fun j hj => ⟨(cb, 0), _, rfl, by simp only; omega, by rw [keep cb (by omega)]; exact q5, rfl, by simp [ints], fun q hq => by simp⟩⟩
  obtain ⟨m, lm, e1'⟩ := same_spec (f := 3000) Y0 (some 128) e2.c sb sc (by rw [encL_len]; omega) (by rw [encL_len]; omega) (n8 + 3)
  rw [encL_len, q1] at e1'
  have hq0 := eqRow lb0
  by_cases ce : cs = encL X
  · rw [ce, hdr] at hz
    simp only [Prod.mk.injEq] at hz
    obtain ⟨rfl, rfl⟩ := hz
    rw [ce, show decide (encL X = encL X) = true by simp] at e1'
    clear hq0
    unfold lb0 Lb.row at *
    simp only at k1 pZ e1'
    simp only [mst_, mstL]
    rw [st_all k1 (n := 13) rfl rfl (by rfl), e1']
    simp only [mst_]
    exact ⟨_, _, rfl⟩
  · have ht := touched q1 q2 (by omega) q3 ce
    rw [hz] at ht
    simp only [Prod.mk.injEq] at ht
    obtain ⟨rfl, rfl⟩ := ht
    rw [decide_eq_false (fun q => ce q.symm)] at e1'
    unfold lb0 Lb.row at *
    simp only at k1 pZ e1' hq0
    simp only [mst_, mstL]
    rw [st_all k1 (n := 13) rfl rfl (by rfl), e1']
    simp only [mst_]
    rw [if_pos (by decide), ldr_all pZ (n := 13) rfl]
    simp only [mst_, mstL]
    rw [hq0]
    exact ⟨_, _, rfl⟩

end Go.Proofs.Ytkidbgfegnmhdaa.T
