/- SpanCounts. -/
import Derived.Test.YtophneodoibcgaaX9
set_option linter.unusedVariables false
set_option linter.unusedSimpArgs false
namespace Go.Proofs.Ytophneodoibcgaa.T
open Go Go.RowKit Go.Proofs

/-! ### sizes are numbers of members -/
open Classical in
noncomputable def cnt (P : Int → Prop) (B : Nat) : Nat := (List.range B).countP fun (k : Nat) => decide (P (k : Int))
open Classical in
theorem cnt_succ (P : Int → Prop) (B : Nat) : cnt P (B + 1) = cnt P B + (if P (B : Int) then 1 else 0) := by
  unfold cnt
  rw [List.range_succ, List.countP_append]
  congr 1
  by_cases h : P (B : Int)
  · rw [if_pos h, List.countP_cons_of_pos (by simpa using h)]; rfl
  · rw [if_neg h, List.countP_cons_of_neg (by simpa using h)]; rfl
theorem cnt_or {P Q S : Int → Prop} (h : ∀ k, S k ↔ P k ∨ Q k) (d : ∀ k, ¬ (P k ∧ Q k)) : ∀ B, cnt S B = cnt P B + cnt Q B
  | 0 => by simp [cnt]
  | B + 1 => by
    rw [cnt_succ, cnt_succ, cnt_succ, cnt_or h d B]
    have h1 := h B
    have h2 := d B
    by_cases p : P (B : Int) <;> by_cases q : Q (B : Int) <;> by_cases t : S (B : Int) <;> simp [p, q, t] at h1 h2 ⊢ <;> omega
theorem cnt_none {P : Int → Prop} (h : ∀ k, ¬ P k) : ∀ B, cnt P B = 0
  | 0 => by simp [cnt]
  | B + 1 => by rw [cnt_succ, cnt_none h B, if_neg (h _)]
theorem cnt_le (P : Int → Prop) : ∀ B, cnt P B ≤ B
  | 0 => by simp [cnt]
  | B + 1 => by rw [cnt_succ]; have := cnt_le P B; split <;> omega
theorem cnt_range {a b : Nat} (h : a ≤ b) : ∀ B, cnt (fun k => (a : Int) ≤ k ∧ k < b) B = min B b - min B a
  | 0 => by simp [cnt]
  | B + 1 => by
    rw [cnt_succ, cnt_range h B]
    by_cases c : (a : Int) ≤ (B : Int) ∧ (B : Int) < b
    · rw [if_pos c]; omega
    · rw [if_neg c]; omega
theorem size_cnt {B : Nat} : ∀ {l : RL}, Cn l → (∀ r ∈ l, r.2 ≤ B) → sizeL l = (cnt (Hs l) B : Int)
  | [], _, _ => by rw [cnt_none (fun k => Hs_nil k)]; rfl
  | r :: l, c, hb => by
    have h1 := c.ok r List.mem_cons_self
    have h2 := hb r List.mem_cons_self
    rw [cnt_or (P := fun k => r.1 ≤ k ∧ k < r.2) (Q := Hs l) (fun k => Hs_cons r l k) (fun k ⟨p, q⟩ => by have := c.after q; omega) B]
    obtain ⟨a, ha⟩ : ∃ a : Nat, r.1 = a := ⟨r.1.toNat, by omega⟩
    obtain ⟨b, hb'⟩ : ∃ b : Nat, r.2 = b := ⟨r.2.toNat, by omega⟩
    have := size_cnt (B := B) c.tail fun x hx => hb x (List.mem_cons_of_mem _ hx)
    have e : sizeL (r :: l) = (r.2 - r.1) + sizeL l := rfl
    rw [e, this, ha, hb', cnt_range (by omega)]
    omega

theorem counts_j1 {f lf : Nat} (hf : 1200 ≤ f) {h : AHeap} {nx bx : Nat} {xa pa qa za ba : Option (Nat × Nat)} {xc pc qc zc bc : Option Nat} {x p q z : RL} {m : Nat} (hm : m ≤ 200) (wx : Set' 360 m x) (wp : Set' 360 m p) (wq : Set' 360 m q) (wz : Set' 360 m z)
    (sx : RS h nx xa x) (sp : RS h nx pa p) (sq : RS h nx qa q) (sz : RS h nx za z) (sb : RS h nx ba q) {r : Int × Int} (hr : 0 ≤ r.1 ∧ r.1 < r.2 ∧ r.2 ≤ 360) (hb : h bx = some ⟨[.int .i64 r.1, .int .i64 r.2], 2, true⟩) (hbx : bx < nx)
    (e1 : sizeL p = sizeL q + (r.2 - r.1)) (e2 : sizeL q + sizeL z = sizeL x) (e3 : 0 ≤ sizeL x ∧ sizeL x ≤ 360) (e4 : 0 ≤ sizeL q) (e5 : 0 ≤ sizeL z) :
    ∃ h' nx', F4_J1 (callP Try.prog keepT f) Y0 lf xa x.length xc (some (bx, 0)) pa p.length pc qa q.length qc za z.length zc ba q.length bc h nx = some (.bool true, h', nx') := by
  have mx : ∀ {l : RL}, Set' 360 m l → Set' MAXC m l := fun w => ⟨w.c, fun r hr => by have := w.b r hr; have hM : MAXC = 1048576 := rfl; omega, w.n⟩
  rw [F4_J1_eq]
  obtain ⟨h1, n1, r1, x1⟩ := size_spec (f := f) (by omega) Y0 xc hm (mx wx) (nx := nx + 3) (sx.ext ⟨by omega, fun _ _ => rfl⟩)
  have hx1 := x1.1
  rw [r1]
  simp only [mst_]
  have y1 : Ext h nx h1 (n1 + 34) := ⟨by omega, fun j hj => x1.2 j (by omega)⟩
  rw [if_pos (decide_eq_true e3.1), if_pos (show decide (sizeL x < 1048576) = true from decide_eq_true (by omega))]
  obtain ⟨h2, n2, r2, x2⟩ := size_spec (f := f) (by omega) Y0 pc hm (mx wp) (sp.ext y1)
  rw [r2]
  simp only [mst_]
  have y2 := y1.trans x2
  obtain ⟨h3, n3, r3, x3⟩ := size_spec (f := f) (by omega) Y0 qc hm (mx wq) (sq.ext y2)
  rw [r3]
  simp only [mst_]
  have y3 := y2.trans x3
  have eb := (y3.2 bx hbx).trans hb
  rw [ld_at eb (v := .int .i64 r.2) rfl]
  simp only [mst_]
  rw [ld_at eb (v := .int .i64 r.1) rfl]
  simp only [mst_]
  rw [wA (x := sizeL q + r.2) (by omega) (by omega), wA (x := sizeL q + r.2 - r.1) (by omega) (by omega), if_pos (show (sizeL p == sizeL q + r.2 - r.1) = true by rw [beq_iff_eq]; omega)]
  obtain ⟨h4, n4, r4, x4⟩ := size_spec (f := f) (by omega) Y0 qc hm (mx wq) (sq.ext y3)
  rw [r4]
  simp only [mst_]
  have y4 := y3.trans x4
  obtain ⟨h5, n5, r5, x5⟩ := size_spec (f := f) (by omega) Y0 zc hm (mx wz) (sz.ext y4)
  rw [r5]
  simp only [mst_]
  have y5 := y4.trans x5
  rw [wA (x := sizeL q + sizeL z) (by omega) (by omega), if_pos (show (sizeL q + sizeL z == sizeL x) = true by rw [beq_iff_eq]; exact e2)]
  have hql := wq.n
  obtain ⟨n6, r6, x6⟩ := same_spec (f := f) (by omega) Y0 bc qc (l := q) (by omega) (sb.ext y5) (sq.ext y5)
  rw [r6]
  simp only [mst_]
  have hx2 := x2.2 bx (by have := y1.1; omega)
  have hx3 := x3.2 bx (by have := y2.1; omega)
  rw [ifKept_pos (by
    refine ⟨fun j hj => ?_, fun j hj => ?_, fun j hj => ?_, fun j hj => ?_, trivial⟩ <;> simp at hj <;> subst hj
    · exact hx2
    · exact hx2
    · exact hx3
    · exact hx3)]
  exact ⟨_, _, rfl⟩

theorem SpanCounts_run (h : AHeap) (nx : Nat) (L : List Int) (hL : L.length * 8 ≤ 140737488351232) (_ : ∀ n ∈ L, (Lit.int .i64 n).wf = true) (a : Option (Nat × Nat)) (s : Sl h nx a L.length 1 (L.map (AV.int .i64)))
    (x1 : Int) (_ : (Lit.int .i64 x1).wf = true) (x2 : Int) (_ : (Lit.int .i64 x2).wf = true) :
    ∃ f h' nx', callP Try.prog keepT f Y0 4 [.slice a L.length none, .int .i64 x1, .int .i64 x2] h nx = some (.bool true, h', nx') := by
  refine ⟨2001, ?_⟩
  rw [F4_eq]
  obtain ⟨xa, xc, h1, n1, r1, w1, e1⟩ := set_spec (f := 2000) (by omega) Y0 none (n := 12) (nx := nx + 8) (by omega) (L := L) (s.ext ⟨by omega, fun _ _ => rfl⟩) (by omega)
  have hx1 := e1.1
  rw [show ((12 : Nat) : Int) = 12 from rfl] at r1
  rw [r1]
  simp only [mst_]
  have hl : ((pairsL L).take 12).length ≤ 12 := by rw [List.length_take]; omega
  have wx := (setL_ok 360 (by decide) ((pairsL L).take 12)).1.le hl
  have wxm := (setL_max ((pairsL L).take 12)).le hl
  generalize setL ((pairsL L).take 12) = X at *
  have hr := rangeP_ok (x1, x2)
  have hrm := rangeP_max (x1, x2)
  obtain ⟨h2, n2, r2, e2⟩ := range_spec (f := 2000) (by omega) Y0 (x1, x2) h1 (n1 + 5)
  have hx2 := e2.1
  rw [r2]
  simp only [mst_]
  generalize rangeP (x1, x2) = r at *
  rw [st_all (put_same _ _ _) (by rfl) (by rfl) (by rfl), put_put]
  obtain ⟨h3, hh3⟩ : ∃ h3, h3 = h2.put (n1 + 3) (some ⟨[.int .i64 r.1, .int .i64 r.2], 2, true⟩) := ⟨_, rfl⟩
  rw [← hh3]
  have b3 : h3 (n1 + 3) = some ⟨[.int .i64 r.1, .int .i64 r.2], 2, true⟩ := by rw [hh3, put_same]
  rw [ldr_all b3 (n := 2) rfl]
  simp only [mst_]
  have s3 : RS h3 (n2 + 8) xa X := w1.sl.ext ⟨by omega, fun j hj => by rw [hh3, put_ne (by omega)]; exact e2.2 j (by omega)⟩
  -- Add
  obtain ⟨pa, pc, h4, n4, r4, w4, e4⟩ := add_spec (f := 2000) (by omega) Y0 xc (by omega) wxm hrm s3
  have hx4 := e4.1
  rw [r4]
  simp only [mst_]
  have b4 := (e4.2 (n1 + 3) (by omega)).trans b3
  rw [ldr_all b4 (n := 2) rfl]
  simp only [mst_]
  have s4 : RS h4 (n4 + 8) xa X := s3.ext (e4.le (by omega))
  -- Cut
  obtain ⟨qa, qc, h5, n5, r5, w5, e5⟩ := cut_spec (f := 2000) (by omega) Y0 xc (by omega) wxm hrm s4
  have hx5 := e5.1
  rw [r5]
  simp only [mst_]
  have b5 := (e5.2 (n1 + 3) (by omega)).trans b4
  rw [ldr_all b5 (n := 2) rfl]
  simp only [mst_]
  -- Both
  obtain ⟨h6, hh6⟩ : ∃ h6, h6 = h5.put (n5 + 2) (some ⟨[.int .i64 r.1, .int .i64 r.2], 2, true⟩) := ⟨_, rfl⟩
  rw [← hh6]
  have x6 : Ext h5 n5 h6 (n5 + 9) := ⟨by omega, fun j hj => by rw [hh6, put_ne (by omega)]⟩
  have s6 : RS h6 (n5 + 9) xa X := (s4.ext e5).ext x6
  have sr : RS h6 (n5 + 9) (some (n5 + 2, 0)) [r] := RS.single (by rw [hh6, put_same]) (by omega)
  obtain ⟨za, zc, h7, n7, r7, w7, e7⟩ := both_spec (f := 2000) (by omega) Y0 xc (some 1) (by omega) wxm (Set'.one hrm) s6 sr
  have hx7 := e7.1
  have r7 : callP Try.prog keepT 2000 Y0 13 [.slice xa X.length xc, .slice (some (n5 + 2, 0)) 1 (some 1)] h6 (n5 + 9) = some (.tuple [.slice za (bothL X [r]).length zc, .int .i64 0], h7, n7) := r7
  rw [r7]
  simp only [mst_]
  have b6 : h6 (n1 + 3) = some ⟨[.int .i64 r.1, .int .i64 r.2], 2, true⟩ := by rw [hh6, put_ne (by omega)]; exact b5
  have b7 := (e7.2 (n1 + 3) (by omega)).trans b6
  rw [ldr_all b7 (n := 2) rfl]
  simp only [mst_]
  -- back
  obtain ⟨wp, hp⟩ := add_set wx hr
  obtain ⟨wq, hq⟩ := cut_set wx hr
  obtain ⟨wz, hz⟩ := both_set wx (Set'.one hr)
  obtain ⟨wpm, _⟩ := add_set wxm hrm
  obtain ⟨wb, hbk⟩ := cut_set wp hr
  have x57 : Ext h5 n5 h7 (n7 + 8) := (x6.trans e7).le (by omega)
  have s7p : RS h7 (n7 + 8) pa (addL X r) := (RS.ext w4.sl ((e5.le (Nat.le_refl _) : Ext h4 (n4 + 8) h5 n5) |> fun e => (⟨by omega, fun j hj => e.2 j (by omega)⟩ : Ext h4 n4 h5 n5))).ext x57
  obtain ⟨ba, bc, h8, n8, r8, w8, e8⟩ := cut_spec (f := 2000) (by omega) Y0 pc (by omega) wpm hrm s7p
  have hx8 := e8.1
  rw [r8]
  simp only [mst_]
  have hback : cutL (addL X r) r = cutL X r := Cn.uniq wb.c wq.c fun k => by
    rw [hbk, hp, hq]
    constructor
    · rintro ⟨q1 | q1, q2⟩
      · exact ⟨q1, q2⟩
      · exact absurd q1 q2
    · rintro ⟨q1, q2⟩; exact ⟨.inl q1, q2⟩
  rw [hback] at w8 ⊢
  have sizes : sizeL (addL X r) = sizeL (cutL X r) + (r.2 - r.1) ∧ sizeL (cutL X r) + sizeL (bothL X [r]) = sizeL X ∧ (0 ≤ sizeL X ∧ sizeL X ≤ 360) ∧ 0 ≤ sizeL (cutL X r) ∧ 0 ≤ sizeL (bothL X [r]) := by
    have c1 := size_cnt (B := 360) wp.c wp.b
    have c2 := size_cnt (B := 360) wq.c wq.b
    have c3 := size_cnt (B := 360) wz.c wz.b
    have c4 := size_cnt (B := 360) wx.c wx.b
    have c5 := size_cnt (B := 360) (Set'.one hr).c (Set'.one hr).b
    have i1 : ∀ k, Hs (addL X r) k ↔ Hs (cutL X r) k ∨ Hs [r] k := fun k => by
      rw [hp, hq, Hs_one]
      by_cases t : r.1 ≤ k ∧ k < r.2 <;> simp [t]
    have i2 : ∀ k, Hs X k ↔ Hs (cutL X r) k ∨ Hs (bothL X [r]) k := fun k => by
      rw [hz, hq, Hs_one]
      by_cases t : r.1 ≤ k ∧ k < r.2 <;> simp [t]
    have t1 := cnt_or i1 (fun k => by rw [hq, Hs_one]; rintro ⟨q1, q2⟩; exact q1.2 q2) 360
    have t2 := cnt_or i2 (fun k => by rw [hz, hq, Hs_one]; rintro ⟨q1, q2⟩; exact q1.2 q2.2) 360
    have t3 := cnt_le (Hs X) 360
    have e5 : sizeL [r] = r.2 - r.1 := by simp [sizeL]
    omega
  rw [if_neg (by decide), if_neg (by decide), if_neg (by decide), if_neg (by decide)]
  have e58 : Ext h5 n5 h8 (n8 + 18) := (x57.trans e8).le (by omega)
  have e78 : Ext h7 n7 h8 (n8 + 18) := ⟨by omega, fun j hj => e8.2 j (by omega)⟩
  have e45 : Ext h4 n4 h8 (n8 + 18) := ⟨by omega, fun j hj => (e58.2 j (by omega)).trans (e5.2 j (by omega))⟩
  exact counts_j1 (f := 2000) (lf := 2000) (by omega) (m := 13) (by omega) (wx.le (by omega)) (wp.le (by omega)) (wq.le (by omega)) (wz.le (by omega)) ((s4.ext e5).ext e58) (RS.ext w4.sl e45) (RS.ext w5.sl e58) (RS.ext w7.sl e78) (RS.ext w8.sl (⟨by omega, fun _ _ => rfl⟩ : Ext h8 n8 h8 (n8 + 18))) hr ((e58.2 (n1 + 3) (by omega)).trans b5) (by omega) sizes.1 sizes.2.1 sizes.2.2.1 sizes.2.2.2.1 sizes.2.2.2.2

end Go.Proofs.Ytophneodoibcgaa.T
