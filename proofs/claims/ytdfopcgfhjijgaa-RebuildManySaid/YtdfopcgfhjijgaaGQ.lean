import Derived.Test.YtdfopcgfhjijgaaGR
set_option linter.unusedVariables false
set_option linter.unusedSimpArgs false
namespace Go.Proofs.Ytdfopcgfhjijgaa.T
open Go Go.RowKit Go.Proofs

theorem GM.cut {R : Type} {h : AHeap} {lo nm n W hd : Nat} {bl : Nat → Nat} {cl : Nat → Bool} {M : Fm} (g : GM h lo nm n W hd bl cl M) (xc : Bool) {r : Nat} (hr : r ≤ n) :
    ∃ a' cc, cutA h (some (hd, 0)) n xc 1 (some (.int .i64 (r : Int))) none none = some (a', n - r, cc) ∧ ∀ i, r + i < n → ∀ K : AV → Option R, (a'.bind fun p => if 0 ≤ (i : Int) ∧ (i : Int) < ((n - r : Nat) : Int) then (ldA h p.1 (p.2 + Int.toNat (i : Int) * 1)).bind K else none) = K (.slice (some (bl (r + i), 0)) W (cl (r + i))) := by
  have s : Sl h nm (some (hd, 0)) n 1 (hrow n W bl cl) := Sl.ofBlk g.hdr (by rw [hrow_len, Nat.mul_one]) g.hdm
  obtain ⟨c1, c2, _⟩ := s.cut xc (lo := r) (hi := n) (l := some (.int .i64 (r : Int))) (r := none) hr (Nat.le_refl _) (bound_some hr) bound_none
  refine ⟨_, _, c1, fun i hi K => c2.read0 (by omega) (by omega) (by omega) (v := .slice (some (bl (r + i), 0)) W (cl (r + i))) ?_ K⟩
  rw [Int.toNat_natCast, Nat.mul_one, Nat.mul_one, List.getElem?_take, if_pos (by omega), List.getElem?_drop]
  simp [hrow, List.getElem?_range hi]

theorem GM.rd1 {R : Type} {h : AHeap} {lo nm n W hd : Nat} {bl : Nat → Nat} {cl : Nat → Bool} {M : Fm} (g : GM h lo nm n W hd bl cl M) {i : Nat} (hi : i < n) (K : AV → Option R) :
    (if 0 ≤ (i : Int) ∧ (i : Int) < ((n : Nat) : Int) then (ldA h hd i).bind K else none) = K (.slice (some (bl i, 0)) W (cl i)) := by
  have := g.rd hi K
  rwa [ix0] at this

def fnd (r : Nat) : Option Nat → Int
  | none => -1
  | some a => (a : Int) - (r : Int)

theorem find_loop {k0 : Nat} (hk0 : 2 ≤ k0) (lf : Nat) {h : AHeap} {lo nm n W hd : Nat} (hn : n ≤ 1000) {bl : Nat → Nat} {cl : Nat → Bool} {M : Fm} (g : GM h lo nm n W hd bl cl M) {a' : Option (Nat × Nat)} {cc : Bool} {r c cid : Nat} (hc : c < W) (hb : h cid = some ⟨[.int .i64 (c : Int)], 1, true⟩)
    (rd : ∀ i, r + i < n → ∀ K : AV → Option (AV × AHeap × Nat), (a'.bind fun p => if 0 ≤ (i : Int) ∧ (i : Int) < ((n - r : Nat) : Int) then (ldA h p.1 (p.2 + Int.toNat (i : Int) * 1)).bind K else none) = K (.slice (some (bl (r + i), 0)) W (cl (r + i)))) (k : Nat) :
    ∀ (f i nx : Nat), i + k = n - r → k < f → ∃ nx', nx ≤ nx' ∧ F66_L1 (callP Try.prog keepT k0) Y0 lf f a' (n - r) cc (.fn 67 [] [.ptr (some (cid, 0))]) ((n - r : Nat) : Int) (i : Int) h nx = some (.int .i64 (fnd r (find M c k (r + i))), h, nx') := by
  induction k with
  | zero =>
    intro f i nx e hf
    obtain ⟨f, rfl⟩ : ∃ m, f = m + 1 := ⟨f - 1, by omega⟩
    rw [F66_L1_eq, if_neg (by simp; omega)]
    exact ⟨nx + 2, by omega, rfl⟩
  | succ k ih =>
    intro f i nx e hf
    obtain ⟨f, rfl⟩ : ∃ m, f = m + 1 := ⟨f - 1, by omega⟩
    obtain ⟨k1, rfl⟩ : ∃ m, k0 = m + 1 := ⟨k0 - 1, by omega⟩
    have hi : r + i < n := by omega
    rw [F66_L1_eq, if_pos (by simp; omega), rd i hi]
    simp only [bind_some', asI_int, asB_bool, asStr_str, asP_ptr, asSl_sl, asAgg_1, asAgg_2, asAgg_3, asAgg_4, asTup_0, asTup_2, asTup_3, asTup_4, if_true', if_false', if_not_true', if_not_false', getD_0, getD_1, getD_2, getD_3]
    rw [asCal_fn, some_bind, callC_fn, List.nil_append, List.singleton_append, F67_eq, some_bind, ld_at hb rfl]
    simp only [bind_some', asI_int, asB_bool, asStr_str, asP_ptr, asSl_sl, asAgg_1, asAgg_2, asAgg_3, asAgg_4, asTup_0, asTup_2, asTup_3, asTup_4, if_true', if_false', if_not_true', if_not_false', getD_0, getD_1, getD_2, getD_3]
    rw [irow_rd (g.row _ hi) hc]
    simp only [bind_some', asI_int, asB_bool, asStr_str, asP_ptr, asSl_sl, asAgg_1, asAgg_2, asAgg_3, asAgg_4, asTup_0, asTup_2, asTup_3, asTup_4, if_true', if_false', if_not_true', if_not_false', getD_0, getD_1, getD_2, getD_3]
    unfold find
    by_cases hz : M (r + i) c = 0
    · rw [hz, if_neg (by simp), if_neg (by simp), wsucc (by omega)]
      obtain ⟨nx', l', e'⟩ := ih f (i + 1) (nx + 9 + 7 + 2) (by omega) (by omega)
      exact ⟨nx', by omega, e'⟩
    · rw [if_pos (by simp; omega), if_pos hz]
      refine ⟨nx + 9 + 7 + 2, by omega, ?_⟩
      rw [show fnd r (some (r + i)) = (i : Int) from by show ((r + i : Nat) : Int) - (r : Int) = _; omega]

theorem J3_step (call : YldF → CallF) (lf n0 : Nat) (X : Option (Nat × Nat)) (n : Nat) (xc : Bool) (C r : Int) {cid c : Nat} (hc : c ≤ 1000) {h : AHeap} (hb : h cid = some ⟨[.int .i64 (c : Int)], 1, true⟩) (nx : Nat) :
    F52_J3 call Y0 lf n0 X n xc C r (some (cid, 0)) h nx = F52_L1 call Y0 lf n0 X n xc C r (some (nx + 1, 0)) (h.put (nx + 1) (some ⟨[.int .i64 ((c + 1 : Nat) : Int)], 1, true⟩)) (nx + 6) := by
  rw [F52_J3_eq]
  simp only [bind_some', asI_int, asB_bool, asStr_str, asP_ptr, asSl_sl, asAgg_1, asAgg_2, asAgg_3, asAgg_4, asTup_0, asTup_2, asTup_3, asTup_4, if_true', if_false', if_not_true', if_not_false', getD_0, getD_1, getD_2, getD_3]
  rw [ld_at hb rfl]
  simp only [bind_some', asI_int, asB_bool, asStr_str, asP_ptr, asSl_sl, asAgg_1, asAgg_2, asAgg_3, asAgg_4, asTup_0, asTup_2, asTup_3, asTup_4, if_true', if_false', if_not_true', if_not_false', getD_0, getD_1, getD_2, getD_3]
  rw [st_one (put_same _ _ _) rfl (by simp), put_put, List.set_cons_zero, ld_at (put_same _ _ _) rfl]
  simp only [bind_some', asI_int, asB_bool, asStr_str, asP_ptr, asSl_sl, asAgg_1, asAgg_2, asAgg_3, asAgg_4, asTup_0, asTup_2, asTup_3, asTup_4, if_true', if_false', if_not_true', if_not_false', getD_0, getD_1, getD_2, getD_3]
  rw [st_one (put_same _ _ _) rfl (by simp), put_put, List.set_cons_zero, wsucc (by omega)]

/-- Two rows have changed their places. -/
theorem GM.swap {h : AHeap} {lo nm n W hd : Nat} {bl : Nat → Nat} {cl : Nat → Bool} {M : Fm} (g : GM h lo nm n W hd bl cl M) {r a : Nat} (hr : r < n) (ha : a < n) :
    GM (h.put hd (some ⟨hrow n W (fun k => if k = a then bl r else if k = r then bl a else bl k) (fun k => if k = a then cl r else if k = r then cl a else cl k), 1, true⟩)) lo nm n W hd (fun k => if k = a then bl r else if k = r then bl a else bl k) (fun k => if k = a then cl r else if k = r then cl a else cl k) (swp M r a) := by
  have hs : ∀ k, (if k = a then bl r else if k = r then bl a else bl k) = bl (if k = a then r else if k = r then a else k) := by
    intro k; split
    · rfl
    · split <;> rfl
  have hm : ∀ k, swp M r a k = M (if k = a then r else if k = r then a else k) := by
    intro k; unfold swp
    by_cases h1 : k = r
    · rw [if_pos h1]
      by_cases h2 : k = a
      · rw [if_pos h2, ← h1, ← h2]
      · rw [if_neg h2, if_pos h1]
    · rw [if_neg h1]
      by_cases h2 : k = a
      · rw [if_pos h2, if_pos h2]
      · rw [if_neg h2, if_neg h2, if_neg h1]
  have hl : ∀ k, k < n → (if k = a then r else if k = r then a else k) < n := by
    intro k hk; split
    · exact hr
    · split
      · exact ha
      · exact hk
  refine ⟨put_same _ _ _, fun i hi => ?_, fun i j hi hj e => ?_, fun i hi => ?_, g.lohd, g.hdm, fun i hi => ?_, fun i hi => ?_⟩
  · rw [hs, hm, put_ne (g.ne _ (hl i hi))]; exact g.row _ (hl i hi)
  · rw [hs, hs] at e
    have := g.inj _ _ (hl i hi) (hl j hj) e
    split at this <;> split at this <;> (try split at this) <;> (try split at this) <;> omega
  · rw [hs]; exact g.ne _ (hl i hi)
  · rw [hs]; exact g.lobl _ (hl i hi)
  · rw [hs]; exact g.blm _ (hl i hi)

theorem red_loop {k0 : Nat} (hk0 : 2000 ≤ k0) (lf : Nat) (hlf : 2000 ≤ lf) {lo nm n W hd : Nat} (hn : n ≤ 1000) (hW : W ≤ 1000) (xc : Bool) {C : Nat} (hC : C ≤ W) (k : Nat) :
    ∀ (f c r cid : Nat) (bl : Nat → Nat) (cl : Nat → Bool) (M : Fm) (h : AHeap) (nx : Nat), c + k = C → k < f → r ≤ n → F8 M → nm ≤ cid → cid < nx → h cid = some ⟨[.int .i64 (c : Int)], 1, true⟩ → GM h lo nm n W hd bl cl M →
    ∃ bl' cl' h' nx', F52_L1 (callP Try.prog keepT k0) Y0 lf f (some (hd, 0)) n xc (C : Int) (r : Int) (some (cid, 0)) h nx = some (.int .i64 ((red n k c r M).2 : Int), h', nx') ∧ nx ≤ nx' ∧ GM h' lo nm n W hd bl' cl' (red n k c r M).1 ∧ ∀ q, q < nx → (q < lo ∨ nm ≤ q) → h' q = h q := by
  induction k with
  | zero =>
    intro f c r cid bl cl M h nx e hf hr hM h1 h2 hb g
    obtain ⟨f, rfl⟩ : ∃ m, f = m + 1 := ⟨f - 1, by omega⟩
    obtain rfl : c = C := by omega
    rw [F52_L1_eq, some_bind, ld_at hb rfl]
    simp only [bind_some', asI_int, asB_bool, asStr_str, asP_ptr, asSl_sl, asAgg_1, asAgg_2, asAgg_3, asAgg_4, asTup_0, asTup_2, asTup_3, asTup_4, if_true', if_false', if_not_true', if_not_false', getD_0, getD_1, getD_2, getD_3]
    rw [if_neg (by simp)]
    exact ⟨bl, cl, h, nx + 11, rfl, by omega, g, fun _ _ _ => rfl⟩
  | succ k ih =>
    intro f c r cid bl cl M h nx e hf hr hM h1 h2 hb g
    obtain ⟨f, rfl⟩ : ∃ m, f = m + 1 := ⟨f - 1, by omega⟩
    have hc : c < C := by omega
    rw [F52_L1_eq, some_bind, ld_at hb rfl]
    simp only [bind_some', asI_int, asB_bool, asStr_str, asP_ptr, asSl_sl, asAgg_1, asAgg_2, asAgg_3, asAgg_4, asTup_0, asTup_2, asTup_3, asTup_4, if_true', if_false', if_not_true', if_not_false', getD_0, getD_1, getD_2, getD_3]
    rw [if_pos (by simpa using hc)]
    unfold red
    by_cases hrn : r < n
    · rw [if_pos (by simpa using hrn), if_pos hrn, F52_J2_eq]
      obtain ⟨a', cc, c1, c2⟩ := g.cut (R := AV × AHeap × Nat) xc (r := r) hr
      obtain ⟨k1, rfl⟩ : ∃ m, k0 = m + 1 := ⟨k0 - 1, by omega⟩
      obtain ⟨n1, l1, e1⟩ := find_loop (k0 := k1) (by omega) k1 hn g (a' := a') (cc := cc) (r := r) (c := c) (cid := cid) (by omega) hb c2 (n - r) k1 0 (nx + 9 + 6 + 4) (by omega) (by omega)
      rw [show ((0 : Nat) : Int) = 0 from rfl, Nat.add_zero] at e1
      rw [c1]
      simp only [bind_some', asI_int, asB_bool, asStr_str, asP_ptr, asSl_sl, asAgg_1, asAgg_2, asAgg_3, asAgg_4, asTup_0, asTup_2, asTup_3, asTup_4, if_true', if_false', if_not_true', if_not_false', getD_0, getD_1, getD_2, getD_3]
      rw [F66_eq, e1]
      simp only [bind_some', asI_int, asB_bool, asStr_str, asP_ptr, asSl_sl, asAgg_1, asAgg_2, asAgg_3, asAgg_4, asTup_0, asTup_2, asTup_3, asTup_4, if_true', if_false', if_not_true', if_not_false', getD_0, getD_1, getD_2, getD_3]
      cases hf' : find M c (n - r) r with
      | none =>
        rw [show fnd r none = -1 from rfl, if_pos (by decide), J3_step _ lf f (some (hd, 0)) n xc (C : Int) (r : Int) (by omega) hb]
        obtain ⟨bl', cl', h', nx', e', l', g', k'⟩ := ih f (c + 1) r (n1 + 2 + 1) bl cl M (h.put (n1 + 2 + 1) (some ⟨[.int .i64 ((c + 1 : Nat) : Int)], 1, true⟩)) (n1 + 2 + 6) (by omega) (by omega) hr hM (by omega) (by omega) (put_same _ _ _) (g.keep fun j _ hj => put_ne (by omega))
        exact ⟨bl', cl', h', nx', e', by omega, g', fun q hq hq' => by rw [k' q (by omega) hq', put_ne (by omega)]⟩
      | some a =>
        have hfs := find_some hf'
        have ha : a < n := by omega
        have wa : wrapA .i64 ((r : Int) + ((a : Int) - (r : Int))) = (a : Int) := by rw [wA (by omega) (by omega)]; omega
        rw [show fnd r (some a) = (a : Int) - (r : Int) from rfl, if_neg (by simp; omega), wa]
        clear wa
        rw [g.rd ha]
        simp only [bind_some', asI_int, asB_bool, asStr_str, asP_ptr, asSl_sl, asAgg_1, asAgg_2, asAgg_3, asAgg_4, asTup_0, asTup_2, asTup_3, asTup_4, if_true', if_false', if_not_true', if_not_false', getD_0, getD_1, getD_2, getD_3]
        rw [g.rd hrn]
        simp only [bind_some', asI_int, asB_bool, asStr_str, asP_ptr, asSl_sl, asAgg_1, asAgg_2, asAgg_3, asAgg_4, asTup_0, asTup_2, asTup_3, asTup_4, if_true', if_false', if_not_true', if_not_false', getD_0, getD_1, getD_2, getD_3]
        rw [if_pos ⟨by omega, by omega⟩, ix0, st_to g.hdr rfl (by rw [hrow_len]; exact hrn) hrow_set, if_pos ⟨by omega, by omega⟩, ix0, st_to (put_same _ _ _) rfl (by rw [hrow_len]; exact ha) hrow_set, put_put]
        have g1 := g.swap hrn ha
        have hb1 : (h.put hd (some ⟨hrow n W (fun k => if k = a then bl r else if k = r then bl a else bl k) (fun k => if k = a then cl r else if k = r then cl a else cl k), 1, true⟩)) cid = some ⟨[.int .i64 (c : Int)], 1, true⟩ := by
          rw [put_ne (by have := g.hdm; omega)]; exact hb
        have kh : ∀ q, q < nx → (q < lo ∨ nm ≤ q) → (h.put hd (some ⟨hrow n W (fun k => if k = a then bl r else if k = r then bl a else bl k) (fun k => if k = a then cl r else if k = r then cl a else cl k), 1, true⟩)) q = h q := fun q _ hq => put_ne (by have := g.hdm; have := g.lohd; omega)
        generalize h.put hd (some ⟨hrow n W (fun k => if k = a then bl r else if k = r then bl a else bl k) (fun k => if k = a then cl r else if k = r then cl a else cl k), 1, true⟩) = H at *
        generalize (fun k => if k = a then bl r else if k = r then bl a else bl k) = bl1 at *
        generalize (fun k => if k = a then cl r else if k = r then cl a else cl k) = cl1 at *
        have hP := swp_F8 hM r a
        have hp : swp M r a r c ≠ 0 := by unfold swp; rw [if_pos rfl]; exact hfs.2.2
        rw [g1.rd1 hrn]
        simp only [bind_some', asI_int, asB_bool, asStr_str, asP_ptr, asSl_sl, asAgg_1, asAgg_2, asAgg_3, asAgg_4, asTup_0, asTup_2, asTup_3, asTup_4, if_true', if_false', if_not_true', if_not_false', getD_0, getD_1, getD_2, getD_3]
        rw [ld_at hb1 rfl]
        simp only [bind_some', asI_int, asB_bool, asStr_str, asP_ptr, asSl_sl, asAgg_1, asAgg_2, asAgg_3, asAgg_4, asTup_0, asTup_2, asTup_3, asTup_4, if_true', if_false', if_not_true', if_not_false', getD_0, getD_1, getD_2, getD_3]
        rw [irow_rd (g1.row r hrn) (by omega)]
        simp only [bind_some', asI_int, asB_bool, asStr_str, asP_ptr, asSl_sl, asAgg_1, asAgg_2, asAgg_3, asAgg_4, asTup_0, asTup_2, asTup_3, asTup_4, if_true', if_false', if_not_true', if_not_false', getD_0, getD_1, getD_2, getD_3]
        obtain ⟨h2', n2, e2, x2⟩ := inv_spec (f := k1 + 1) (by omega) (swp M r a r c) (hP _ _) hp H (n1 + 2 + 37 - 2)
        rw [show n1 + 2 + 37 - 2 = n1 + 37 from by omega] at e2 x2
        have y2 := x2.1
        rw [e2]
        simp only [bind_some', asI_int, asB_bool, asStr_str, asP_ptr, asSl_sl, asAgg_1, asAgg_2, asAgg_3, asAgg_4, asTup_0, asTup_2, asTup_3, asTup_4, if_true', if_false', if_not_true', if_not_false', getD_0, getD_1, getD_2, getD_3]
        have g2 := g1.keep (h' := h2') fun j _ hj => x2.2 j (by omega)
        have hlb := g2.blm r hrn
        obtain ⟨h3, n3, e3, l3, b3, k3⟩ := scale_loop (k0 := k1 + 1) (by omega) lf f (some (hd, 0)) n xc (C : Int) (r : Int) (some (cid, 0)) (b := bl1 r) (W := W) (v := Gf.gi (swp M r a r c)) (cl1 r) hW (Gf.gi_lt (hP _ _)) (old := swp M r a r) (hP r) W lf 0 h2' (n2 + 3) (by omega) (by omega) (by omega) (by rw [g2.row r hrn]; congr 2)
        rw [show ((0 : Nat) : Int) = 0 from rfl] at e3
        rw [e3]
        have hbr := g2.lobl r hrn
        have g3 := g2.chg (h' := h3) hrn b3 fun j h4 h5 h6 => k3 j (by omega) h6
        have hb3 : h3 cid = some ⟨[.int .i64 (c : Int)], 1, true⟩ := by rw [k3 cid (by omega) (by omega), x2.2 cid (by omega)]; exact hb1
        have g3' : GM h3 lo nm n W hd bl1 cl1 (fun i' j => if i' < 0 ∧ i' ≠ r then (fun i j => if i = r then top M r c a j else swp M r a i j) i' j ^^^ Gf.gm ((fun i j => if i = r then top M r c a j else swp M r a i j) i' c) ((fun i j => if i = r then top M r c a j else swp M r a i j) r j) else (fun i j => if i = r then top M r c a j else swp M r a i j) i' j) := g3.congr fun i j hi hj => by
          by_cases q : i = r
          · simp [q]; rfl
          · simp [q]
        obtain ⟨h4, n4, e4, l4, b4, g4, k4⟩ := elim_loop (k0 := k1 + 1) (by omega) lf f (by omega) hn hW xc (C : Int) (r := r) (c := c) (cid := cid) hrn (by omega) h1 (M := fun i j => if i = r then top M r c a j else swp M r a i j) (fun i j => by
          show (if i = r then top M r c a j else swp M r a i j) < 256
          split
          · exact top_lt hM _ _ _ _
          · exact hP _ _) n lf 0 h3 n3 (by omega) (by omega) (by omega) (by omega) hb3 g3'
        rw [show ((0 : Nat) : Int) = 0 from rfl] at e4
        have g5 : GM h4 lo nm n W hd bl1 cl1 (elm M r c a) := g4.congr fun i j hi hj => by
          by_cases q : i = r
          · simp [elm, q]
          · simp [elm, q]
        rw [e4, J3_step _ lf f (some (hd, 0)) n xc (C : Int) ((r + 1 : Nat) : Int) (by omega) b4]
        obtain ⟨bl', cl', h', nx', e', l', g', k'⟩ := ih f (c + 1) (r + 1) (n4 + 1) bl1 cl1 (elm M r c a) (h4.put (n4 + 1) (some ⟨[.int .i64 ((c + 1 : Nat) : Int)], 1, true⟩)) (n4 + 6) (by omega) (by omega) (by omega) (elm_F8 hM _ _ _) (by omega) (by omega) (put_same _ _ _) (g5.keep fun j _ hj => put_ne (by omega))
        exact ⟨bl', cl', h', nx', e', by omega, g', fun q hq hq' => by rw [k' q (by omega) hq', put_ne (by omega), k4 q (by omega) hq', k3 q (by omega) (by omega), x2.2 q (by omega), kh q hq hq']⟩
    · rw [if_neg (by simpa using hrn), if_neg hrn]
      exact ⟨bl, cl, h, nx + 11, rfl, by omega, g, fun _ _ _ => rfl⟩

theorem reduce_spec {f : Nat} (hf : 2002 ≤ f) {lo nm n W hd : Nat} (hn : n ≤ 1000) (hW : W ≤ 1000) (xc : Bool) {C : Nat} (hC : C ≤ W) {bl : Nat → Nat} {cl : Nat → Bool} {M : Fm} (hM : F8 M) {h : AHeap} {nx : Nat} (hnx : nm ≤ nx) (g : GM h lo nm n W hd bl cl M) :
    ∃ bl' cl' h' nx', callP Try.prog keepT f Y0 52 [.slice (some (hd, 0)) n xc, .int .i64 (C : Int)] h nx = some (.int .i64 ((red n C 0 0 M).2 : Int), h', nx') ∧ nx ≤ nx' ∧ GM h' lo nm n W hd bl' cl' (red n C 0 0 M).1 ∧ ∀ q, q < nx → (q < lo ∨ nm ≤ q) → h' q = h q := by
  obtain ⟨f, rfl⟩ : ∃ m, f = m + 1 := ⟨f - 1, by omega⟩
  obtain ⟨bl', cl', h', nx', e', l', g', k'⟩ := red_loop (k0 := f) (by omega) f (by omega) hn hW xc hC C f 0 0 (nx + 2) bl cl M (h.put (nx + 2) (some ⟨[.int .i64 ((0 : Nat) : Int)], 1, true⟩)) (nx + 4) (by omega) (by omega) (by omega) hM (by omega) (by omega) (put_same _ _ _) (g.keep fun j _ hj => put_ne (by omega))
  rw [show ((0 : Nat) : Int) = 0 from rfl] at e' k'
  rw [F52_eq]
  dsimp only
  rw [st_one (put_same _ _ _) rfl (by simp), put_put, List.set_cons_zero, e']
  exact ⟨bl', cl', h', nx', rfl, by omega, g', fun q hq hq' => by rw [k' q (by omega) hq', put_ne (by omega)]⟩

end Go.Proofs.Ytdfopcgfhjijgaa.T
