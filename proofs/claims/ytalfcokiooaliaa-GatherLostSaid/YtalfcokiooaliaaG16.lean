import Derived.Test.YtalfcokiooaliaaG15
set_option linter.unusedVariables false
set_option linter.unusedSimpArgs false
namespace Go.Proofs.Ytalfcokiooaliaa.T
open Go Go.RowKit Go.Proofs

def posOf (N p c : Nat) : Nat := (c + N - p) % N
theorem pos_lt {N p c : Nat} (h : 0 < N) : posOf N p c < N := Nat.mod_lt _ h
theorem pos_ge {N p c : Nat} (h : p ≤ c) (hc : c < N) : posOf N p c = c - p := by
  unfold posOf
  rw [show c + N - p = (c - p) + N from by omega, Nat.add_mod_right, Nat.mod_eq_of_lt (by omega)]
theorem pos_lo {N p c : Nat} (h : c < p) (hp : p < N) : posOf N p c = N - p + c := by
  unfold posOf
  rw [Nat.mod_eq_of_lt (by omega)]; omega
theorem col_pos {N p c : Nat} (hp : p < N) (hc : c < N) : colOf N p (posOf N p c) = c := by
  by_cases h : c < p
  · rw [pos_lo h hp]; unfold colOf; rw [if_neg (by omega)]; omega
  · rw [pos_ge (by omega) hc]; unfold colOf; rw [if_pos (by omega)]; omega
theorem pos_col {N p j : Nat} (hp : p < N) (hj : j < N) : posOf N p (colOf N p j) = j := by
  unfold colOf
  by_cases h : j < N - p
  · rw [if_pos h, pos_ge (by omega) (by omega)]; omega
  · rw [if_neg h, pos_lo (by omega) hp]; omega
theorem col_lt {N p j : Nat} (hp : p < N) (hj : j < N) : colOf N p j < N := by unfold colOf; split <;> omega

theorem places_loop (call : YldF → CallF) (lf : Nat) {N p t : Nat} (hN : N ≤ 8) (hpN : p < N) {gs : List Nat} (ht : gs.length = t) (htl : t ≤ 100) (hmem : ∀ k ∈ gs, k < N) {W : Nat} {xa ya ga sa : Option (Nat × Nat)} (xc yc gc sc : Bool) (yn : Nat) {bb : Nat} {h0 : AHeap} {n0 : Nat}
    (hb : h0 bb = some ⟨[.slice sa N sc, .int .i64 (p : Int), .int .i64 ((W : Nat) : Int)], 3, true⟩) (hbl : bb < n0) (sg : Sl h0 n0 ga t 1 (ints .i64 (nints gs))) (m : Nat) :
    ∀ (f i : Nat) (oa : Option (Nat × Nat)) (oc : Bool) (h : AHeap) (nx : Nat), i + m = t → m < f → Ext h0 n0 h nx → OwnRows NRow h nx oa 1 ((gs.take i).map (posOf N p)) → (∀ j, ownOf oa j → n0 ≤ j) →
    ∃ (f' : Nat) (oa' : Option (Nat × Nat)) (oc' : Bool) (h' : AHeap) (nx' : Nat), F20_L3 call Y0 lf f xa N xc (some (bb, 0)) ya yn yc oa i oc ga t gc ((t : Nat) : Int) (i : Int) h nx = F20_L3 call Y0 lf (f' + 1) xa N xc (some (bb, 0)) ya yn yc oa' t oc' ga t gc ((t : Nat) : Int) (t : Int) h' nx' ∧ Ext h0 n0 h' nx' ∧ OwnRows NRow h' nx' oa' 1 (gs.map (posOf N p)) := by
  induction m with
  | zero =>
    intro f i oa oc h nx e hf x o lo
    obtain ⟨f, rfl⟩ : ∃ m, f = m + 1 := ⟨f - 1, by omega⟩
    obtain rfl : i = t := by omega
    rw [List.take_of_length_le (by omega)] at o
    exact ⟨f, oa, oc, h, nx, rfl, x, o⟩
  | succ m ih =>
    intro f i oa oc h nx e hf x o lo
    obtain ⟨f, rfl⟩ : ∃ m, f = m + 1 := ⟨f - 1, by omega⟩
    have hi : i < t := by omega
    have y := x.1
    have hbh := (x.2 bb hbl).trans hb
    obtain ⟨k, hk⟩ : ∃ k, gs[i]'(by omega) = k := ⟨_, rfl⟩
    have hkN : k < N := hmem k (by rw [← hk]; exact List.getElem_mem _)
    have hpos : Int.tmod (wrapA .i64 (wrapA .i64 ((k : Int) - (p : Int)) + ((N : Nat) : Int))) ((N : Nat) : Int) = ((posOf N p k : Nat) : Int) := by
      rw [wA (x := (k : Int) - (p : Int)) (by omega) (by omega), wA (by omega) (by omega), show (k : Int) - (p : Int) + ((N : Nat) : Int) = ((k + N - p : Nat) : Int) from by omega]
      exact (Int.ofNat_tmod _ _).symm
    have tk : gs.take (i + 1) = gs.take i ++ [k] := by rw [← hk]; exact List.take_succ_eq_append_getElem (by omega)
    have tl : ((gs.take i).map (posOf N p)).length = i := by rw [List.length_map, List.length_take]; omega
    obtain ⟨E, s1, s2, s3, s4, s5, s6, s7, s8, _⟩ := o.pushE x lo oc (bytes := 8) (id := nx + 15) (id2 := nx + 16) (x := posOf N p k) (r := [AV.int .i64 ((posOf N p k : Nat) : Int)]) rfl rfl (growOk_of (by clear hpos; omega) (by omega)) (by clear hpos; omega) (by clear hpos; omega)
    rw [tl] at s2 s4
    rw [F20_L3_eq, if_pos (by clear hpos; simpa using hi), (sg.ext x).readN ht (by clear hpos; omega)]
    simp only [mst_]
    rw [hk, ld_at hbh rfl]
    simp only [mst_]
    rw [if_neg (by clear hpos; omega), hpos]
    clear hpos
    rw [s1, some_bind, s2, some_bind, s4, wsucc (by omega)]
    refine ih f (i + 1) E.a E.c _ (nx + 20) (by omega) (by omega) (s7.le (by omega)) ?_ (fun j z => by have := s8 j z; omega)
    rw [tk, List.map_append]
    exact s5.go (D := fun _ => False) ⟨by omega, fun _ _ _ => rfl⟩ (fun _ _ q => q) (fun _ _ q => q)

theorem mat_at1 {h : AHeap} {nx w ob : Nat} {kd : IntKind} {M : List (List Nat)} (m : Mat h nx kd (some (ob, 0)) M w) {i : Nat} (hi : i < M.length) :
    ∃ q : Rw, M[i].length = w ∧ Sl h nx q.1 w 1 (ints kd (nints M[i])) ∧ ob < nx ∧ ∀ {R : Type} (K : AV → Option R), (ldA h ob (0 + Int.toNat (i : Int) * 1)).bind K = K (.slice q.1 w q.2) := by
  obtain ⟨qs, r, s⟩ := m
  obtain ⟨q, e1, e2, e3⟩ := r.get hi
  obtain ⟨pp, z1, z2, z3⟩ := s.at1 hi (v := rcell w q) (by rw [List.getElem?_map, e1]; rfl)
  obtain rfl := Option.some.inj z1
  exact ⟨q, e2, e3, z2, fun K => z3 K⟩

def flatO (M : List (List Nat)) (d p n i : Nat) : List Nat := ((List.range i).map fun j => (M.getD j []).take (bw d p n (p + j))).flatten
theorem flatO_succ (M : List (List Nat)) (d p n i : Nat) : flatO M d p n (i + 1) = flatO M d p n i ++ (M.getD i []).take (bw d p n (p + i)) := by simp [flatO, List.range_succ]
theorem flatO_len {M : List (List Nat)} {d p n W : Nat} (g : Geo d p n) (hW : W = bw d p n 0) : ∀ i, i ≤ colN d p n - p → (∀ j, j < i → (M.getD j []).length = W) → (flatO M d p n i).length = offC d p n i * 128
  | 0, _, _ => by simp [flatO, offC]
  | i + 1, h, k => by
    have g8 := g.N8
    rw [flatO_succ, List.length_append, flatO_len g hW i (by omega) fun j hj => k j (by omega), List.length_take, k i (by omega)]
    have := bw_le g (c := p + i) (by omega)
    show _ = (offC d p n i + lenC d p n (p + i)) * 128
    unfold bw at *; omega

theorem out_loop4 {k0 : Nat} (hk0 : 1 ≤ k0) (lf : Nat) {d p a n : Nat} (g : Geo d p n) (hn32 : n ≤ 32) {M : List (List Nat)} (hML : M.length = colN d p n) {xa sa : Option (Nat × Nat)} (xc sc yc : Bool) {bb ob : Nat} {h0 : AHeap} {n0 : Nat}
    (hb : h0 bb = some ⟨[.slice sa (colN d p n) sc, .int .i64 (p : Int), .int .i64 ((bw d p n 0 : Nat) : Int)], 3, true⟩) (hbl : bb < n0) (shp : Shp h0 n0 sa d p a n) (mt : Mat h0 n0 .u8 (some (ob, 0)) M (bw d p n 0)) (m : Nat) :
    ∀ (f i : Nat) (oa : Option (Nat × Nat)) (oc : Bool) (h : AHeap) (nx : Nat), i + m = colN d p n - p → m < f → Ext h0 n0 h nx → OwnSl h n0 nx oa (offC d p n i * 128) 1 (ints .u8 (nints (flatO M d p n i))) →
    ∃ oa' oc' h' nx', F20_L4 (callP Try.prog keepT k0) Y0 lf f xa (colN d p n) xc (some (bb, 0)) (some (ob, 0)) (colN d p n) yc oa (offC d p n i * 128) oc ((p + i : Nat) : Int) h nx = some (.slice oa' (n * 128) oc', h', nx') ∧ Ext h0 n0 h' nx' ∧ OwnSl h' n0 nx' oa' (n * 128) 1 (ints .u8 (nints (flatO M d p n (colN d p n - p)))) := by
  have gp := g.pN
  have g8 := g.N8
  have W4 := bw_max g
  induction m with
  | zero =>
    intro f i oa oc h nx e hf x o
    obtain ⟨f, rfl⟩ : ∃ m, f = m + 1 := ⟨f - 1, by omega⟩
    obtain rfl : i = colN d p n - p := by omega
    rw [g.sum] at o ⊢
    rw [F20_L4_eq, if_neg (by simp; omega)]
    exact ⟨oa, oc, h, nx + 6, rfl, x.le (by omega), o.le (by omega)⟩
  | succ m ih =>
    intro f i oa oc h nx e hf x o
    obtain ⟨f, rfl⟩ : ∃ m, f = m + 1 := ⟨f - 1, by omega⟩
    have y := x.1
    have hi : i < colN d p n - p := by omega
    have hcN : p + i < colN d p n := by omega
    have ble := bw_le g (c := p + i) (by omega)
    have go := g.off hi
    have hbh := (x.2 bb hbl).trans hb
    obtain ⟨q, q1, q2, q3, q4⟩ := mat_at1 (mt.ext x) (i := i) (by omega)
    obtain ⟨h1, hh1⟩ : ∃ h1, h1 = h.put (nx + 18) (some ⟨[.slice sa (colN d p n) sc, .int .i64 (p : Int), .int .i64 ((bw d p n 0 : Nat) : Int)], 3, true⟩) := ⟨_, rfl⟩
    have hsz := size_spec (f := k0) hk0 g sc (p : Int) ((bw d p n 0 : Nat) : Int) (shp.ext (x.le (show nx ≤ nx + 18 by omega))) hcN
    rw [← hh1] at hsz
    obtain ⟨w, hw⟩ : ∃ w, bw d p n (p + i) = w := ⟨_, rfl⟩
    have hw' : lenC d p n (p + i) * 128 = w := hw
    rw [hw'] at hsz
    rw [hw] at ble
    have x1 : Ext h nx h1 nx := ⟨by omega, fun j hj => by rw [hh1, put_ne (by omega)]⟩
    obtain ⟨u1, u2, _⟩ := (q2.ext x1).cut q.2 (lo := 0) (hi := w) (l := none) (r := some (.int .i64 ((w : Nat) : Int))) (by omega) ble bound_none (bound_some ble)
    have e3 : ((ints .u8 (nints (M[i]'(by omega)))).drop (0 * 1)).take ((w - 0) * 1) = ints .u8 (nints ((M.getD i []).take w)) := by
      rw [getD_at (by omega), nints_take, ints, ints, List.map_take, Nat.zero_mul, List.drop_zero, Nat.sub_zero, Nat.mul_one]
    rw [e3, Nat.sub_zero] at u2
    rw [Nat.sub_zero] at u1
    obtain ⟨rd, c1⟩ := u2.src'
    have o1 : OwnSl h1 n0 nx oa (offC d p n i * 128) 1 (ints .u8 (nints (flatO M d p n i))) := o.ext x1
    obtain ⟨E, f1, f2, f3, f4, _⟩ := o1.appendS oc (bytes := 1) (id := nx + 16) (k := w) (ws := ints .u8 (nints ((M.getD i []).take w))) (rd := rd) u2.1 (growOk_of (by have := g.l32; have := offC_mono d p n (i := i) (colN d p n - p) (by omega); rw [g.sum] at this; omega) (by omega)) (by omega) (by omega)
    have ak : AllKept [(h, h1, [bb]), (h, h1, [ob])] := by
      refine ⟨fun z hz => ?_, fun z hz => ?_, trivial⟩
      · simp only [List.mem_singleton] at hz; subst hz; exact x1.2 _ (by omega)
      · simp only [List.mem_singleton] at hz; subst hz; exact x1.2 _ q3
    rw [F20_L4_eq, if_pos (by simp; omega)]
    simp only [mst_]
    rw [ld_at hbh rfl]
    simp only [mst_]
    rw [show wrapA .i64 (((p + i : Nat) : Int) - (p : Int)) = (i : Int) from by rw [wA (by omega) (by omega)]; omega, if_pos ⟨by omega, by omega⟩, q4]
    simp only [mst_]
    rw [ldr_all hbh (by simp)]
    simp only [mst_]
    rw [hsz]
    simp only [mst_]
    rw [u1, some_bind]
    dsimp only
    rw [c1, some_bind, f1, some_bind]
    rw [ifKept_pos ak, f2, wsucc (by omega), Nat.add_assoc, show offC d p n i * 128 + w = offC d p n (i + 1) * 128 from by
      show _ = (offC d p n i + lenC d p n (p + i)) * 128
      omega]
    refine ih f (i + 1) E.a E.c _ (nx + 18 + 10 + 3) (by omega) (by omega) ⟨by omega, fun j hj => by rw [f4.2 j hj, x1.2 j (by omega), x.2 j hj]⟩ ?_
    rw [flatO_succ, hw]
    have : ints .u8 (nints (flatO M d p n i ++ (M.getD i []).take w)) = ints .u8 (nints (flatO M d p n i)) ++ ints .u8 (nints ((M.getD i []).take w)) := by simp [ints, nints]
    rw [this]
    have f3' := f3.le (show nx + 16 + 1 ≤ nx + 18 + 10 + 3 by omega)
    rw [show offC d p n i * 128 + w = offC d p n (i + 1) * 128 from by
      show _ = (offC d p n i + lenC d p n (p + i)) * 128
      omega] at f3'
    exact f3'

end Go.Proofs.Ytalfcokiooaliaa.T
