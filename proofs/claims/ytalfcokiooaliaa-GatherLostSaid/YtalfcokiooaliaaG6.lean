import Derived.Test.YtalfcokiooaliaaG5
set_option linter.unusedVariables false
set_option linter.unusedSimpArgs false
namespace Go.Proofs.Ytalfcokiooaliaa.T
open Go Go.RowKit Go.Proofs

theorem inL_nd {ls : List Nat} {i k : Nat} (hp : ls.Nodup) (hi : i < ls.length) (hk : ls[i] = k) : inL ls i k = false := by
  unfold inL
  rw [decide_eq_false_iff_not]
  intro hm
  obtain ⟨j, hj, e⟩ := List.getElem_of_mem hm
  have hji : j < i := by rw [List.length_take] at hj; omega
  rw [List.getElem_take] at e
  have := (List.pairwise_iff_getElem.1 hp) j i (by omega) hi hji
  exact this (e.trans hk.symm)
theorem inL_ls {g : Nat → Bool} {ls : List Nat} {N t j : Nat} (ht : ls.length = t) (hg : ∀ j, j < N → g j = decide (j ∈ ls)) (hj : j < N) : inL ls t j = g j := by
  unfold inL
  rw [List.take_of_length_le (by omega), hg j hj]
theorem cnt_congr {g g' : Nat → Bool} : ∀ n, (∀ j, j < n → g j = g' j) → cnt g n = cnt g' n
  | 0, _ => rfl
  | n + 1, h => by rw [cnt_succ, cnt_succ, cnt_congr n fun j hj => h j (by omega), h n (by omega)]
theorem cnt_mem : ∀ {ls : List Nat} {N : Nat}, (∀ k ∈ ls, k < N) → ls.Nodup → cnt (fun j => decide (j ∈ ls)) N = ls.length
  | [], N, _, _ => by
    have : cnt (fun j => decide (j ∈ ([] : List Nat))) N = cnt (fun _ => false) N := cnt_congr N fun j _ => by simp
    rw [this]; unfold cnt; rw [List.filter_eq_nil_iff.2 (by simp)]
  | k :: ls, N, h, nd => by
    have nd' := List.nodup_cons.1 nd
    have e : cnt (fun j => decide (j ∈ k :: ls)) N = cnt (fun j => j == k || decide (j ∈ ls)) N := cnt_congr N fun j _ => by
      rw [Bool.eq_iff_iff]; simp
    rw [e, cnt_set (g := fun j => decide (j ∈ ls)) (by simpa using nd'.1), cnt_mem (fun j hj => h j (List.mem_cons_of_mem _ hj)) nd'.2, if_pos (h k List.mem_cons_self)]
    rfl
theorem cnt_ls {g : Nat → Bool} {ls : List Nat} {N : Nat} (hmem : ∀ k ∈ ls, k < N) (hnd : ls.Nodup) (hg : ∀ j, j < N → g j = decide (j ∈ ls)) : cnt g N = ls.length := by
  rw [cnt_congr N hg, cnt_mem hmem hnd]

theorem ggone_loop (call : YldF → CallF) (lf : Nat) {N t : Nat} (hN : N ≤ 256) {g : Nat → Bool} {ls : List Nat} (ht : ls.length = t) (hmem : ∀ k ∈ ls, k < N) (hnd : ls.Nodup) (hg : ∀ j, j < N → g j = decide (j ∈ ls)) (a : Option (Nat × Nat)) {la : Option (Nat × Nat)} (c lc gc : Bool) (p n : Int) {h0 : AHeap} {n0 id : Nat} (sl : Sl h0 n0 la t 1 (ints .i64 (nints ls))) (hid : n0 ≤ id) (m : Nat) :
    ∀ (f i : Nat) (h : AHeap) (nx : Nat), i + m = t → m < f → id < nx → Ext h0 n0 h nx → h id = some ⟨bls (inL ls i) N, 1, true⟩ →
    ∃ (f' : Nat) (h' : AHeap) (nx' : Nat), F31_L2 call Y0 lf f a N c p la t lc n (some (id, 0)) N gc 0 la t lc ((t : Nat) : Int) (i : Int) h nx = F31_L2 call Y0 lf (f' + 1) a N c p la t lc n (some (id, 0)) N gc 0 la t lc ((t : Nat) : Int) (t : Int) h' nx' ∧ Ext h0 n0 h' nx' ∧ h' id = some ⟨bls g N, 1, true⟩ ∧ id < nx' := by
  have htl : t ≤ N := by rw [← ht, ← cnt_ls hmem hnd hg]; exact cnt_le g N
  induction m with
  | zero =>
    intro f i h nx e hf hlt x hb
    obtain ⟨f, rfl⟩ : ∃ m, f = m + 1 := ⟨f - 1, by omega⟩
    obtain rfl : i = t := by omega
    rw [bls_congr (g' := g) fun j hj => inL_ls ht hg hj] at hb
    exact ⟨f, h, nx, rfl, x, hb, hlt⟩
  | succ m ih =>
    intro f i h nx e hf hlt x hb
    obtain ⟨f, rfl⟩ : ∃ m, f = m + 1 := ⟨f - 1, by omega⟩
    have hi : i < t := by omega
    have y := x.1
    obtain ⟨k, hk⟩ : ∃ k, ls[i]'(by omega) = k := ⟨_, rfl⟩
    have hkN : k < N := hmem k (by rw [← hk]; exact List.getElem_mem _)
    rw [F31_L2_eq, if_pos (by simpa using hi), (sl.ext x).readN ht (by omega)]
    simp only [mst_]
    rw [hk, if_neg (by simp), if_neg (by simp; omega)]
    rw [if_pos ⟨by omega, by omega⟩, show 0 + Int.toNat (k : Int) * 1 = k from by omega, ld_at hb (bls_get _ hkN), inL_nd hnd (by omega) hk]
    simp only [mst_]
    rw [if_pos ⟨by omega, by omega⟩, st_to hb rfl (by rw [bls_len]; exact hkN) bls_set, wsucc (by omega)]
    refine ih f (i + 1) _ (nx + 24) (by omega) (by omega) (by omega) ⟨by omega, fun j hj => by rw [put_ne (by omega), x.2 j hj]⟩ ?_
    rw [put_same, bls_congr fun j _ => inL_set (by omega) hk j]


theorem rebuild_any {f : Nat} (hf : 5400 ≤ f) {g : Nat → Bool} {Da : Nat → List Nat} {w n p N t : Nat} (hn1 : 1 ≤ n) (hn12 : n ≤ 12) (hp1 : 1 ≤ p) (hp3 : p ≤ 3) (hN : N = n + p) (G : GoodA g Da N w) (hw : w ≤ 4096) {ls : List Nat} (ht : ls.length = t) (hmem : ∀ k ∈ ls, k < N) (hnd : ls.Nodup) (hg : ∀ j, j < N → g j = decide (j ∈ ls))
    {a la : Option (Nat × Nat)} (c lc : Bool) {h : AHeap} {nx : Nat} (T : Torn h nx a N g w Da) (sl : Sl h nx la t 1 (ints .i64 (nints ls))) (htp : t ≤ p) :
    ∃ us ob oc h' nx' R, us.length = ((List.range n).filter g).length ∧ us.Pairwise (· < ·) ∧ (∀ u ∈ us, u < p ∧ g (n + u) = false) ∧ callP Try.prog keepT f Y0 31 [.slice a N c, .int .i64 (p : Int), .slice la t lc] h nx = some (.tuple [.slice (some (ob, 0)) N oc, .int .i64 0], h', nx') ∧ Ext h nx h' nx' ∧ Mat h' nx' .u8 (some (ob, 0)) (solA g Da n w us us.length ++ R) w ∧ R.length = p := by
  obtain ⟨f, rfl⟩ : ∃ m, f = m + 1 := ⟨f - 1, by omega⟩
  obtain ⟨k, rfl⟩ : ∃ m, f = m + 1 := ⟨f - 1, by omega⟩
  have htl : t ≤ N := by rw [← ht, ← cnt_ls hmem hnd hg]; exact cnt_le g N
  rw [F31_eq, F36_eq, if_pos (by simp; omega), decide_eq_true (by omega)]
  simp only [mst_]
  rw [if_pos (show (p : Int) > 0 by omega), if_pos (show (p : Int) < ((N : Nat) : Int) by omega)]
  rw [show wrapA .i64 (((N : Nat) : Int) - (p : Int)) = (n : Int) from by rw [wA (by omega) (by omega)]; omega]
  rw [if_neg (by simp; omega), if_neg (by simp; omega), F31_J1_eq, if_pos (by simp; omega)]
  have hz : madeA [AV.bool false] (Int.toNat ((N : Nat) : Int) * 1) = bls (inL ls 0) N := by
    rw [Int.toNat_natCast, Nat.mul_one, inL_zero]; exact bls_false N
  rw [hz, show Int.toNat ((N : Nat) : Int) = N from Int.toNat_natCast N]
  obtain ⟨f', h1, n1, e1, x1, b1, l1⟩ := ggone_loop (callP Try.prog keepT (k + 1)) (k + 1) (N := N) (by omega) ht hmem hnd hg a c lc (((N : Nat) : Int) == ((N : Nat) : Int)) (p : Int) (n : Int) (id := nx + 22 + 8 + 2) sl (by omega) t (k + 1) 0 (h.put (nx + 22 + 8 + 2) (some ⟨bls (inL ls 0) N, 1, true⟩)) (nx + 22 + 8 + 8) (by omega) (by omega) (by omega) ⟨by omega, fun j hj => put_ne (by omega)⟩ (put_same _ _ _)
  rw [show ((0 : Nat) : Int) = 0 from rfl] at e1
  dsimp only
  rw [e1, F31_L2_eq, if_neg (by simp), if_pos (by simp)]
  have y1 := x1.1
  rw [if_neg (by simp; omega), F31_J3_eq, if_neg (by simp)]
  have sg : Sl h1 (n1 + 9) (some (nx + 22 + 8 + 2, 0)) N 1 (bls g N) := Sl.ofBlk b1 (by rw [bls_len]; omega) (by omega)
  have T1 := T.ext (x1.le (show n1 ≤ n1 + 9 + 7 by omega))
  obtain ⟨oa, oc, h2, n2, e2, x2, m2⟩ := left_spec (f := k + 1) (by omega) c (((N : Nat) : Int) == ((N : Nat) : Int)) (n := N) (by omega) T1 (sg.ext (nx' := n1 + 9 + 7) ⟨by omega, fun _ _ => rfl⟩)
  have kl := kept_le g N
  have y2 := x2.1
  obtain ⟨h3, n3, e3, x3⟩ := even_spec (f := k + 1) (by omega) (M := (kept g N).map Da) (by rw [List.length_map]; omega) hw oc m2
  rw [List.length_map] at e3
  have y3 := x3.1
  have ck := cnt_kept g N
  have cs := cnt_surv g n p
  have hct : cnt g N = t := by rw [cnt_ls hmem hnd hg, ht]
  rw [← hN, hct] at cs
  obtain ⟨us, ob, ooc, h4, n4, R, u1, u2, u3, e4, x4, m4, r4⟩ := rebuilt_any (f := k + 1) (by omega) hn1 hn12 hp3 hN G hw c (((N : Nat) : Int) == ((N : Nat) : Int)) (h := h3) (nx := n3 + 6)
    ((T1.ext x2).ext ⟨by omega, fun j hj => x3.2 j hj⟩) ((sg.ext (nx' := n2) ⟨by omega, fun j hj => x2.2 j (by omega)⟩).ext ⟨by omega, fun j hj => x3.2 j hj⟩) (by change cnt g n ≤ _; omega) (by omega)
  have y4 := x4.1
  rw [e2]
  simp only [mst_]
  rw [e3]
  simp only [mst_]
  rw [e4]
  simp only [mst_]
  exact ⟨us, ob, ooc, h4, n4, R, u1, u2, u3, rfl, ⟨by omega, fun j hj => by rw [x4.2 j (by omega), x3.2 j (by omega), x2.2 j (by omega), x1.2 j hj]⟩, m4, r4⟩

end Go.Proofs.Ytalfcokiooaliaa.T
