import Derived.Test.YtalfcokiooaliaaG20
import Derived.Test.YtalfcokiooaliaaG14
set_option linter.unusedVariables false
set_option linter.unusedSimpArgs false
namespace Go.Proofs.Ytalfcokiooaliaa.T
open Go Go.RowKit Go.Proofs

/-! ### the plain law: the tries of columns of which some are right -/
theorem flat_whole {Pd : List Nat} {d p n : Nat} (g : Geo d p n) (hP : Pd.length = n * 128) : ∀ i, i ≤ colN d p n - p → flatO (wholeL Pd d p n (colN d p n - p)) d p n i = Pd.take (offC d p n i * 128)
  | 0, _ => by simp [flatO, offC]
  | i + 1, h => by
    have e : (wholeL Pd d p n (colN d p n - p)).getD i [] = padW (bw d p n 0) (pieceC Pd d p n i) := by
      simp [wholeL, List.getD, List.getElem?_range (show i < colN d p n - p by omega)]
    rw [flatO_succ, flat_whole g hP i (by omega), e, padW_take (piece_len g hP (by omega))]
    show _ = Pd.take ((offC d p n i + lenC d p n (p + i)) * 128)
    unfold pieceC bw
    rw [Nat.add_mul, List.take_add]
theorem padW_self {W : Nat} {l : List Nat} (h : l.length = W) : padW W l = l := by unfold padW; rw [h, Nat.sub_self]; simp

/-- A try of which the columns that are kept are right gives the bytes. -/
theorem try_right {Pd : List Nat} {d p n : Nat} (g : Geo d p n) (hp3 : p ≤ 3) (hP : Pd.length = n * 128) (sP : Small Pd) {v : Nat → List Nat} {lost : Nat → Bool} {gs us : List Nat} (hm : ∀ k ∈ gs, k < colN d p n) (hu : UsOk d p n gs us) (hr : ∀ c, c < colN d p n → c ∉ gs → lost c = false ∧ v c = colV Pd d p n c) : tryB d p n v lost gs us = Pd := by
  have gp := g.pN
  have g8 := g.N8
  have wl := wholeL_len Pd d p n (colN d p n - p)
  have key : ∀ k, k < colN d p n → gP (colN d p n) p gs k = false → DaV (colN d p n) p (bw d p n 0) v lost k = padW (bw d p n 0) (colV Pd d p n (colOf (colN d p n) p k)) := fun k hk hg => by
    rw [gP_col gp hm hk] at hg
    obtain ⟨h1, h2⟩ := hr _ (col_lt gp hk) (by simpa using hg)
    unfold DaV fillV
    rw [if_neg (by simp [h1]), h2]
  unfold tryB
  rw [solA_only (M := wholeL Pd d p n (colN d p n - p)) wl (whole_row g hP (Nat.le_refl _)) (whole_small sP _ _ _ _) (by omega) rfl hu.1.symm hu.2.1 (fun u hu' => by have := (hu.2.2 u hu').1; omega)
    (fun k hk hg => ?_) (fun u hu' => ?_), flat_whole g hP _ (Nat.le_refl _), g.sum, List.take_of_length_le (by omega)]
  · have hc : colOf (colN d p n) p k = p + k := by unfold colOf; rw [if_pos hk]
    rw [key k (by omega) hg, hc]
    have hv : colV Pd d p n (p + k) = pieceC Pd d p n k := by unfold colV; rw [if_neg (by omega)]; congr 1; omega
    rw [hv]
    simp [wholeL, List.getD, List.getElem?_range hk]
  · obtain ⟨u1, u2⟩ := hu.2.2 u hu'
    have hc : colOf (colN d p n) p (colN d p n - p + u) = u := by unfold colOf; rw [if_neg (by omega)]; omega
    rw [key _ (by omega) u2, hc]
    have hv : colV Pd d p n u = enc (wholeL Pd d p n (colN d p n - p)) u (bw d p n 0) := by unfold colV; rw [if_pos u1]
    rw [hv, padW_self (enc_len _ _ _)]

theorem GatherLost_run (h : AHeap) (nx : Nat) (x0 : Int) (_ : (Lit.int .i64 x0).wf = true) (x1 : Int) (_ : (Lit.int .i64 x1).wf = true) (x2 : Int) (_ : (Lit.int .i64 x2).wf = true)
    (l3 : List Int) (g3 : l3.length * 1 ≤ 140737488351232) (w3 : ∀ n ∈ l3, (Lit.int .u8 n).wf = true) (a3 : Option (Nat × Nat)) (sl3 : Sl h nx a3 l3.length 1 (l3.map (AV.int .u8)))
    (l4 : List Int) (g4 : l4.length * 8 ≤ 140737488351232) (_ : ∀ n ∈ l4, (Lit.int .i64 n).wf = true) (a4 : Option (Nat × Nat)) (sl4 : Sl h nx a4 l4.length 1 (l4.map (AV.int .i64))) :
    ∃ f h' nx', callP Try.prog keepT f Y0 3 [.int .i64 x0, .int .i64 x1, .int .i64 x2, .slice a3 l3.length false, .slice a4 l4.length false] h nx = some (.bool true, h', nx') := by
  obtain ⟨k, hk⟩ : ∃ k, k = 20000 + l4.length := ⟨_, rfl⟩
  refine ⟨k + 1, ?_⟩
  obtain ⟨b3, rfl, s3, z3⟩ := ofB w3
  rw [nints_len] at sl3 g3 ⊢
  have sl3 : Sl h nx a3 b3.length 1 (ints .u8 (nints b3)) := sl3
  clear w3 z3
  obtain ⟨dI, pI, n1, l1, hd, hd', hp, hp', hpd, e1⟩ := B.shape_spec (k := k) (by omega) x0 x1 h (nx + 9)
  obtain ⟨d, rfl⟩ : ∃ d : Nat, dI = (d : Int) := ⟨dI.toNat, by omega⟩
  obtain ⟨p, rfl⟩ : ∃ p : Nat, pI = (p : Int) := ⟨pI.toNat, by omega⟩
  obtain ⟨n2, e2, l2⟩ := picked_spec (k := k) (by omega) x2 60000 h (n1 + 3) (by omega) (by omega)
  have q0 := Int.emod_nonneg x2 (show (60000 : Int) ≠ 0 by omega)
  have q1 := Int.emod_lt_of_pos x2 (show (0 : Int) < 60000 by omega)
  obtain ⟨a, hae⟩ : ∃ a : Nat, x2 % 60000 = (a : Int) := ⟨(x2 % 60000).toNat, by omega⟩
  rw [hae] at e2 q0 q1
  have xa0 : Ext h nx h (n2 + 3) := ⟨by omega, fun _ _ => rfl⟩
  obtain ⟨D, oB, cB, hB, nB, sD', D1, D2, eB, xB, slB⟩ := Block_spec (f := k) (by omega) s3 (by omega) false (sl3.ext xa0)
  have yB := xB.1
  obtain ⟨m, hm⟩ : ∃ m, D.length = m := ⟨_, rfl⟩
  rw [hm] at D1 D2 eB slB
  obtain ⟨n, hn⟩ : ∃ n, n = (m + 127) / 128 := ⟨_, rfl⟩
  have g := geo d p n (by omega) (by omega) (by omega) (by omega) (by omega) (by omega) (by omega)
  have gp := g.pN
  have g8 := g.N8
  obtain ⟨P, xa, xc, hL, nL, eL, xL, oL, cL, aL, lL⟩ := laid_spec (f := k) (by omega) (d := d) (p := p) (a := a) (m := m) (n := n) (by omega) (by omega) (by omega) (by omega) (by omega) (by omega) D1 (by omega) hn hm sD' cB (slB.ext (nx' := nB + 13) ⟨by omega, fun _ _ => rfl⟩)
  have yL := xL.1
  obtain ⟨pid, hxa, pl, pb⟩ := PRow.blk oL (by omega)
  have pid0 := lL pid ⟨0, hxa⟩
  subst hxa
  rw [F3_eq, e1]
  simp only [mst_]
  rw [e2]
  simp only [mst_]
  rw [eB]
  simp only [mst_]
  rw [eL]
  simp only [mst_]
  rw [st_all (put_same _ _ _) (by simp) (by simp) (by simp [allOne, AV.one])]
  obtain ⟨S, hS⟩ : ∃ S, S = [AV.int .i64 (sA (padW (n * 128) D)), AV.int .i64 (sB (padW (n * 128) D)), AV.int .i64 (sC (padW (n * 128) D)), AV.int .i64 (sD (padW (n * 128) D))] := ⟨_, rfl⟩
  rw [← hS]
  obtain ⟨H, hH⟩ : ∃ H, H = AHeap.put (AHeap.put hL (nB + 9) (some ⟨[.int .i64 0, .int .i64 0, .int .i64 0, .int .i64 0], 4, true⟩)) (nB + 9) (some ⟨S, 4, true⟩) := ⟨_, rfl⟩
  rw [← hH]
  have pH : ∀ j, j ≠ nB + 9 → H j = hL j := fun j hj => by rw [hH, put_ne hj, put_ne hj]
  have bS : H (nB + 9) = some ⟨S, 4, true⟩ := by rw [hH, put_same]
  have bP : H pid = some ⟨(prows P (fun _ => false) (colN d p n)).flatten, 2, true⟩ := by rw [pH pid (by omega), pb]
  have xH : Ext h nx H (nL + 3) := ⟨by omega, fun j hj => by rw [pH j (by omega), xL.2 j (by omega), xB.2 j (by omega)]⟩
  have sl4' : Sl h nx a4 l4.length 1 (ints .i64 l4) := sl4
  obtain ⟨N, hN⟩ : ∃ N, colN d p n = N := ⟨_, rfl⟩
  have gp' := gp
  have g8' := g8
  rw [hN] at gp' g8'
  obtain ⟨gg, oG, cG, h5, n5, e5, x5, o5, c5, _, lo5⟩ := sev_spec2 (f := k) (l := l4) (by omega) (by omega) false (most := p) (n := N) (by omega) (by omega) (by omega) ((sl4'.ext xH).ext (nx' := nL + 8) ⟨by omega, fun _ _ => rfl⟩)
  have y5 := x5.1
  obtain ⟨t, ht⟩ : ∃ t, cnt gg N = t := ⟨_, rfl⟩
  rw [hN, e5]
  simp only [mst_]
  rw [ht] at c5 ⊢
  obtain ⟨lost, hlo⟩ : ∃ lost, lost = inL ((List.range N).filter gg) t := ⟨_, rfl⟩
  have bP5 : h5 pid = some ⟨(prows P (inL ((List.range N).filter gg) 0) N).flatten, 2, true⟩ := by
    rw [inL_zero, x5.2 pid (by omega), bP, hN]
  obtain ⟨f', h6, n6, e6, x6, b6⟩ := lose4_loop (callP Try.prog keepT k) k (N := N) (by omega) (ls := (List.range N).filter gg) ht (by omega) (fun i hi => List.mem_range.1 (List.mem_filter.1 hi).1) (P := P) (d : Int) (p : Int) (a : Int) oB m cB xc (some (nB + 9, 0)) cG (h0 := h5) (n0 := n5) ((NRow.sl o5 ht)) (by omega) (fun q hq _ => by have := lo5 q.1 ⟨q.2, by rw [hq]⟩; omega) t k 0 h5 (n5 + 1) (by omega) (by omega) ⟨by omega, fun _ _ _ => rfl⟩ bP5
  rw [show ((0 : Nat) : Int) = 0 from rfl] at e6
  have y6 := x6.1
  have bS6 : h6 (nB + 9) = some ⟨S, 4, true⟩ := by rw [x6.2 _ (by omega) (by omega), x5.2 _ (by omega), bS]
  rw [e6, F3_L1_eq, if_neg (by simp)]
  simp only [mst_]
  rw [ldr_all bS6 (by rw [hS]; rfl), hS]
  simp only [mst_]
  rw [← hlo] at b6
  have hlost : ∀ j, j < N → lost j = gg j := fun j hj => by rw [hlo]; exact inL_all hj ht
  have hcl : cnt lost (colN d p n) = t := by rw [hN, cnt_congr N hlost, ht]
  have hPl : (padW (n * 128) D).length = n * 128 := padW_len (by omega)
  have sPd : Small (padW (n * 128) D) := padW_small sD'
  have xL6 : Frm (fun j => j = pid ∨ j = nB + 9) hL nL h6 (n6 + 19) := ⟨by omega, fun j hj hne => by rw [x6.2 j (by omega) (fun z => hne (.inl z)), x5.2 j (by omega), pH j (fun z => hne (.inr z))]⟩
  have cl : ColsL h6 (n6 + 19) (colN d p n) (bw d p n) (colV (padW (n * 128) D) d p n) lost P := ⟨fun k hk _ => ⟨(cL k hk).1, (cL k hk).2.1, colV_small sPd _ _ _ _, (cL k hk).2.2.fr ((aL k hk).less fun j z => z.elim (fun z => .inl ⟨0, by rw [z]⟩) (fun z => .inr (by omega))) xL6⟩⟩
  have hmem : ∀ c ∈ lostL lost (colN d p n), c < colN d p n := fun c hc => List.mem_range.1 (List.mem_filter.1 hc).1
  have hright : ∀ us, UsOk d p n (lostL lost (colN d p n)) us → tryB d p n (colV (padW (n * 128) D) d p n) lost (lostL lost (colN d p n)) us = padW (n * 128) D := fun us hu => by
    refine try_right g (by omega) hPl sPd hmem hu fun c hc hn => ⟨?_, rfl⟩
    cases hlc : lost c with
    | false => rfl
    | true => exact absurd (List.mem_filter.2 ⟨List.mem_range.2 hc, hlc⟩) hn
  obtain ⟨us, da, ya, yc, h7, n7, hus, e7, x7, s7⟩ := gather_now (k := k - 1) (by omega) (d := d) (p := p) (a := a) (m := m) (n := n) (by omega) (by omega) (by omega) (by omega) (by omega) (by omega) D1 (by omega) hn (v := colV (padW (n * 128) D) d p n) (P := P) (lost := lost) xc (s0 := sA (padW (n * 128) D)) (s1 := sB (padW (n * 128) D)) (s2 := sC (padW (n * 128) D)) (s3 := sD (padW (n * 128) D)) (h := h6) (nx := n6 + 19) (by rw [hN]; exact Sl.pcs b6 (by omega)) cl (by rw [hcl]; exact c5) (fun us hu => by rw [hright us hu]; exact ⟨rfl, rfl, rfl, rfl⟩)
  rw [show k - 1 + 1 = k from by omega, hN] at e7
  rw [hright us hus, padW_take hm] at s7
  rw [e7]
  simp only [mst_]
  rw [if_pos (by simp), if_pos (by simp)]
  have y7 := x7.1
  obtain ⟨n8, l8, e8⟩ := sb_spec (f := k) D hm (by omega) (by omega) true cB s7 (slB.ext (h' := h7) (nx' := n7) ⟨by omega, fun j hj => by rw [x7.2 j (by omega), x6.2 j (by omega) (by omega), x5.2 j (by omega), pH j (by omega), xL.2 j (by omega)]⟩) (n7 + 13)
  rw [e8]
  simp only [mst_]
  exact ⟨_, _, rfl⟩

end Go.Proofs.Ytalfcokiooaliaa.T
