import Derived.Test.YtalfcokiooaliaaG4
set_option linter.unusedVariables false
set_option linter.unusedSimpArgs false
namespace Go.Proofs.Ytalfcokiooaliaa.T
open Go Go.RowKit Go.Proofs

theorem rebuilt_any {f : Nat} (hf : 5300 ≤ f) {g : Nat → Bool} {Da : Nat → List Nat} {w n p N : Nat} (hn1 : 1 ≤ n) (hn12 : n ≤ 12) (hp3 : p ≤ 3) (hN : N = n + p) (G : GoodA g Da N w) (hw : w ≤ 4096)
    {a ga : Option (Nat × Nat)} (c gc : Bool) {h : AHeap} {nx : Nat} (t : Torn h nx a N g w Da) (sg : Sl h nx ga N 1 (bls g N)) (enough : ((List.range n).filter g).length ≤ (surv g n p).length) (kp : 1 ≤ (kept g N).length) :
    ∃ us ob oc h' nx' R, us.length = ((List.range n).filter g).length ∧ us.Pairwise (· < ·) ∧ (∀ u ∈ us, u < p ∧ g (n + u) = false) ∧ callP Try.prog keepT f Y0 44 [.slice a N c, .int .i64 (n : Int), .slice ga N gc] h nx = some (.slice (some (ob, 0)) N oc, h', nx') ∧ Ext h nx h' nx' ∧ Mat h' nx' .u8 (some (ob, 0)) (solA g Da n w us us.length ++ R) w ∧ R.length = p := by
  obtain ⟨f, rfl⟩ : ∃ m, f = m + 1 := ⟨f - 1, by omega⟩
  obtain ⟨la, lc, h1, n1, e1, x1, m1⟩ := left_spec (f := f) (by omega) c gc (by omega) (t.ext (nx' := nx + 8) ⟨by omega, fun _ _ => rfl⟩) (sg.ext (nx' := nx + 8) ⟨by omega, fun _ _ => rfl⟩)
  have y1 := x1.1
  obtain ⟨q0, q1, q2, q3⟩ := m1.row (R := AV × AHeap × Nat) (i := 0) (by rw [List.length_map]; omega)
  rw [List.length_map, show ((0 : Nat) : Int) = 0 from rfl] at q3
  rw [F44_eq, e1]
  simp only [mst_]
  rw [q3]
  simp only [mst_]
  rw [if_pos (by simp; omega)]
  have hz : madeA [AV.slice none 0 false] (Int.toNat ((N : Nat) : Int) * 1) = outCells w N (fun _ => false) (fun _ => (none, false)) := by
    rw [Int.toNat_natCast, Nat.mul_one]; exact outCells_zero _ _ _
  rw [hz, show Int.toNat ((N : Nat) : Int) = N from Int.toNat_natCast N, show (((N : Nat) : Int) == ((N : Nat) : Int)) = true from by simp]
  obtain ⟨H, hH⟩ : ∃ H, H = h1.put (n1 + 2) (some ⟨outCells w N (fun _ => false) (fun _ => (none, false)), 1, true⟩) := ⟨_, rfl⟩
  have x2 : Ext h nx H (n1 + 9) := ⟨by omega, fun j hj => by rw [hH, put_ne (by omega), x1.2 j (by omega)]⟩
  have B0 : Bld H nx (n1 + 9) (n1 + 2) w N (fun _ => false) (fun _ => (none, false)) (nD g Da w) (ownOf none) := Bld.new (by rw [hH]; exact put_same _ _ _) (by omega) (by omega) (fun ⟨_, z⟩ => by cases z) _
  rw [← hH]
  obtain ⟨q', ha, hc, h3, n3, e3, x3, B3, o3, l3, t3⟩ := gb_first (k0 := f) (by omega) f (n := n) (by omega) hw c gc true t sg (ob := n1 + 2) (by omega) N f 0 (fun _ => (none, false)) none false H (n1 + 9) (by omega) (by omega) x2 (B0.congr (fun j _ => by simp [okA]) (fun _ _ _ => rfl)) (OwnRows.nil _ _ _ _) (fun i ⟨_, z⟩ => by cases z) (fun k hk => by omega)
  rw [show ((0 : Nat) : Int) = 0 from rfl] at e3
  change F44_L1 _ _ _ _ _ _ _ _ _ _ _ _ _ _ _ none 0 false none 0 false _ _ _ _ 0 _ _ = _ at e3
  rw [e3]
  have hh : hol g n N = (List.range n).filter g := hol_all g (by omega)
  rw [hh] at o3 ⊢
  obtain ⟨hs, hhs⟩ : ∃ hs, hs = (List.range n).filter g := ⟨_, rfl⟩
  rw [← hhs] at o3 enough ⊢
  obtain ⟨tt, ht⟩ : ∃ tt, hs.length = tt := ⟨_, rfl⟩
  rw [ht] at enough ⊢
  obtain ⟨j, ua, uc, h4, n4, e4, jp, jt, x4, B4, oh4, ou4⟩ := gb_used (k0 := f) (Dn := nD g Da w) f hN (by omega) c gc true sg ht enough (ha := ha) hc p f 0 none false h3 n3 (by omega) (by omega) (by simp [surv]) x3 (a := a) (B3.go (Y := fun _ => False) ⟨Nat.le_refl _, fun _ _ _ => rfl⟩ (fun _ _ q => q.elim) fun i _ z => by
    rcases z with z | ⟨_, z⟩
    · exact z
    · cases z) o3 (OwnRows.nil _ _ _ _) l3 (fun i ⟨_, z⟩ => by cases z) (fun i ⟨_, z⟩ => by cases z)
  change F44_L2 _ _ _ _ _ _ _ _ _ _ _ _ _ _ _ _ _ none 0 false ((n : Nat) : Int) _ _ = _ at e4
  rw [e4, F44_J4_eq]
  have hk : ∀ k, k < n → okA g n N k = true := fun k hk => (okA_iff _ _ _ _).2 ⟨by omega, .inr hk⟩
  have sp := surv_pw g n j
  have u3 : ∀ u ∈ surv g n j, u < 3 := fun u hu => by have := (surv_mem hu).1; omega
  have uN : ∀ u ∈ surv g n j, n + u < N ∧ g (n + u) = false := fun u hu => ⟨by have := (surv_mem hu).1; omega, (surv_mem hu).2⟩
  have hht : ((List.range n).filter g).length = tt := by rw [← hhs]; exact ht
  have enc2 := solA_enc G hn12 (by omega) jt hht sp u3 uN
  have hn := solA_len g Da n w (surv g n j) tt
  have hM : ∀ r ∈ solA g Da n w (surv g n j) tt, r.length = w := solA_row G (by omega)
  have sM : SmallM (solA g Da n w (surv g n j) tt) := solA_small G (by omega)
  have kM : ∀ k, k < n → g k = false → (solA g Da n w (surv g n j) tt).getD k [] = Da k := fun k hk hg => by rw [solA_get hk, if_neg (by simp [hg])]
  generalize hMe : solA g Da n w (surv g n j) tt = M at *
  obtain ⟨h5, n5, e5, f5, B5⟩ := fill_spec (f := f) (by omega) hn hn1 hn12 (N := N) (by omega) (by omega) hM sM hw (us := surv g n j) (hs := hs) jt ht hhs sp u3 (fun u hu => (uN u hu).1) (by
      have := surv_le g n j; omega) hc uc true (h := h4) (nx := n4 + 5) (B4.ext (nx' := n4 + 5) ⟨by omega, fun _ _ => rfl⟩ (fun _ _ q => q)) hk
    (fun u hu => (okA_iff _ _ _ _).2 ⟨(uN u hu).1, .inl (uN u hu).2⟩) (fun k hk hg => t3 k (by omega) hk hg) (fun k hk => by
      unfold nD
      by_cases z : g k = true
      · rw [if_pos z, if_pos z]
      · rw [if_neg z, if_neg z, kM k hk (by simpa using z)]) (fun u hu => by
      unfold nD
      rw [if_neg (by simp [(uN u hu).2])]; exact enc2 u hu)
    ((NRow.sl oh4 ht).ext (nx' := n4 + 5) ⟨by omega, fun _ _ => rfl⟩) ((NRow.sl ou4 jt).ext (nx' := n4 + 5) ⟨by omega, fun _ _ => rfl⟩) (fun i z => .inl z)
  have y5 := f5.1
  have y4 := x4.1
  rw [e5]
  simp only [mst_]
  obtain ⟨D, hD⟩ : ∃ D : Nat → List Nat, D = fun k => if k < n then M.getD k [] else if g k then enc M (k - n) w else Da k := ⟨_, rfl⟩
  have hD0 : (List.range n).map D = M := by
    apply List.ext_getElem
    · simp [hn]
    · intro i h1 h2
      simp only [List.getElem_map, List.getElem_range]
      rw [hD]
      simp only [if_pos (show i < n by omega)]
      rw [getD_at h2]
  obtain ⟨q6, h6, n6, e6, x6, B6⟩ := gb_last (k0 := f) (by omega) f hn hn1 hN (by omega) (by omega) hw sM hD0 (fun i hi hg => by
      rw [hD]
      simp only [if_neg (show ¬ n + i < n by omega), if_pos hg]
      congr 1; omega) (a := a) c gc true sg p f 0 q' h5 (n5 + 2) (by omega) (by omega) ⟨by omega, fun i hi => by rw [f5.2 i (by omega) (fun z => by omega), x4.2 i hi]⟩
    ((B5.ext (nx' := n5 + 2) ⟨by omega, fun _ _ => rfl⟩ (X' := fun _ => False) (fun _ _ q => q.elim)).congr (fun k hk => by
      rw [Bool.eq_iff_iff, okA_iff, okB_iff]
      constructor
      · rintro ⟨_, z | z⟩
        · exact .inr (.inl z)
        · exact .inl z
      · rintro (z | z | z)
        · exact ⟨by omega, .inr z⟩
        · exact ⟨by omega, .inl z⟩
        · exact ⟨by omega, .inr (by omega)⟩) fun k hk hok => by
      rw [hD]
      by_cases z : k < n
      · simp only [if_pos z]
      · simp only [if_neg z]
        rcases (okB_iff _ _ _ _).1 hok with q | q | q
        · omega
        · unfold nD
          rw [if_neg (by simp [q]), if_neg (by simp [q])]
        · omega)
  rw [show ((n + 0 : Nat) : Int) = (n : Int) from rfl] at e6
  rw [e6]
  refine ⟨surv g n j, n1 + 2, true, h6, n6, (List.range p).map fun i => D (n + i), by rw [jt, ← ht], sp, fun u hu => ⟨by have := (surv_mem hu).1; omega, (surv_mem hu).2⟩, rfl, x6, ?_, by simp⟩
  have := B6.all fun k hk => (okB_iff _ _ _ _).2 (.inr (.inr hk))
  have e : (List.range N).map D = M ++ (List.range p).map fun i => D (n + i) := by
    rw [← hD0, hN, List.range_add, List.map_append, List.map_map]; rfl
  rw [e] at this
  rw [jt, hMe]
  exact this

end Go.Proofs.Ytalfcokiooaliaa.T
