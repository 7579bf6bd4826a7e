import Derived.Test.YtalfcokiooaliaaG2
set_option linter.unusedVariables false
set_option linter.unusedSimpArgs false
namespace Go.Proofs.Ytalfcokiooaliaa.T
open Go Go.RowKit Go.Proofs

/-! ### the columns that fit what is left, whatever it is -/
theorem hs_getD (g : Nat → Bool) : ∀ n i, i < n → g i = true → ((List.range n).filter g).getD (cnt g i) 0 = i ∧ cnt g i < ((List.range n).filter g).length
  | 0, i, h, _ => by omega
  | n + 1, i, h, hg => by
    rw [List.range_succ, List.filter_append]
    by_cases e : i = n
    · subst e
      simp [hg, cnt]
    · obtain ⟨e1, e2⟩ := hs_getD g n i (by omega) hg
      refine ⟨?_, by rw [List.length_append]; omega⟩
      simp only [List.getD, List.getElem?_append_left e2]
      exact e1
theorem cnt_hs {g : Nat → Bool} {n a : Nat} (ha : a < ((List.range n).filter g).length) : cnt g (((List.range n).filter g).getD a 0) = a := by
  have hm : ((List.range n).filter g).getD a 0 ∈ (List.range n).filter g := by rw [getD_at ha]; exact List.getElem_mem _
  obtain ⟨h1, h2⟩ := List.mem_filter.1 hm
  have h1 := List.mem_range.1 h1
  obtain ⟨e1, e2⟩ := hs_getD g n _ h1 h2
  have pw : ((List.range n).filter g).Pairwise (· < ·) := List.Pairwise.filter _ List.pairwise_lt_range
  generalize hi : ((List.range n).filter g).getD a 0 = i at *
  rcases Nat.lt_trichotomy (cnt g i) a with l | l | l
  · have := pw_ne pw l ha; omega
  · exact l
  · have := pw_ne pw l e2; omega

def holedA (g : Nat → Bool) (Da : Nat → List Nat) (n w : Nat) : List (List Nat) := (List.range n).map fun i => if g i then List.replicate w 0 else Da i
def wantD (g : Nat → Bool) (Da : Nat → List Nat) (n w u : Nat) : List Nat := mixed 1 (enc (holedA g Da n w) u w) (Da (n + u))
/-- The data columns that one gets. -/
def solA (g : Nat → Bool) (Da : Nat → List Nat) (n w : Nat) (us : List Nat) (t : Nat) : List (List Nat) :=
  (List.range n).map fun i => if g i then fillTo (invF t (facF us ((List.range n).filter g))) (fun b => wantD g Da n w (us.getD b 0)) w (cnt g i) t else Da i
theorem solA_len (g : Nat → Bool) (Da : Nat → List Nat) (n w : Nat) (us : List Nat) (t : Nat) : (solA g Da n w us t).length = n := by simp [solA]
theorem solA_get {g : Nat → Bool} {Da : Nat → List Nat} {n w : Nat} {us : List Nat} {t i : Nat} (hi : i < n) : (solA g Da n w us t).getD i [] = if g i then fillTo (invF t (facF us ((List.range n).filter g))) (fun b => wantD g Da n w (us.getD b 0)) w (cnt g i) t else Da i := by
  simp [solA, List.getD, List.getElem?_range hi]
structure GoodA (g : Nat → Bool) (Da : Nat → List Nat) (N w : Nat) : Prop where
  len : ∀ k, k < N → g k = false → (Da k).length = w
  sm : ∀ k, k < N → g k = false → Small (Da k)
theorem solA_row {g : Nat → Bool} {Da : Nat → List Nat} {n w N : Nat} {us : List Nat} {t : Nat} (G : GoodA g Da N w) (hn : n ≤ N) : ∀ r ∈ solA g Da n w us t, r.length = w := by
  intro r hr
  obtain ⟨i, hi, rfl⟩ := List.mem_map.1 hr
  have hi := List.mem_range.1 hi
  split
  · exact fillTo_len _ _ _ _ _
  · next h => exact G.len i (by omega) (by simpa using h)
theorem solA_small {g : Nat → Bool} {Da : Nat → List Nat} {n w N : Nat} {us : List Nat} {t : Nat} (G : GoodA g Da N w) (hn : n ≤ N) : SmallM (solA g Da n w us t) := by
  intro r hr
  obtain ⟨i, hi, rfl⟩ := List.mem_map.1 hr
  have hi := List.mem_range.1 hi
  split
  · exact fillTo_small (invF_F8 (facF_F8 _ _)) _ _ _ _
  · next h => exact G.sm i (by omega) (by simpa using h)
theorem holed_sol (g : Nat → Bool) (Da : Nat → List Nat) (n w : Nat) (us : List Nat) (t : Nat) : holed g (solA g Da n w us t) w = holedA g Da n w := by
  unfold holed holedA
  rw [solA_len]
  refine List.map_congr_left fun i hi => ?_
  have hi := List.mem_range.1 hi
  by_cases h : g i = true
  · rw [if_pos h, if_pos h]
  · rw [if_neg h, if_neg h, solA_get hi, if_neg h]
theorem xor_cancel {a b c : Nat} (h : a ^^^ b = a ^^^ c) : b = c := by
  have := congrArg (a ^^^ ·) h
  simpa [← Nat.xor_assoc] using this

theorem solA_enc {g : Nat → Bool} {Da : Nat → List Nat} {n w N t : Nat} {us : List Nat} (G : GoodA g Da N w) (hn12 : n ≤ 12) (hnN : n ≤ N) (hu : us.length = t) (hh : ((List.range n).filter g).length = t) (pu : us.Pairwise (· < ·)) (u3 : ∀ u ∈ us, u < 3) (uN : ∀ u ∈ us, n + u < N ∧ g (n + u) = false) :
    ∀ u ∈ us, Da (n + u) = enc (solA g Da n w us t) u w := by
  intro u hmem
  obtain ⟨b, hb, rfl⟩ := List.getElem_of_mem hmem
  have ph : ((List.range n).filter g).Pairwise (· < ·) := List.Pairwise.filter _ List.pairwise_lt_range
  have h12 : ∀ i ∈ (List.range n).filter g, i < 12 := fun i hi => by
    have := List.mem_range.1 (List.mem_filter.1 hi).1; omega
  have full := facF_full hu hh pu ph u3 h12
  have inv := (invF_both (facF_F8 us _) full).2
  have hR := invF_F8 (n := t) (facF_F8 us ((List.range n).filter g))
  have lD := G.len _ (uN _ hmem).1 (uN _ hmem).2
  have sD := G.sm _ (uN _ hmem).1 (uN _ hmem).2
  have sl := solA_len g Da n w us t
  apply List.ext_getElem
  · rw [enc_len, lD]
  · intro k h1 h2
    rw [lD] at h1
    have wa := want_at (g := g) (M := solA g Da n w us t) (w := w) us[b] k h1
    rw [sl, hh] at wa
    have e1 : ∀ a, a < t → (solA g Da n w us t).getD (((List.range n).filter g).getD a 0) [] = fillTo (invF t (facF us ((List.range n).filter g))) (fun b => wantD g Da n w (us.getD b 0)) w a t := fun a ha => by
      have hm : ((List.range n).filter g).getD a 0 ∈ (List.range n).filter g := by rw [getD_at (by omega)]; exact List.getElem_mem _
      obtain ⟨z1, z2⟩ := List.mem_filter.1 hm
      rw [solA_get (List.mem_range.1 z1), if_pos z2, cnt_hs (by omega)]
    have e2 : xsum t (fun a => Gf.gm (fac us[b] (((List.range n).filter g).getD a 0)) (((solA g Da n w us t).getD (((List.range n).filter g).getD a 0) []).getD k 0)) = (wantD g Da n w us[b]).getD k 0 := by
      have hW : F8 fun c k => (wantD g Da n w (us.getD c 0)).getD k 0 := fun c k => getD_lt (by
        unfold wantD
        by_cases hc : c < us.length
        · have z := uN _ (List.getElem_mem hc)
          refine mixed_small (by omega) (enc_small _ _ _) ?_
          rw [enc_len, getD_at hc, G.len _ z.1 z.2]
        · have z : us.getD c 0 = 0 := by simp [List.getD, List.getElem?_eq_none (by omega : us.length ≤ c)]
          rw [z]
          intro x hx
          obtain ⟨i, hi, rfl⟩ := List.getElem_of_mem hx
          simp only [mixed, List.getElem_zipWith]
          exact Gf.xor_lt (enc_small _ _ _ _ (List.getElem_mem _)) (Gf.gm_lt (by omega))) k
      rw [xsum_congr (g := fun a => Gf.gm (facF us ((List.range n).filter g) b a) (xsum t fun c => Gf.gm (invF t (facF us ((List.range n).filter g)) a c) ((wantD g Da n w (us.getD c 0)).getD k 0))) fun a ha => by
        rw [e1 a ha, facF_eq, getD_at hb]
        congr 1
        simp [fillTo, List.getD, List.getElem?_range h1]]
      rw [assoc3 (fun a => facF_F8 us _ b a) hR hW k]
      rw [xsum_congr (g := fun c => Gf.gm (dl b c) ((wantD g Da n w (us.getD c 0)).getD k 0)) fun c hc => by rw [← inv b c (by omega) hc]; rfl]
      rw [xsum_dl t b _ (fun c => hW c k) (by omega)]
      dsimp only
      rw [getD_at hb]
    rw [e2] at wa
    unfold want wantD at wa
    rw [holed_sol] at wa
    have l1 := enc_len (holedA g Da n w) us[b] w
    have l2 := enc_len (solA g Da n w us t) us[b] w
    rw [mixed_at (by omega) (by omega), mixed_at (by omega) (by omega)] at wa
    have := xor_cancel wa
    have es : (enc (solA g Da n w us t) us[b] w).getD k 0 < 256 := getD_lt (enc_small _ _ _) _
    have eD : (Da (n + us[b])).getD k 0 < 256 := getD_lt sD _
    rw [Gf.one_gm es, Gf.one_gm eD, getD_at (by omega), getD_at (by omega)] at this
    exact this.symm

/-- Columns that fit are these. -/
theorem solA_only {g : Nat → Bool} {Da : Nat → List Nat} {n w t : Nat} {us : List Nat} {M : List (List Nat)} (hn : M.length = n) (hM : ∀ r ∈ M, r.length = w) (sM : SmallM M) (hn12 : n ≤ 12) (hu : us.length = t) (hh : ((List.range n).filter g).length = t) (pu : us.Pairwise (· < ·)) (u3 : ∀ u ∈ us, u < 3)
    (k1 : ∀ k, k < n → g k = false → Da k = M.getD k []) (k2 : ∀ u ∈ us, Da (n + u) = enc M u w) : solA g Da n w us t = M := by
  have hol : holed g M w = holedA g Da n w := by
    unfold holed holedA
    rw [hn]
    refine List.map_congr_left fun i hi => ?_
    have hi := List.mem_range.1 hi
    by_cases h : g i = true
    · rw [if_pos h, if_pos h]
    · rw [if_neg h, if_neg h, k1 i hi (by simpa using h)]
  have hwant : ∀ b, b < t → want g M w (us.getD b 0) = wantD g Da n w (us.getD b 0) := fun b hb => by
    unfold want wantD
    rw [hol, k2 _ (by rw [getD_at (by omega)]; exact List.getElem_mem _)]
  apply List.ext_getElem
  · rw [solA_len, hn]
  · intro i h1 h2
    have hi : i < n := by omega
    have e : (solA g Da n w us t).getD i [] = M.getD i [] := by
      rw [solA_get hi]
      by_cases h : g i = true
      · rw [if_pos h]
        obtain ⟨z1, z2⟩ := hs_getD g n i hi h
        have fl := fill_law (g := g) (M := M) (w := w) (t := t) (us := us) hM sM (by omega) hu (by rw [hn]; exact hh) pu u3 (a := cnt g i) (by omega)
        rw [hn, z1] at fl
        rw [← fl]
        unfold fillTo
        refine List.map_congr_left fun k _ => xsum_congr fun c hc => by dsimp only; rw [hwant c hc]
      · rw [if_neg h, k1 i hi (by simpa using h)]
    rw [getD_at h1, getD_at h2] at e
    exact e

end Go.Proofs.Ytalfcokiooaliaa.T
