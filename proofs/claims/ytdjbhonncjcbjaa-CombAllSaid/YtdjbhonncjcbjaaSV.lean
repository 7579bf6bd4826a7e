import Derived.Test.YtdjbhonncjcbjaaS8
set_option linter.unusedVariables false
set_option linter.unusedSimpArgs false
namespace Go.Proofs.Ytdjbhonncjcbjaa.T
open Go Go.RowKit Go.Proofs

theorem stA1 {h : AHeap} {b : Nat} {cs : List AV} {es i : Nat} {v : AV} (hb : h b = some ⟨cs, es, true⟩) (hv : v.one = true) (hi : i < cs.length) : stA h b i v 1 = some ⟨cs.set i v, es, true⟩ := by
  have hc : v.cells = [v] := by cases v <;> simp [AV.one] at hv <;> rfl
  rw [stA_at hb (by simp [storeOk, hc, allOne, hv]; omega), hc]
  congr 2
  simp only [splice, List.length_cons, List.length_nil, Nat.zero_add]
  rw [List.set_eq_take_append_cons_drop, if_pos hi]
  simp

theorem several1 {k0 : Nat} (hk0 : 1 ≤ k0) (lf : Nat) (l : List Int) (most : Int) (n : Nat) (hn : 1 ≤ n) (hn' : n ≤ 100000) (hl : l.length ≤ 1000000000000000) {a0 : Option (Nat × Nat)} (c0 c8 : Bool) {h0 : AHeap} {nx0 : Nat} (hs : Sl h0 nx0 a0 l.length 1 (ints .i64 l)) {b : Nat} (hb : nx0 ≤ b) (m : Nat) :
    ∀ (r i : Nat) (bs : List Bool) (h : AHeap) (nx : Nat), i + m = l.length → m < r → bs.length = n → ((bs.count true : Nat) : Int) ≤ most → Ext h0 nx0 h nx → b < nx → h b = some ⟨bs.map AV.bool, 1, true⟩ →
    ∃ (bs' : List Bool) (h' : AHeap) (nx' : Nat), F26_L1 (callP Try.prog keepT k0) Y0 lf r a0 l.length c0 most (n : Int) (some (b, 0)) n c8 ((bs.count true : Nat) : Int) (i : Int) h nx = F26_J3 (callP Try.prog keepT k0) Y0 lf (n : Int) (some (b, 0)) n c8 h' nx' ∧
      bs'.length = n ∧ ((bs'.count true : Nat) : Int) ≤ most ∧ Ext h0 nx0 h' nx' ∧ b < nx' ∧ h' b = some ⟨bs'.map AV.bool, 1, true⟩ := by
  induction m with
  | zero =>
    intro r i bs h nx e hr hbl hbc hx hbn hbb
    obtain ⟨r, rfl⟩ : ∃ m, r = m + 1 := ⟨r - 1, by omega⟩
    obtain rfl : i = l.length := by omega
    rw [F26_L1_eq, if_neg (by simp)]
    exact ⟨bs, h, _, rfl, hbl, hbc, hx.le (by omega), by omega, hbb⟩
  | succ m ih =>
    intro r i bs h nx e hr hbl hbc hx hbn hbb
    obtain ⟨r, rfl⟩ : ∃ m, r = m + 1 := ⟨r - 1, by omega⟩
    have hi : i < l.length := by omega
    have he : i + 1 + m = l.length := by omega
    have hmr : m < r := by omega
    have hcb : bs.count true ≤ n := by rw [← hbl]; exact List.count_le_length
    have hin : (i : Int) < (l.length : Int) := by omega
    rw [F26_L1_eq, if_pos (by simpa using hi)]
    by_cases hc : ((bs.count true : Nat) : Int) < most
    · rw [if_pos (by simpa using hc), F26_J2_eq, (hs.ext hx).readI hi]
      simp only [bind_some', asI_int, asB_bool, asStr_str, asP_ptr, asSl_sl, asAgg_1, asAgg_2, asAgg_3, asAgg_4, asTup_0, asTup_2, asTup_3, asTup_4, if_true', if_false', if_not_true', if_not_false', getD_0, getD_1, getD_2, getD_3]
      obtain ⟨n1, e1, l1⟩ := picked_spec (k := k0) hk0 l[i] (n : Int) h (nx + 9 + 7) (by omega) (by omega)
      rw [e1]
      simp only [bind_some', asI_int, asB_bool, asStr_str, asP_ptr, asSl_sl, asAgg_1, asAgg_2, asAgg_3, asAgg_4, asTup_0, asTup_2, asTup_3, asTup_4, if_true', if_false', if_not_true', if_not_false', getD_0, getD_1, getD_2, getD_3]
      have q0 := Int.emod_nonneg l[i] (show (n : Int) ≠ 0 by omega)
      have q1 := Int.emod_lt_of_pos l[i] (show (0 : Int) < n by omega)
      obtain ⟨j, hj⟩ : ∃ j : Nat, l[i] % (n : Int) = (j : Int) := ⟨(l[i] % (n : Int)).toNat, by omega⟩
      rw [hj]
      rw [hj] at q0 q1
      have hjn : j < bs.length := by omega
      have w1 : wrapA .i64 ((i : Int) + 1) = ((i + 1 : Nat) : Int) := by rw [wA (by omega) (by omega)]; omega
      rw [if_pos ⟨q0, q1⟩, Int.toNat_natCast, Nat.zero_add, ldA_at hbb (bools_get hjn)]
      simp only [bind_some', asI_int, asB_bool, asStr_str, asP_ptr, asSl_sl, asAgg_1, asAgg_2, asAgg_3, asAgg_4, asTup_0, asTup_2, asTup_3, asTup_4, if_true', if_false', if_not_true', if_not_false', getD_0, getD_1, getD_2, getD_3]
      cases hbj : bs[j] with
      | true =>
        rw [if_not_true', w1]
        exact ih r (i + 1) bs h _ he hmr hbl hbc (hx.le (by clear w1; omega)) (by clear w1; omega) hbb
      | false =>
        have hcnt : (bs.set j true).count true = bs.count true + 1 := by
          rw [List.count_set hjn, hbj]; simp
        have w2 : wrapA .i64 (((bs.count true : Nat) : Int) + 1) = (((bs.set j true).count true : Nat) : Int) := by clear w1; rw [wA (by omega) (by omega), hcnt]; omega
        rw [if_not_false', if_pos ⟨q0, q1⟩, Nat.mul_one, stA1 hbb rfl (by rw [List.length_map]; exact hjn)]
        simp only [bind_some', asI_int, asB_bool, asStr_str, asP_ptr, asSl_sl, asAgg_1, asAgg_2, asAgg_3, asAgg_4, asTup_0, asTup_2, asTup_3, asTup_4, if_true', if_false', if_not_true', if_not_false', getD_0, getD_1, getD_2, getD_3]
        rw [w1, w2]
        refine ih r (i + 1) (bs.set j true) _ _ he hmr (by rw [List.length_set]; exact hbl) (by rw [hcnt]; clear w1 w2; omega) (hx.put hb (by clear w1 w2; omega)) (by clear w1 w2; omega) ?_
        rw [put_same, List.map_set]
    · rw [if_neg (by simpa using hc)]
      exact ⟨bs, h, _, rfl, hbl, hbc, hx.le (by omega), by omega, hbb⟩

/-- The numbers that are marked, ascending. -/
def marked (bs : List Bool) (n : Nat) : List Nat := (List.range n).filter fun c => bs.getD c false
def natInts (l : List Nat) : List Int := l.map fun (c : Nat) => (c : Int)
theorem marked_succ_t {bs : List Bool} {n : Nat} (h : bs.getD n false = true) : marked bs (n + 1) = marked bs n ++ [n] := by
  simp only [marked, List.range_succ, List.filter_append, List.filter_cons, h, if_true, List.filter_nil]
theorem marked_succ_f {bs : List Bool} {n : Nat} (h : bs.getD n false = false) : marked bs (n + 1) = marked bs n := by
  simp only [marked, List.range_succ, List.filter_append, List.filter_cons, h, List.filter_nil]; simp
theorem marked_len (bs : List Bool) (n : Nat) : (marked bs n).length ≤ n := by
  have := List.length_filter_le (fun c => bs.getD c false) (List.range n)
  simpa [marked] using this
theorem marked_count (bs : List Bool) : (marked bs bs.length).length = bs.count true := by
  have : ∀ n, n ≤ bs.length → (marked bs n).length = (bs.take n).count true := by
    intro n
    induction n with
    | zero => intro _; simp [marked]
    | succ n ih =>
      intro hn
      have hl : n < bs.length := by omega
      rw [List.take_succ_eq_append_getElem hl, List.count_append, ← ih (by omega)]
      have hg : bs.getD n false = bs[n] := by simp [List.getD, List.getElem?_eq_getElem hl]
      cases hb : bs[n] with
      | true => rw [marked_succ_t (by rw [hg, hb])]; simp
      | false => rw [marked_succ_f (by rw [hg, hb])]; simp
  have := this bs.length (Nat.le_refl _)
  rwa [List.take_length] at this

theorem several2 (call : YldF → CallF) (lf : Nat) (n : Nat) (hn' : n ≤ 100000) (bs : List Bool) (hbl : bs.length = n) (c8 : Bool) {b : Nat} (h0 : AHeap) (nx0 : Nat) (hb : b < nx0) (hbb : h0 b = some ⟨bs.map AV.bool, 1, true⟩) (m : Nat) :
    ∀ (r c : Nat) (oa : Option (Nat × Nat)) (oc : Bool) (h : AHeap) (nx : Nat), c + m = n → m < r → Ext h0 nx0 h nx → OwnSl h nx0 nx oa (marked bs c).length 1 (ints .i64 (natInts (marked bs c))) →
    ∃ (oa' : Option (Nat × Nat)) (oc' : Bool) (h' : AHeap) (nx' : Nat), F26_L4 call Y0 lf r (n : Int) (some (b, 0)) n c8 oa (marked bs c).length oc (c : Int) h nx = some (.slice oa' (marked bs n).length oc', h', nx') ∧
      Ext h0 nx0 h' nx' ∧ OwnSl h' nx0 nx' oa' (marked bs n).length 1 (ints .i64 (natInts (marked bs n))) := by
  induction m with
  | zero =>
    intro r c oa oc h nx e hr hx ho
    obtain ⟨r, rfl⟩ : ∃ m, r = m + 1 := ⟨r - 1, by omega⟩
    obtain rfl : c = n := by omega
    rw [F26_L4_eq, if_neg (by simp)]
    exact ⟨oa, oc, h, _, rfl, hx.le (by omega), ho.le (by omega)⟩
  | succ m ih =>
    intro r c oa oc h nx e hr hx ho
    obtain ⟨r, rfl⟩ : ∃ m, r = m + 1 := ⟨r - 1, by omega⟩
    have hc : c < n := by omega
    have hcb : c < bs.length := by omega
    have he : c + 1 + m = n := by omega
    have hmr : m < r := by omega
    have hx1 := hx.1
    have hg : bs.getD c false = bs[c] := by simp [List.getD, List.getElem?_eq_getElem hcb]
    have hml := marked_len bs c
    have w1 : wrapA .i64 ((c : Int) + 1) = ((c + 1 : Nat) : Int) := by rw [wA (by omega) (by omega)]; omega
    rw [F26_L4_eq, if_pos (by simpa using hc), bind_some', if_pos ⟨by clear w1; omega, by clear w1; omega⟩, Int.toNat_natCast]
    rw [show ((b, 0) : Nat × Nat).2 + c * 1 = c * 1 from Nat.zero_add _, ldA_at ((hx.2 b hb).trans hbb) (bools_get hcb)]
    simp only [bind_some', asI_int, asB_bool, asStr_str, asP_ptr, asSl_sl, asAgg_1, asAgg_2, asAgg_3, asAgg_4, asTup_0, asTup_2, asTup_3, asTup_4, if_true', if_false', if_not_true', if_not_false', getD_0, getD_1, getD_2, getD_3]
    cases hbc : bs[c] with
    | true =>
      rw [if_true', w1]
      obtain ⟨ee, f1, f2, f3, f4⟩ := ho.push (c := oc) (bytes := 8) (id := nx + 9) (id2 := nx + 10) (ws := [.int .i64 (c : Int)]) rfl (growOk_of (by clear w1; omega) (by omega)) (by clear w1; omega) (by omega) (by omega)
      have mk : marked bs (c + 1) = marked bs c ++ [c] := marked_succ_t (by rw [hg, hbc])
      have mi : ints .i64 (natInts (marked bs c)) ++ [.int .i64 (c : Int)] = ints .i64 (natInts (marked bs (c + 1))) := by rw [mk]; simp [natInts]
      have ml : (marked bs c).length + 1 = (marked bs (c + 1)).length := by rw [mk]; simp
      rw [src_lit1, bind_some', f1, bind_some', f2, ml]
      rw [mi, ml] at f3
      exact ih r (c + 1) ee.a ee.c _ _ he hmr ((hx.then f4).le (by clear w1; omega)) (f3.le (by clear w1; omega))
    | false =>
      have mk : marked bs (c + 1) = marked bs c := marked_succ_f (by rw [hg, hbc])
      rw [if_false', w1]
      have := ih r (c + 1) oa oc h (nx + 10) he hmr (hx.le (by clear w1; omega)) (by rw [mk]; exact ho.le (by clear w1; omega))
      rwa [mk] at this

theorem several_spec {k : Nat} (l : List Int) (most : Int) (n : Nat) (hk : l.length + n + 4 ≤ k) (hm : 0 ≤ most) (hn : 1 ≤ n) (hn' : n ≤ 100000) (hl : l.length ≤ 1000000000000000) {a0 : Option (Nat × Nat)} (c0 : Bool) {h0 : AHeap} {nx0 : Nat} (hs : Sl h0 nx0 a0 l.length 1 (ints .i64 l)) :
    ∃ (bs : List Bool) (oa : Option (Nat × Nat)) (oc : Bool) (h' : AHeap) (nx' : Nat), callP Try.prog keepT k Y0 26 [.slice a0 l.length c0, .int .i64 most, .int .i64 (n : Int)] h0 nx0 = some (.slice oa (marked bs n).length oc, h', nx') ∧
      bs.length = n ∧ (((marked bs n).length : Nat) : Int) ≤ most ∧ Ext h0 nx0 h' nx' ∧ OwnSl h' nx0 nx' oa (marked bs n).length 1 (ints .i64 (natInts (marked bs n))) := by
  obtain ⟨k, rfl⟩ : ∃ m, k = m + 1 := ⟨k - 1, by omega⟩
  rw [F26_eq, if_pos (by simp; omega)]
  dsimp only
  have hmade : madeA [AV.bool false] (Int.toNat (n : Int) * 1) = (List.replicate n false).map AV.bool := by
    rw [Int.toNat_natCast, Nat.mul_one, List.map_replicate]; rfl
  have hcnt : (List.replicate n false).count true = 0 := by rw [List.count_replicate]; rfl
  rw [hmade, Int.toNat_natCast]
  obtain ⟨bs, h1, n1, e1, b1, b2, b3, b4, b5⟩ := several1 (k0 := k) (by omega) k l most n hn hn' hl c0 ((n : Int) == (n : Int)) hs (b := nx0 + 2) (by omega) l.length k 0 (List.replicate n false) (h0.put (nx0 + 2) (some ⟨(List.replicate n false).map AV.bool, 1, true⟩)) (nx0 + 6) (by omega) (by omega) (by simp) (by rw [hcnt]; simpa using hm) ((Ext.refl h0 nx0).put (by omega) (by omega)) (by omega) (put_same _ _ _)
  rw [hcnt] at e1
  rw [show ((0 : Nat) : Int) = 0 from rfl] at e1
  rw [e1, F26_J3_eq]
  obtain ⟨oa, oc, h2, n2, e2, x2, o2⟩ := several2 (callP Try.prog keepT k) k n hn' bs b1 ((n : Int) == (n : Int)) h1 n1 b4 b5 n k 0 none false h1 (n1 + 2) (by omega) (by omega) ((Ext.refl h1 n1).le (by omega)) (by simpa [marked, natInts] using OwnSl.nil _ _ _ _)
  rw [show ((0 : Nat) : Int) = 0 from rfl, show (marked bs 0).length = 0 from rfl] at e2
  have hmc : (marked bs n).length = bs.count true := by rw [← b1]; exact marked_count bs
  exact ⟨bs, oa, oc, h2, n2, e2, b1, by rw [hmc]; exact b2, b3.trans x2, o2.from b3.1⟩

end Go.Proofs.Ytdjbhonncjcbjaa.T
