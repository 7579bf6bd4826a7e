import Derived.Test.YtdjbhonncjcbjaaS8
set_option linter.unusedVariables false
set_option linter.unusedSimpArgs false
namespace Go.Proofs.Ytdjbhonncjcbjaa.T
open Go Go.RowKit Go.Proofs

/-- How many columns, how long: of d drives, parity p, count n. -/
def longOf (d p n : Int) : Int := if n % (d - p) > 0 then n % (d - p) + p else 0
def manyOf (d p n : Int) : Int := if n / (d - p) = 0 then longOf d p n else d

theorem columns_spec {k : Nat} (hk : 20 ≤ k) (d p a n : Int) (h : AHeap) (nx : Nat) (hd : 2 ≤ d) (hd' : d ≤ 8) (hp : 1 ≤ p) (hp' : p ≤ 3) (hpd : p < d) (ha : 0 ≤ a) (ha' : a ≤ 65536) (hn : 1 ≤ n) (hn' : n ≤ 32) :
    ∃ sa sc h' nx', callP Try.prog keepT k 23 [.int .i64 d, .int .i64 p, .int .i64 a, .int .i64 n] h nx = some (.tuple [.slice sa (manyOf d p n).toNat sc, .int .i64 0], h', nx') ∧
      OwnSl h' nx nx' sa (manyOf d p n).toNat 4 (cols d p a (n / (d - p)) (longOf d p n) (manyOf d p n).toNat) ∧ Ext h nx h' nx' := by
  obtain ⟨k, rfl⟩ : ∃ m, k = m + 1 := ⟨k - 1, by omega⟩
  have w1 : wrapA .i64 (d - p) = d - p := wA (by omega) (by omega)
  have t1 : Int.tmod n (d - p) = n % (d - p) := Int.tmod_eq_emod_of_nonneg (by omega)
  have t2 : Int.tdiv n (d - p) = n / (d - p) := Int.tdiv_eq_ediv_of_nonneg (by omega)
  have e1 : n / (d - p) ≤ n := Int.ediv_le_self _ (by omega)
  have e2 : 0 ≤ n / (d - p) := Int.ediv_nonneg (by omega) (by omega)
  have m0 := Int.emod_nonneg n (show d - p ≠ 0 by omega)
  have m1 := Int.emod_lt_of_pos n (show 0 < d - p by omega)
  have w2 : wrapA .i64 (n / (d - p)) = n / (d - p) := wA (by omega) (by omega)
  have w3 : wrapA .i64 (n % (d - p) + p) = n % (d - p) + p := wA (by omega) (by omega)
  have hl0 : 0 ≤ longOf d p n := by unfold longOf; split <;> omega
  have hl1 : longOf d p n ≤ d := by unfold longOf; split <;> omega
  have hm0 : 0 ≤ manyOf d p n := by unfold manyOf; split <;> omega
  have hm1 : manyOf d p n ≤ d := by unfold manyOf; split <;> omega
  rw [F23_eq]
  simp only [stA, put_same, Option.bind_some]
  rw [if_pos (by simp [storeOk, AV.cells, allOne, AV.one])]
  simp only [bind_some', asI_int, asB_bool, asStr_str, asP_ptr, asSl_sl, asAgg_1, asAgg_2, asAgg_3, asAgg_4, asTup_0, asTup_2, asTup_3, asTup_4, if_true', if_false', if_not_true', if_not_false', getD_0, getD_1, getD_2, getD_3]
  have hsp : splice [AV.int .i64 0, AV.int .i64 0] 0 (AV.agg [.int .i64 d, .int .i64 p]).cells = [.int .i64 d, .int .i64 p] := by simp [splice, AV.cells]
  rw [hsp, ldR_at (put_same _ _ _) (by simp)]
  rw [show (([AV.int .i64 d, AV.int .i64 p].drop 0).take 2) = [AV.int .i64 d, AV.int .i64 p] from by simp]
  simp only [bind_some', asI_int, asB_bool, asStr_str, asP_ptr, asSl_sl, asAgg_1, asAgg_2, asAgg_3, asAgg_4, asTup_0, asTup_2, asTup_3, asTup_4, if_true', if_false', if_not_true', if_not_false', getD_0, getD_1, getD_2, getD_3]
  obtain ⟨h1, n1, x1, c1⟩ := may_spec (k := k) (by omega) d p (((h.put (nx + 5) (some ⟨[.int .i64 0, .int .i64 0], 2, true⟩)).put (nx + 5) (some ⟨[.int .i64 d, .int .i64 p], 2, true⟩))) (nx + 20) hd hd' hp hp' hpd
  rw [c1]
  simp only [bind_some', asI_int, asB_bool, asStr_str, asP_ptr, asSl_sl, asAgg_1, asAgg_2, asAgg_3, asAgg_4, asTup_0, asTup_2, asTup_3, asTup_4, if_true', if_false', if_not_true', if_not_false', getD_0, getD_1, getD_2, getD_3]
  rw [counted_spec (by omega) n _ _ hn hn']
  simp only [bind_some', asI_int, asB_bool, asStr_str, asP_ptr, asSl_sl, asAgg_1, asAgg_2, asAgg_3, asAgg_4, asTup_0, asTup_2, asTup_3, asTup_4, if_true', if_false', if_not_true', if_not_false', getD_0, getD_1, getD_2, getD_3]
  rw [addressed_spec (by omega) a _ _ ha ha']
  simp only [bind_some', asI_int, asB_bool, asStr_str, asP_ptr, asSl_sl, asAgg_1, asAgg_2, asAgg_3, asAgg_4, asTup_0, asTup_2, asTup_3, asTup_4, if_true', if_false', if_not_true', if_not_false', getD_0, getD_1, getD_2, getD_3]
  have hx : Ext h nx h1 n1 := ⟨by have := x1.1; omega, fun i hi => (x1.2 i (by omega)).trans (by rw [put_ne (by omega), put_ne (by omega)])⟩
  have lp := fun nn (hnn : n1 ≤ nn) => columns_loop (callP Try.prog keepT k) k d p a (n / (d - p)) (longOf d p n) (manyOf d p n).toNat hd hd' ha ha' e2 (by omega) (by omega) h nx (manyOf d p n).toNat k 0 none false h1 nn (by omega) (by omega) (by simp [cols]; exact OwnSl.nil _ _ _ _) (hx.le hnn)
  rw [Int.toNat_of_nonneg hm0] at lp
  have big : ∀ nn, ∀ r : Option (AV × AHeap × Nat), r = F23_L4 (callP Try.prog keepT k) k k d p a (n / (d - p)) (longOf d p n) none 0 false (manyOf d p n) 0 h1 nn → n1 ≤ nn → ∃ sa sc h' nx', r = some (.tuple [.slice sa (manyOf d p n).toNat sc, .int .i64 0], h', nx') ∧
      OwnSl h' nx nx' sa (manyOf d p n).toNat 4 (cols d p a (n / (d - p)) (longOf d p n) (manyOf d p n).toNat) ∧ Ext h nx h' nx' := by
    intro nn r hr hnn
    obtain ⟨sa, sc, h', nx', f1, f2, f3⟩ := lp nn hnn
    exact ⟨sa, sc, h', nx', hr.trans f1, f2, f3⟩
  rw [F23_J1_eq, w1, if_neg (by omega), if_neg (by omega), t1, t2, w2, w3]
  by_cases hr : n % (d - p) > 0
  · have el : longOf d p n = n % (d - p) + p := by unfold longOf; rw [if_pos hr]
    rw [if_pos (by simpa using hr), F23_J2_eq, ← el]
    by_cases hq : n / (d - p) = 0
    · have em : manyOf d p n = longOf d p n := by unfold manyOf; rw [if_pos hq]
      rw [if_pos (by simpa using hq), F23_J3_eq]
      refine big _ _ (by rw [em]) ?_
      omega
    · have em : manyOf d p n = d := by unfold manyOf; rw [if_neg hq]
      rw [if_neg (by simpa using hq), F23_J3_eq]
      refine big _ _ (by rw [em]) ?_
      omega
  · have el : longOf d p n = 0 := by unfold longOf; rw [if_neg hr]
    rw [if_neg (by simpa using hr), F23_J2_eq]
    by_cases hq : n / (d - p) = 0
    · have em : manyOf d p n = longOf d p n := by unfold manyOf; rw [if_pos hq]
      rw [if_pos (by simpa using hq), F23_J3_eq]
      refine big _ _ (by rw [em, el]) ?_
      omega
    · have em : manyOf d p n = d := by unfold manyOf; rw [if_neg hq]
      rw [if_neg (by simpa using hq), F23_J3_eq]
      refine big _ _ (by rw [em, el]) ?_
      omega

end Go.Proofs.Ytdjbhonncjcbjaa.T
