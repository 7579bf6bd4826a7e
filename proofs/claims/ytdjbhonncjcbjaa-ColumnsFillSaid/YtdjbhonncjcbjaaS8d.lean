import Derived.Test.YtdjbhonncjcbjaaS8c
set_option linter.unusedVariables false
set_option linter.unusedSimpArgs false
namespace Go.Proofs.Ytdjbhonncjcbjaa.T
open Go Go.RowKit Go.Proofs

def sumOf (d p n : Nat) : Int := (((List.range (manyOf d p n).toNat).map (fun (c : Nat) => if (c : Int) < (p : Int) then 0 else if (c : Int) < longOf d p n then ((n : Int) / ((d : Int) - p) + 1) else ((n : Int) / ((d : Int) - p)))).sum)
def sumsOk (d p n : Nat) : Bool := decide (sumOf d p n = (n : Int)) && decide ((p : Int) < manyOf d p n) && decide (manyOf d p n ≤ (d : Int)) && (!decide ((n : Int) / ((d : Int) - p) = 0) || decide (manyOf d p n ≤ longOf d p n)) && (!decide (0 < longOf d p n) || decide ((p : Int) < longOf d p n))
theorem sumsAll : ((List.range 9).all fun d => (List.range 4).all fun p => (List.range 33).all fun n => !(decide (2 ≤ d) && decide (1 ≤ p) && decide (p < d) && decide (1 ≤ n)) || sumsOk d p n) = true := by decide +kernel
theorem sums (d : Nat) (hd : d < 9) (p : Nat) (hpd : p < d) (hp : p < 4) (n : Nat) (hn : n < 33) (h1 : 2 ≤ d) (h2 : 1 ≤ p) (h3 : 1 ≤ n) : sumOf d p n = (n : Int) ∧ (p : Int) < manyOf d p n ∧ manyOf d p n ≤ (d : Int) ∧ ((n : Int) / ((d : Int) - p) = 0 → manyOf d p n ≤ longOf d p n) ∧ (0 < longOf d p n → (p : Int) < longOf d p n) := by
  have h := List.all_eq_true.1 (List.all_eq_true.1 (List.all_eq_true.1 sumsAll d (List.mem_range.2 hd)) p (List.mem_range.2 hp)) n (List.mem_range.2 hn)
  simp only [sumsOk, h1, h2, h3, hpd, decide_true, Bool.and_self, Bool.not_true, Bool.false_or, Bool.and_eq_true, decide_eq_true_eq, Bool.or_eq_true, Bool.not_eq_true', decide_eq_false_iff_not] at h
  obtain ⟨⟨⟨⟨a, b⟩, c⟩, d⟩, e⟩ := h
  exact ⟨a, b, c, fun x => d.resolve_left (fun y => y x), fun x => e.resolve_left (fun y => y x)⟩

theorem sumsI (d p n : Int) (hd : 2 ≤ d) (hd' : d ≤ 8) (hp : 1 ≤ p) (hp' : p ≤ 3) (hpd : p < d) (hn : 1 ≤ n) (hn' : n ≤ 32) :
    ((List.range (manyOf d p n).toNat).map (fun (c : Nat) => if (c : Int) < p then 0 else if (c : Int) < longOf d p n then (n / (d - p) + 1) else (n / (d - p)))).sum = n ∧ p < manyOf d p n ∧ manyOf d p n ≤ d ∧ (n / (d - p) = 0 → manyOf d p n ≤ longOf d p n) ∧ (0 < longOf d p n → p < longOf d p n) := by
  have hs := sums d.toNat (by omega) p.toNat (by omega) (by omega) n.toNat (by omega) (by omega) (by omega) (by omega)
  unfold sumOf at hs
  rw [Int.toNat_of_nonneg (show 0 ≤ d by omega), Int.toNat_of_nonneg (show 0 ≤ p by omega), Int.toNat_of_nonneg (show 0 ≤ n by omega)] at hs
  exact hs

theorem apart (x0 x1 x2 x3 : Int) (nx : Nat) (h : AHeap) : ∃ h' nx', callP Try.prog keepT 40 8 [.int .i64 x0, .int .i64 x1, .int .i64 x2, .int .i64 x3] h nx = some (.bool true, h', nx') := by
  obtain ⟨k, hk⟩ : ∃ k, k + 1 = 40 := ⟨39, rfl⟩
  rw [← hk, F8_eq]
  obtain ⟨d, p, n1, l1, hd, hd', hp, hp', hpd, e1⟩ := shape_spec (k := k) (by omega) x0 x1 h (nx + 9)
  rw [e1]
  simp only [bind_some', asI_int, asB_bool, asStr_str, asP_ptr, asSl_sl, asAgg_1, asAgg_2, asAgg_3, asAgg_4, asTup_0, asTup_2, asTup_3, asTup_4, if_true', if_false', if_not_true', if_not_false', getD_0, getD_1, getD_2, getD_3]
  obtain ⟨n2, e2, l2⟩ := picked_spec (k := k) (by omega) x2 65537 h (n1 + 3) (by omega) (by omega)
  rw [e2]
  simp only [bind_some', asI_int, asB_bool, asStr_str, asP_ptr, asSl_sl, asAgg_1, asAgg_2, asAgg_3, asAgg_4, asTup_0, asTup_2, asTup_3, asTup_4, if_true', if_false', if_not_true', if_not_false', getD_0, getD_1, getD_2, getD_3]
  obtain ⟨n3, e3, l3⟩ := picked_spec (k := k) (by omega) x3 32 h (n2 + 4) (by omega) (by omega)
  rw [e3]
  simp only [bind_some', asI_int, asB_bool, asStr_str, asP_ptr, asSl_sl, asAgg_1, asAgg_2, asAgg_3, asAgg_4, asTup_0, asTup_2, asTup_3, asTup_4, if_true', if_false', if_not_true', if_not_false', getD_0, getD_1, getD_2, getD_3]
  have q0 := Int.emod_nonneg x2 (show (65537 : Int) ≠ 0 by omega)
  have q1 := Int.emod_lt_of_pos x2 (show (0 : Int) < 65537 by omega)
  have r0 := Int.emod_nonneg x3 (show (32 : Int) ≠ 0 by omega)
  have r1 := Int.emod_lt_of_pos x3 (show (0 : Int) < 32 by omega)
  rw [wA (x := 1 + x3 % 32) (by omega) (by omega)]
  generalize hA : x2 % 65537 = a at *
  generalize hN : 1 + x3 % 32 = n at *
  have hn : 1 ≤ n := by omega
  have hn' : n ≤ 32 := by omega
  have ha' : a ≤ 65536 := by omega
  obtain ⟨sa, sc, h', n4, e4, os, xt⟩ := columns_spec (k := k) (by omega) d p a n h (n3 + 10) hd hd' hp hp' hpd q0 ha' hn hn'
  rw [e4]
  simp only [bind_some', asI_int, asB_bool, asStr_str, asP_ptr, asSl_sl, asAgg_1, asAgg_2, asAgg_3, asAgg_4, asTup_0, asTup_2, asTup_3, asTup_4, if_true', if_false', if_not_true', if_not_false', getD_0, getD_1, getD_2, getD_3]
  obtain ⟨s1, s2, s3, s4, s5⟩ := sumsI d p n hd hd' hp hp' hpd hn hn'
  have e1 : n / (d - p) ≤ n := Int.ediv_le_self _ (by omega)
  have e2 : 0 ≤ n / (d - p) := Int.ediv_nonneg (by omega) (by omega)
  have hm : ((manyOf d p n).toNat : Int) = manyOf d p n := Int.toNat_of_nonneg (by omega)
  rw [if_neg (by simp), if_neg (by rw [hm]; simp; omega), if_neg (by rw [hm]; simp; omega), F8_J1_eq]
  obtain ⟨n5, e5⟩ := outer_loop (callP Try.prog keepT k) k d p a (n / (d - p)) (longOf d p n) n (manyOf d p n).toNat hd hd' (by omega) q0 hp e2 (by omega) (fun hq => by rw [hm]; exact s4 hq) (by omega) s5 sc os.sl (by omega) (manyOf d p n).toNat k 0 0 (n4 + 14 + 2) (by omega) (by omega) (by omega) (by omega) (by rw [List.drop_zero, Int.zero_add]; exact s1)
  exact ⟨h', n5, e5⟩

end Go.Proofs.Ytdjbhonncjcbjaa.T
