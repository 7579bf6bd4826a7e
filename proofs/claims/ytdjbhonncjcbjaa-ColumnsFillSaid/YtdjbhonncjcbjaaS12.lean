import Derived.Test.YtdjbhonncjcbjaaS8d
set_option linter.unusedVariables false
set_option linter.unusedSimpArgs false
namespace Go.Proofs.Ytdjbhonncjcbjaa.T
open Go Go.RowKit Go.Proofs

def upI (n b : Int) : Int := (n + b - 1) / b * b
theorem up_spec {k : Nat} (hk : 1 ≤ k) (n b : Int) (h : AHeap) (nx : Nat) (hn : 0 ≤ n) (hn' : n ≤ 1000) (hb : 1 ≤ b) (hb' : b ≤ 8) : callP Try.prog keepT k 35 [.int .i64 n, .int .i64 b] h nx = some (.int .i64 (upI n b), h, nx + 10) := by
  obtain ⟨k, rfl⟩ : ∃ m, k = m + 1 := ⟨k - 1, by omega⟩
  have e1 : 0 ≤ (n + b - 1) / b := Int.ediv_nonneg (by omega) (by omega)
  have e2 : (n + b - 1) / b * b ≤ n + b - 1 := Int.ediv_mul_le _ (by omega)
  have e3 : (n + b - 1) / b ≤ n + b - 1 := Int.ediv_le_self _ (by omega)
  have e4 : 0 ≤ (n + b - 1) / b * b := Int.mul_nonneg e1 (by omega)
  rw [F35_eq, if_neg (by omega), wA (x := n + b) (by omega) (by omega), wA (x := n + b - 1) (by omega) (by omega), Int.tdiv_eq_ediv_of_nonneg (by omega), wA (x := (n + b - 1) / b) (by omega) (by omega), wA (x := (n + b - 1) / b * b) (by omega) (by omega)]
  rfl

def costOf (d p n : Int) : Int := upI (n + p * (upI n (d - p) / (d - p))) (p + 1)

theorem cost_spec {k : Nat} (hk : 5 ≤ k) (d p n : Int) (h : AHeap) (nx : Nat) (hd : 2 ≤ d) (hd' : d ≤ 8) (hp : 1 ≤ p) (hp' : p ≤ 3) (hpd : p < d) (hn : 1 ≤ n) (hn' : n ≤ 32) :
    ∃ h' nx', callP Try.prog keepT k 17 [.int .i64 d, .int .i64 p, .int .i64 n] h nx = some (.tuple [.int .i64 (costOf d p n), .int .i64 0], h', nx') ∧ Ext h nx h' nx' := by
  obtain ⟨k, rfl⟩ : ∃ m, k = m + 1 := ⟨k - 1, by omega⟩
  obtain ⟨h1, n1, x1, c1⟩ := may_spec (k := k) (by omega) d p ((h.put (nx + 5) (some ⟨[(.int .i64 0), (.int .i64 0)], 2, true⟩)).put (nx + 5) (some ⟨[.int .i64 d, .int .i64 p], 2, true⟩)) (nx + 15) hd hd' hp hp' hpd
  have w1 : wrapA .i64 (d - p) = d - p := wA (by omega) (by omega)
  have u0 : 0 ≤ upI n (d - p) := Int.mul_nonneg (Int.ediv_nonneg (by omega) (by omega)) (by omega)
  have u1 : upI n (d - p) ≤ n + (d - p) - 1 := Int.ediv_mul_le _ (by omega)
  have v0 : 0 ≤ upI n (d - p) / (d - p) := Int.ediv_nonneg u0 (by omega)
  have v1 : upI n (d - p) / (d - p) ≤ upI n (d - p) := Int.ediv_le_self _ u0
  have y0 : 0 ≤ p * (upI n (d - p) / (d - p)) := Int.mul_nonneg (by omega) v0
  have y1 : p * (upI n (d - p) / (d - p)) ≤ 3 * 40 := by
    have : p * (upI n (d - p) / (d - p)) ≤ 3 * (upI n (d - p) / (d - p)) := Int.mul_le_mul_of_nonneg_right hp' v0
    clear w1; omega
  rw [F17_eq]
  simp only [stA, put_same, Option.bind_some]
  rw [if_pos (by simp [storeOk, AV.cells, allOne, AV.one])]
  simp only [bind_some', asI_int, asB_bool, asStr_str, asP_ptr, asSl_sl, asAgg_1, asAgg_2, asAgg_3, asAgg_4, asTup_0, asTup_2, asTup_3, asTup_4, if_true', if_false', if_not_true', if_not_false', getD_0, getD_1, getD_2, getD_3]
  have hsp : splice [AV.int .i64 0, AV.int .i64 0] 0 (AV.agg [.int .i64 d, .int .i64 p]).cells = [.int .i64 d, .int .i64 p] := by simp [splice, AV.cells]
  rw [hsp, ldR_at (put_same _ _ _) (by simp)]
  rw [show (([AV.int .i64 d, AV.int .i64 p].drop 0).take 2) = [AV.int .i64 d, AV.int .i64 p] from by simp]
  simp only [bind_some', asI_int, asB_bool, asStr_str, asP_ptr, asSl_sl, asAgg_1, asAgg_2, asAgg_3, asAgg_4, asTup_0, asTup_2, asTup_3, asTup_4, if_true', if_false', if_not_true', if_not_false', getD_0, getD_1, getD_2, getD_3]
  rw [c1]
  simp only [bind_some', asI_int, asB_bool, asStr_str, asP_ptr, asSl_sl, asAgg_1, asAgg_2, asAgg_3, asAgg_4, asTup_0, asTup_2, asTup_3, asTup_4, if_true', if_false', if_not_true', if_not_false', getD_0, getD_1, getD_2, getD_3]
  rw [counted_spec (by clear w1; omega) n _ _ hn hn']
  simp only [bind_some', asI_int, asB_bool, asStr_str, asP_ptr, asSl_sl, asAgg_1, asAgg_2, asAgg_3, asAgg_4, asTup_0, asTup_2, asTup_3, asTup_4, if_true', if_false', if_not_true', if_not_false', getD_0, getD_1, getD_2, getD_3]
  rw [F17_J1_eq, w1, up_spec (by clear w1; omega) n (d - p) _ _ (by clear w1; omega) (by clear w1; omega) (by clear w1; omega) (by clear w1; omega)]
  simp only [bind_some', asI_int, asB_bool, asStr_str, asP_ptr, asSl_sl, asAgg_1, asAgg_2, asAgg_3, asAgg_4, asTup_0, asTup_2, asTup_3, asTup_4, if_true', if_false', if_not_true', if_not_false', getD_0, getD_1, getD_2, getD_3]
  rw [if_neg (by clear w1; omega), Int.tdiv_eq_ediv_of_nonneg u0, wA (x := upI n (d - p) / (d - p)) (by clear w1; omega) (by clear w1; omega), wA (x := p * (upI n (d - p) / (d - p))) (by clear w1; omega) (by clear w1; omega), wA (x := n + p * (upI n (d - p) / (d - p))) (by clear w1; omega) (by clear w1; omega), wA (x := p + 1) (by clear w1; omega) (by clear w1; omega)]
  rw [up_spec (by clear w1; omega) _ (p + 1) _ _ (by clear w1; omega) (by clear w1; omega) (by clear w1; omega) (by clear w1; omega)]
  simp only [bind_some', asI_int, asB_bool, asStr_str, asP_ptr, asSl_sl, asAgg_1, asAgg_2, asAgg_3, asAgg_4, asTup_0, asTup_2, asTup_3, asTup_4, if_true', if_false', if_not_true', if_not_false', getD_0, getD_1, getD_2, getD_3]
  exact ⟨_, _, rfl, by have := x1.1; clear w1; omega, fun i hi => (x1.2 i (by clear w1; omega)).trans (by rw [put_ne (by clear w1; omega), put_ne (by clear w1; omega)])⟩

theorem spot_spec {k : Nat} (hk : 3 ≤ k) (d a : Int) (h : AHeap) (nx : Nat) (hd : 2 ≤ d) (hd' : d ≤ 8) (ha : 0 ≤ a) (ha' : a ≤ 65536) :
    ∃ nx', nx ≤ nx' ∧ callP Try.prog keepT k 16 [.int .i64 d, .int .i64 a] h nx = some (.tuple [.int .i64 (a % d), .int .i64 (a / d), .int .i64 0], h, nx') := by
  obtain ⟨k, rfl⟩ : ∃ m, k = m + 1 := ⟨k - 1, by omega⟩
  have e1 : a / d ≤ a := Int.ediv_le_self _ ha
  have e2 : 0 ≤ a / d := Int.ediv_nonneg ha (by omega)
  rw [F16_eq, if_neg (by simpa using hd), if_neg (by simpa using hd'), addressed_spec (by omega) a _ _ ha ha']
  simp only [bind_some', asI_int, asB_bool, asStr_str, asP_ptr, asSl_sl, asAgg_1, asAgg_2, asAgg_3, asAgg_4, asTup_0, asTup_2, asTup_3, asTup_4, if_true', if_false', if_not_true', if_not_false', getD_0, getD_1, getD_2, getD_3]
  rw [F16_J1_eq, if_neg (by omega), if_neg (by omega), Int.tmod_eq_emod_of_nonneg ha, Int.tdiv_eq_ediv_of_nonneg ha, wA (x := a / d) (by omega) (by omega)]
  exact ⟨_, by omega, rfl⟩

/-! ### what they fill -/
def lenOf (q long : Int) (c : Nat) : Int := if (c : Int) < long then q + 1 else q
def totalOf (q long : Int) (n : Nat) : Int := ((List.range n).map (lenOf q long)).sum
def fillOk (d p n : Nat) : Bool :=
  let q := (n : Int) / ((d : Int) - p); let long := longOf d p n; let m := manyOf d p n; let t := totalOf q long m.toNat
  decide (1 ≤ t) && decide (t ≤ costOf d p n) && decide (costOf d p n ≤ t + p) && decide (costOf d p n ≤ 400) && decide (0 ≤ long) && decide (long ≤ d) && decide (1 ≤ m) && decide (m ≤ (d : Int)) && (if q = 0 then decide (t = long) && decide (m = long) else decide (t = q * d + long) && decide (m = d)) && (decide (q + 1 ≤ 32) || decide (long ≤ 0))
theorem fillAll : ((List.range 9).all fun d => (List.range 4).all fun p => (List.range 33).all fun n => !(decide (2 ≤ d) && decide (1 ≤ p) && decide (p < d) && decide (1 ≤ n)) || fillOk d p n) = true := by decide +kernel

theorem fills (d p n : Int) (hd : 2 ≤ d) (hd' : d ≤ 8) (hp : 1 ≤ p) (hp' : p ≤ 3) (hpd : p < d) (hn : 1 ≤ n) (hn' : n ≤ 32) :
    1 ≤ totalOf (n / (d - p)) (longOf d p n) (manyOf d p n).toNat ∧ totalOf (n / (d - p)) (longOf d p n) (manyOf d p n).toNat ≤ costOf d p n ∧ costOf d p n ≤ totalOf (n / (d - p)) (longOf d p n) (manyOf d p n).toNat + p ∧ costOf d p n ≤ 400 ∧ 0 ≤ longOf d p n ∧ longOf d p n ≤ d ∧ 1 ≤ manyOf d p n ∧ manyOf d p n ≤ d ∧
      (if n / (d - p) = 0 then totalOf (n / (d - p)) (longOf d p n) (manyOf d p n).toNat = longOf d p n ∧ manyOf d p n = longOf d p n else totalOf (n / (d - p)) (longOf d p n) (manyOf d p n).toNat = n / (d - p) * d + longOf d p n ∧ manyOf d p n = d) ∧ (n / (d - p) + 1 ≤ 32 ∨ longOf d p n ≤ 0) := by
  have h := List.all_eq_true.1 (List.all_eq_true.1 (List.all_eq_true.1 fillAll d.toNat (List.mem_range.2 (by omega))) p.toNat (List.mem_range.2 (by omega))) n.toNat (List.mem_range.2 (by omega))
  have h1 : 2 ≤ d.toNat := by omega
  have h2 : 1 ≤ p.toNat := by omega
  have h3 : 1 ≤ n.toNat := by omega
  have h4 : p.toNat < d.toNat := by omega
  simp only [fillOk, h1, h2, h3, h4, decide_true, Bool.and_self, Bool.not_true, Bool.false_or] at h
  rw [Int.toNat_of_nonneg (show 0 ≤ d by omega), Int.toNat_of_nonneg (show 0 ≤ p by omega), Int.toNat_of_nonneg (show 0 ≤ n by omega)] at h
  simp only [Bool.and_eq_true, decide_eq_true_eq, Bool.or_eq_true] at h
  obtain ⟨⟨⟨⟨⟨⟨⟨⟨⟨a, b⟩, c⟩, e⟩, f⟩, g⟩, i⟩, j⟩, r⟩, z⟩ := h
  refine ⟨a, b, c, e, f, g, i, j, ?_, z⟩
  split at r
  · rename_i q; rw [if_pos q]; simpa using r
  · rename_i q; rw [if_neg q]; simpa using r

/-- The place k lies in column k % d, and in no other. -/
theorem inCol (d a q long : Int) (k m c : Nat) (hd : 2 ≤ d) (hd' : d ≤ 8) (ha : 0 ≤ a) (hq : 0 ≤ q) (hl : 0 ≤ long) (hl' : long ≤ d) (hm : (m : Int) ≤ d) (hc : c < m)
    (t : Int) (hk : (k : Int) < t) (hf : if q = 0 then t = long ∧ (m : Int) = long else t = q * d + long ∧ (m : Int) = d) :
    ((a + (c : Int)) % d = (a + (k : Int)) % d → (c : Int) = k % d ∧ (a + (k : Int)) / d ≥ (a + (c : Int)) / d ∧ (a + (k : Int)) / d < (a + (c : Int)) / d + lenOf q long c) ∧ ((c : Int) = k % d → (a + (c : Int)) % d = (a + (k : Int)) % d) ∧ (k : Int) % d < m := by
  have hdd : d = 2 ∨ d = 3 ∨ d = 4 ∨ d = 5 ∨ d = 6 ∨ d = 7 ∨ d = 8 := by omega
  unfold lenOf
  by_cases hq0 : q = 0
  · rw [if_pos hq0] at hf
    subst hq0
    rcases hdd with hh | hh | hh | hh | hh | hh | hh <;> subst hh <;> refine ⟨fun he => ⟨?_, ?_, ?_⟩, fun he => ?_, ?_⟩ <;> (try split) <;> omega
  · rw [if_neg hq0] at hf
    rcases hdd with hh | hh | hh | hh | hh | hh | hh <;> subst hh <;> refine ⟨fun he => ⟨?_, ?_, ?_⟩, fun he => ?_, ?_⟩ <;> (try split) <;> omega

end Go.Proofs.Ytdjbhonncjcbjaa.T
