import Derived.Test.YtdjbhonncjcbjaaS12
import Derived.Test.YtdjbhonncjcbjaaTI
set_option linter.unusedVariables false
set_option linter.unusedSimpArgs false
namespace Go.Proofs.Ytdjbhonncjcbjaa.T
open Go Go.RowKit Go.Proofs

section
variable {h : AHeap} {nxs : Nat} {sa : Option (Nat × Nat)} {d p a q long : Int} {n : Nat} (hs : Sl h nxs sa n 4 (cols d p a q long n))
include hs
theorem rd1 {c : Nat} (hc : c < n) (K : AV → Option (AV × AHeap × Nat)) : (sa.bind fun p => if 0 ≤ (c : Int) ∧ (c : Int) < ((n : Nat) : Int) then (ldA h p.1 ((p.2 + Int.toNat (c : Int) * 4) + 1)).bind K else none) = K (.int .i64 (col d p a q long c).at_) :=
  hs.read (by omega) (by omega) (by omega) (by have := cols_at d p a q long n c 1 hc (by omega); simpa [Col.cells] using this) K
end

theorem totalOf_succ (q long : Int) (n : Nat) : totalOf q long (n + 1) = totalOf q long n + lenOf q long n := by
  simp [totalOf, List.range_succ]
theorem totalOf_bound {q long : Int} (hq : 0 ≤ q) (hq' : q ≤ 32) : ∀ n : Nat, 0 ≤ totalOf q long n ∧ totalOf q long n ≤ 33 * (n : Int)
  | 0 => by simp [totalOf]
  | n + 1 => by
    have := totalOf_bound hq hq' (long := long) n
    rw [totalOf_succ]
    have : 0 ≤ lenOf q long n ∧ lenOf q long n ≤ 33 := by unfold lenOf; split <;> omega
    omega

theorem fill1 (call : CallF) (lf : Nat) (d p a q long cost : Int) (n : Nat) (hd' : d ≤ 8) (hn : (n : Int) ≤ d) (hq : 0 ≤ q) (hq' : q ≤ 32) (hl : q = 0 → (n : Int) ≤ long) (hqb : q + 1 ≤ 32 ∨ long ≤ 0)
    {h : AHeap} {nxs : Nat} {sa : Option (Nat × Nat)} (sc : Bool) (hs : Sl h nxs sa n 4 (cols d p a q long n))
    (t1 : 1 ≤ totalOf q long n) (t2 : totalOf q long n ≤ cost) (t3 : cost ≤ totalOf q long n + p) (t4 : cost ≤ 400) (hp : 0 ≤ p) (hp' : p ≤ 8) (m : Nat) : ∀ (k i nx : Nat), i + m = n → m < k →
    ∃ nx', F12_L2 call lf k d p a sa n sc cost (totalOf q long i) (i : Int) h nx = F12_J4 call lf d a sa n sc (totalOf q long n) h nx' := by
  induction m with
  | zero =>
    intro k i nx e hk
    obtain ⟨k, rfl⟩ : ∃ m, k = m + 1 := ⟨k - 1, by omega⟩
    obtain rfl : i = n := by omega
    rw [F12_L2_eq, if_neg (by simp), if_neg (by simpa using t1), if_neg (by simpa using t2), wA (x := totalOf q long i + p) (by omega) (by omega), if_neg (by simpa using t3), if_neg (by simpa using t4)]
    exact ⟨_, rfl⟩
  | succ m ih =>
    intro k i nx e hk
    obtain ⟨k, rfl⟩ : ∃ m, k = m + 1 := ⟨k - 1, by omega⟩
    have hi : i < n := by omega
    have hin : (i : Int) < (n : Int) := by omega
    have he : i + 1 + m = n := by omega
    have hmk : m < k := by omega
    obtain ⟨b0, b1⟩ := totalOf_bound hq hq' (long := long) i
    have lb : 1 ≤ lenOf q long i ∧ lenOf q long i ≤ 33 := by
      unfold lenOf
      by_cases hq0 : q = 0
      · have := hl hq0; rw [if_pos (by omega)]; omega
      · split <;> omega
    have w1 : wrapA .i64 ((i : Int) + 1) = ((i + 1 : Nat) : Int) := by rw [wA (by omega) (by omega)]; omega
    have w2 : wrapA .i64 (totalOf q long i + lenOf q long i) = totalOf q long (i + 1) := by rw [wA (by clear w1; omega) (by clear w1; omega), totalOf_succ]
    have e2 : (col d p a q long i).len = lenOf q long i := rfl
    rw [F12_L2_eq, if_pos (by simpa using hin), rd2 hs hi]
    simp only [bind_some', asI_int, asB_bool, asStr_str, asP_ptr, asSl_sl, asAgg_1, asAgg_2, asAgg_3, asAgg_4, asTup_0, asTup_2, asTup_3, asTup_4, if_true', if_false', if_not_true', if_not_false', getD_0, getD_1, getD_2, getD_3]
    rw [e2, if_neg (by simpa using lb.1), rd2 hs hi]
    simp only [bind_some', asI_int, asB_bool, asStr_str, asP_ptr, asSl_sl, asAgg_1, asAgg_2, asAgg_3, asAgg_4, asTup_0, asTup_2, asTup_3, asTup_4, if_true', if_false', if_not_true', if_not_false', getD_0, getD_1, getD_2, getD_3]
    rw [e2]
    have h33 : ¬ lenOf q long i > 32 := by clear w1 w2 e2 t1 t2 t3 t4 b0 b1; unfold lenOf; split <;> omega
    rw [if_neg (by simpa using h33), F12_J3_eq, rd2 hs hi]
    simp only [bind_some', asI_int, asB_bool, asStr_str, asP_ptr, asSl_sl, asAgg_1, asAgg_2, asAgg_3, asAgg_4, asTup_0, asTup_2, asTup_3, asTup_4, if_true', if_false', if_not_true', if_not_false', getD_0, getD_1, getD_2, getD_3]
    rw [e2, w1, w2]
    exact ih k (i + 1) _ he hmk

theorem fill2 (call : CallF) (lf n0 : Nat) (d p a q long total : Int) (n k : Nat) (hd : 2 ≤ d) (hd' : d ≤ 8) (ha : 0 ≤ a) (ha' : a ≤ 65536) (hn : (n : Int) ≤ d) (hq : 0 ≤ q) (hq' : q ≤ 32) (hl : 0 ≤ long) (hl' : long ≤ d)
    {h : AHeap} {nxs : Nat} {sa : Option (Nat × Nat)} (sc : Bool) (hs : Sl h nxs sa n 4 (cols d p a q long n))
    (hk : (k : Int) < total) (hkb : k ≤ 400) (hf : if q = 0 then total = long ∧ (n : Int) = long else total = q * d + long ∧ (n : Int) = d) (m : Nat) : ∀ (r c nx : Nat), c + m = n → m < r →
    ∃ nx', F12_L6 call lf n0 r d a sa n sc total (k : Int) ((a + (k : Int)) % d) ((a + (k : Int)) / d) 0 (if (k : Int) % d < (c : Int) then 1 else 0) (c : Int) h nx = F12_L5 call lf n0 d a sa n sc total ((k + 1 : Nat) : Int) h nx' := by
  induction m with
  | zero =>
    intro r c nx e hr
    obtain ⟨r, rfl⟩ : ∃ m, r = m + 1 := ⟨r - 1, by omega⟩
    obtain rfl : c = n := by omega
    have hc0 : 0 < c := by
      by_cases z : q = 0
      · rw [if_pos z] at hf; omega
      · rw [if_neg z] at hf; omega
    have ic := inCol d a q long k c 0 hd hd' ha hq hl hl' hn hc0 total hk hf
    have w1 : wrapA .i64 ((k : Int) + 1) = ((k + 1 : Nat) : Int) := by rw [wA (by omega) (by omega)]; omega
    rw [F12_L6_eq, if_neg (by simp), if_neg (by simp), if_pos ic.2.2, if_neg (by simp), w1]
    exact ⟨_, rfl⟩
  | succ m ih =>
    intro r c nx e hr
    obtain ⟨r, rfl⟩ : ∃ m, r = m + 1 := ⟨r - 1, by omega⟩
    have hi : c < n := by omega
    have hin : (c : Int) < (n : Int) := by omega
    have he : c + 1 + m = n := by omega
    have hmk : m < r := by omega
    have ic := inCol d a q long k n c hd hd' ha hq hl hl' hn hi total hk hf
    have e0 : (col d p a q long c).drive = (a + (c : Int)) % d := rfl
    have e1 : (col d p a q long c).at_ = (a + (c : Int)) / d := rfl
    have e2 : (col d p a q long c).len = lenOf q long c := rfl
    have lb : 0 ≤ lenOf q long c ∧ lenOf q long c ≤ 33 := by clear ic hf; unfold lenOf; split <;> omega
    have z0 : 0 ≤ (a + (c : Int)) / d := Int.ediv_nonneg (by omega) (by omega)
    have z1 : (a + (c : Int)) / d ≤ a + (c : Int) := Int.ediv_le_self _ (by omega)
    have b01 : (if (k : Int) % d < (c : Int) then (1 : Int) else 0) = 0 ∨ (if (k : Int) % d < (c : Int) then (1 : Int) else 0) = 1 := by split <;> simp
    have w1 : wrapA .i64 ((c : Int) + 1) = ((c + 1 : Nat) : Int) := by clear ic hf; rw [wA (by omega) (by omega)]; omega
    have w2 : wrapA .i64 ((a + (c : Int)) / d + lenOf q long c) = (a + (c : Int)) / d + lenOf q long c := by clear ic hf w1; exact wA (by omega) (by omega)
    rw [F12_L6_eq, if_pos (by simpa using hin), rd0 hs hi]
    simp only [bind_some', asI_int, asB_bool, asStr_str, asP_ptr, asSl_sl, asAgg_1, asAgg_2, asAgg_3, asAgg_4, asTup_0, asTup_2, asTup_3, asTup_4, if_true', if_false', if_not_true', if_not_false', getD_0, getD_1, getD_2, getD_3]
    rw [e0]
    by_cases hh : (a + (c : Int)) % d = (a + (k : Int)) % d
    · obtain ⟨g1, g2, g3⟩ := ic.1 hh
      rw [if_pos (by simpa using hh), rd1 hs hi]
      simp only [bind_some', asI_int, asB_bool, asStr_str, asP_ptr, asSl_sl, asAgg_1, asAgg_2, asAgg_3, asAgg_4, asTup_0, asTup_2, asTup_3, asTup_4, if_true', if_false', if_not_true', if_not_false', getD_0, getD_1, getD_2, getD_3]
      rw [e1, if_pos (by simpa using g2), rd1 hs hi]
      simp only [bind_some', asI_int, asB_bool, asStr_str, asP_ptr, asSl_sl, asAgg_1, asAgg_2, asAgg_3, asAgg_4, asTup_0, asTup_2, asTup_3, asTup_4, if_true', if_false', if_not_true', if_not_false', getD_0, getD_1, getD_2, getD_3]
      rw [rd2 hs hi]
      simp only [bind_some', asI_int, asB_bool, asStr_str, asP_ptr, asSl_sl, asAgg_1, asAgg_2, asAgg_3, asAgg_4, asTup_0, asTup_2, asTup_3, asTup_4, if_true', if_false', if_not_true', if_not_false', getD_0, getD_1, getD_2, getD_3]
      rw [e1, e2, w2, if_pos (by simpa using g3), w1, if_neg (by rw [g1]; exact Int.lt_irrefl _), wA (x := (0 : Int) + 1) (by decide) (by decide)]
      obtain ⟨nx', ee⟩ := ih r (c + 1) (nx + 41) he hmk
      rw [if_pos (by rw [← g1]; clear w1 w2 ic e0 e1 e2; omega)] at ee
      exact ⟨nx', ee⟩
    · have g1 : ¬ (c : Int) = (k : Int) % d := fun g => hh (ic.2.1 g)
      rw [if_neg (by simpa using hh), w1]
      obtain ⟨nx', ee⟩ := ih r (c + 1) (nx + 38) he hmk
      have same : (if (k : Int) % d < ((c + 1 : Nat) : Int) then (1 : Int) else 0) = (if (k : Int) % d < (c : Int) then 1 else 0) := by
        by_cases g : (k : Int) % d < (c : Int)
        · rw [if_pos g, if_pos (by clear w1 w2 ic e0 e1 e2 ee; omega)]
        · rw [if_neg g, if_neg (by clear w1 w2 ic e0 e1 e2 ee; omega)]
      rw [same] at ee
      exact ⟨nx', ee⟩

theorem fill3 (k0 : Nat) (hk0 : 20 ≤ k0) (lf : Nat) (d p a q long total : Int) (n : Nat) (hd : 2 ≤ d) (hd' : d ≤ 8) (ha : 0 ≤ a) (ha' : a ≤ 65136) (hn : (n : Int) ≤ d) (hq : 0 ≤ q) (hq' : q ≤ 32) (hl : 0 ≤ long) (hl' : long ≤ d) (hlf : 20 ≤ lf)
    {h : AHeap} {nxs : Nat} {sa : Option (Nat × Nat)} (sc : Bool) (hs : Sl h nxs sa n 4 (cols d p a q long n))
    (ht : total ≤ 400) (hf : if q = 0 then total = long ∧ (n : Int) = long else total = q * d + long ∧ (n : Int) = d) (m : Nat) : ∀ (r k nx : Nat), (k : Int) + m = total → m < r →
    ∃ nx', F12_L5 (callP Try.prog keepT k0) lf r d a sa n sc total (k : Int) h nx = some (.bool true, h, nx') := by
  induction m with
  | zero =>
    intro r k nx e hr
    obtain ⟨r, rfl⟩ : ∃ m, r = m + 1 := ⟨r - 1, by omega⟩
    rw [F12_L5_eq, if_neg (by simp; omega)]
    exact ⟨_, rfl⟩
  | succ m ih =>
    intro r k nx e hr
    obtain ⟨r, rfl⟩ : ∃ m, r = m + 1 := ⟨r - 1, by omega⟩
    have hk : (k : Int) < total := by omega
    have hkb : k ≤ 400 := by omega
    have he : ((k + 1 : Nat) : Int) + m = total := by omega
    have hmr : m < r := by omega
    have z : 0 ≤ (k : Int) % d := Int.emod_nonneg _ (by omega)
    have hnl : n < lf := by omega
    have ak0 : 0 ≤ a + (k : Int) := by omega
    have ak1 : a + (k : Int) ≤ 65536 := by omega
    obtain ⟨n1, l1, e1⟩ := spot_spec (k := k0) (by omega) d (a + (k : Int)) h (nx + 15) hd hd' ak0 ak1
    rw [F12_L5_eq, if_pos (by simpa using hk), wA (x := a + (k : Int)) (by omega) (by omega), e1]
    simp only [bind_some', asI_int, asB_bool, asStr_str, asP_ptr, asSl_sl, asAgg_1, asAgg_2, asAgg_3, asAgg_4, asTup_0, asTup_2, asTup_3, asTup_4, if_true', if_false', if_not_true', if_not_false', getD_0, getD_1, getD_2, getD_3]
    obtain ⟨n2, e2⟩ := fill2 (callP Try.prog keepT k0) lf r d p a q long total n k hd hd' ha (by omega) hn hq hq' hl hl' sc hs hk hkb hf n lf 0 (n1 + 2) (by omega) hnl
    rw [if_neg (by simpa using z)] at e2
    rw [show ((0 : Nat) : Int) = 0 from rfl] at e2
    rw [e2]
    exact ih r (k + 1) n2 he hmr

theorem ColumnsFill_run (h : AHeap) (nx : Nat) (x0 : Int) (_ : (Lit.int .i64 x0).wf = true) (x1 : Int) (_ : (Lit.int .i64 x1).wf = true) (x2 : Int) (_ : (Lit.int .i64 x2).wf = true) (x3 : Int) (_ : (Lit.int .i64 x3).wf = true) :
    ∃ h' nx', callP Try.prog keepT 500 12 [.int .i64 x0, .int .i64 x1, .int .i64 x2, .int .i64 x3] h nx = some (.bool true, h', nx') := by
  obtain ⟨k, hk⟩ : ∃ k, k + 1 = 500 := ⟨499, rfl⟩
  rw [← hk, F12_eq]
  obtain ⟨d, p, n1, l1, hd, hd', hp, hp', hpd, e1⟩ := shape_spec (k := k) (by omega) x0 x1 h (nx + 9)
  rw [e1]
  simp only [bind_some', asI_int, asB_bool, asStr_str, asP_ptr, asSl_sl, asAgg_1, asAgg_2, asAgg_3, asAgg_4, asTup_0, asTup_2, asTup_3, asTup_4, if_true', if_false', if_not_true', if_not_false', getD_0, getD_1, getD_2, getD_3]
  obtain ⟨n2, e2, l2⟩ := picked_spec (k := k) (by omega) x2 65136 h (n1 + 3) (by omega) (by omega)
  rw [e2]
  simp only [bind_some', asI_int, asB_bool, asStr_str, asP_ptr, asSl_sl, asAgg_1, asAgg_2, asAgg_3, asAgg_4, asTup_0, asTup_2, asTup_3, asTup_4, if_true', if_false', if_not_true', if_not_false', getD_0, getD_1, getD_2, getD_3]
  obtain ⟨n3, e3, l3⟩ := picked_spec (k := k) (by omega) x3 32 h (n2 + 4) (by omega) (by omega)
  rw [e3]
  simp only [bind_some', asI_int, asB_bool, asStr_str, asP_ptr, asSl_sl, asAgg_1, asAgg_2, asAgg_3, asAgg_4, asTup_0, asTup_2, asTup_3, asTup_4, if_true', if_false', if_not_true', if_not_false', getD_0, getD_1, getD_2, getD_3]
  have q0 := Int.emod_nonneg x2 (show (65136 : Int) ≠ 0 by omega)
  have q1 := Int.emod_lt_of_pos x2 (show (0 : Int) < 65136 by omega)
  have r0 := Int.emod_nonneg x3 (show (32 : Int) ≠ 0 by omega)
  have r1 := Int.emod_lt_of_pos x3 (show (0 : Int) < 32 by omega)
  rw [wA (x := 1 + x3 % 32) (by omega) (by omega)]
  generalize hA : x2 % 65136 = a at *
  generalize hN : 1 + x3 % 32 = n at *
  have hn : 1 ≤ n := by omega
  have hn' : n ≤ 32 := by omega
  obtain ⟨sa, sc, h', n4, e4, os, xt⟩ := columns_spec (k := k) (by omega) d p a n h (n3 + 10) hd hd' hp hp' hpd q0 (by omega) hn hn'
  rw [e4]
  simp only [bind_some', asI_int, asB_bool, asStr_str, asP_ptr, asSl_sl, asAgg_1, asAgg_2, asAgg_3, asAgg_4, asTup_0, asTup_2, asTup_3, asTup_4, if_true', if_false', if_not_true', if_not_false', getD_0, getD_1, getD_2, getD_3]
  obtain ⟨h'', n5, e5, xt2⟩ := cost_spec (k := k) (by omega) d p n h' (n4 + 9) hd hd' hp hp' hpd hn hn'
  rw [e5]
  simp only [bind_some', asI_int, asB_bool, asStr_str, asP_ptr, asSl_sl, asAgg_1, asAgg_2, asAgg_3, asAgg_4, asTup_0, asTup_2, asTup_3, asTup_4, if_true', if_false', if_not_true', if_not_false', getD_0, getD_1, getD_2, getD_3]
  obtain ⟨s1, s2, s3, s4, s5, s6, s7, s8, s9, s10⟩ := fills d p n hd hd' hp hp' hpd hn hn'
  have f1 : n / (d - p) ≤ n := Int.ediv_le_self _ (by omega)
  have f2 : 0 ≤ n / (d - p) := Int.ediv_nonneg (by omega) (by omega)
  have hm : ((manyOf d p n).toNat : Int) = manyOf d p n := Int.toNat_of_nonneg (by omega)
  rw [if_neg (by simp), if_neg (by simp), F12_J1_eq]
  have sl : Sl h'' (n5 + 6) sa (manyOf d p n).toNat 4 (cols d p a (n / (d - p)) (longOf d p n) (manyOf d p n).toNat) := Sl.ext os.sl ⟨by have := xt2.1; omega, fun i hi => xt2.2 i (by omega)⟩
  have hf : if n / (d - p) = 0 then totalOf (n / (d - p)) (longOf d p n) (manyOf d p n).toNat = longOf d p n ∧ ((manyOf d p n).toNat : Int) = longOf d p n else totalOf (n / (d - p)) (longOf d p n) (manyOf d p n).toNat = n / (d - p) * d + longOf d p n ∧ ((manyOf d p n).toNat : Int) = d := by rw [hm]; exact s9
  have hl : n / (d - p) = 0 → ((manyOf d p n).toNat : Int) ≤ longOf d p n := fun z => by rw [if_pos z] at s9; rw [hm]; omega
  obtain ⟨n6, e6⟩ := fill1 (callP Try.prog keepT k) k d p a (n / (d - p)) (longOf d p n) (costOf d p n) (manyOf d p n).toNat hd' (by omega) f2 (by omega) hl s10 sc sl s1 s2 s3 s4 (by omega) (by omega) (manyOf d p n).toNat k 0 (n5 + 6 + 2) (by omega) (by omega)
  rw [show totalOf (n / (d - p)) (longOf d p n) 0 = 0 from rfl, show ((0 : Nat) : Int) = 0 from rfl] at e6
  rw [e6, F12_J4_eq]
  obtain ⟨n7, e7⟩ := fill3 k (by omega) k d p a (n / (d - p)) (longOf d p n) _ (manyOf d p n).toNat hd hd' q0 (by omega) (by omega) f2 (by omega) s5 s6 (by omega) sc sl (Int.le_trans s2 s4) hf (totalOf (n / (d - p)) (longOf d p n) (manyOf d p n).toNat).toNat k 0 (n6 + 1) (by omega) (by omega)
  rw [show ((0 : Nat) : Int) = 0 from rfl] at e7
  exact ⟨_, _, e7⟩

end Go.Proofs.Ytdjbhonncjcbjaa.T
