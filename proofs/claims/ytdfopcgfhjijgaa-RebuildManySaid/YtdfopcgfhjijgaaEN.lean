import Derived.Test.YtdfopcgfhjijgaaMM
set_option linter.unusedVariables false
set_option linter.unusedSimpArgs false
namespace Go.Proofs.Ytdfopcgfhjijgaa.T
open Go Go.RowKit Go.Proofs

/-! ### powers, the factor -/
theorem bad1_spec {f : Nat} (hf : 5 ≤ f) (a : Nat) (ha : a < 256) {h : AHeap} {i : Nat} (hi : h i = some ⟨[.int .i64 (a : Int)], 1, true⟩) (nx : Nat) : ∃ nx', nx ≤ nx' ∧ callP Try.prog keepT f Y0 40 [.slice (some (i, 0)) 1 true] h nx = some (.bool false, h, nx') := by
  obtain ⟨f, rfl⟩ : ∃ m, f = m + 1 := ⟨f - 1, by omega⟩
  obtain ⟨lf, hlf⟩ : ∃ m, f = m + 2 := ⟨f - 2, by omega⟩
  rw [F40_eq]
  generalize callP Try.prog keepT f Y0 = call
  rw [hlf]
  have w01 : wrapA .i64 (0 + 1) = 1 := by decide
  rw [F40_L1_eq, if_pos (by decide), some_bind, if_pos (by decide), ld_at hi rfl]
  simp only [bind_some', asI_int, asB_bool, asStr_str, asP_ptr, asSl_sl, asAgg_1, asAgg_2, asAgg_3, asAgg_4, asTup_0, asTup_2, asTup_3, asTup_4, if_true', if_false', if_not_true', if_not_false', getD_0, getD_1, getD_2, getD_3]
  rw [g_andNot a ha, if_neg (by decide), w01, F40_L1_eq, if_neg (by decide)]
  exact ⟨_, by omega, rfl⟩

theorem power_loop {k0 : Nat} (hk0 : 10 ≤ k0) (lf : Nat) (h : AHeap) (m : Nat) : ∀ (k a n out nx : Nat), m < k → a < 256 → out < 256 → n < 2 ^ m → n < 2 ^ 62 →
    ∃ nx', nx ≤ nx' ∧ F41_L1 (callP Try.prog keepT k0) Y0 lf k (a : Int) (n : Int) (out : Int) h nx = some (.int .i64 ((Gf.gm out (Gf.gp a n) : Nat) : Int), h, nx') := by
  have e2 : (2:Int) ^ min (Int.toNat 1) (IntKind.bits .i64) = 2 := by decide
  induction m with
  | zero =>
    intro k a n out nx hk ha ho hn _
    obtain ⟨k, rfl⟩ : ∃ m, k = m + 1 := ⟨k - 1, by omega⟩
    obtain rfl : n = 0 := by simp at hn; exact hn
    rw [F41_L1_eq, if_neg (by simp)]
    exact ⟨nx + 4, by omega, by simp [Gf.gp, Gf.gm_one out ho]⟩
  | succ m ih =>
    intro k a n out nx hk ha ho hn hn'
    obtain ⟨k, rfl⟩ : ∃ m, k = m + 1 := ⟨k - 1, by omega⟩
    by_cases h0 : n = 0
    · subst h0
      rw [F41_L1_eq, if_neg (by simp)]
      exact ⟨nx + 4, by omega, by simp [Gf.gp, Gf.gm_one out ho]⟩
    have hq : n / 2 < 2 ^ m := by rw [Nat.pow_succ] at hn; omega
    have hmk : m < k := by omega
    have hd : Int.fdiv (n : Int) 2 = ((n / 2 : Nat) : Int) := by rw [Int.fdiv_eq_ediv_of_nonneg _ (by omega)]; omega
    have step : ∀ (o mm : Nat), o < 256 → ∃ nx', mm ≤ nx' ∧ F41_J2 (callP Try.prog keepT k0) Y0 lf k (a : Int) (n : Int) (o : Int) h mm = some (.int .i64 ((Gf.gm o (Gf.gp a (2 * (n / 2))) : Nat) : Int), h, nx') := by
      intro o mm ho'
      obtain ⟨n1, l1, e1⟩ := times_spec hk0 a a ha ha h (mm + 4)
      obtain ⟨n3, l3, e3⟩ := ih k (Gf.gm a a) (n / 2) o (n1 + 3) hmk (Gf.gm_lt ha) ho' hq (by omega)
      rw [Gf.gp_sq ha] at e3
      rw [F41_J2_eq, e1]
      simp only [bind_some', asI_int, asB_bool, asStr_str, asP_ptr, asSl_sl, asAgg_1, asAgg_2, asAgg_3, asAgg_4, asTup_0, asTup_2, asTup_3, asTup_4, if_true', if_false', if_not_true', if_not_false', getD_0, getD_1, getD_2, getD_3]
      rw [e2, hd, e3]
      exact ⟨n3, by omega, rfl⟩
    rw [F41_L1_eq, if_pos (by simp; omega), g_and1 n hn']
    by_cases h1 : n % 2 = 1
    · rw [if_pos (by simp; omega)]
      obtain ⟨n1, l1, e1⟩ := times_spec hk0 out a ho ha h (nx + 9)
      obtain ⟨n3, l3, e3⟩ := step (Gf.gm out a) n1 (Gf.gm_lt ho)
      rw [e1]
      simp only [bind_some', asI_int, asB_bool, asStr_str, asP_ptr, asSl_sl, asAgg_1, asAgg_2, asAgg_3, asAgg_4, asTup_0, asTup_2, asTup_3, asTup_4, if_true', if_false', if_not_true', if_not_false', getD_0, getD_1, getD_2, getD_3]
      rw [e3]
      refine ⟨n3, by omega, ?_⟩
      have : n = 2 * (n / 2) + 1 := by omega
      rw [Gf.gm_assoc ho ha (Gf.gp_lt ha _)]
      conv => rhs; rw [this]
      rfl
    · rw [if_neg (by simp; omega)]
      obtain ⟨n3, l3, e3⟩ := step out (nx + 5) ho
      refine ⟨n3, by omega, ?_⟩
      rw [e3]
      have : n = 2 * (n / 2) := by omega
      conv => rhs; rw [this]

/-- The factor of data column i in parity column j. -/
def fac (j i : Nat) : Nat := Gf.gp 2 (i * j)
theorem fac_lt (j i : Nat) : fac j i < 256 := Gf.gp_lt (by omega) _
theorem fac_ne (j i : Nat) : fac j i ≠ 0 := by unfold fac; rw [← Gf.x2_eq]; exact Gf.x2_ne _

theorem fac_spec {f : Nat} (hf : 40 ≤ f) (j i : Nat) (hj : j ≤ 16) (hi : i ≤ 256) (h : AHeap) (nx : Nat) : ∃ h' nx', callP Try.prog keepT f Y0 63 [.int .i64 (j : Int), .int .i64 (i : Int)] h nx = some (.int .i64 ((fac j i : Nat) : Int), h', nx') ∧ Ext h nx h' nx' := by
  obtain ⟨f, rfl⟩ : ∃ m, f = m + 3 := ⟨f - 3, by omega⟩
  have hm : i * j ≤ 256 * 16 := Nat.mul_le_mul hi hj
  have hw : wrapA .i64 ((i : Int) * (j : Int)) = ((i * j : Nat) : Int) := by
    have : ((i : Int) * (j : Int)) = ((i * j : Nat) : Int) := by simp
    rw [this]; generalize i * j = z at hm; exact wA (by omega) (by omega)
  generalize hz : i * j = z at hm hw
  obtain ⟨n1, l1, e1⟩ := bad1_spec (f := f) (by omega) 2 (by omega) (h := h.put (nx + 10 + 8 + 3) (some ⟨[.int .i64 ((2 : Nat) : Int)], 1, true⟩)) (put_same _ _ _) (nx + 10 + 8 + 9)
  obtain ⟨f', rfl⟩ : ∃ m, f = m + 1 := ⟨f - 1, by omega⟩
  obtain ⟨n2, l2, e2⟩ := power_loop (k0 := f') (by omega) f' (h.put (nx + 10 + 8 + 3) (some ⟨[.int .i64 ((2 : Nat) : Int)], 1, true⟩)) 16 f' 2 z 1 (n1 + 5 + 2) (by omega) (by omega) (by omega) (by omega) (by omega)
  rw [show ((2 : Nat) : Int) = 2 from rfl] at e1 e2
  rw [show ((1 : Nat) : Int) = 1 from rfl] at e2
  rw [F63_eq, hw, F19_eq, F18_eq]
  dsimp only
  rw [e1]
  simp only [bind_some', asI_int, asB_bool, asStr_str, asP_ptr, asSl_sl, asAgg_1, asAgg_2, asAgg_3, asAgg_4, asTup_0, asTup_2, asTup_3, asTup_4, if_true', if_false', if_not_true', if_not_false', getD_0, getD_1, getD_2, getD_3]
  rw [if_neg (by simp), F18_J1_eq, F41_eq, e2]
  simp only [bind_some', asI_int, asB_bool, asStr_str, asP_ptr, asSl_sl, asAgg_1, asAgg_2, asAgg_3, asAgg_4, asTup_0, asTup_2, asTup_3, asTup_4, if_true', if_false', if_not_true', if_not_false', getD_0, getD_1, getD_2, getD_3]
  rw [Gf.one_gm (Gf.gp_lt (by omega) _), show Gf.gp 2 z = fac j i from by unfold fac; rw [hz]]
  exact ⟨_, _, rfl, by omega, fun q hq => put_ne (by omega)⟩

/-! ### the table of products -/
def tabTo (x n : Nat) : List AV := (List.range 256).map fun i => .int .u8 ((if i < n then Gf.gm x i else 0 : Nat) : Int)
theorem tabTo_len (x n : Nat) : (tabTo x n).length = 256 := by simp [tabTo]
theorem tabTo_zero (x : Nat) : tabTo x 0 = List.replicate 256 (.int .u8 0) := by
  apply List.ext_getElem
  · rw [tabTo_len, List.length_replicate]
  · intro i h1 h2
    simp only [tabTo, List.getElem_map, List.getElem_range, List.getElem_replicate]
    rw [if_neg (by omega)]; rfl
theorem tabTo_set (x n : Nat) (hn : n < 256) : (tabTo x n).set n (.int .u8 ((Gf.gm x n : Nat) : Int)) = tabTo x (n + 1) := by
  apply List.ext_getElem
  · rw [List.length_set, tabTo_len, tabTo_len]
  · intro i h1 h2
    rw [List.getElem_set]
    simp only [tabTo, List.getElem_map, List.getElem_range]
    by_cases e : n = i
    · rw [if_pos e]; subst e; simp
    · rw [if_neg e]
      by_cases l : i < n
      · rw [if_pos l, if_pos (by omega)]
      · rw [if_neg l, if_neg (by omega)]
theorem tabTo_get (x i : Nat) (hi : i < 256) : (tabTo x 256)[i * 1]? = some (.int .u8 ((Gf.gm x i : Nat) : Int)) := by
  simp [tabTo, hi]
theorem tabTo_one (x n : Nat) : allOne (tabTo x n) = true := by simp [allOne, tabTo, AV.one]

theorem wU8 {n : Nat} (h : n < 256) : wrapA .u8 (n : Int) = (n : Int) := by
  show IntKind.wrap .u8 (n : Int) = _
  unfold IntKind.wrap; simp only [IntKind.bits, IntKind.signed, Bool.false_and]; rw [if_neg (by decide)]; omega

theorem table_loop {k0 : Nat} (hk0 : 12 ≤ k0) (lf : Nat) (x : Nat) (hx : x < 256) {id : Nat} (m : Nat) : ∀ (f i : Nat) (h : AHeap) (nx : Nat), i + m = 256 → m < f → id < nx → h id = some ⟨tabTo x i, 1, true⟩ →
    ∃ h' nx', F71_L1 (callP Try.prog keepT k0) Y0 lf f (x : Int) (some (id, 0)) (i : Int) h nx = some (.agg (tabTo x 256), h', nx') ∧ nx ≤ nx' ∧ ∀ q, q < nx → q ≠ id → h' q = h q := by
  induction m with
  | zero =>
    intro f i h nx e hf hid hb
    obtain ⟨f, rfl⟩ : ∃ m, f = m + 1 := ⟨f - 1, by omega⟩
    obtain rfl : i = 256 := by omega
    rw [F71_L1_eq, if_neg (by simp), some_bind, ldr_all hb (by exact tabTo_len _ _), some_bind, st_all hb (by exact tabTo_len _ _) (by exact tabTo_len _ _) (tabTo_one _ _)]
    rw [some_bind, ldr_all (put_same _ _ _) (by exact tabTo_len _ _)]
    exact ⟨_, _, rfl, by omega, fun q _ hq => put_ne hq⟩
  | succ m ih =>
    intro f i h nx e hf hid hb
    obtain ⟨f, rfl⟩ : ∃ m, f = m + 1 := ⟨f - 1, by omega⟩
    have hi : i < 256 := by omega
    obtain ⟨h1, n1, e1, x1⟩ := gmul_spec (f := k0) hk0 x i hx hi h (nx + 11)
    have y1 := x1.1
    have hb1 : h1 id = some ⟨tabTo x i, 1, true⟩ := (x1.2 id (by omega)).trans hb
    rw [F71_L1_eq, if_pos (by simp; omega), e1]
    simp only [bind_some', asI_int, asB_bool, asStr_str, asP_ptr, asSl_sl, asAgg_1, asAgg_2, asAgg_3, asAgg_4, asTup_0, asTup_2, asTup_3, asTup_4, if_true', if_false', if_not_true', if_not_false', getD_0, getD_1, getD_2, getD_3]
    rw [if_pos (by omega), show (0 + Int.toNat (i : Int) * 1) = i from by omega, wU8 (Gf.gm_lt hx), st_to hb1 rfl (by rw [tabTo_len]; exact hi) (tabTo_set x i hi), wsucc (by omega)]
    obtain ⟨h', nx', e', l', k'⟩ := ih f (i + 1) _ (n1 + 7) (by omega) (by omega) (by omega) (put_same h1 id _)
    refine ⟨h', nx', e', by omega, fun q hq hne => ?_⟩
    rw [k' q (by omega) hne, put_ne hne, x1.2 q (by omega)]

theorem table_spec {f : Nat} (hf : 300 ≤ f) (x : Nat) (hx : x < 256) (h : AHeap) (nx : Nat) : ∃ h' nx', callP Try.prog keepT f Y0 71 [.int .i64 (x : Int)] h nx = some (.agg (tabTo x 256), h', nx') ∧ Ext h nx h' nx' := by
  obtain ⟨f, rfl⟩ : ∃ m, f = m + 1 := ⟨f - 1, by omega⟩
  obtain ⟨h', nx', e', l', k'⟩ := table_loop (k0 := f) (by omega) f x hx (id := nx) 256 f 0 (h.put nx (some ⟨List.replicate 256 (.int .u8 0), 1, true⟩)) (nx + 2) (by omega) (by omega) (by omega) (by rw [put_same, tabTo_zero])
  rw [show ((0 : Nat) : Int) = 0 from rfl] at e'
  rw [F71_eq]
  exact ⟨h', nx', e', by omega, fun q hq => by rw [k' q (by omega) (by omega), put_ne (by omega)]⟩

end Go.Proofs.Ytdfopcgfhjijgaa.T
