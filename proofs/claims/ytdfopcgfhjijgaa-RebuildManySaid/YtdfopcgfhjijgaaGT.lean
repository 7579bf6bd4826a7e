import Derived.Test.YtdfopcgfhjijgaaPa
import Derived.Test.YtdfopcgfhjijgaaTK
import Derived.Test.YtdfopcgfhjijgaaGfT
set_option linter.unusedVariables false
set_option linter.unusedSimpArgs false
namespace Go.Proofs.Ytdfopcgfhjijgaa.T
open Go Go.RowKit Go.Proofs Go.Proofs.Ytdfopcgfhjijgaa

theorem picked_spec {k : Nat} (hk : 1 ≤ k) (a n : Int) (h : AHeap) (nx : Nat) (h0 : 0 < n) (h1 : n ≤ 4611686018427387904) : ∃ nx', callP Try.prog keepT k Y0 15 [.int .i64 a, .int .i64 n] h nx = some (.int .i64 (a % n), h, nx') ∧ nx ≤ nx' := by
  obtain ⟨k, rfl⟩ : ∃ m, k = m + 1 := ⟨k - 1, by omega⟩
  rw [F15_eq, if_neg (by omega)]
  have e := Int.tmod_eq_emod (a := a) (b := n)
  have b0 := Int.emod_nonneg a (show n ≠ 0 by omega)
  have b1 := Int.emod_lt_of_pos a h0
  have hab : ((n.natAbs : Nat) : Int) = n := by omega
  by_cases c : 0 ≤ a ∨ n ∣ a
  · rw [if_pos c] at e
    rw [e, if_neg (by simp; omega)]
    exact ⟨nx + 9, by simp, by omega⟩
  · rw [if_neg c, hab] at e
    rw [e, if_pos (by simp; omega), wA (by omega) (by omega)]
    exact ⟨nx + 11, by rw [Int.sub_add_cancel], by omega⟩

theorem g_and1 (x : Nat) (h : x < 2 ^ 62) : Go.bits .and .i64 (x : Int) 1 = ((x % 2 : Nat) : Int) := by
  have e := Go.bits_mask .i64 62 (by decide) (fun n h0 h1 => by rw [Go.IntKind.wrap_i64]; omega) 1 (by omega) (x : Int) (by omega) (by exact_mod_cast h)
  have t : ((2 : Int) ^ 1 - 1) = 1 := by decide
  rw [t] at e
  rw [e]; simp
theorem g_xor (a b : Nat) (ha : a < 1024) (hb : b < 1024) : Go.bits .xor .i64 (a : Int) (b : Int) = ((a ^^^ b : Nat) : Int) := by
  have hx : a ^^^ b < 1024 := Nat.xor_lt_two_pow (n := 10) ha hb
  have e1 : a % 2 ^ IntKind.i64.bits = a := Nat.mod_eq_of_lt (by simp [IntKind.bits]; omega)
  have e2 : b % 2 ^ IntKind.i64.bits = b := Nat.mod_eq_of_lt (by simp [IntKind.bits]; omega)
  simp only [Go.bits, BitVec.ofInt_natCast, BitVec.toNat_xor, BitVec.toNat_ofNat, e1, e2]
  rw [Go.IntKind.wrap_i64]; omega
theorem g_andNot : ∀ a, a < 256 → Go.bits .andNot .i64 ((a : Nat) : Int) 255 = 0 := by decide +kernel

theorem times_loop (call : YldF → CallF) (lf : Nat) (h : AHeap) (n : Nat) : ∀ (k a b out nx : Nat), n < k → a < 256 → b < 2 ^ n → b < 256 → out < 256 → ∃ nx', nx ≤ nx' ∧ F42_L1 call Y0 lf k (a : Int) (b : Int) (out : Int) h nx = some (.int .i64 ((out ^^^ Gf.gmN n a b : Nat) : Int), h, nx') := by
  have e2 : (2:Int) ^ min (Int.toNat 1) (IntKind.bits .i64) = 2 := by decide
  induction n with
  | zero =>
    intro k a b out nx hk ha hb _ ho
    obtain ⟨k, rfl⟩ : ∃ m, k = m + 1 := ⟨k - 1, by omega⟩
    obtain rfl : b = 0 := by simp at hb; exact hb
    rw [F42_L1_eq, if_neg (by simp)]
    exact ⟨nx + 4, by omega, by simp [Gf.gmN]⟩
  | succ n ih =>
    intro k a b out nx hk ha hb hb' ho
    obtain ⟨k, rfl⟩ : ∃ m, k = m + 1 := ⟨k - 1, by omega⟩
    by_cases h0 : b = 0
    · subst h0
      have z := Gf.gmN_right (n + 1) a 0 0
      simp at z
      rw [F42_L1_eq, if_neg (by simp)]
      exact ⟨nx + 4, by omega, by simp [z]⟩
    have hq : b / 2 < 2 ^ n := by rw [Nat.pow_succ] at hb; omega
    have ht := Gf.xt_lt a ha
    have hnk : n < k := by omega
    have step : ∀ (o : Nat) (mm : Nat), o < 256 → ∃ nx', mm ≤ nx' ∧ F42_J2 call Y0 lf k (a : Int) (b : Int) (o : Int) h mm = some (.int .i64 ((o ^^^ Gf.gmN n (Gf.xt a) (b / 2) : Nat) : Int), h, nx') := by
      intro o mm ho'
      have hd : Int.fdiv (b : Int) 2 = ((b / 2 : Nat) : Int) := by rw [Int.fdiv_eq_ediv_of_nonneg _ (by omega)]; omega
      have hw : wrapA .i64 ((a : Int) * 2) = ((2 * a : Nat) : Int) := by rw [wA (by omega) (by omega)]; omega
      rw [F42_J2_eq, e2, hw, hd]
      by_cases h128 : a < 128
      · have hxt : Gf.xt a = 2 * a := by unfold Gf.xt; rw [if_pos h128]
        rw [if_neg (by simp; clear hw; omega), ← hxt]
        obtain ⟨nx', l, e⟩ := ih k (Gf.xt a) (b / 2) o (mm + 8) hnk ht hq (by clear hw; omega) ho'
        exact ⟨nx', by clear hw; omega, e⟩
      · have hxt : Gf.xt a = (2 * a) ^^^ 285 := by unfold Gf.xt; rw [if_neg h128]
        rw [if_pos (by simp; clear hw; omega)]
        rw [show (285 : Int) = ((285 : Nat) : Int) from rfl, g_xor (2 * a) 285 (by clear hw; omega) (by decide), ← hxt]
        obtain ⟨nx', l, e⟩ := ih k (Gf.xt a) (b / 2) o (mm + 11) hnk ht hq (by clear hw; omega) ho'
        exact ⟨nx', by clear hw; omega, e⟩
    rw [F42_L1_eq, if_pos (by simp; omega), g_and1 b (by omega)]
    by_cases h1 : b % 2 = 1
    · rw [if_pos (by simp; omega), g_xor out a (by omega) (by omega)]
      obtain ⟨nx', l, e⟩ := step (out ^^^ a) (nx + 9) (Gf.xor_lt ho ha)
      refine ⟨nx', by omega, ?_⟩
      rw [e]; simp only [Gf.gmN, if_pos h1, Nat.xor_assoc]
    · rw [if_neg (by simp; omega)]
      obtain ⟨nx', l, e⟩ := step out (nx + 5) ho
      refine ⟨nx', by omega, ?_⟩
      rw [e]; simp only [Gf.gmN, if_neg h1, Nat.zero_xor]

theorem times_spec {f : Nat} (hf : 10 ≤ f) (a b : Nat) (ha : a < 256) (hb : b < 256) (h : AHeap) (nx : Nat) : ∃ nx', nx ≤ nx' ∧ callP Try.prog keepT f Y0 42 [.int .i64 (a : Int), .int .i64 (b : Int)] h nx = some (.int .i64 ((Gf.gm a b : Nat) : Int), h, nx') := by
  obtain ⟨f, rfl⟩ : ∃ m, f = m + 1 := ⟨f - 1, by omega⟩
  obtain ⟨nx', l, e⟩ := times_loop (callP Try.prog keepT f) f h 8 f a b 0 (nx + 2) (by omega) ha (by omega) hb (by omega)
  rw [Nat.zero_xor] at e
  rw [F42_eq]
  exact ⟨nx', by omega, e⟩

theorem bad2_spec {f : Nat} (hf : 5 ≤ f) (a b : Nat) (ha : a < 256) (hb : b < 256) {h : AHeap} {i : Nat} (hi : h i = some ⟨[.int .i64 (a : Int), .int .i64 (b : Int)], 1, true⟩) (nx : Nat) : ∃ nx', nx ≤ nx' ∧ callP Try.prog keepT f Y0 40 [.slice (some (i, 0)) 2 true] h nx = some (.bool false, h, nx') := by
  obtain ⟨f, rfl⟩ : ∃ m, f = m + 1 := ⟨f - 1, by omega⟩
  obtain ⟨lf, hlf⟩ : ∃ m, f = m + 3 := ⟨f - 3, by omega⟩
  rw [F40_eq]
  generalize callP Try.prog keepT f Y0 = call
  rw [hlf]
  have w01 : wrapA .i64 (0 + 1) = 1 := by decide
  have w12 : wrapA .i64 (1 + 1) = 2 := by decide
  rw [F40_L1_eq, if_pos (by decide), some_bind, if_pos (by decide), ld_at hi rfl]
  simp only [bind_some', asI_int, asB_bool, asStr_str, asP_ptr, asSl_sl, asAgg_1, asAgg_2, asAgg_3, asAgg_4, asTup_0, asTup_2, asTup_3, asTup_4, if_true', if_false', if_not_true', if_not_false', getD_0, getD_1, getD_2, getD_3]
  rw [g_andNot a ha, if_neg (by decide), w01, F40_L1_eq, if_pos (by decide), some_bind, if_pos (by decide), ld_at hi rfl]
  simp only [bind_some', asI_int, asB_bool, asStr_str, asP_ptr, asSl_sl, asAgg_1, asAgg_2, asAgg_3, asAgg_4, asTup_0, asTup_2, asTup_3, asTup_4, if_true', if_false', if_not_true', if_not_false', getD_0, getD_1, getD_2, getD_3]
  rw [g_andNot b hb, if_neg (by decide), w12, F40_L1_eq, if_neg (by decide)]
  exact ⟨_, by omega, rfl⟩

theorem gmul_spec {f : Nat} (hf : 12 ≤ f) (a b : Nat) (ha : a < 256) (hb : b < 256) (h : AHeap) (nx : Nat) : ∃ h' nx', callP Try.prog keepT f Y0 38 [.int .i64 (a : Int), .int .i64 (b : Int)] h nx = some (.tuple [.int .i64 ((Gf.gm a b : Nat) : Int), .int .i64 0], h', nx') ∧ Ext h nx h' nx' := by
  obtain ⟨f, rfl⟩ : ∃ m, f = m + 1 := ⟨f - 1, by omega⟩
  obtain ⟨n1, l1, e1⟩ := bad2_spec (f := f) (by omega) a b ha hb (h := h.put (nx + 4) (some ⟨[.int .i64 (a : Int), .int .i64 (b : Int)], 1, true⟩)) (put_same _ _ _) (nx + 6)
  obtain ⟨n2, l2, e2⟩ := times_spec (f := f) (by omega) a b ha hb (h.put (nx + 4) (some ⟨[.int .i64 (a : Int), .int .i64 (b : Int)], 1, true⟩)) (n1 + 5)
  rw [F38_eq]
  dsimp only
  rw [e1]
  simp only [bind_some', asI_int, asB_bool, asStr_str, asP_ptr, asSl_sl, asAgg_1, asAgg_2, asAgg_3, asAgg_4, asTup_0, asTup_2, asTup_3, asTup_4, if_true', if_false', if_not_true', if_not_false', getD_0, getD_1, getD_2, getD_3]
  rw [e2]
  simp only [bind_some', asI_int, asB_bool, asStr_str, asP_ptr, asSl_sl, asAgg_1, asAgg_2, asAgg_3, asAgg_4, asTup_0, asTup_2, asTup_3, asTup_4, if_true', if_false', if_not_true', if_not_false', getD_0, getD_1, getD_2, getD_3]
  exact ⟨_, _, rfl, by omega, fun i hi => put_ne (by omega)⟩

theorem mtimes_spec {f : Nat} (hf : 14 ≤ f) (a b : Nat) (ha : a < 256) (hb : b < 256) (h : AHeap) (nx : Nat) : ∃ h' nx', callP Try.prog keepT f Y0 58 [.int .i64 (a : Int), .int .i64 (b : Int)] h nx = some (.int .i64 ((Gf.gm a b : Nat) : Int), h', nx') ∧ Ext h nx h' nx' := by
  obtain ⟨f, rfl⟩ : ∃ m, f = m + 1 := ⟨f - 1, by omega⟩
  obtain ⟨h1, n1, e1, x1⟩ := gmul_spec (f := f) (by omega) a b ha hb h (nx + 9)
  have y1 := x1.1
  rw [F58_eq, e1]
  simp only [bind_some', asI_int, asB_bool, asStr_str, asP_ptr, asSl_sl, asAgg_1, asAgg_2, asAgg_3, asAgg_4, asTup_0, asTup_2, asTup_3, asTup_4, if_true', if_false', if_not_true', if_not_false', getD_0, getD_1, getD_2, getD_3]
  exact ⟨_, _, rfl, by omega, fun i hi => x1.2 i (by omega)⟩

theorem side_spec {f : Nat} (hf : 2 ≤ f) (x : Int) : ∃ s : Nat, s = (1 + x % 8).toNat ∧ 1 ≤ s ∧ s ≤ 8 ∧ ∀ (h : AHeap) (nx : Nat), ∃ nx', nx ≤ nx' ∧ callP Try.prog keepT f Y0 24 [.int .i64 x] h nx = some (.int .i64 (s : Int), h, nx') := by
  obtain ⟨f, rfl⟩ : ∃ m, f = m + 1 := ⟨f - 1, by omega⟩
  have q0 := Int.emod_nonneg x (show (8 : Int) ≠ 0 by omega)
  have q1 := Int.emod_lt_of_pos x (show (0 : Int) < 8 by omega)
  refine ⟨(1 + x % 8).toNat, rfl, by omega, by omega, fun h nx => ?_⟩
  obtain ⟨n1, e1, l1⟩ := picked_spec (k := f) (by omega) x 8 h (nx + 5) (by omega) (by omega)
  rw [F24_eq, e1]
  simp only [bind_some', asI_int, asB_bool, asStr_str, asP_ptr, asSl_sl, asAgg_1, asAgg_2, asAgg_3, asAgg_4, asTup_0, asTup_2, asTup_3, asTup_4, if_true', if_false', if_not_true', if_not_false', getD_0, getD_1, getD_2, getD_3]
  rw [wA (x := 1 + x % 8) (by omega) (by omega), Int.toNat_of_nonneg (by omega)]
  exact ⟨n1, by omega, rfl⟩

end Go.Proofs.Ytdfopcgfhjijgaa.T
