/- For every element and every two exponents below 2^30: powers add up, and Exp(255) is 1. No condition. -/
import Derived.Test.YtdfopcgfhjijgaaPGfPowersx1
import Derived.Test.YtdfopcgfhjijgaaGf
import Derived.Laws.BitsLemmas
namespace Go.Proofs.Ytdfopcgfhjijgaa.PureGfPowers
open Go.RowKit Go.Proofs.Ytdfopcgfhjijgaa Go.Proofs.Ytdfopcgfhjijgaa.PGfPowers Go.Proofs.YtdfopcgfhjijgaaW.PrintWords Go.Proofs.YtdfopcgfhjijgaaW.PrintLast

/- link: the printed functions of package gf over naturals below 256 -/
theorem lk_wrap (x : Int) (h0 : -4611686018427387904 ≤ x) (h1 : x ≤ 4611686018427387904) : wrap64 x = x := by
  unfold wrap64; omega

theorem lk_picked (a n : Int) (h0 : 0 < n) (h1 : n ≤ 4611686018427387904) : quicksetkeep_Picked.f a n = some (a % n) := by
  unfold quicksetkeep_Picked.f
  rw [if_neg (by omega)]
  have e := Int.tmod_eq_emod (a := a) (b := n)
  have b0 := Int.emod_nonneg a (show n ≠ 0 by omega)
  have b1 := Int.emod_lt_of_pos a h0
  by_cases c : 0 ≤ a ∨ n ∣ a
  · rw [if_pos c] at e
    rw [if_neg (by omega)]
    congr 1; omega
  · rw [if_neg c] at e
    rw [if_pos (by omega), lk_wrap _ (by omega) (by omega)]
    congr 1; omega

theorem lk_and1 (x : Nat) (h : x < 2 ^ 62) : Go.bits .and .i64 (x : Int) 1 = ((x % 2 : Nat) : Int) := by
  have e := Go.bits_mask .i64 62 (by decide) (fun n h0 h1 => by rw [Go.IntKind.wrap_i64]; omega) 1 (by omega) (x : Int) (by omega) (by exact_mod_cast h)
  have t : ((2 : Int) ^ 1 - 1) = 1 := by decide
  rw [t] at e
  rw [e]; simp

theorem lk_xor (a b : Nat) (ha : a < 1024) (hb : b < 1024) : Go.bits .xor .i64 (a : Int) (b : Int) = ((a ^^^ b : Nat) : Int) := by
  have hx : a ^^^ b < 1024 := Nat.xor_lt_two_pow (n := 10) ha hb
  have e1 : a % 2 ^ IntKind.i64.bits = a := Nat.mod_eq_of_lt (by simp [IntKind.bits]; omega)
  have e2 : b % 2 ^ IntKind.i64.bits = b := Nat.mod_eq_of_lt (by simp [IntKind.bits]; omega)
  simp only [Go.bits, BitVec.ofInt_natCast, BitVec.toNat_xor, BitVec.toNat_ofNat, e1, e2]
  rw [Go.IntKind.wrap_i64]; omega

theorem lk_andNot : ∀ a, a < 256 → Go.bits .andNot .i64 ((a : Nat) : Int) 255 = 0 := by decide +kernel

theorem lk_bad1 (k a : Nat) (ha : a < 256) (hk : 2 ≤ k) : gf_bad.f k ([(a : Int)]) = some false := by
  obtain ⟨k, rfl⟩ : ∃ m, k = m + 2 := ⟨k - 2, by omega⟩
  unfold gf_bad.f
  simp only [gf_bad.l0, List.length_cons, List.length_nil, rd, Int.toNat_zero, List.getD_cons_zero, lk_andNot a ha]
  simp [wrap64]

theorem lk_bad2 (k a b : Nat) (ha : a < 256) (hb : b < 256) (hk : 3 ≤ k) : gf_bad.f k ([(a : Int), (b : Int)]) = some false := by
  obtain ⟨k, rfl⟩ : ∃ m, k = m + 3 := ⟨k - 3, by omega⟩
  unfold gf_bad.f
  have e1 : wrap64 (0 + 1) = 1 := by rw [lk_wrap _ (by omega) (by omega)]; rfl
  have e2 : wrap64 (1 + 1) = 2 := by rw [lk_wrap _ (by omega) (by omega)]; rfl
  simp only [gf_bad.l0, List.length_cons, List.length_nil, rd, Int.toNat_zero, List.getD_cons_zero, lk_andNot a ha, e1, e2, Int.toNat_one, List.getD_cons_succ, lk_andNot b hb]
  simp

theorem lk_times_at (n : Nat) : ∀ k a b out : Nat, n < k → a < 256 → b < 2 ^ n → b < 256 → out < 256 → gf_times.l0 k (a : Int) (b : Int) (out : Int) = some ((out ^^^ Gf.gmN n a b : Nat) : Int) := by
  induction n with
  | zero =>
    intro k a b out hk ha hb _ ho
    obtain ⟨k, rfl⟩ : ∃ m, k = m + 1 := ⟨k - 1, by omega⟩
    obtain rfl : b = 0 := by simp at hb; exact hb
    simp [gf_times.l0, Gf.gmN]
  | succ n ih =>
    intro k a b out hk ha hb hb' ho
    obtain ⟨k, rfl⟩ : ∃ m, k = m + 1 := ⟨k - 1, by omega⟩
    by_cases h0 : b = 0
    · subst h0
      have z := Gf.gmN_right (n + 1) a 0 0
      simp at z
      simp [gf_times.l0, z]
    have hq : b / 2 < 2 ^ n := by rw [Nat.pow_succ] at hb; omega
    have hd : (b : Int) / 2 = ((b / 2 : Nat) : Int) := by omega
    have hw : wrap64 ((a : Int) * 2) = ((2 * a : Nat) : Int) := by rw [lk_wrap _ (by omega) (by omega)]; omega
    have hx : (if ((2 * a : Nat) : Int) > 255 then Go.bits .xor .i64 ((2 * a : Nat) : Int) 285 else ((2 * a : Nat) : Int)) = ((Gf.xt a : Nat) : Int) := by
      unfold Gf.xt
      by_cases h : a < 128
      · rw [if_pos h, if_neg (by omega)]
      · rw [if_neg h, if_pos (by omega)]
        exact lk_xor (2 * a) 285 (by omega) (by omega)
    have ht := Gf.xt_lt a ha
    simp only [gf_times.l0]
    rw [if_pos (by omega), lk_and1 b (by omega), hw, hd]
    by_cases h1 : b % 2 = 1
    · rw [if_pos (by omega), lk_xor out a (by omega) (by omega)]
      have : (if ((2 * a : Nat) : Int) > 255 then gf_times.l0 k (Go.bits .xor .i64 ((2 * a : Nat) : Int) 285) ((b / 2 : Nat) : Int) ((out ^^^ a : Nat) : Int) else gf_times.l0 k ((2 * a : Nat) : Int) ((b / 2 : Nat) : Int) ((out ^^^ a : Nat) : Int)) = gf_times.l0 k ((Gf.xt a : Nat) : Int) ((b / 2 : Nat) : Int) ((out ^^^ a : Nat) : Int) := by
        rw [← hx]; split <;> rfl
      rw [this, ih k (Gf.xt a) (b / 2) (out ^^^ a) (by omega) ht hq (by omega) (Gf.xor_lt ho ha)]
      simp only [Gf.gmN, if_pos h1, Nat.xor_assoc]
    · rw [if_neg (by omega)]
      have : (if ((2 * a : Nat) : Int) > 255 then gf_times.l0 k (Go.bits .xor .i64 ((2 * a : Nat) : Int) 285) ((b / 2 : Nat) : Int) ((out : Nat) : Int) else gf_times.l0 k ((2 * a : Nat) : Int) ((b / 2 : Nat) : Int) ((out : Nat) : Int)) = gf_times.l0 k ((Gf.xt a : Nat) : Int) ((b / 2 : Nat) : Int) ((out : Nat) : Int) := by
        rw [← hx]; split <;> rfl
      rw [this, ih k (Gf.xt a) (b / 2) out (by omega) ht hq (by omega) ho]
      simp only [Gf.gmN, if_neg h1, Nat.zero_xor]

theorem lk_times (k a b : Nat) (hk : 9 ≤ k) (ha : a < 256) (hb : b < 256) : gf_times.f k (a : Int) (b : Int) = some ((Gf.gm a b : Nat) : Int) := by
  unfold gf_times.f
  have h := lk_times_at 8 k a b 0 (by omega) ha (by omega) hb (by omega)
  rw [Nat.zero_xor] at h
  exact h

theorem lk_Mul (k a b : Nat) (hk : 9 ≤ k) (ha : a < 256) (hb : b < 256) : gf_Mul.f k (a : Int) (b : Int) = some (((Gf.gm a b : Nat) : Int), 0) := by
  unfold gf_Mul.f
  rw [lk_bad2 k a b ha hb (by omega)]
  simp only [Option.bind_some]
  rw [if_neg (by decide), lk_times k a b hk ha hb]; rfl

theorem lk_mul (k a b : Nat) (hk : 9 ≤ k) (ha : a < 256) (hb : b < 256) : quicksetkeep_mul.f k (a : Int) (b : Int) = some ((Gf.gm a b : Nat) : Int) := by
  unfold quicksetkeep_mul.f
  rw [lk_Mul k a b hk ha hb]; rfl

theorem lk_power_at (n : Nat) : ∀ k a e out : Nat, n < k → 9 ≤ k - n → a < 256 → e < 2 ^ n → n ≤ 40 → out < 256 → gf_power.l0 k (a : Int) (e : Int) (out : Int) = some ((Gf.pw n a e out : Nat) : Int) := by
  induction n with
  | zero =>
    intro k a e out hk _ ha he _ ho
    obtain ⟨k, rfl⟩ : ∃ m, k = m + 1 := ⟨k - 1, by omega⟩
    obtain rfl : e = 0 := by simp at he; exact he
    simp [gf_power.l0, Gf.pw]
  | succ n ih =>
    intro k a e out hk h9 ha he hn ho
    obtain ⟨k, rfl⟩ : ∃ m, k = m + 1 := ⟨k - 1, by omega⟩
    simp only [gf_power.l0, Gf.pw]
    by_cases h0 : e = 0
    · subst h0; simp
    have hq : e / 2 < 2 ^ n := by rw [Nat.pow_succ] at he; omega
    have hd : (e : Int) / 2 = ((e / 2 : Nat) : Int) := by omega
    have hp : 2 ^ (n + 1) ≤ 2 ^ 41 := Nat.pow_le_pow_right (by omega) (by omega)
    rw [if_pos (by omega), if_neg h0, lk_and1 e (by omega), hd, lk_times k a a (by omega) ha ha]
    by_cases h1 : e % 2 = 1
    · rw [if_pos (by omega), if_pos h1, lk_times k out a (by omega) ho ha]
      simp only [Option.bind_some]
      exact ih k _ _ _ (by omega) (by omega) (Gf.gm_lt ha) hq (by omega) (Gf.gm_lt ho)
    · rw [if_neg (by omega), if_neg h1]
      simp only [Option.bind_some]
      exact ih k _ _ _ (by omega) (by omega) (Gf.gm_lt ha) hq (by omega) ho

theorem lk_power (k a e : Nat) (hk : 60 ≤ k) (ha : a < 256) (he : e < 2 ^ 40) : gf_power.f k (a : Int) (e : Int) = some ((Gf.gp a e : Nat) : Int) := by
  unfold gf_power.f
  have h := lk_power_at 40 k a e 1 (by omega) (by omega) ha he (by omega) (by omega)
  rw [Gf.pw_eq 40 a e 1 ha (by omega) he, Gf.one_gm (Gf.gp_lt ha e)] at h
  exact h
theorem lk_Pow (k a e : Nat) (hk : 60 ≤ k) (ha : a < 256) (he : e < 2 ^ 40) : gf_Pow.f k (a : Int) (e : Int) = some (((Gf.gp a e : Nat) : Int), 0) := by
  unfold gf_Pow.f
  rw [lk_bad1 k a ha (by omega)]
  simp only [Option.bind_some]
  rw [if_neg (by decide), if_neg (by omega), lk_power k a e hk ha he]; rfl

theorem lk_Exp (k e : Nat) (hk : 60 ≤ k) (he : e < 2 ^ 40) : gf_Exp.f k (e : Int) = some (((Gf.x2 e : Nat) : Int), 0) := by
  unfold gf_Exp.f
  have h := lk_Pow k 2 e hk (by omega) he
  rw [show (2 : Int) = ((2 : Nat) : Int) from rfl, h, Gf.x2_eq]; rfl

theorem lk_Exp255 : gf_Exp.f 60 255 = some (1, 0) := by
  have h := lk_Exp 60 255 (by omega) (by omega)
  rw [Gf.x2_255] at h
  exact h

theorem law_rest (x i j : Nat) (bx : x < 256) (ci : i < 2 ^ 40) (cj : j < 2 ^ 40) (cij : i + j < 2 ^ 40) :
    ((gf_Pow.f 60 (x : Int) (i : Int)).bind fun bt122 => ((gf_Pow.f 60 (x : Int) (j : Int)).bind fun bt124 => ((gf_Pow.f 60 (x : Int) ((i + j : Nat) : Int)).bind fun bt126 => ((gf_Exp.f 60 255).bind fun bt128 => (if bt122.2 = 0 then (if bt124.2 = 0 then (if bt126.2 = 0 then (if bt128.2 = 0 then (if bt128.1 = 1 then (if bt122.1 < 0 then (some false) else (if bt122.1 > 255 then (some false) else (if bt124.1 < 0 then (some false) else (if bt124.1 > 255 then (some false) else ((quicksetkeep_mul.f 60 bt122.1 bt124.1).bind fun t130 => (some (t130 == bt126.1))))))) else (some false)) else (some false)) else (some false)) else (some false)) else (some false)))))) = some true := by
  have p1 := Gf.gp_lt bx i
  have p2 := Gf.gp_lt bx j
  rw [lk_Pow 60 x i (by decide) bx ci, lk_Pow 60 x j (by decide) bx cj, lk_Pow 60 x (i + j) (by decide) bx cij, lk_Exp255]
  clear ci cj cij
  simp only [Option.bind_some, if_true]
  rw [if_neg (by omega), if_neg (by omega), if_neg (by omega), if_neg (by omega), lk_mul 60 _ _ (by decide) p1 p2]
  simp only [Option.bind_some]
  rw [Gf.gp_add bx, beq_self_eq_true]

theorem picked30 (a : Int) : ∃ i : Nat, i < 2 ^ 30 ∧ quicksetkeep_Picked.f a 1073741824 = some (i : Int) := by
  have h0 := Int.emod_nonneg a (show (1073741824 : Int) ≠ 0 by omega)
  have h1 := Int.emod_lt_of_pos a (show (0 : Int) < 1073741824 by omega)
  refine ⟨(a % 1073741824).toNat, by omega, ?_⟩
  rw [lk_picked a 1073741824 (by omega) (by omega), Int.toNat_of_nonneg h0]

theorem picked8 (a : Int) : ∃ i : Nat, i < 256 ∧ quicksetkeep_Picked.f a 256 = some (i : Int) := by
  have h0 := Int.emod_nonneg a (show (256 : Int) ≠ 0 by omega)
  have h1 := Int.emod_lt_of_pos a (show (0 : Int) < 256 by omega)
  refine ⟨(a % 256).toNat, by omega, ?_⟩
  rw [lk_picked a 256 (by omega) (by omega), Int.toNat_of_nonneg h0]

theorem wrap_sum (i j : Nat) (hi : i < 2 ^ 30) (hj : j < 2 ^ 30) : wrap64 ((i : Int) + (j : Int)) = ((i + j : Nat) : Int) := by
  rw [lk_wrap _ (by omega) (by omega)]; omega

theorem law : quicksetkeep_GfPowers.Pure := by
  intro a0 a1 a2 _ _ _
  obtain ⟨x, bx, hx⟩ := picked8 a0
  obtain ⟨i, bi, hi⟩ := picked30 a1
  obtain ⟨j, bj, hj⟩ := picked30 a2
  refine ⟨60, ?_⟩
  unfold quicksetkeep_GfPowers.f
  rw [hx, hi, hj]
  simp only [Option.bind_some]
  rw [wrap_sum i j bi bj]
  exact law_rest x i j bx (by omega) (by omega) (by omega)

end Go.Proofs.Ytdfopcgfhjijgaa.PureGfPowers
namespace Go.Proofs.Ytdfopcgfhjijgaa.Pure
theorem GfPowers : Go.Proofs.Ytdfopcgfhjijgaa.PGfPowers.quicksetkeep_GfPowers.Pure := Go.Proofs.Ytdfopcgfhjijgaa.PureGfPowers.law
end Go.Proofs.Ytdfopcgfhjijgaa.Pure
