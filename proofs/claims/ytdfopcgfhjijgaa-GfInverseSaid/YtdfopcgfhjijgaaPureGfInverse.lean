/- For every element x and every y that is not 0: Div and Inv undo Mul, Inv(0) is refused, and there are no zero divisors. No condition. -/
import Derived.Test.YtdfopcgfhjijgaaPGfInversex1
import Derived.Test.YtdfopcgfhjijgaaGf
import Derived.Laws.BitsLemmas
namespace Go.Proofs.Ytdfopcgfhjijgaa.PureGfInverse
open Go.RowKit Go.Proofs.Ytdfopcgfhjijgaa Go.Proofs.Ytdfopcgfhjijgaa.PGfInverse Go.Proofs.YtdfopcgfhjijgaaW.PrintWords Go.Proofs.YtdfopcgfhjijgaaW.PrintLast

/- link: the printed functions of package gf over naturals below 256 -/
theorem lk_wrap (x : Int) (h0 : -4611686018427387904 ≤ x) (h1 : x ≤ 4611686018427387904) : wrap64 x = x := by
  unfold wrap64; omega

theorem lk_picked (a n : Int) (h0 : 0 < n) (h1 : n ≤ 4611686018427387904) : quicksetkeep_Picked.f a n = some (a % n) := by
  unfold quicksetkeep_Picked.f
  rw [if_neg (by omega)]
  have e := Int.tmod_eq_emod (a := a) (b := n)
  have b0 := Int.emod_nonneg a (show n ≠ 0 by omega)
  have b1 := Int.emod_lt_of_pos a h0
  by_cases c : 0 ≤ a ∨ n ∣ a
  · rw [if_pos c] at e
    rw [if_neg (by omega)]
    congr 1; omega
  · rw [if_neg c] at e
    rw [if_pos (by omega), lk_wrap _ (by omega) (by omega)]
    congr 1; omega

theorem lk_and1 (x : Nat) (h : x < 2 ^ 62) : Go.bits .and .i64 (x : Int) 1 = ((x % 2 : Nat) : Int) := by
  have e := Go.bits_mask .i64 62 (by decide) (fun n h0 h1 => by rw [Go.IntKind.wrap_i64]; omega) 1 (by omega) (x : Int) (by omega) (by exact_mod_cast h)
  have t : ((2 : Int) ^ 1 - 1) = 1 := by decide
  rw [t] at e
  rw [e]; simp

theorem lk_xor (a b : Nat) (ha : a < 1024) (hb : b < 1024) : Go.bits .xor .i64 (a : Int) (b : Int) = ((a ^^^ b : Nat) : Int) := by
  have hx : a ^^^ b < 1024 := Nat.xor_lt_two_pow (n := 10) ha hb
  have e1 : a % 2 ^ IntKind.i64.bits = a := Nat.mod_eq_of_lt (by simp [IntKind.bits]; omega)
  have e2 : b % 2 ^ IntKind.i64.bits = b := Nat.mod_eq_of_lt (by simp [IntKind.bits]; omega)
  simp only [Go.bits, BitVec.ofInt_natCast, BitVec.toNat_xor, BitVec.toNat_ofNat, e1, e2]
  rw [Go.IntKind.wrap_i64]; omega

theorem lk_andNot : ∀ a, a < 256 → Go.bits .andNot .i64 ((a : Nat) : Int) 255 = 0 := by decide +kernel

theorem lk_bad1 (k a : Nat) (ha : a < 256) (hk : 2 ≤ k) : gf_bad.f k ([(a : Int)]) = some false := by
  obtain ⟨k, rfl⟩ : ∃ m, k = m + 2 := ⟨k - 2, by omega⟩
  unfold gf_bad.f
  simp only [gf_bad.l0, List.length_cons, List.length_nil, rd, Int.toNat_zero, List.getD_cons_zero, lk_andNot a ha]
  simp [wrap64]

theorem lk_bad2 (k a b : Nat) (ha : a < 256) (hb : b < 256) (hk : 3 ≤ k) : gf_bad.f k ([(a : Int), (b : Int)]) = some false := by
  obtain ⟨k, rfl⟩ : ∃ m, k = m + 3 := ⟨k - 3, by omega⟩
  unfold gf_bad.f
  have e1 : wrap64 (0 + 1) = 1 := by rw [lk_wrap _ (by omega) (by omega)]; rfl
  have e2 : wrap64 (1 + 1) = 2 := by rw [lk_wrap _ (by omega) (by omega)]; rfl
  simp only [gf_bad.l0, List.length_cons, List.length_nil, rd, Int.toNat_zero, List.getD_cons_zero, lk_andNot a ha, e1, e2, Int.toNat_one, List.getD_cons_succ, lk_andNot b hb]
  simp

theorem lk_times_at (n : Nat) : ∀ k a b out : Nat, n < k → a < 256 → b < 2 ^ n → b < 256 → out < 256 → gf_times.l0 k (a : Int) (b : Int) (out : Int) = some ((out ^^^ Gf.gmN n a b : Nat) : Int) := by
  induction n with
  | zero =>
    intro k a b out hk ha hb _ ho
    obtain ⟨k, rfl⟩ : ∃ m, k = m + 1 := ⟨k - 1, by omega⟩
    obtain rfl : b = 0 := by simp at hb; exact hb
    simp [gf_times.l0, Gf.gmN]
  | succ n ih =>
    intro k a b out hk ha hb hb' ho
    obtain ⟨k, rfl⟩ : ∃ m, k = m + 1 := ⟨k - 1, by omega⟩
    by_cases h0 : b = 0
    · subst h0
      have z := Gf.gmN_right (n + 1) a 0 0
      simp at z
      simp [gf_times.l0, z]
    have hq : b / 2 < 2 ^ n := by rw [Nat.pow_succ] at hb; omega
    have hd : (b : Int) / 2 = ((b / 2 : Nat) : Int) := by omega
    have hw : wrap64 ((a : Int) * 2) = ((2 * a : Nat) : Int) := by rw [lk_wrap _ (by omega) (by omega)]; omega
    have hx : (if ((2 * a : Nat) : Int) > 255 then Go.bits .xor .i64 ((2 * a : Nat) : Int) 285 else ((2 * a : Nat) : Int)) = ((Gf.xt a : Nat) : Int) := by
      unfold Gf.xt
      by_cases h : a < 128
      · rw [if_pos h, if_neg (by omega)]
      · rw [if_neg h, if_pos (by omega)]
        exact lk_xor (2 * a) 285 (by omega) (by omega)
    have ht := Gf.xt_lt a ha
    simp only [gf_times.l0]
    rw [if_pos (by omega), lk_and1 b (by omega), hw, hd]
    by_cases h1 : b % 2 = 1
    · rw [if_pos (by omega), lk_xor out a (by omega) (by omega)]
      have : (if ((2 * a : Nat) : Int) > 255 then gf_times.l0 k (Go.bits .xor .i64 ((2 * a : Nat) : Int) 285) ((b / 2 : Nat) : Int) ((out ^^^ a : Nat) : Int) else gf_times.l0 k ((2 * a : Nat) : Int) ((b / 2 : Nat) : Int) ((out ^^^ a : Nat) : Int)) = gf_times.l0 k ((Gf.xt a : Nat) : Int) ((b / 2 : Nat) : Int) ((out ^^^ a : Nat) : Int) := by
        rw [← hx]; split <;> rfl
      rw [this, ih k (Gf.xt a) (b / 2) (out ^^^ a) (by omega) ht hq (by omega) (Gf.xor_lt ho ha)]
      simp only [Gf.gmN, if_pos h1, Nat.xor_assoc]
    · rw [if_neg (by omega)]
      have : (if ((2 * a : Nat) : Int) > 255 then gf_times.l0 k (Go.bits .xor .i64 ((2 * a : Nat) : Int) 285) ((b / 2 : Nat) : Int) ((out : Nat) : Int) else gf_times.l0 k ((2 * a : Nat) : Int) ((b / 2 : Nat) : Int) ((out : Nat) : Int)) = gf_times.l0 k ((Gf.xt a : Nat) : Int) ((b / 2 : Nat) : Int) ((out : Nat) : Int) := by
        rw [← hx]; split <;> rfl
      rw [this, ih k (Gf.xt a) (b / 2) out (by omega) ht hq (by omega) ho]
      simp only [Gf.gmN, if_neg h1, Nat.zero_xor]

theorem lk_times (k a b : Nat) (hk : 9 ≤ k) (ha : a < 256) (hb : b < 256) : gf_times.f k (a : Int) (b : Int) = some ((Gf.gm a b : Nat) : Int) := by
  unfold gf_times.f
  have h := lk_times_at 8 k a b 0 (by omega) ha (by omega) hb (by omega)
  rw [Nat.zero_xor] at h
  exact h

theorem lk_Mul (k a b : Nat) (hk : 9 ≤ k) (ha : a < 256) (hb : b < 256) : gf_Mul.f k (a : Int) (b : Int) = some (((Gf.gm a b : Nat) : Int), 0) := by
  unfold gf_Mul.f
  rw [lk_bad2 k a b ha hb (by omega)]
  simp only [Option.bind_some]
  rw [if_neg (by decide), lk_times k a b hk ha hb]; rfl

theorem lk_mul (k a b : Nat) (hk : 9 ≤ k) (ha : a < 256) (hb : b < 256) : quicksetkeep_mul.f k (a : Int) (b : Int) = some ((Gf.gm a b : Nat) : Int) := by
  unfold quicksetkeep_mul.f
  rw [lk_Mul k a b hk ha hb]; rfl

theorem lk_power_at (n : Nat) : ∀ k a e out : Nat, n < k → 9 ≤ k - n → a < 256 → e < 2 ^ n → n ≤ 40 → out < 256 → gf_power.l0 k (a : Int) (e : Int) (out : Int) = some ((Gf.pw n a e out : Nat) : Int) := by
  induction n with
  | zero =>
    intro k a e out hk _ ha he _ ho
    obtain ⟨k, rfl⟩ : ∃ m, k = m + 1 := ⟨k - 1, by omega⟩
    obtain rfl : e = 0 := by simp at he; exact he
    simp [gf_power.l0, Gf.pw]
  | succ n ih =>
    intro k a e out hk h9 ha he hn ho
    obtain ⟨k, rfl⟩ : ∃ m, k = m + 1 := ⟨k - 1, by omega⟩
    simp only [gf_power.l0, Gf.pw]
    by_cases h0 : e = 0
    · subst h0; simp
    have hq : e / 2 < 2 ^ n := by rw [Nat.pow_succ] at he; omega
    have hd : (e : Int) / 2 = ((e / 2 : Nat) : Int) := by omega
    have hp : 2 ^ (n + 1) ≤ 2 ^ 41 := Nat.pow_le_pow_right (by omega) (by omega)
    rw [if_pos (by omega), if_neg h0, lk_and1 e (by omega), hd, lk_times k a a (by omega) ha ha]
    by_cases h1 : e % 2 = 1
    · rw [if_pos (by omega), if_pos h1, lk_times k out a (by omega) ho ha]
      simp only [Option.bind_some]
      exact ih k _ _ _ (by omega) (by omega) (Gf.gm_lt ha) hq (by omega) (Gf.gm_lt ho)
    · rw [if_neg (by omega), if_neg h1]
      simp only [Option.bind_some]
      exact ih k _ _ _ (by omega) (by omega) (Gf.gm_lt ha) hq (by omega) ho

theorem lk_power (k a e : Nat) (hk : 60 ≤ k) (ha : a < 256) (he : e < 2 ^ 40) : gf_power.f k (a : Int) (e : Int) = some ((Gf.gp a e : Nat) : Int) := by
  unfold gf_power.f
  have h := lk_power_at 40 k a e 1 (by omega) (by omega) ha he (by omega) (by omega)
  rw [Gf.pw_eq 40 a e 1 ha (by omega) he, Gf.one_gm (Gf.gp_lt ha e)] at h
  exact h

theorem lk_Div (k a b : Nat) (hk : 60 ≤ k) (ha : a < 256) (hb : b < 256) (h : b ≠ 0) : gf_Div.f k (a : Int) (b : Int) = some (((Gf.gm a (Gf.gi b) : Nat) : Int), 0) := by
  unfold gf_Div.f
  rw [lk_bad2 k a b ha hb (by omega)]
  simp only [Option.bind_some]
  rw [if_neg (by decide), if_neg (by omega), show (254 : Int) = ((254 : Nat) : Int) from rfl, lk_power k b 254 hk hb (by omega)]
  simp only [Option.bind_some]
  rw [lk_times k a _ (by omega) ha (Gf.gp_lt hb 254)]; rfl

theorem lk_Inv (k b : Nat) (hk : 60 ≤ k) (hb : b < 256) (h : b ≠ 0) : gf_Inv.f k (b : Int) = some (((Gf.gi b : Nat) : Int), 0) := by
  unfold gf_Inv.f
  rw [show (1 : Int) = ((1 : Nat) : Int) from rfl, lk_Div k 1 b hk (by omega) hb h, Gf.one_gm (Gf.gi_lt hb)]; rfl

theorem lk_Inv0 (k : Nat) (hk : 60 ≤ k) : gf_Inv.f k 0 = some (0, 10) := by
  unfold gf_Inv.f gf_Div.f
  have h := lk_bad2 k 1 0 (by omega) (by omega) (by omega)
  rw [show ([1, 0] : List Int) = [((1 : Nat) : Int), ((0 : Nat) : Int)] from rfl, h]; rfl

theorem law : quicksetkeep_GfInverse.Pure := by
  intro a0 a1 _ _
  refine ⟨61, ?_⟩
  unfold quicksetkeep_GfInverse.f
  rw [lk_picked a0 256 (by omega) (by omega), lk_picked a1 255 (by omega) (by omega)]
  simp only [Option.bind_some]
  obtain ⟨x, hx⟩ := Int.eq_ofNat_of_zero_le (Int.emod_nonneg a0 (show (256 : Int) ≠ 0 by omega))
  obtain ⟨z, hz⟩ := Int.eq_ofNat_of_zero_le (Int.emod_nonneg a1 (show (255 : Int) ≠ 0 by omega))
  have bx : x < 256 := by have := Int.emod_lt_of_pos a0 (show (0 : Int) < 256 by omega); omega
  have bz : z < 255 := by have := Int.emod_lt_of_pos a1 (show (0 : Int) < 255 by omega); omega
  rw [hx, hz]
  clear hx hz
  have e : wrap64 (1 + (z : Int)) = ((1 + z : Nat) : Int) := by rw [lk_wrap _ (by omega) (by omega)]; omega
  have hy : 1 + z < 256 := by omega
  have h0 : 1 + z ≠ 0 := by omega
  rw [e]
  generalize 1 + z = y at *
  clear e bz
  have q1 := Gf.gm_lt (b := Gf.gi y) bx
  have i1 := Gf.gi_lt hy
  rw [lk_Div 61 x y (by omega) bx hy h0, lk_Inv 61 y (by omega) hy h0, lk_Inv0 61 (by omega)]
  simp only [Option.bind_some, if_true]
  rw [if_neg (by omega), if_neg (by omega), if_neg (by omega), decide_eq_false (by omega)]
  simp only [quicksetkeep_GfInverse.j0]
  rw [if_neg (by decide), lk_mul 60 _ y (by omega) q1 hy]
  simp only [Option.bind_some]
  rw [if_pos (by rw [Gf.gm_assoc bx i1 hy, Gf.gi_gm hy h0, Gf.gm_one x bx]), lk_mul 60 _ y (by omega) i1 hy]
  simp only [Option.bind_some]
  rw [if_pos (by rw [Gf.gi_gm hy h0]; rfl), lk_mul 60 x _ (by omega) bx i1]
  simp only [Option.bind_some, if_true]
  rw [lk_mul 60 x y (by omega) bx hy]
  simp only [Option.bind_some]
  by_cases hx0 : x = 0
  · subst hx0; rw [Gf.zero_gm]; rfl
  · have hne : Gf.gm x y ≠ 0 := fun h => ((Gf.gm_eq_zero bx hy).1 h).elim hx0 h0
    rw [beq_eq_false_iff_ne.mpr (show ((Gf.gm x y : Nat) : Int) ≠ 0 by omega), beq_eq_false_iff_ne.mpr (show (x : Int) ≠ 0 by omega)]; rfl

end Go.Proofs.Ytdfopcgfhjijgaa.PureGfInverse
namespace Go.Proofs.Ytdfopcgfhjijgaa.Pure
theorem GfInverse : Go.Proofs.Ytdfopcgfhjijgaa.PGfInverse.quicksetkeep_GfInverse.Pure := Go.Proofs.Ytdfopcgfhjijgaa.PureGfInverse.law
end Go.Proofs.Ytdfopcgfhjijgaa.Pure
