/- For every three numbers, taken modulo 256: gf.Mul and gf.Add make the elements a commutative ring with 1. No condition. -/
import Derived.Test.YtdfopcgfhjijgaaPGfFieldx1
import Derived.Test.YtdfopcgfhjijgaaGf
import Derived.Laws.BitsLemmas
namespace Go.Proofs.Ytdfopcgfhjijgaa.PureGfField
open Go.RowKit Go.Proofs.Ytdfopcgfhjijgaa Go.Proofs.Ytdfopcgfhjijgaa.PGfField Go.Proofs.YtdfopcgfhjijgaaW.PrintWords Go.Proofs.YtdfopcgfhjijgaaW.PrintLast

/- link: the printed functions of package gf over naturals below 256 -/
theorem lk_wrap (x : Int) (h0 : -4611686018427387904 ≤ x) (h1 : x ≤ 4611686018427387904) : wrap64 x = x := by
  unfold wrap64; omega

theorem lk_picked (a n : Int) (h0 : 0 < n) (h1 : n ≤ 4611686018427387904) : quicksetkeep_Picked.f a n = some (a % n) := by
  unfold quicksetkeep_Picked.f
  rw [if_neg (by omega)]
  have e := Int.tmod_eq_emod (a := a) (b := n)
  have b0 := Int.emod_nonneg a (show n ≠ 0 by omega)
  have b1 := Int.emod_lt_of_pos a h0
  by_cases c : 0 ≤ a ∨ n ∣ a
  · rw [if_pos c] at e
    rw [if_neg (by omega)]
    congr 1; omega
  · rw [if_neg c] at e
    rw [if_pos (by omega), lk_wrap _ (by omega) (by omega)]
    congr 1; omega

theorem lk_and1 (x : Nat) (h : x < 2 ^ 62) : Go.bits .and .i64 (x : Int) 1 = ((x % 2 : Nat) : Int) := by
  have e := Go.bits_mask .i64 62 (by decide) (fun n h0 h1 => by rw [Go.IntKind.wrap_i64]; omega) 1 (by omega) (x : Int) (by omega) (by exact_mod_cast h)
  have t : ((2 : Int) ^ 1 - 1) = 1 := by decide
  rw [t] at e
  rw [e]; simp

theorem lk_xor (a b : Nat) (ha : a < 1024) (hb : b < 1024) : Go.bits .xor .i64 (a : Int) (b : Int) = ((a ^^^ b : Nat) : Int) := by
  have hx : a ^^^ b < 1024 := Nat.xor_lt_two_pow (n := 10) ha hb
  have e1 : a % 2 ^ IntKind.i64.bits = a := Nat.mod_eq_of_lt (by simp [IntKind.bits]; omega)
  have e2 : b % 2 ^ IntKind.i64.bits = b := Nat.mod_eq_of_lt (by simp [IntKind.bits]; omega)
  simp only [Go.bits, BitVec.ofInt_natCast, BitVec.toNat_xor, BitVec.toNat_ofNat, e1, e2]
  rw [Go.IntKind.wrap_i64]; omega

theorem lk_andNot : ∀ a, a < 256 → Go.bits .andNot .i64 ((a : Nat) : Int) 255 = 0 := by decide +kernel

theorem lk_bad1 (k a : Nat) (ha : a < 256) (hk : 2 ≤ k) : gf_bad.f k ([(a : Int)]) = some false := by
  obtain ⟨k, rfl⟩ : ∃ m, k = m + 2 := ⟨k - 2, by omega⟩
  unfold gf_bad.f
  simp only [gf_bad.l0, List.length_cons, List.length_nil, rd, Int.toNat_zero, List.getD_cons_zero, lk_andNot a ha]
  simp [wrap64]

theorem lk_bad2 (k a b : Nat) (ha : a < 256) (hb : b < 256) (hk : 3 ≤ k) : gf_bad.f k ([(a : Int), (b : Int)]) = some false := by
  obtain ⟨k, rfl⟩ : ∃ m, k = m + 3 := ⟨k - 3, by omega⟩
  unfold gf_bad.f
  have e1 : wrap64 (0 + 1) = 1 := by rw [lk_wrap _ (by omega) (by omega)]; rfl
  have e2 : wrap64 (1 + 1) = 2 := by rw [lk_wrap _ (by omega) (by omega)]; rfl
  simp only [gf_bad.l0, List.length_cons, List.length_nil, rd, Int.toNat_zero, List.getD_cons_zero, lk_andNot a ha, e1, e2, Int.toNat_one, List.getD_cons_succ, lk_andNot b hb]
  simp

theorem lk_times_at (n : Nat) : ∀ k a b out : Nat, n < k → a < 256 → b < 2 ^ n → b < 256 → out < 256 → gf_times.l0 k (a : Int) (b : Int) (out : Int) = some ((out ^^^ Gf.gmN n a b : Nat) : Int) := by
  induction n with
  | zero =>
    intro k a b out hk ha hb _ ho
    obtain ⟨k, rfl⟩ : ∃ m, k = m + 1 := ⟨k - 1, by omega⟩
    obtain rfl : b = 0 := by simp at hb; exact hb
    simp [gf_times.l0, Gf.gmN]
  | succ n ih =>
    intro k a b out hk ha hb hb' ho
    obtain ⟨k, rfl⟩ : ∃ m, k = m + 1 := ⟨k - 1, by omega⟩
    by_cases h0 : b = 0
    · subst h0
      have z := Gf.gmN_right (n + 1) a 0 0
      simp at z
      simp [gf_times.l0, z]
    have hq : b / 2 < 2 ^ n := by rw [Nat.pow_succ] at hb; omega
    have hd : (b : Int) / 2 = ((b / 2 : Nat) : Int) := by omega
    have hw : wrap64 ((a : Int) * 2) = ((2 * a : Nat) : Int) := by rw [lk_wrap _ (by omega) (by omega)]; omega
    have hx : (if ((2 * a : Nat) : Int) > 255 then Go.bits .xor .i64 ((2 * a : Nat) : Int) 285 else ((2 * a : Nat) : Int)) = ((Gf.xt a : Nat) : Int) := by
      unfold Gf.xt
      by_cases h : a < 128
      · rw [if_pos h, if_neg (by omega)]
      · rw [if_neg h, if_pos (by omega)]
        exact lk_xor (2 * a) 285 (by omega) (by omega)
    have ht := Gf.xt_lt a ha
    simp only [gf_times.l0]
    rw [if_pos (by omega), lk_and1 b (by omega), hw, hd]
    by_cases h1 : b % 2 = 1
    · rw [if_pos (by omega), lk_xor out a (by omega) (by omega)]
      have : (if ((2 * a : Nat) : Int) > 255 then gf_times.l0 k (Go.bits .xor .i64 ((2 * a : Nat) : Int) 285) ((b / 2 : Nat) : Int) ((out ^^^ a : Nat) : Int) else gf_times.l0 k ((2 * a : Nat) : Int) ((b / 2 : Nat) : Int) ((out ^^^ a : Nat) : Int)) = gf_times.l0 k ((Gf.xt a : Nat) : Int) ((b / 2 : Nat) : Int) ((out ^^^ a : Nat) : Int) := by
        rw [← hx]; split <;> rfl
      rw [this, ih k (Gf.xt a) (b / 2) (out ^^^ a) (by omega) ht hq (by omega) (Gf.xor_lt ho ha)]
      simp only [Gf.gmN, if_pos h1, Nat.xor_assoc]
    · rw [if_neg (by omega)]
      have : (if ((2 * a : Nat) : Int) > 255 then gf_times.l0 k (Go.bits .xor .i64 ((2 * a : Nat) : Int) 285) ((b / 2 : Nat) : Int) ((out : Nat) : Int) else gf_times.l0 k ((2 * a : Nat) : Int) ((b / 2 : Nat) : Int) ((out : Nat) : Int)) = gf_times.l0 k ((Gf.xt a : Nat) : Int) ((b / 2 : Nat) : Int) ((out : Nat) : Int) := by
        rw [← hx]; split <;> rfl
      rw [this, ih k (Gf.xt a) (b / 2) out (by omega) ht hq (by omega) ho]
      simp only [Gf.gmN, if_neg h1, Nat.zero_xor]

theorem lk_times (k a b : Nat) (hk : 9 ≤ k) (ha : a < 256) (hb : b < 256) : gf_times.f k (a : Int) (b : Int) = some ((Gf.gm a b : Nat) : Int) := by
  unfold gf_times.f
  have h := lk_times_at 8 k a b 0 (by omega) ha (by omega) hb (by omega)
  rw [Nat.zero_xor] at h
  exact h

theorem lk_Mul (k a b : Nat) (hk : 9 ≤ k) (ha : a < 256) (hb : b < 256) : gf_Mul.f k (a : Int) (b : Int) = some (((Gf.gm a b : Nat) : Int), 0) := by
  unfold gf_Mul.f
  rw [lk_bad2 k a b ha hb (by omega)]
  simp only [Option.bind_some]
  rw [if_neg (by decide), lk_times k a b hk ha hb]; rfl

theorem lk_mul (k a b : Nat) (hk : 9 ≤ k) (ha : a < 256) (hb : b < 256) : quicksetkeep_mul.f k (a : Int) (b : Int) = some ((Gf.gm a b : Nat) : Int) := by
  unfold quicksetkeep_mul.f
  rw [lk_Mul k a b hk ha hb]; rfl

theorem lk_add (k a b : Nat) (hk : 9 ≤ k) (ha : a < 256) (hb : b < 256) : quicksetkeep_add.f k (a : Int) (b : Int) = some ((a ^^^ b : Nat) : Int) := by
  unfold quicksetkeep_add.f gf_Add.f
  rw [lk_bad2 k a b ha hb (by omega)]
  simp only [Option.bind_some]
  rw [if_neg (by decide), lk_xor a b (by omega) (by omega)]; rfl

theorem law : quicksetkeep_GfField.Pure := by
  intro a0 a1 a2 _ _ _
  refine ⟨12, ?_⟩
  unfold quicksetkeep_GfField.f
  rw [lk_picked a0 256 (by omega) (by omega), lk_picked a1 256 (by omega) (by omega), lk_picked a2 256 (by omega) (by omega)]
  simp only [Option.bind_some]
  obtain ⟨x, hx⟩ := Int.eq_ofNat_of_zero_le (Int.emod_nonneg a0 (show (256 : Int) ≠ 0 by omega))
  obtain ⟨y, hy⟩ := Int.eq_ofNat_of_zero_le (Int.emod_nonneg a1 (show (256 : Int) ≠ 0 by omega))
  obtain ⟨z, hz⟩ := Int.eq_ofNat_of_zero_le (Int.emod_nonneg a2 (show (256 : Int) ≠ 0 by omega))
  have bx : x < 256 := by have := Int.emod_lt_of_pos a0 (show (0 : Int) < 256 by omega); omega
  have byy : y < 256 := by have := Int.emod_lt_of_pos a1 (show (0 : Int) < 256 by omega); omega
  have bz : z < 256 := by have := Int.emod_lt_of_pos a2 (show (0 : Int) < 256 by omega); omega
  rw [hx, hy, hz]
  clear hx hy hz
  have xy := Gf.gm_lt (b := y) bx
  have yz := Gf.gm_lt (b := z) byy
  have xz := Gf.gm_lt (b := z) bx
  have s := Gf.xor_lt byy bz
  rw [lk_mul 12 x y (by omega) bx byy]
  simp only [Option.bind_some]
  rw [if_neg (by omega), if_neg (by omega), lk_mul 12 y x (by omega) byy bx]
  simp only [Option.bind_some]
  rw [if_pos (by rw [Gf.gm_comm bx byy]), show (1 : Int) = ((1 : Nat) : Int) from rfl, lk_mul 12 x 1 (by omega) bx (by omega)]
  simp only [Option.bind_some]
  rw [if_pos (by rw [Gf.gm_one x bx]), lk_add 12 x x (by omega) bx bx]
  simp only [Option.bind_some]
  rw [if_pos (by rw [Nat.xor_self]; rfl), show (0 : Int) = ((0 : Nat) : Int) from rfl, lk_add 12 x 0 (by omega) bx (by omega)]
  simp only [Option.bind_some, Nat.xor_zero, bne_self_eq_false]
  simp only [quicksetkeep_GfField.j0]
  rw [if_neg (by decide), lk_mul 11 y z (by omega) byy bz]
  simp only [Option.bind_some]
  rw [lk_add 11 y z (by omega) byy bz]
  simp only [Option.bind_some]
  rw [if_neg (by omega), if_neg (by omega), if_neg (by omega), decide_eq_false (by omega)]
  simp only [quicksetkeep_GfField.j1]
  rw [if_neg (by decide), lk_mul 10 x z (by omega) bx bz]
  simp only [Option.bind_some]
  rw [lk_mul 10 _ z (by omega) xy bz]
  simp only [Option.bind_some]
  rw [lk_mul 10 x _ (by omega) bx yz]
  simp only [Option.bind_some]
  rw [if_pos (by rw [Gf.gm_assoc bx byy bz]), if_pos (by omega), if_pos (by omega), lk_mul 10 x _ (by omega) bx s]
  simp only [Option.bind_some]
  rw [lk_add 10 _ _ (by omega) xy xz]
  simp only [Option.bind_some]
  rw [Gf.gm_xor_right, beq_self_eq_true]

end Go.Proofs.Ytdfopcgfhjijgaa.PureGfField
namespace Go.Proofs.Ytdfopcgfhjijgaa.Pure
theorem GfField : Go.Proofs.Ytdfopcgfhjijgaa.PGfField.quicksetkeep_GfField.Pure := Go.Proofs.Ytdfopcgfhjijgaa.PureGfField.law
end Go.Proofs.Ytdfopcgfhjijgaa.Pure
