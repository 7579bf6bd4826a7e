/- For every two numbers that choose n and k: comb.Count satisfies Pascal's rule and symmetry. No condition. -/
import Derived.Test.YtdjbhonncjcbjaaPCombPascalx1
namespace Go.Proofs.Ytdjbhonncjcbjaa.Pure
open Go.RowKit Go.Proofs.Ytdjbhonncjcbjaa.PCombPascal Go.Proofs.YtdjbhonncjcbjaaW.PrintWords Go.Proofs.YtdjbhonncjcbjaaW.PrintLast

theorem cp_wrap (x : Int) (h0 : -4611686018427387904 ≤ x) (h1 : x ≤ 4611686018427387904) : wrap64 x = x := by
  unfold wrap64; omega

theorem cp_picked (a n : Int) (h0 : 0 < n) (h1 : n ≤ 4611686018427387904) : quicksetkeep_Picked.f a n = some (a % n) := by
  unfold quicksetkeep_Picked.f
  rw [if_neg (by omega)]
  have e := Int.tmod_eq_emod (a := a) (b := n)
  have b0 := Int.emod_nonneg a (show n ≠ 0 by omega)
  have b1 := Int.emod_lt_of_pos a h0
  by_cases c : 0 ≤ a ∨ n ∣ a
  · rw [if_pos c] at e
    rw [if_neg (by omega)]
    congr 1; omega
  · rw [if_neg c] at e
    rw [if_pos (by omega), cp_wrap _ (by omega) (by omega)]
    congr 1; omega

/-- The law behind the two picks, on naturals: n is m less 1. -/
def cp_rest (m j : Nat) : Option Bool := quicksetkeep_CombPascal.f 20 (m : Int) (j : Int)

theorem cp_all : ∀ m, m < 12 → ∀ j, j < m + 2 → cp_rest m j = some true := by decide +kernel

theorem CombPascal : quicksetkeep_CombPascal.Pure := by
  intro a0 a1 w0 w1
  refine ⟨20, ?_⟩
  have b0 := Int.emod_nonneg a0 (show (12 : Int) ≠ 0 by omega)
  have b1 := Int.emod_lt_of_pos a0 (show (0 : Int) < 12 by omega)
  have c0 := Int.emod_nonneg a1 (show a0 % 12 + 2 ≠ 0 by omega)
  have c1 := Int.emod_lt_of_pos a1 (show 0 < a0 % 12 + 2 by omega)
  have h := cp_all (a0 % 12).toNat (by omega) (a1 % (a0 % 12 + 2)).toNat (by omega)
  unfold cp_rest at h
  rw [Int.toNat_of_nonneg b0, Int.toNat_of_nonneg c0] at h
  unfold quicksetkeep_CombPascal.f at h ⊢
  rw [cp_picked a0 12 (by omega) (by omega)]
  rw [cp_picked (a0 % 12) 12 (by omega) (by omega), Int.emod_emod] at h
  simp only [Option.bind_some] at h ⊢
  have e : wrap64 (wrap64 (1 + a0 % 12) + 1) = a0 % 12 + 2 := by rw [cp_wrap (1 + a0 % 12) (by omega) (by omega), cp_wrap _ (by omega) (by omega)]; omega
  rw [e] at h ⊢
  rw [cp_picked a1 _ (by omega) (by omega)]
  rw [cp_picked (a1 % _) _ (by omega) (by omega), Int.emod_emod] at h
  exact h

end Go.Proofs.Ytdjbhonncjcbjaa.Pure
