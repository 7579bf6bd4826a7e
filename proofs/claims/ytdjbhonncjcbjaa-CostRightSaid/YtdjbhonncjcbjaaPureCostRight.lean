/- For every three numbers that choose the drives, the parity and a count: geom.Cost of the block is a multiple of parity + 1, at least the data with its parity, and does not fall as the count grows. No condition. -/
import Derived.Test.YtdjbhonncjcbjaaPCostRightx1
namespace Go.Proofs.Ytdjbhonncjcbjaa.Pure
open Go.RowKit Go.Proofs.Ytdjbhonncjcbjaa.PCostRight Go.Proofs.YtdjbhonncjcbjaaW.PrintWords Go.Proofs.YtdjbhonncjcbjaaW.PrintLast

theorem cr_wrap (x : Int) (h0 : -4611686018427387904 ≤ x) (h1 : x ≤ 4611686018427387904) : wrap64 x = x := by
  unfold wrap64; omega

theorem cr_picked (a n : Int) (h0 : 0 < n) (h1 : n ≤ 4611686018427387904) : quicksetkeep_Picked.f a n = some (a % n) := by
  unfold quicksetkeep_Picked.f
  rw [if_neg (by omega)]
  have e := Int.tmod_eq_emod (a := a) (b := n)
  have b0 := Int.emod_nonneg a (show n ≠ 0 by omega)
  have b1 := Int.emod_lt_of_pos a h0
  by_cases c : 0 ≤ a ∨ n ∣ a
  · rw [if_pos c] at e
    rw [if_neg (by omega)]
    congr 1; omega
  · rw [if_neg c] at e
    rw [if_pos (by omega), cr_wrap _ (by omega) (by omega)]
    congr 1; omega

/-- The law behind the three picks, on naturals: d drives less 2, p parity less 1, c the count less 1. -/
def cr_rest (d p c : Nat) : Option Bool :=
  (geom_Cost.f 5 (2 + (d : Int)) (1 + (p : Int)) (wrap64 (1 + (c : Int)))).bind fun bt112 => ((geom_Cost.f 5 (2 + (d : Int)) (1 + (p : Int)) (wrap64 ((wrap64 (1 + (c : Int))) + 1))).bind fun bt114 => ((geom_Cost.f 5 (2 + (d : Int)) (1 + (p : Int)) 1).bind fun bt116 => (if bt112.2 = 0 then (if bt114.2 = 0 then (if bt116.2 = 0 then (if bt116.1 = (wrap64 ((1 + (p : Int)) + 1)) then (if (wrap64 ((1 + (p : Int)) + 1)) = 0 then (none) else (if (Int.tmod bt112.1 (wrap64 ((1 + (p : Int)) + 1))) = 0 then (if bt112.1 ≥ (wrap64 ((wrap64 (1 + (c : Int))) + (1 + (p : Int)))) then (some (decide (bt114.1 ≥ bt112.1))) else (some false)) else (some false))) else (some false)) else (some false)) else (some false)) else (some false))))

theorem cr_all : ∀ d, d < 7 → ∀ p, p < 3 → p < d + 1 → ∀ c, c < 31 → cr_rest d p c = some true := by decide +kernel

theorem CostRight : quicksetkeep_CostRight.Pure := by
  intro a0 a1 a2 w0 w1 w2
  refine ⟨5, ?_⟩
  unfold quicksetkeep_CostRight.f quicksetkeep_Shape.f
  have b0 := Int.emod_nonneg a0 (show (7 : Int) ≠ 0 by omega)
  have b1 := Int.emod_lt_of_pos a0 (show (0 : Int) < 7 by omega)
  rw [cr_picked a0 7 (by omega) (by omega)]
  simp only [Option.bind_some]
  rw [cr_wrap (2 + a0 % 7) (by omega) (by omega), cr_wrap (2 + a0 % 7 - 1) (by omega) (by omega)]
  have m0 : 0 < mn 3 (2 + a0 % 7 - 1) := by unfold mn; split <;> omega
  have m1 : mn 3 (2 + a0 % 7 - 1) ≤ 3 := by unfold mn; split <;> omega
  have m2 : mn 3 (2 + a0 % 7 - 1) ≤ 2 + a0 % 7 - 1 := by unfold mn; split <;> omega
  rw [cr_picked a1 (mn 3 (2 + a0 % 7 - 1)) m0 (by omega)]
  simp only [Option.bind_some]
  rw [cr_picked a2 31 (by omega) (by omega)]
  simp only [Option.bind_some]
  have p0 := Int.emod_nonneg a1 (show mn 3 (2 + a0 % 7 - 1) ≠ 0 by omega)
  have p1 := Int.emod_lt_of_pos a1 m0
  have c0 := Int.emod_nonneg a2 (show (31 : Int) ≠ 0 by omega)
  have c1 := Int.emod_lt_of_pos a2 (show (0 : Int) < 31 by omega)
  rw [cr_wrap (1 + a1 % mn 3 (2 + a0 % 7 - 1)) (by omega) (by omega)]
  generalize a1 % mn 3 (2 + a0 % 7 - 1) = p at *
  generalize a0 % 7 = d at *
  generalize a2 % 31 = c at *
  have h := cr_all d.toNat (by omega) p.toNat (by omega) (by omega) c.toNat (by omega)
  unfold cr_rest at h
  rw [Int.toNat_of_nonneg b0, Int.toNat_of_nonneg p0, Int.toNat_of_nonneg c0] at h
  exact h

end Go.Proofs.Ytdjbhonncjcbjaa.Pure
