/- For every two numbers that choose a number of drives and for every two addresses: geom.Spot gives each address a spot of its own, and neighbours lie on different drives. No condition. -/
import Derived.Test.YtdjbhonncjcbjaaPSpotApartx1
namespace Go.Proofs.Ytdjbhonncjcbjaa.Pure
open Go.RowKit Go.Proofs.Ytdjbhonncjcbjaa.PSpotApart Go.Proofs.YtdjbhonncjcbjaaW.PrintWords Go.Proofs.YtdjbhonncjcbjaaW.PrintLast

theorem sa_wrap (x : Int) (h0 : -4611686018427387904 ≤ x) (h1 : x ≤ 4611686018427387904) : wrap64 x = x := by
  unfold wrap64; omega

theorem sa_picked (a n : Int) (h0 : 0 < n) (h1 : n ≤ 4611686018427387904) : quicksetkeep_Picked.f a n = some (a % n) := by
  unfold quicksetkeep_Picked.f
  rw [if_neg (by omega)]
  have e := Int.tmod_eq_emod (a := a) (b := n)
  have b0 := Int.emod_nonneg a (show n ≠ 0 by omega)
  have b1 := Int.emod_lt_of_pos a h0
  by_cases c : 0 ≤ a ∨ n ∣ a
  · rw [if_pos c] at e
    rw [if_neg (by omega)]
    congr 1; omega
  · rw [if_neg c] at e
    rw [if_pos (by omega), sa_wrap _ (by omega) (by omega)]
    congr 1; omega

theorem sa_tmod (a n : Int) (h : 0 ≤ a) : Int.tmod a n = a % n := Int.tmod_eq_emod_of_nonneg h
theorem sa_tdiv (a n : Int) (h : 0 ≤ a) : Int.tdiv a n = a / n := Int.tdiv_eq_ediv_of_nonneg h

theorem sa_spot (d x : Int) (h2 : 2 ≤ d) (h8 : d ≤ 8) (h0 : 0 ≤ x) (h1 : x ≤ 65536) : geom_Spot.f d x = some (x % d, x / d, 0) := by
  unfold geom_Spot.f geom_addressed.f
  rw [if_neg (by omega), if_neg (by omega), if_pos h0]
  simp only [Option.bind_some, decide_eq_true h1, if_true]
  rw [if_neg (by omega), sa_tmod _ _ h0, sa_tdiv _ _ h0]
  have e1 : x / d ≤ x := Int.ediv_le_self d h0
  have e2 : 0 ≤ x / d := Int.ediv_nonneg h0 (by omega)
  rw [sa_wrap _ (by omega) (by omega)]

theorem sa_next (d x : Int) (h2 : 2 ≤ d) (h8 : d ≤ 8) : (x + 1) % d ≠ x % d := by
  have h : d = 2 ∨ d = 3 ∨ d = 4 ∨ d = 5 ∨ d = 6 ∨ d = 7 ∨ d = 8 := by omega
  rcases h with h | h | h | h | h | h | h <;> subst h <;> omega

theorem SpotApart : quicksetkeep_SpotApart.Pure := by
  intro a0 a1 a2 a3 w0 w1 w2 w3
  unfold quicksetkeep_SpotApart.f quicksetkeep_Shape.f
  have b0 := Int.emod_nonneg a0 (show (7 : Int) ≠ 0 by omega)
  have b1 := Int.emod_lt_of_pos a0 (show (0 : Int) < 7 by omega)
  rw [sa_picked a0 7 (by omega) (by omega)]
  simp only [Option.bind_some]
  rw [sa_wrap (2 + a0 % 7) (by omega) (by omega), sa_wrap (2 + a0 % 7 - 1) (by omega) (by omega)]
  rw [sa_picked a1 (mn 3 (2 + a0 % 7 - 1)) (by unfold mn; split <;> omega) (by unfold mn; split <;> omega)]
  simp only [Option.bind_some]
  rw [sa_picked a2 65536 (by omega) (by omega), sa_picked a3 65536 (by omega) (by omega)]
  simp only [Option.bind_some]
  generalize hd : 2 + a0 % 7 = d at *
  have x0 := Int.emod_nonneg a2 (show (65536 : Int) ≠ 0 by omega)
  have x1 := Int.emod_lt_of_pos a2 (show (0 : Int) < 65536 by omega)
  have y0 := Int.emod_nonneg a3 (show (65536 : Int) ≠ 0 by omega)
  have y1 := Int.emod_lt_of_pos a3 (show (0 : Int) < 65536 by omega)
  generalize a2 % 65536 = x at *
  generalize a3 % 65536 = y at *
  rw [sa_wrap (x + 1) (by omega) (by omega)]
  rw [sa_spot d x (by omega) (by omega) (by omega) (by omega), sa_spot d y (by omega) (by omega) (by omega) (by omega), sa_spot d (x + 1) (by omega) (by omega) (by omega) (by omega)]
  simp only [Option.bind_some, if_true]
  rw [if_pos (Int.emod_nonneg x (by omega)), if_pos (Int.emod_lt_of_pos x (by omega)), if_neg (sa_next d x (by omega) (by omega))]
  have ex := Int.emod_add_mul_ediv x d
  have ey := Int.emod_add_mul_ediv y d
  by_cases c : x % d = y % d
  · rw [if_pos c]
    by_cases e : x = y
    · rw [e, beq_self_eq_true, beq_self_eq_true]; rfl
    · have e1 : x / d ≠ y / d := by intro h; apply e; rw [← ex, ← ey, c, h]
      rw [beq_eq_false_iff_ne.mpr e, beq_eq_false_iff_ne.mpr e1]; rfl
  · rw [if_neg c]
    have e : x ≠ y := by intro h; exact c (by rw [h])
    rw [beq_eq_false_iff_ne.mpr e]; rfl

end Go.Proofs.Ytdjbhonncjcbjaa.Pure
