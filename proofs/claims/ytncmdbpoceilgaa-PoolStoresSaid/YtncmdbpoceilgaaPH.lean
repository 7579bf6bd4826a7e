/- Pools: PoolStores. -/
import Derived.Test.YtncmdbpoceilgaaPG
set_option linter.unusedVariables false
set_option linter.unusedSimpArgs false
namespace Go.Proofs.Ytncmdbpoceilgaa.T
open Go Go.RowKit Go.Proofs
set_option maxRecDepth 10000

theorem stores_loop {n lf : Nat} (Y : YldF) {h : AHeap} {n0 px pb : Nat} {da xa ya : Option (Nat × Nat)} (dc : Option Nat) {xc yc : Option Nat} {d x : List Int} {o : Nat} (sd : Sl h n0 da d.length 1 (ints .u8 d)) (sx : Sl h n0 xa x.length 1 (ints .u8 x)) (sy : Sl h n0 ya (writeP x o d).length 1 (ints .u8 (writeP x o d))) (hd : 1 ≤ d.length ∧ d.length ≤ 400) (ho : o + d.length ≤ 1024) (hx : x.length ≤ 1024)
    {ea eb : Option (Nat × Nat)} {ia ib : Int} {na nb : Nat} {ca cb : Option Nat} (bx : h px = some ⟨[.int .i64 0, .bool false, .int .i64 ia, .slice xa x.length xc, .slice ea na ca], 5, true⟩) (by' : h pb = some ⟨[.int .i64 0, .bool false, .int .i64 ib, .slice ya (writeP x o d).length yc, .slice eb nb cb], 5, true⟩) :
    ∀ (k n1 i nx : Nat), (writeP x o d).length = i + k → k < n1 → ∃ nx', F5_L3 (callP Try.prog keepT n) Y lf n1 da d.length dc (o : Int) (some (px, 0)) (some (pb, 0)) (i : Int) h nx = some (.bool true, h, nx')
  | 0, n1 + 1, i, nx, hk, _ => by
    rw [F5_L3_eq, some_bind, ld_at by' (show _ = some (AV.slice ya (writeP x o d).length yc) from rfl)]
    simp only [mst_, mst5_]
    rw [if_neg (by simp; omega)]
    exact ⟨_, rfl⟩
  | k + 1, n1 + 1, i, nx, hk, hn1 => by
    have hyl := writeP_len x o d
    have hi : i < (writeP x o d).length := by omega
    have hg := writeP_get x d o i (by omega)
    rw [List.getElem?_eq_getElem hi, Option.some.injEq] at hg
    -- the last part
    have j5 : ∀ m : Nat, ∃ nx', F5_J5 (callP Try.prog keepT n) Y lf n1 da d.length dc (o : Int) (some (px, 0)) (some (pb, 0)) (i : Int) (writeP x o d)[i] h m = some (.bool true, h, nx') := fun m => by
      rw [F5_J5_eq, some_bind, ld_at by' (show _ = some (AV.slice ya (writeP x o d).length yc) from rfl)]
      simp only [mst_, mst5_]
      rw [sy.readI hi]
      simp only [mst_, mst5_]
      rw [if_neg (by simp), wsucc (by omega)]
      exact stores_loop Y dc sd sx sy hd ho hx bx by' k n1 (i + 1) (m + 10) (by omega) (by omega)
    have j4 : ∀ (v : Int) (m : Nat), v = (if i < x.length then x.getD i 0 else 0) → ∃ nx', F5_J4 (callP Try.prog keepT n) Y lf n1 da d.length dc (o : Int) (some (px, 0)) (some (pb, 0)) (i : Int) v h m = some (.bool true, h, nx') := fun v m hv => by
      rw [F5_J4_eq, wA (x := (o : Int) + ((d.length : Nat) : Int)) (by omega) (by omega)]
      by_cases c1 : o ≤ i
      · rw [if_pos (by simp; omega)]
        by_cases c2 : i < o + d.length
        · rw [if_pos (by simp; omega), wA (x := (i : Int) - (o : Int)) (by omega) (by omega), show (i : Int) - (o : Int) = ((i - o : Nat) : Int) from by omega, sd.readI (i := i - o) (by omega)]
          simp only [mst_, mst5_]
          rw [if_pos ⟨c1, c2⟩] at hg
          have hdi : i - o < d.length := by omega
          rw [show d[i - o] = (writeP x o d)[i] from by rw [hg, List.getD_eq_getElem?_getD, List.getElem?_eq_getElem hdi]; rfl]
          exact j5 _
        · rw [if_neg (by simp; omega), hv]
          rw [if_neg (by omega)] at hg
          rw [← hg]; exact j5 _
      · rw [if_neg (by simp; omega), hv]
        rw [if_neg (by omega)] at hg
        rw [← hg]; exact j5 _
    rw [F5_L3_eq, some_bind, ld_at by' (show _ = some (AV.slice ya (writeP x o d).length yc) from rfl)]
    simp only [mst_, mst5_]
    rw [if_pos (by simp; omega), ld_at bx (show _ = some (AV.slice xa x.length xc) from rfl)]
    simp only [mst_, mst5_]
    by_cases c : i < x.length
    · rw [if_pos (by simp; omega), ld_at bx (show _ = some (AV.slice xa x.length xc) from rfl)]
      simp only [mst_, mst5_]
      rw [sx.readI c]
      simp only [mst_, mst5_]
      exact j4 _ _ (by rw [if_pos c, List.getD_eq_getElem?_getD, List.getElem?_eq_getElem c]; rfl)
    · rw [if_neg (by simp; omega)]
      exact j4 _ _ (by rw [if_neg c])
end Go.Proofs.Ytncmdbpoceilgaa.T
