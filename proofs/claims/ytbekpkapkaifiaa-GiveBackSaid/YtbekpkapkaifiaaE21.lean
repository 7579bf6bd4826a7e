/- GiveBack: the plain law. -/
import Derived.Test.YtbekpkapkaifiaaE17
set_option linter.unusedVariables false
set_option linter.unusedSimpArgs false
namespace Go.Proofs.Ytbekpkapkaifiaa.T
open Go Go.RowKit Go.Proofs

/-- Is the unit taken? -/
def tkn (x : Int) : Bool := x == 1
def giv (x : Int) : Int := if x = 1 then 2 else x
def setB (v : Bool) : List Bool → Nat → Nat → List Bool
  | u, _, 0 => u
  | u, a, n + 1 => setB v (u.set a v) (a + 1) n
theorem setB_len (v : Bool) : ∀ (n a : Nat) (u : List Bool), (setB v u a n).length = u.length
  | 0, a, u => rfl
  | n + 1, a, u => by simp only [setB]; rw [setB_len v n]; simp
theorem map_setB (v : Int) : ∀ (n a : Nat) (u : List Int), (setR v u a n).map tkn = setB (tkn v) (u.map tkn) a n
  | 0, a, u => rfl
  | n + 1, a, u => by simp only [setR, setB]; rw [map_setB v n, List.map_set]
theorem tkn_step (u : List Int) : (u.map stepU).map tkn = u.map tkn := by
  rw [List.map_map]
  apply List.map_congr_left
  intro x _
  show tkn (stepU x) = tkn x
  unfold stepU
  by_cases h3 : x = 3
  · subst h3; rfl
  · rw [if_neg h3]
    by_cases h2 : x = 2
    · subst h2; rfl
    · rw [if_neg h2]

/-- The gives of the law: each taken unit by itself. -/
def givesL (u : List Int) (k : Nat) : List Deed := ((List.range k).filter fun i => tkn (u.getD i 0)).map fun (i : Nat) => ⟨2, (i : Int), 1⟩
theorem givesL_succ (u : List Int) (k : Nat) : givesL u (k + 1) = givesL u k ++ (if tkn (u.getD k 0) = true then [⟨2, (k : Int), 1⟩] else []) := by
  unfold givesL
  rw [List.range_succ, List.filter_append, List.map_append]
  congr 1
  by_cases h : tkn (u.getD k 0) = true
  · rw [if_pos h, List.filter_cons, if_pos h]; rfl
  · rw [if_neg h, List.filter_cons, if_neg h]; rfl
theorem gives_u (s : SP) : ∀ k, k ≤ s.u.length → (stP s (givesL s.u k)).u = (s.u.take k).map giv ++ s.u.drop k
  | 0, _ => by simp [givesL, stP]
  | k + 1, h => by
    have ih := gives_u s k (by omega)
    have hk : k < s.u.length := by omega
    rw [givesL_succ, stP_app]
    have hd : s.u.getD k 0 = s.u[k] := by rw [List.getD_eq_getElem?_getD, List.getElem?_eq_getElem hk]; rfl
    have htk : s.u.take (k + 1) = s.u.take k ++ [s.u[k]] := by rw [List.take_add_one, List.getElem?_eq_getElem hk]; rfl
    have hdr : s.u.drop k = s.u[k] :: s.u.drop (k + 1) := List.drop_eq_getElem_cons hk
    rw [hd]
    by_cases ht : tkn s.u[k] = true
    · rw [if_pos ht]
      have h1 : s.u[k] = 1 := by simpa [tkn] using ht
      show (doS (stP s (givesL s.u k)) ⟨2, (k : Int), 1⟩).1.u = _
      unfold doS
      rw [if_neg (by simp), if_pos rfl]
      simp only
      unfold giveS
      have hl : (stP s (givesL s.u k)).u.length = s.u.length := by rw [ih]; simp; omega
      rw [if_neg (by rw [hl]; omega)]
      have hmid : ((stP s (givesL s.u k)).u.drop k).take 1 = [1] := by
        rw [ih, List.drop_append_of_le_length (by simp; omega), List.drop_of_length_le (by simp; omega), List.nil_append, hdr, h1]; rfl
      simp only [Int.toNat_natCast, Int.toNat_one]
      rw [hmid, if_pos (by simp)]
      simp only
      rw [setR_eq 2 (by rw [hl]; omega), ih, htk, List.map_append]
      rw [List.take_append_of_le_length (by simp; omega), List.take_of_length_le (by simp; omega)]
      rw [show (s.u.take k).map giv ++ s.u.drop k = (s.u.take k).map giv ++ [1] ++ s.u.drop (k + 1) by rw [hdr, h1]; simp]
      rw [List.drop_append_of_le_length (by simp; omega), List.drop_of_length_le (by simp; omega), List.nil_append, h1]
      rfl
    · rw [if_neg ht]
      have h1 : s.u[k] ≠ 1 := by simpa [tkn] using ht
      show (stP s (givesL s.u k)).u = _
      rw [ih, htk, List.map_append, hdr]
      simp [giv, h1]

/-- All is given back, then two commits: all is free. -/
theorem given_free {N : Nat} {s : SP} (ok : Sok N s) : (stP s (givesL s.u N ++ [⟨3, 0, 0⟩, ⟨3, 0, 0⟩])).u = List.replicate N 0 := by
  obtain ⟨k1, k2, k3⟩ := ok
  rw [stP_app]
  show (doS (doS (stP s (givesL s.u N)) ⟨3, 0, 0⟩).1 ⟨3, 0, 0⟩).1.u = _
  have d3 : ∀ t : SP, (doS t ⟨3, 0, 0⟩).1 = commitS t := fun t => by unfold doS; rw [if_neg (by simp), if_neg (by simp), if_pos rfl]
  rw [d3, d3, commit_u, commit_u, gives_u s N (by omega), List.take_of_length_le (by omega), List.drop_of_length_le (by omega), List.append_nil, List.map_map, List.map_map, List.eq_replicate_iff]
  refine ⟨by simpa using k1, fun x hx => ?_⟩
  obtain ⟨y, hy, rfl⟩ := List.mem_map.1 hx
  have := k3 y hy
  have : y = 0 ∨ y = 1 ∨ y = 2 ∨ y = 3 := by omega
  rcases this with rfl | rfl | rfl | rfl <;> decide

end Go.Proofs.Ytbekpkapkaifiaa.T
