/- Snaps: SnapAll, what is gone is counted. -/
import Derived.Test.YtaikceooeahfeaaS29
set_option linter.unusedVariables false
set_option linter.unusedSimpArgs false
namespace Go.Proofs.Ytaikceooeahfeaa.T
open Go Go.RowKit Go.Proofs

/-- The counts fit what is gone. -/
def CI (cnt : List Int) (goneL : List Bool) : Prop := cnt.length = 60 ∧ ∀ b, b < 60 → cnt[b]? = some (if goneL[b]? = some true then 1 else 0)

theorem marks_snoc (g : List Bool) (l : List Int) (c : Nat) : marks g (l ++ [(c : Int)]) = (marks g l).set c true := by rw [marks_app]; rfl
theorem CI.mark {cnt : List Int} {goneL : List Bool} (w : CI cnt goneL) {c : Nat} (hc : goneL[c]? = some false) (h60 : c < 60) : cnt[c]? = some 0 ∧ CI (cnt.set c 1) (goneL.set c true) := by
  refine ⟨by rw [w.2 c h60, hc]; simp, by rw [List.length_set]; exact w.1, fun b hb => ?_⟩
  have hl := (List.getElem?_eq_some_iff.1 hc).1
  by_cases e : c = b
  · subst e
    rw [List.getElem?_set_self (by rw [w.1]; exact h60), List.getElem?_set_self hl]; simp
  · rw [List.getElem?_set_ne e, List.getElem?_set_ne e]; exact w.2 b hb
theorem CI.birth {cnt : List Int} {goneL : List Bool} (w : CI cnt goneL) : CI cnt (goneL ++ [false]) := by
  refine ⟨w.1, fun b hb => ?_⟩
  rw [w.2 b hb, List.getElem?_append]
  congr 1
  by_cases e : b < goneL.length
  · rw [if_pos e]
  · rw [if_neg e, List.getElem?_eq_none (by omega)]
    by_cases e2 : b - goneL.length = 0
    · rw [e2]; simp
    · rw [List.getElem?_eq_none (by simp; omega)]

theorem all_l5 {f lf m0 k : Nat} (hlf : 1100 ≤ lf) {P : Option Res → Prop} {h0 : AHeap} {n0 : Nat} {ma ga : Option (Nat × Nat)} {mc gc : Option Nat} {mn : Nat} {gs : List (Int × List Int)} {code born : Int} {bs : List Int} {cb : Nat} (hcb : n0 ≤ cb) (sg : Rows (fun g r => Gon h0 n0 (fun _ => False) r g) h0 n0 (fun _ => False) ga 2 gs) (hg : gs[k]? = some (code, bs))
    (hbs : bs.length ≤ 1000) (hk : k ≤ 1000) {goneL : List Bool} (hgl : goneL.length ≤ 60) (nd : bs.Nodup) (ok : ∀ b ∈ bs, 0 ≤ b ∧ goneL[b.toNat]? = some false)
    (next : ∀ (h' : AHeap) (nx' : Nat) (cnt : List Int), Ext h0 n0 h' nx' → cb < nx' → h' cb = some ⟨ints .i64 cnt, 1, true⟩ → CI cnt (marks goneL bs) →
      P (F4_L2 (callP Try.prog keepT f) Y0 lf m0 ma mn mc ga gs.length gc born (some (cb, 0)) 60 (some 60) ((k + 1 : Nat) : Int) h' nx')) (d : Nat) :
    ∀ (n1 q : Nat) (h : AHeap) (nx : Nat) (cnt : List Int), q + d = bs.length → d < n1 → Ext h0 n0 h nx → cb < nx → h cb = some ⟨ints .i64 cnt, 1, true⟩ → CI cnt (marks goneL (bs.take q)) →
      P (F4_L5 (callP Try.prog keepT f) Y0 lf m0 n1 ma mn mc ga gs.length gc born (some (cb, 0)) 60 (some 60) (k : Int) (q : Int) h nx) := by
  induction d with
  | zero =>
    intro n1 q h nx cnt e hl x hcn hc w
    obtain ⟨n1, rfl⟩ : ∃ m, n1 = m + 1 := ⟨n1 - 1, by omega⟩
    obtain ⟨da, dc, dsl, g0, g1⟩ := gs_read (R := Res) (gs_go (A' := fun _ => False) sg x fun _ _ q => q) hg
    rw [F4_L5_eq, g1]
    simp only [mst_]
    rw [if_neg (show ¬ decide ((q : Int) < ((bs.length : Nat) : Int)) = true by rw [decide_eq_true_eq]; omega), wsucc (i := k) (by omega)]
    have hq : bs.take q = bs := List.take_of_length_le (by omega)
    rw [hq] at w
    exact next h _ cnt (x.le (by omega)) (by omega) hc w
  | succ d ih =>
    intro n1 q h nx cnt e hl x hcn hc w
    obtain ⟨n1, rfl⟩ : ∃ m, n1 = m + 1 := ⟨n1 - 1, by omega⟩
    have hq : q < bs.length := by omega
    obtain ⟨da, dc, dsl, g0, g1⟩ := gs_read (R := Res) (gs_go (A' := fun _ => False) sg x fun _ _ q => q) hg
    obtain ⟨b0, b1⟩ := ok bs[q] (List.getElem_mem hq)
    obtain ⟨c, hc'⟩ : ∃ c : Nat, bs[q] = (c : Int) := ⟨bs[q].toNat, by omega⟩
    rw [hc', Int.toNat_natCast] at b1
    have hcl := (List.getElem?_eq_some_iff.1 b1).1
    have htk : bs.take (q + 1) = bs.take q ++ [(c : Int)] := by rw [← hc']; exact List.take_succ_eq_append_getElem hq
    have hnin : ¬ (c : Int) ∈ bs.take q := fun hm => by
      have hnd := nd
      rw [← List.take_append_drop (q + 1) bs, htk] at hnd
      have h1 := (List.nodup_append.1 (List.nodup_append.1 hnd).1).2.2 _ hm _ (List.mem_singleton.2 rfl)
      exact h1 rfl
    have hpos : ∀ x ∈ bs.take q, 0 ≤ x := fun x hx => (ok x (List.mem_of_mem_take hx)).1
    have hmk : (marks goneL (bs.take q))[c]? = some false := by rw [marks_get _ _ _ hpos, if_neg hnin]; exact b1
    obtain ⟨z0, z1⟩ := w.mark hmk (by omega)
    have hlen := w.1
    rw [F4_L5_eq, g1]
    simp only [mst_]
    rw [if_pos (show decide ((q : Int) < ((bs.length : Nat) : Int)) = true from decide_eq_true (by omega)), g1]
    simp only [mst_]
    rw [dsl.read0 (i := (q : Int)) (v := .int .i64 (c : Int)) (by omega) (by show (q : Int) < ((bs.length : Nat) : Int); omega) (by omega) (by rw [Int.toNat_natCast, Nat.mul_one]; simp [ints, hq, hc'])]
    simp only [mst_]
    rw [if_neg (show ¬ decide ((c : Int) < 0) = true by rw [decide_eq_true_eq]; omega), if_neg (show ¬ decide ((c : Int) ≥ 60) = true by rw [decide_eq_true_eq]; omega), F4_J6_eq]
    simp only [mst_]
    have hv : (ints .i64 cnt)[0 + c * 1]? = some (.int .i64 0) := by rw [Nat.zero_add, Nat.mul_one]; unfold ints; rw [List.getElem?_map, z0]; rfl
    rw [if_pos (show (0 : Int) ≤ (c : Int) ∧ (c : Int) < ((60 : Nat) : Int) from ⟨by omega, by omega⟩), Int.toNat_natCast, ldA_at hc hv]
    simp only [mst_]
    rw [if_pos (show (0 : Int) ≤ (c : Int) ∧ (c : Int) < ((60 : Nat) : Int) from ⟨by omega, by omega⟩), show wrapA .i64 ((0 : Int) + 1) = 1 from wA (by decide) (by decide),
      st_to hc (cs' := ints .i64 (cnt.set c 1)) rfl (by unfold ints; rw [List.length_map, hlen]; omega) (by rw [Nat.zero_add, Nat.mul_one]; unfold ints; rw [List.map_set])]
    rw [wsucc (i := q) (by omega)]
    rw [← marks_snoc, ← htk] at z1
    refine ih n1 (q + 1) _ _ (cnt.set c 1) (by omega) (by omega) ⟨by have := x.1; omega, fun j hj => ?_⟩ (by omega) (put_same _ _ _) z1
    rw [put_ne (by omega)]; exact x.2 j hj

end Go.Proofs.Ytaikceooeahfeaa.T
