import Derived.Test.YtalfcokiooaliaaG12
set_option linter.unusedVariables false
set_option linter.unusedSimpArgs false
namespace Go.Proofs.Ytalfcokiooaliaa.T
open Go Go.RowKit Go.Proofs

theorem sev_out2 (call : YldF → CallF) (lf : Nat) {g : Nat → Bool} {n : Nat} (hn : n ≤ 256) {h0 : AHeap} {n0 : Nat} {ga : Option (Nat × Nat)} (gc : Bool) (sg : Sl h0 n0 ga n 1 (bls g n)) (m : Nat) :
    ∀ (f i : Nat) (oa : Option (Nat × Nat)) (oc : Bool) (h : AHeap) (nx : Nat), i + m = n → m < f → Ext h0 n0 h nx → OwnRows NRow h nx oa 1 ((List.range i).filter g) → (∀ i, ownOf oa i → n0 ≤ i) →
    ∃ oa' oc' h' nx', F11_L4 call Y0 lf f (n : Int) ga n gc oa (cnt g i) oc (i : Int) h nx = some (.slice oa' (cnt g n) oc', h', nx') ∧ Ext h0 n0 h' nx' ∧ OwnRows NRow h' nx' oa' 1 ((List.range n).filter g) ∧ (∀ j, ownOf oa' j → n0 ≤ j) := by
  induction m with
  | zero =>
    intro f i oa oc h nx e hf x o lo
    obtain ⟨f, rfl⟩ : ∃ m, f = m + 1 := ⟨f - 1, by omega⟩
    obtain rfl : i = n := by omega
    rw [F11_L4_eq, if_neg (by simp)]
    exact ⟨oa, oc, h, _, rfl, x.le (by omega), o.go (D := fun _ => False) ⟨by omega, fun _ _ _ => rfl⟩ (fun _ _ q => q) (fun _ _ q => q), lo⟩
  | succ m ih =>
    intro f i oa oc h nx e hf x o lo
    obtain ⟨f, rfl⟩ : ∃ m, f = m + 1 := ⟨f - 1, by omega⟩
    have hi : i < n := by omega
    have y := x.1
    have hcl := cnt_le g i
    have cs := cnt_succ g i
    have fs : (List.range (i + 1)).filter g = if g i = true then (List.range i).filter g ++ [i] else (List.range i).filter g := by
      rw [List.range_succ, List.filter_append]
      by_cases h : g i = true
      · simp [h]
      · simp [h]
    rw [F11_L4_eq, if_pos (by simpa using hi), (sg.ext x).readB hi]
    simp only [mst_]
    by_cases hg : g i = true
    · rw [if_pos hg] at cs fs
      obtain ⟨E, s1, s2, s3, s4, s5, s6, s7, s8, _⟩ := o.pushE x lo oc (bytes := 8) (id := nx + 9) (id2 := nx + 10) (x := i) (r := [AV.int .i64 (i : Int)]) rfl rfl (growOk_of (by change cnt g i + 1 ≤ _; omega) (by omega)) (by omega) (by omega)
      change appD _ _ (cnt g i) _ _ _ _ _ = _ at s2
      rw [if_pos hg, s1, some_bind, s2, some_bind, s4, wsucc (by omega)]
      change ∃ oa' oc' h' nx', F11_L4 call Y0 lf f (n : Int) ga n gc E.a (cnt g i + 1) E.c _ _ _ = _ ∧ _
      rw [← cs]
      refine ih f (i + 1) E.a E.c _ (nx + 15) (by omega) (by omega) (s7.le (by omega)) ?_ (fun j z => by have := s8 j z; omega)
      rw [fs]
      exact s5.go (D := fun _ => False) ⟨by omega, fun _ _ _ => rfl⟩ (fun _ _ q => q) (fun _ _ q => q)
    · rw [if_neg hg] at cs fs
      rw [if_neg hg, wsucc (by omega)]
      have cs : cnt g (i + 1) = cnt g i := cs
      rw [← cs]
      exact ih f (i + 1) oa oc h (nx + 10) (by omega) (by omega) (x.le (by omega)) (by rw [fs]; exact o.go (D := fun _ => False) ⟨by omega, fun _ _ _ => rfl⟩ (fun _ _ q => q) (fun _ _ q => q)) lo


theorem sev_spec2 {f : Nat} {l : List Int} (hf : 300 + l.length ≤ f) (hl : l.length ≤ 1000000000000000) {a : Option (Nat × Nat)} (c : Bool) {most n : Nat} (hm : most ≤ 1000) (hn1 : 1 ≤ n) (hn : n ≤ 256) {h : AHeap} {nx : Nat} (sl : Sl h nx a l.length 1 (ints .i64 l)) :
    ∃ (g : Nat → Bool) (oa : Option (Nat × Nat)) (oc : Bool) (h' : AHeap) (nx' : Nat), callP Try.prog keepT f Y0 11 [.slice a l.length c, .int .i64 (most : Int), .int .i64 (n : Int)] h nx = some (.slice oa (cnt g n) oc, h', nx') ∧ Ext h nx h' nx' ∧ OwnRows NRow h' nx' oa 1 ((List.range n).filter g) ∧ cnt g n ≤ most ∧ (cnt g n = most ∨ ∀ j (hjl : j < l.length), g (l[j] % (n : Int)).toNat = true) ∧ (∀ j, ownOf oa j → nx ≤ j) := by
  obtain ⟨f, rfl⟩ : ∃ m, f = m + 1 := ⟨f - 1, by omega⟩
  rw [F11_eq, if_pos (by simp; omega)]
  have hz : madeA [AV.bool false] (Int.toNat ((n : Nat) : Int) * 1) = bls (fun _ => false) n := by
    rw [Int.toNat_natCast, Nat.mul_one]; exact bls_false n
  rw [hz, show Int.toNat ((n : Nat) : Int) = n from Int.toNat_natCast n]
  have c0 : cnt (fun _ => false) n = 0 := by unfold cnt; rw [List.filter_eq_nil_iff.2 (by simp)]; rfl
  obtain ⟨g, h1, n1, e1, l1, x1, b1, c1, d1⟩ := sev_loop (k0 := f) (by omega) f hl c (((n : Nat) : Int) == ((n : Nat) : Int)) hm hn1 hn (id := nx + 2) sl (by omega) l.length f 0 (fun _ => false) (h.put (nx + 2) (some ⟨bls (fun _ => false) n, 1, true⟩)) (nx + 6) (by omega) (by omega) (by omega) ⟨by omega, fun j hj => put_ne (by omega)⟩ (put_same _ _ _) (by omega) (fun j hj => by omega)
  rw [c0, show ((0 : Nat) : Int) = 0 from rfl] at e1
  dsimp only
  rw [e1, F11_J3_eq]
  have sg : Sl h1 (n1 + 2) (some (nx + 2, 0)) n 1 (bls g n) := Sl.ofBlk b1 (by rw [bls_len]; omega) (by omega)
  obtain ⟨oa, oc, h2, n2, e2, x2, o2, lo2⟩ := sev_out2 (callP Try.prog keepT f) f hn (((n : Nat) : Int) == ((n : Nat) : Int)) sg n f 0 none false h1 (n1 + 2) (by omega) (by omega) (Ext.refl _ _) (OwnRows.nil _ _ _ _) (fun i ⟨_, z⟩ => by cases z)
  rw [show ((0 : Nat) : Int) = 0 from rfl] at e2
  change F11_L4 _ _ _ _ _ _ _ _ _ 0 _ _ _ _ = _ at e2
  rw [e2]
  exact ⟨g, oa, oc, h2, n2, rfl, x1.trans (x2.from (by omega)), o2, c1, d1, fun j z => by have := lo2 j z; omega⟩


end Go.Proofs.Ytalfcokiooaliaa.T
