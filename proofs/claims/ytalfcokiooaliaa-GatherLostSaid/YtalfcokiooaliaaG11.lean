import Derived.Test.YtalfcokiooaliaaG10
set_option linter.unusedVariables false
set_option linter.unusedSimpArgs false
namespace Go.Proofs.Ytalfcokiooaliaa.T
open Go Go.RowKit Go.Proofs

/-! ### stripe.Gather: what is lost -/
def lostL (lost : Nat → Bool) (c : Nat) : List Nat := (List.range c).filter lost
theorem lostL_succ (lost : Nat → Bool) (c : Nat) : lostL lost (c + 1) = if lost c then lostL lost c ++ [c] else lostL lost c := by
  unfold lostL
  rw [List.range_succ, List.filter_append]
  by_cases h : lost c = true
  · simp [h]
  · simp [h]
theorem lostL_len (lost : Nat → Bool) (c : Nat) : (lostL lost c).length = cnt lost c := rfl
theorem scan_loop {k0 : Nat} (hk0 : 2 ≤ k0) (lf : Nat) {d p a n : Nat} (g : Geo d p n) (x1 : Int) (X9 X10 X11 X12 X13 X14 : Option (Nat × Nat)) {bb lv kv : Nat} {sa : Option (Nat × Nat)} (sc : Bool) {PP WW : Int} {P : Nat → Tri} {lost : Nat → Bool} {xa : Option (Nat × Nat)} (xc : Bool) {h0 : AHeap} {n0 : Nat}
    (hb : h0 bb = some ⟨[.slice sa (colN d p n) sc, .int .i64 PP, .int .i64 WW], 3, true⟩) (hbl : bb < n0) (shp : Shp h0 n0 sa d p a n) (sp : Sl h0 n0 xa (colN d p n) 2 (prows P lost (colN d p n)).flatten) (sz : ∀ k, k < colN d p n → lost k = false → (P k).2.1 = bw d p n k) (hlv : n0 ≤ lv) (hkv : n0 ≤ kv) (hne : lv ≠ kv) (m : Nat) :
    ∀ (f i : Nat) (la ka : Option (Nat × Nat)) (lc kc : Bool) (h : AHeap) (nx : Nat), i + m = colN d p n → m < f → lv < nx → kv < nx → Ext h0 n0 h nx →
      h lv = some ⟨[.slice la (cnt lost i) lc], 1, true⟩ → h kv = some ⟨[.slice ka (kept lost i).length kc], 1, true⟩ →
      OwnRows NRow h nx la 1 (lostL lost i) → OwnRows NRow h nx ka 1 (kept lost i) → (∀ j, ownOf la j → n0 ≤ j ∧ j ≠ lv ∧ j ≠ kv) → (∀ j, ownOf ka j → n0 ≤ j ∧ j ≠ lv ∧ j ≠ kv) → (∀ j, ownOf la j → ¬ ownOf ka j) →
    ∃ (f' : Nat) (la' ka' : Option (Nat × Nat)) (lc' kc' : Bool) (h' : AHeap) (nx' : Nat),
      F12_L1 (callP Try.prog keepT k0) Y0 lf f x1 X9 X10 X11 X12 X13 X14 (some (bb, 0)) (some (lv, 0)) (some (kv, 0)) xa (colN d p n) xc ((colN d p n : Nat) : Int) (i : Int) h nx =
        F12_L1 (callP Try.prog keepT k0) Y0 lf (f' + 1) x1 X9 X10 X11 X12 X13 X14 (some (bb, 0)) (some (lv, 0)) (some (kv, 0)) xa (colN d p n) xc ((colN d p n : Nat) : Int) ((colN d p n : Nat) : Int) h' nx' ∧ lv < nx' ∧ kv < nx' ∧ Ext h0 n0 h' nx' ∧
      h' lv = some ⟨[.slice la' (cnt lost (colN d p n)) lc'], 1, true⟩ ∧ h' kv = some ⟨[.slice ka' (kept lost (colN d p n)).length kc'], 1, true⟩ ∧
      OwnRows NRow h' nx' la' 1 (lostL lost (colN d p n)) ∧ OwnRows NRow h' nx' ka' 1 (kept lost (colN d p n)) ∧ (∀ j, ownOf la' j → n0 ≤ j ∧ j ≠ lv ∧ j ≠ kv) ∧ (∀ j, ownOf ka' j → n0 ≤ j ∧ j ≠ lv ∧ j ≠ kv) ∧ (∀ j, ownOf la' j → ¬ ownOf ka' j) := by
  have g8 := g.N8
  induction m with
  | zero =>
    intro f i la ka lc kc h nx e hf hl1 hk1 x bl bk ol ok l1 l2 dj
    obtain ⟨f, rfl⟩ : ∃ m, f = m + 1 := ⟨f - 1, by omega⟩
    obtain rfl : i = colN d p n := by omega
    exact ⟨f, la, ka, lc, kc, h, nx, rfl, hl1, hk1, x, bl, bk, ol, ok, l1, l2, dj⟩
  | succ m ih =>
    intro f i la ka lc kc h nx e hf hl1 hk1 x bl bk ol ok l1 l2 dj
    obtain ⟨f, rfl⟩ : ∃ m, f = m + 1 := ⟨f - 1, by omega⟩
    have y := x.1
    have hi : i < colN d p n := by omega
    have lt1 := ol.lt
    have lt2 := ok.lt
    have hcl := cnt_le lost i
    have hkl := kept_le lost i
    have hrow : ((prows P lost (colN d p n)).flatten.drop (i * 2)).take 2 = prow P lost i := flat_drop (prows_row _ _ _) (prows_get hi)
    obtain ⟨h8, hh8⟩ : ∃ h8, h8 = AHeap.put (AHeap.put h (nx + 4) (some ⟨[.bool false, .slice none 0 false], 2, true⟩)) (nx + 4) (some ⟨prow P lost i, 2, true⟩) := ⟨_, rfl⟩
    have x8 : Ext h nx h8 (nx + 5) := ⟨by omega, fun j hj => by rw [hh8, put_ne (by omega), put_ne (by omega)]⟩
    have b8 : h8 (nx + 4) = some ⟨prow P lost i, 2, true⟩ := by rw [hh8, put_same]
    rw [F12_L1_eq, if_pos (by simpa using hi), (sp.ext x).readR hi, hrow]
    have bl8 := (x8.2 lv hl1).trans bl
    have bk8 := (x8.2 kv hk1).trans bk
    have ol8 : OwnRows NRow h8 (nx + 11) la 1 (lostL lost i) := ol.go (D := fun _ => False) ⟨by omega, fun j hj _ => x8.2 j hj⟩ (fun _ _ q => q) (fun _ _ q => q)
    have ok8 : OwnRows NRow h8 (nx + 11) ka 1 (kept lost i) := ok.go (D := fun _ => False) ⟨by omega, fun j hj _ => x8.2 j hj⟩ (fun _ _ q => q) (fun _ _ q => q)
    by_cases hg : lost i = true
    · have hp : prow P lost i = [AV.bool true, AV.slice none 0 false] := by unfold prow; rw [if_pos hg]
      rw [hp] at hh8 b8 ⊢
      simp only [mst_]
      rw [st_all (put_same _ _ _) (by simp) (by simp) (by simp [allOne, AV.one]), ← hh8, ld_at b8 rfl]
      simp only [mst_]
      rw [if_pos trivial, ld_at bl8 rfl]
      simp only [mst_]
      have lls := lostL_succ lost i
      rw [if_pos hg] at lls
      have cs := cnt_succ lost i
      rw [if_pos hg] at cs
      have ks := kept_succ lost i
      rw [if_pos hg] at ks
      obtain ⟨E, s1, s2, s3, s4, s5, s6, s7, _⟩ := ol8.pushF lc (bytes := 8) (id := nx + 11) (id2 := nx + 12) (x := i) (r := [AV.int .i64 (i : Int)]) rfl rfl (growOk_of (by rw [lostL_len]; omega) (by omega)) (by omega) (by omega)
      rw [lostL_len] at s2 s4
      rw [s1, some_bind, s2, some_bind]
      obtain ⟨Ea, hEa⟩ : ∃ z, z = E.a := ⟨_, rfl⟩
      rw [← hEa] at s3 s5 s7 ⊢
      generalize hH : (h8.put (nx + 11) (some ⟨[AV.int .i64 (i : Int)], 1, true⟩)).puts E.sets = H at s5 s6
      have blH : H lv = some ⟨[.slice la (cnt lost i) lc], 1, true⟩ := by rw [s6 lv (fun z => (l1 lv z).2.1 rfl) (by omega) (by omega), bl8]
      rw [st_to blH rfl (by simp) (cs' := [.slice Ea E.n E.c]) (by simp), s4, wsucc (by omega), ← cs]
      have bkH : H kv = some ⟨[.slice ka (kept lost (i + 1)).length kc], 1, true⟩ := by rw [ks, s6 kv (fun z => (l1 kv z).2.2 rfl) (by omega) (by omega), bk8]
      obtain ⟨H', hH'⟩ : ∃ H', H' = H.put lv (some ⟨[.slice Ea (cnt lost (i + 1)) E.c], 1, true⟩) := ⟨_, rfl⟩
      have pu : ∀ j, j ≠ lv → H' j = H j := fun j hj => by rw [hH', put_ne hj]
      rw [← hH']
      have q1 : Ext h0 n0 H' (nx + 16) := ⟨by omega, fun j hj => by
        rw [pu j (by omega), s6 j (fun z => by have := (l1 j z).1; omega) (by omega) (by omega), x8.2 j (by omega), x.2 j hj]⟩
      have q2 : H' lv = some ⟨[.slice Ea (cnt lost (i + 1)) E.c], 1, true⟩ := by rw [hH', put_same]
      have q3 : H' kv = some ⟨[.slice ka (kept lost (i + 1)).length kc], 1, true⟩ := by rw [pu kv hne.symm]; exact bkH
      have q4 : OwnRows NRow H' (nx + 16) Ea 1 (lostL lost (i + 1)) := by
        rw [lls]
        exact s5.go (D := fun j => j = lv) ⟨by omega, fun j hj hn => pu j hn⟩ (fun j z zz => by have := s7 j z; omega) (fun _ _ q => q)
      have q5 : OwnRows NRow H' (nx + 16) ka 1 (kept lost (i + 1)) := by
        rw [ks]
        exact ok8.go (D := fun j => j = lv ∨ ownOf la j ∨ nx + 11 ≤ j) ⟨by omega, fun j hj hn => by
          rw [pu j (fun z => hn (.inl z)), s6 j (fun z => hn (.inr (.inl z))) (by omega) (by omega)]⟩ (fun j z zz => by
          rcases zz with zz | zz | zz
          · exact (l2 j z).2.1 zz
          · exact dj j zz z
          · have := lt2 j z; omega) (fun _ _ q => q)
      exact ih f (i + 1) Ea ka E.c kc H' (nx + 16) (by omega) (by omega) (by omega) (by omega) q1 q2 q3 q4 q5 (fun j z => by have := s7 j z; omega) l2 (fun j z zz => by have := s7 j z; have := lt2 j zz; omega)
    · have hg : lost i = false := by simpa using hg
      have hp : prow P lost i = [AV.bool false, tcell (P i)] := by unfold prow; rw [if_neg (by simp [hg])]
      have hsz := sz i hi hg
      have hbh : h8 bb = some ⟨[.slice sa (colN d p n) sc, .int .i64 PP, .int .i64 WW], 3, true⟩ := by rw [x8.2 bb (by omega), x.2 bb hbl, hb]
      rw [hp] at hh8 b8 ⊢
      unfold tcell at hh8 b8 ⊢
      simp only [mst_]
      rw [st_all (put_same _ _ _) (by simp) (by simp) (by simp [allOne, AV.one]), ← hh8, ld_at b8 rfl]
      simp only [mst_]
      rw [ld_at b8 rfl]
      simp only [mst_]
      rw [ldr_all hbh (by simp)]
      simp only [mst_]
      rw [size_spec (f := k0) (by omega) g sc PP WW (shp.ext ((x.trans x8).le (show nx + 5 ≤ nx + 16 by omega))) hi]
      simp only [mst_]
      have ak : AllKept [(h8, h8.put (nx + 16) (some ⟨[.slice sa (colN d p n) sc, .int .i64 PP, .int .i64 WW], 3, true⟩), [nx + 4])] := by
        refine ⟨fun z hz => ?_, trivial⟩
        simp only [List.mem_singleton] at hz; subst hz; exact put_ne (by omega)
      obtain ⟨h9, hh9⟩ : ∃ h9, h9 = h8.put (nx + 16) (some ⟨[.slice sa (colN d p n) sc, .int .i64 PP, .int .i64 WW], 3, true⟩) := ⟨_, rfl⟩
      rw [ifKept_pos ak, hsz, if_neg (by rw [show bw d p n i = lenC d p n i * 128 from rfl]; simp), ← hh9]
      have x9 : Ext h8 (nx + 11) h9 (nx + 28) := ⟨by omega, fun j hj => by rw [hh9, put_ne (by omega)]⟩
      have bl9 := (x9.2 lv (by omega)).trans bl8
      have bk9 := (x9.2 kv (by omega)).trans bk8
      have ol9 : OwnRows NRow h9 (nx + 28) la 1 (lostL lost i) := ol8.go (x9.fr fun _ => False) (fun _ _ q => q) (fun _ _ q => q)
      have ok9 : OwnRows NRow h9 (nx + 28) ka 1 (kept lost i) := ok8.go (x9.fr fun _ => False) (fun _ _ q => q) (fun _ _ q => q)
      rw [ld_at bk9 rfl]
      simp only [mst_]
      have lls := lostL_succ lost i
      rw [if_neg (by simp [hg])] at lls
      have cs : cnt lost (i + 1) = cnt lost i := by rw [cnt_succ, if_neg (by simp [hg]), Nat.add_zero]
      have ks := kept_succ lost i
      rw [if_neg (by simp [hg])] at ks
      obtain ⟨E, s1, s2, s3, s4, s5, s6, s7, _⟩ := ok9.pushF kc (bytes := 8) (id := nx + 16 + 10 + 2) (id2 := nx + 16 + 10 + 3) (x := i) (r := [AV.int .i64 (i : Int)]) rfl rfl (growOk_of (by omega) (by omega)) (by omega) (by omega)
      rw [s1, some_bind, s2, some_bind]
      obtain ⟨Ea, hEa⟩ : ∃ z, z = E.a := ⟨_, rfl⟩
      rw [← hEa] at s3 s5 s7 ⊢
      generalize hH : (h9.put (nx + 16 + 10 + 2) (some ⟨[AV.int .i64 (i : Int)], 1, true⟩)).puts E.sets = H at s5 s6
      have bkH : H kv = some ⟨[.slice ka (kept lost i).length kc], 1, true⟩ := by rw [s6 kv (fun z => (l2 kv z).2.2 rfl) (by omega) (by omega), bk9]
      rw [st_to bkH rfl (by simp) (cs' := [.slice Ea E.n E.c]) (by simp), s4, wsucc (by omega), show (kept lost i).length + 1 = (kept lost (i + 1)).length from by rw [ks]; simp]
      have blH : H lv = some ⟨[.slice la (cnt lost (i + 1)) lc], 1, true⟩ := by rw [cs, s6 lv (fun z => (l2 lv z).2.1 rfl) (by omega) (by omega), bl9]
      refine ih f (i + 1) la Ea lc E.c _ (nx + 16 + 10 + 7) (by omega) (by omega) (by omega) (by omega) ⟨by omega, fun j hj => ?_⟩ (by rw [put_ne hne]; exact blH) (put_same _ _ _) ?_ ?_ l1 (fun j z => by have := s7 j z; omega) (fun j z zz => by have := s7 j zz; have := lt1 j z; omega)
      · rw [put_ne (by omega), s6 j (fun z => by have := (l2 j z).1; omega) (by omega) (by omega), x9.2 j (by omega), x8.2 j (by omega), x.2 j hj]
      · rw [lls]
        exact ol9.go (D := fun j => j = kv ∨ ownOf ka j ∨ nx + 28 ≤ j) ⟨by omega, fun j hj hn => by
          rw [put_ne (fun z => hn (.inl z)), s6 j (fun z => hn (.inr (.inl z))) (by omega) (by omega)]⟩ (fun j z zz => by
          rcases zz with zz | zz | zz
          · exact (l1 j z).2.2 zz
          · exact dj j z zz
          · have := lt1 j z; omega) (fun _ _ q => q)
      · rw [ks]
        exact s5.go (D := fun j => j = kv) ⟨by omega, fun j hj hn => put_ne hn⟩ (fun j z zz => by have := s7 j z; omega) (fun _ _ q => q)

end Go.Proofs.Ytalfcokiooaliaa.T
