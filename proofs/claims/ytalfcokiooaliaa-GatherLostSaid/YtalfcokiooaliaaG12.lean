import Derived.Test.YtalfcokiooaliaaG11
set_option linter.unusedVariables false
set_option linter.unusedSimpArgs false
namespace Go.Proofs.Ytalfcokiooaliaa.T
open Go Go.RowKit Go.Proofs

/-- What stripe.Gather holds after it has seen the pieces. -/
structure Scan (h : AHeap) (nx0 nx : Nat) (d p a n : Nat) (lost : Nat → Bool) (m : Nat) (xa : Option (Nat × Nat)) (xc : Bool) (S : List AV) (sa : Option (Nat × Nat)) (sc : Bool) (lv kv : Nat) (la ka : Option (Nat × Nat)) (lc kc : Bool) : Prop where
  b0 : h nx0 = some ⟨[.int .i64 (m : Int)], 1, true⟩
  b1 : h (nx0 + 1) = some ⟨[.slice xa (colN d p n) xc], 1, true⟩
  b2 : h (nx0 + 2) = some ⟨S, 4, true⟩
  b3 : h (nx0 + 3) = some ⟨[.slice none 0 false], 1, true⟩
  b4 : h (nx0 + 4) = some ⟨[.slice none 0 false], 1, true⟩
  b5 : h (nx0 + 5) = some ⟨[.int .i64 0], 1, true⟩
  bb : h (nx0 + 14) = some ⟨[.slice sa (colN d p n) sc, .int .i64 (p : Int), .int .i64 ((bw d p n 0 : Nat) : Int)], 3, true⟩
  sh : Shp h nx sa d p a n
  sav : ∀ i o, sa = some (i, o) → nx0 + 15 ≤ i ∧ i ≠ lv ∧ i ≠ kv
  lv0 : nx0 + 15 ≤ lv
  kv0 : nx0 + 15 ≤ kv
  lk : lv ≠ kv
  lv1 : lv < nx
  kv1 : kv < nx
  bl : h lv = some ⟨[.slice la (cnt lost (colN d p n)) lc], 1, true⟩
  bk : h kv = some ⟨[.slice ka (kept lost (colN d p n)).length kc], 1, true⟩
  ol : OwnRows NRow h nx la 1 (lostL lost (colN d p n))
  ok : OwnRows NRow h nx ka 1 (kept lost (colN d p n))
  l1 : ∀ j, ownOf la j → nx0 + 15 ≤ j ∧ j ≠ lv ∧ j ≠ kv
  l2 : ∀ j, ownOf ka j → nx0 + 15 ≤ j ∧ j ≠ lv ∧ j ≠ kv
  dj : ∀ j, ownOf la j → ¬ ownOf ka j

theorem gather_scan {k : Nat} (hk : 30 ≤ k) {d p a m n : Nat} (hd : 2 ≤ d) (hd' : d ≤ 8) (hp : 1 ≤ p) (hp' : p ≤ 3) (hpd : p < d) (ha : a ≤ 65536) (hm : 1 ≤ m) (hm' : m ≤ 4000) (hn : n = (m + 127) / 128) {P : Nat → Tri} {lost : Nat → Bool} {xa : Option (Nat × Nat)} (xc : Bool) {s0 s1 s2 s3 : Int} {h : AHeap} {nx : Nat}
    (sp : Sl h nx xa (colN d p n) 2 (prows P lost (colN d p n)).flatten) (sz : ∀ k, k < colN d p n → lost k = false → (P k).2.1 = bw d p n k) :
    ∃ f' sa sc lv kv la ka lc kc h' nx', callP Try.prog keepT (k + 1) Y0 12 [.int .i64 (d : Int), .int .i64 (p : Int), .int .i64 (a : Int), .int .i64 (m : Int), .slice xa (colN d p n) xc, .agg [.int .i64 s0, .int .i64 s1, .int .i64 s2, .int .i64 s3]] h nx =
      F12_L1 (callP Try.prog keepT k) Y0 k (f' + 1) (p : Int) (some (nx, 0)) (some (nx + 1, 0)) (some (nx + 2, 0)) (some (nx + 3, 0)) (some (nx + 4, 0)) (some (nx + 5, 0)) (some (nx + 14, 0)) (some (lv, 0)) (some (kv, 0)) xa (colN d p n) xc ((colN d p n : Nat) : Int) ((colN d p n : Nat) : Int) h' nx' ∧ Ext h nx h' nx' ∧
      Scan h' nx nx' d p a n lost m xa xc [.int .i64 s0, .int .i64 s1, .int .i64 s2, .int .i64 s3] sa sc lv kv la ka lc kc := by
  have hn1 : 1 ≤ n ∧ n ≤ 32 := by omega
  have g := geo d p n hd' hp' (by omega) hd hp hpd (by omega)
  have g8 := g.N8
  obtain ⟨H6, hH6⟩ : ∃ H6, H6 = AHeap.put (AHeap.put (AHeap.put (AHeap.put (AHeap.put (AHeap.put h nx (some ⟨[.int .i64 (m : Int)], 1, true⟩)) (nx + 1) (some ⟨[.slice xa (colN d p n) xc], 1, true⟩)) (nx + 2) (some ⟨[.int .i64 s0, .int .i64 s1, .int .i64 s2, .int .i64 s3], 4, true⟩)) (nx + 3) (some ⟨[.slice none 0 false], 1, true⟩)) (nx + 4) (some ⟨[.slice none 0 false], 1, true⟩)) (nx + 5) (some ⟨[.int .i64 0], 1, true⟩) := ⟨_, rfl⟩
  have c0 : H6 nx = some ⟨[.int .i64 (m : Int)], 1, true⟩ := by rw [hH6, put_ne (by omega), put_ne (by omega), put_ne (by omega), put_ne (by omega), put_ne (by omega), put_same]
  have c1 : H6 (nx + 1) = some ⟨[.slice xa (colN d p n) xc], 1, true⟩ := by rw [hH6, put_ne (by omega), put_ne (by omega), put_ne (by omega), put_ne (by omega), put_same]
  have c2 : H6 (nx + 2) = some ⟨[.int .i64 s0, .int .i64 s1, .int .i64 s2, .int .i64 s3], 4, true⟩ := by rw [hH6, put_ne (by omega), put_ne (by omega), put_ne (by omega), put_same]
  have c3 : H6 (nx + 3) = some ⟨[.slice none 0 false], 1, true⟩ := by rw [hH6, put_ne (by omega), put_ne (by omega), put_same]
  have c4 : H6 (nx + 4) = some ⟨[.slice none 0 false], 1, true⟩ := by rw [hH6, put_ne (by omega), put_same]
  have c5 : H6 (nx + 5) = some ⟨[.int .i64 0], 1, true⟩ := by rw [hH6, put_same]
  have x6 : Ext h nx H6 (nx + 17) := ⟨by omega, fun j hj => by rw [hH6, put_ne (by omega), put_ne (by omega), put_ne (by omega), put_ne (by omega), put_ne (by omega), put_ne (by omega)]⟩
  obtain ⟨sa, sc, h1, n1, e1, sh1, x1, si, sie, si0, si1⟩ := shaped_spec (f := k) hk hd hd' hp hp' hpd ha hm (by omega) H6 (nx + 17)
  rw [← hn] at e1 sh1
  change callP _ _ _ _ _ _ _ _ = some (.tuple [.agg [.slice sa (colN d p n) sc, .int .i64 (p : Int), .int .i64 ((bw d p n 0 : Nat) : Int)], .int .i64 0], h1, n1) at e1
  have y1 := x1.1
  rw [F12_eq]
  dsimp only
  rw [← hH6, ld_at c0 rfl]
  simp only [mst_]
  rw [e1]
  simp only [mst_]
  rw [st_all (put_same _ _ _) (by simp) (by simp) (by simp [allOne, AV.one]), if_neg (by decide)]
  obtain ⟨H7, hH7⟩ : ∃ H7, H7 = AHeap.put (AHeap.put h1 (nx + 14) (some ⟨[.slice none 0 false, .int .i64 0, .int .i64 0], 3, true⟩)) (nx + 14) (some ⟨[.slice sa (colN d p n) sc, .int .i64 (p : Int), .int .i64 ((bw d p n 0 : Nat) : Int)], 3, true⟩) := ⟨_, rfl⟩
  have p7 : ∀ j, j ≠ nx + 14 → H7 j = h1 j := fun j hj => by rw [hH7, put_ne hj, put_ne hj]
  have cb : H7 (nx + 14) = some ⟨[.slice sa (colN d p n) sc, .int .i64 (p : Int), .int .i64 ((bw d p n 0 : Nat) : Int)], 3, true⟩ := by rw [hH7, put_same]
  have c1' : H7 (nx + 1) = some ⟨[.slice xa (colN d p n) xc], 1, true⟩ := by rw [p7 _ (by omega), x1.2 _ (by omega), c1]
  rw [← hH7, ld_at c1' rfl]
  simp only [mst_]
  rw [ld_at cb rfl]
  simp only [mst_]
  rw [if_neg (by simp)]
  obtain ⟨H9, hH9⟩ : ∃ H9, H9 = AHeap.put (AHeap.put H7 (n1 + 8) (some ⟨[.slice none 0 false], 1, true⟩)) (n1 + 9) (some ⟨[.slice none 0 false], 1, true⟩) := ⟨_, rfl⟩
  have p9 : ∀ j, j < n1 + 8 → H9 j = H7 j := fun j hj => by rw [hH9, put_ne (by omega), put_ne (by omega)]
  rw [← hH9, ld_at ((p9 _ (by omega)).trans c1') rfl]
  simp only [mst_]
  have q9 : ∀ j, j < n1 → j ≠ nx + 14 → H9 j = h1 j := fun j hj hne => (p9 j (by omega)).trans (p7 j hne)
  have x9 : Ext h nx H9 (n1 + 8) := ⟨by omega, fun j hj => by rw [q9 j (by omega) (by omega), x1.2 j (by omega), x6.2 j hj]⟩
  have sh9 : Shp H9 (n1 + 8) sa d p a n := by
    refine Sl.fr (D := fun j => j = nx + 14) sh1 (fun _ pp hpp z => ?_) ⟨by omega, fun j hj hne => q9 j hj hne⟩
    rw [sie] at hpp
    obtain rfl := Option.some.inj hpp
    simp only at z; omega
  obtain ⟨f', la, ka, lc, kc, h', nx', e', lv', kv', x', bl, bk, ol, ok, l1, l2, dj⟩ := scan_loop (k0 := k) (by omega) k g (p : Int) (some (nx, 0)) (some (nx + 1, 0)) (some (nx + 2, 0)) (some (nx + 3, 0)) (some (nx + 4, 0)) (some (nx + 5, 0)) (bb := nx + 14) (lv := n1 + 8) (kv := n1 + 9) sc (P := P) (lost := lost) (xa := xa) xc (h0 := H9) (n0 := n1 + 8) ((p9 _ (by omega)).trans cb) (by omega) sh9 (sp.ext x9) sz (by omega) (by omega) (by omega) (colN d p n) k 0 none none false false H9 (n1 + 13) (by omega) (by omega) (by omega) (by omega) ⟨by omega, fun _ _ => rfl⟩ (by rw [hH9, put_ne (by omega), put_same]; rfl) (by rw [hH9, put_same]; rfl) (OwnRows.nil _ _ _ _) (OwnRows.nil _ _ _ _) (fun j ⟨_, z⟩ => by cases z) (fun j ⟨_, z⟩ => by cases z) (fun j ⟨_, z⟩ => by cases z)
  rw [show ((0 : Nat) : Int) = 0 from rfl] at e'
  have y' := x'.1
  refine ⟨f', sa, sc, n1 + 8, n1 + 9, la, ka, lc, kc, h', nx', e', ⟨by omega, fun j hj => by rw [x'.2 j (by omega), x9.2 j hj]⟩, ?_⟩
  have q : ∀ j, j < n1 → j ≠ nx + 14 → h' j = h1 j := fun j hj hne => by rw [x'.2 j (by omega), q9 j hj hne]
  exact { b0 := by rw [q _ (by omega) (by omega), x1.2 _ (by omega), c0]
          b1 := by rw [q _ (by omega) (by omega), x1.2 _ (by omega), c1]
          b2 := by rw [q _ (by omega) (by omega), x1.2 _ (by omega), c2]
          b3 := by rw [q _ (by omega) (by omega), x1.2 _ (by omega), c3]
          b4 := by rw [q _ (by omega) (by omega), x1.2 _ (by omega), c4]
          b5 := by rw [q _ (by omega) (by omega), x1.2 _ (by omega), c5]
          bb := by rw [x'.2 _ (by omega), p9 _ (by omega), cb]
          sh := sh9.ext x'
          sav := fun i o hi => by
            rw [sie] at hi
            have := congrArg Prod.fst (Option.some.inj hi)
            simp only at this; omega
          lv0 := by omega
          kv0 := by omega
          lk := by omega
          lv1 := lv'
          kv1 := kv'
          bl := bl
          bk := bk
          ol := ol
          ok := ok
          l1 := fun j z => by have := l1 j z; omega
          l2 := fun j z => by have := l2 j z; omega
          dj := dj }

end Go.Proofs.Ytalfcokiooaliaa.T
