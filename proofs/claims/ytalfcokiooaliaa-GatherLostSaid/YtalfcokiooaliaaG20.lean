import Derived.Test.YtalfcokiooaliaaG19
set_option linter.unusedVariables false
set_option linter.unusedSimpArgs false
namespace Go.Proofs.Ytalfcokiooaliaa.T
open Go Go.RowKit Go.Proofs

theorem Scan.keep {h h' : AHeap} {nx0 nx d p a n : Nat} {lost : Nat → Bool} {m : Nat} {xa : Option (Nat × Nat)} {xc : Bool} {Z : List AV} {sa : Option (Nat × Nat)} {sc : Bool} {lv kv : Nat} {la ka : Option (Nat × Nat)} {lc kc : Bool} (S : Scan h nx0 nx d p a n lost m xa xc Z sa sc lv kv la ka lc kc) (x : ∀ j, j < nx → h' j = h j) : Scan h' nx0 nx d p a n lost m xa xc Z sa sc lv kv la ka lc kc := by
  have lv0 := S.lv0
  have lv1 := S.lv1
  have kv1 := S.kv1
  have xx : Ext h nx h' nx := ⟨Nat.le_refl _, x⟩
  exact { b0 := by rw [x _ (by omega)]; exact S.b0
          b1 := by rw [x _ (by omega)]; exact S.b1
          b2 := by rw [x _ (by omega)]; exact S.b2
          b3 := by rw [x _ (by omega)]; exact S.b3
          b4 := by rw [x _ (by omega)]; exact S.b4
          b5 := by rw [x _ (by omega)]; exact S.b5
          bb := by rw [x _ (by omega)]; exact S.bb
          sh := S.sh.ext xx
          sav := S.sav
          lv0 := lv0
          kv0 := S.kv0
          lk := S.lk
          lv1 := lv1
          kv1 := kv1
          bl := by rw [x _ lv1]; exact S.bl
          bk := by rw [x _ kv1]; exact S.bk
          ol := S.ol.go (xx.fr fun _ => False) (fun _ _ q => q) (fun _ _ q => q)
          ok := S.ok.go (xx.fr fun _ => False) (fun _ _ q => q) (fun _ _ q => q)
          l1 := S.l1
          l2 := S.l2
          dj := S.dj }


/-- comb.Each of no things: one pick. -/
theorem each0 {f : Nat} (hf : 4 ≤ f) {Y : YldF} {l N kb nb n : Nat} {h : AHeap} (hkb : h kb = some ⟨[.int .i64 0], 1, true⟩) (hnb : h nb = some ⟨[.int .i64 ((n : Nat) : Int)], 1, true⟩) (lk : kb < N) (ln : nb < N) :
    ∃ (H : AHeap) (M id : Nat), (∀ j, j < N → H j = h j) ∧ N ≤ id ∧ id < M ∧ ∀ (b : Bool) (h' : AHeap) (nx' : Nat), Y l [.slice (some (id, 0)) 0 true] H M = some (.bool b, h', nx') → callP Try.prog keepT f Y 29 [.yld l, .ptr (some (kb, 0)), .ptr (some (nb, 0))] h N = some (.tuple [], h', nx') := by
  obtain ⟨f, rfl⟩ : ∃ m, f = m + 3 := ⟨f - 3, by omega⟩
  have hc : AV.cells (.yld l) = [.yld l] := rfl
  have hm : madeA [AV.int .i64 0] (Int.toNat 0 * 1) = [] := by simp [madeA]
  obtain ⟨h1, hh1⟩ : ∃ h1, h1 = AHeap.put (AHeap.put h N (some ⟨[.yld l], 1, true⟩)) (N + 2) (some ⟨[], 1, true⟩) := ⟨_, rfl⟩
  obtain ⟨h2, hh2⟩ : ∃ h2, h2 = (h1.put (N + 3) (some ⟨[.slice (some (N + 2, 0)) 0 true], 1, true⟩)).put (N + 5) (some ⟨[.fn 30 [] [.ptr (some (N + 3, 0)), .ptr (some (kb, 0)), .ptr (some (N, 0)), .ptr (some (nb, 0)), .ptr (some (N + 5, 0))]], 1, true⟩) := ⟨_, rfl⟩
  have hi : ∀ i, i < N → h2 i = h i := fun i hi => by rw [hh2, put_ne (by omega), put_ne (by omega), hh1, put_ne (by omega), put_ne (by omega)]
  have e5 : h2 (N + 5) = some ⟨[.fn 30 [] [.ptr (some (N + 3, 0)), .ptr (some (kb, 0)), .ptr (some (N, 0)), .ptr (some (nb, 0)), .ptr (some (N + 5, 0))]], 1, true⟩ := by rw [hh2, put_same]
  have e3 : h2 (N + 3) = some ⟨[.slice (some (N + 2, 0)) 0 true], 1, true⟩ := by rw [hh2, put_ne (by omega), put_same]
  have e0 : h2 N = some ⟨[.yld l], 1, true⟩ := by rw [hh2, put_ne (by omega), put_ne (by omega), hh1, put_ne (by omega), put_same]
  refine ⟨h2.put (N + 10 + 10 + 3) (some ⟨[], 1, true⟩), N + 10 + 10 + 7, N + 10 + 10 + 3, fun j hj => by rw [put_ne (by omega), hi j hj], by omega, by omega, fun b h' nx' hY => ?_⟩
  have e36 : callP Try.prog keepT (f + 1) Y 21 [.slice (some (N + 2, 0)) 0 true] h2 (N + 10 + 10) = some (.slice (some (N + 10 + 10 + 3, 0)) 0 true, h2.put (N + 10 + 10 + 3) (some ⟨[], 1, true⟩), N + 10 + 10 + 7) := by
    rw [F21_eq, if_neg (by simp)]
    have : srcS (h2.put (N + 10 + 10 + 3) (some ⟨[], 1, true⟩)) (some (N + 2, 0)) 0 1 = some (0, [], []) := by simp [srcS]
    dsimp only
    rw [this, some_bind]
    simp [appD]
  rw [F29_eq, if_pos (by simp [AV.cells, allOne, AV.one])]
  dsimp only [Option.bind_some]
  rw [hc, ld_at ((put_ne (by omega)).trans hkb) (v := .int .i64 0) rfl]
  simp only [mst_]
  rw [if_pos (by simp), hm]
  rw [← hh1, st_to (put_same h1 (N + 3) _) rfl (by simp) (cs' := [.slice (some (N + 2, 0)) 0 true]) (by simp), put_put]
  rw [st_to (put_same _ (N + 5) _) rfl (by simp) (cs' := [.fn 30 [] [.ptr (some (N + 3, 0)), .ptr (some (kb, 0)), .ptr (some (N, 0)), .ptr (some (nb, 0)), .ptr (some (N + 5, 0))]]) (by simp), put_put, ← hh2]
  rw [ld_at e5 (v := .fn 30 [] _) rfl, asCal_fn]
  simp only [mst_]
  rw [callC_fn, nil_app]
  simp only [List.singleton_append]
  rw [F30_eq]
  dsimp only [Option.bind_some]
  rw [ld_at e3 rfl]
  simp only [mst_]
  rw [ld_at ((hi kb lk).trans hkb) rfl]
  simp only [mst_]
  rw [if_pos (by simp), ld_at e0 rfl, ld_at e3 rfl]
  simp only [mst_]
  rw [e36]
  simp only [mst_]
  rw [asCal_yld]
  simp only [mst_]
  rw [callC_yld]
  simp only [List.nil_append, List.append_nil]
  rw [hY]
  simp only [mst_]
  rw [ifKept_pos (by
    refine ⟨fun z hz => ?_, trivial⟩
    simp only [List.mem_singleton] at hz; subst hz
    exact put_ne (by omega))]
  rfl

/-- What is lost is made up for at the first try. -/
theorem gather_now {k : Nat} (hk : 5900 ≤ k) {d p a m n : Nat} (hd : 2 ≤ d) (hd' : d ≤ 8) (hp : 1 ≤ p) (hp' : p ≤ 3) (hpd : p < d) (ha : a ≤ 65536) (hm : 1 ≤ m) (hm' : m ≤ 4000) (hn : n = (m + 127) / 128) {v : Nat → List Nat} {P : Nat → Tri} {lost : Nat → Bool} {xa : Option (Nat × Nat)} (xc : Bool) {s0 s1 s2 s3 : Int} {h : AHeap} {nx : Nat}
    (sp : Sl h nx xa (colN d p n) 2 (prows P lost (colN d p n)).flatten) (cl : ColsL h nx (colN d p n) (bw d p n) v lost P) (hc : cnt lost (colN d p n) ≤ p)
    (hsum : ∀ us, UsOk d p n (lostL lost (colN d p n)) us → sA (tryB d p n v lost (lostL lost (colN d p n)) us) = s0 ∧ sB (tryB d p n v lost (lostL lost (colN d p n)) us) = s1 ∧ sC (tryB d p n v lost (lostL lost (colN d p n)) us) = s2 ∧ sD (tryB d p n v lost (lostL lost (colN d p n)) us) = s3) :
    ∃ us da ya yc h' nx', UsOk d p n (lostL lost (colN d p n)) us ∧ callP Try.prog keepT (k + 1) Y0 12 [.int .i64 (d : Int), .int .i64 (p : Int), .int .i64 (a : Int), .int .i64 (m : Int), .slice xa (colN d p n) xc, .agg [.int .i64 s0, .int .i64 s1, .int .i64 s2, .int .i64 s3]] h nx = some (.tuple [.slice da m true, .slice ya 0 yc, .int .i64 0], h', nx') ∧ Ext h nx h' nx' ∧ Sl h' nx' da m 1 (ints .u8 (nints ((tryB d p n v lost (lostL lost (colN d p n)) us).take m))) := by
  have hn1 : 1 ≤ n ∧ n ≤ 32 := by omega
  have g := geo d p n hd' hp' (by omega) hd hp hpd (by omega)
  have gp := g.pN
  have g8 := g.N8
  obtain ⟨f', sa, sc, lv, kv, la, ka, lc, kc, h1, n1, e1, x1, S⟩ := gather_scan (k := k) (by omega) hd hd' hp hp' hpd ha hm hm' hn xc (s0 := s0) (s1 := s1) (s2 := s2) (s3 := s3) sp (fun k hk hl => (cl.c k hk hl).1)
  have y1 := x1.1
  have lv1 := S.lv1
  have kv1 := S.kv1
  have lv0 := S.lv0
  have kl8 := kept_le lost (colN d p n)
  obtain ⟨k, rfl⟩ : ∃ m, k = m + 1 := ⟨k - 1, by omega⟩
  obtain ⟨c, hcc⟩ : ∃ c, c = callP Try.prog keepT (k + 1) := ⟨_, rfl⟩
  rw [e1, F12_L1_eq, if_neg (by simp)]
  simp only [mst_]
  rw [ld_at S.bl rfl]
  simp only [mst_]
  rw [if_neg (by simp; omega), F12_L2_eq]
  simp only [mst_]
  rw [ld_at S.bl rfl]
  simp only [mst_]
  rw [show wrapA .i64 ((p : Int) - ((cnt lost (colN d p n) : Nat) : Int)) = ((p - cnt lost (colN d p n) : Nat) : Int) from by rw [wA (by omega) (by omega)]; omega, if_pos (by simp)]
  rw [ld_at S.bk rfl]
  simp only [mst_]
  rw [if_pos (by simp), F12_J3_eq]
  simp only [mst_]
  rw [ld_at S.bk rfl]
  simp only [mst_]
  rw [F19_eq]
  simp only [mst_]
  rw [asFn_fn]
  simp only [mst_]
  simp only [List.nil_append, List.singleton_append]
  obtain ⟨rec, hrec⟩ : ∃ rec, rec = n1 + 6 + 12 + 4 + 5 := ⟨_, rfl⟩
  rw [← hrec]
  obtain ⟨h2, hh2⟩ : ∃ h2, h2 = ((h1.put (n1 + 6 + 12 + 4) (some ⟨[.int .i64 (((kept lost (colN d p n)).length : Nat) : Int)], 1, true⟩)).put (n1 + 6 + 12 + 4 + 1) (some ⟨[.int .i64 0], 1, true⟩)).put rec (some ⟨[], LB, true⟩) := ⟨_, rfl⟩
  rw [← hh2]
  have k2 : ∀ j, j < n1 → h2 j = h1 j := fun j hj => by rw [hh2, put_ne (by omega), put_ne (by omega), put_ne (by omega)]
  have r2 : h2 rec = some ⟨[], LB, true⟩ := by rw [hh2, put_same]
  obtain ⟨H, M, id, hH, id0, id1, hE⟩ := each0 (f := k + 1) (by omega) (l := rec) (N := rec + 1) (kb := n1 + 6 + 12 + 4 + 1) (nb := n1 + 6 + 12 + 4) (n := (kept lost (colN d p n)).length) (h := h2) (Y := YX rec (fun a6 h7 c8 => if Nat.beq a6.length 1 = true then ((asSl (a6.getD 0 .bad)).bind fun s9 => F12_R4 (callP Try.prog keepT (k + 1)) Y0 (k + 1) k rec (some (nx, 0)) (some (nx + 1, 0)) (some (nx + 2, 0)) (some (nx + 3, 0)) (some (nx + 4, 0)) (some (nx + 5, 0)) (some (nx + 14, 0)) (some (lv, 0)) (some (kv, 0)) s9.1 s9.2.1 s9.2.2 h7 c8) else none) Y0) (by rw [hh2, put_ne (by omega), put_same]) (by rw [hh2, put_ne (by omega), put_ne (by omega), put_same]) (by omega) (by omega)
  have kH : ∀ j, j < n1 → H j = h1 j := fun j hj => by rw [hH j (by omega), k2 j hj]
  have xH : Ext h1 n1 H n1 := ⟨Nat.le_refl _, kH⟩
  obtain ⟨us, hus, htry⟩ := try_spec (k := k + 1) (by omega) (k + 1) k rec (by omega) g hp hp' hn1.2 hm (by omega) (v := v) true (S.keep kH) ((sp.ext x1).ext xH) ((cl.ext x1).ext xH) (nx := M) (by omega) (q := []) (ql := 0) rfl (fun x hx => by cases hx) List.nodup_nil (by omega) (by omega) (by omega) (by rw [hH rec (by omega), r2]) (ya := some (id, 0)) (.inl rfl) (fun _ _ _ => .inl rfl)
  have hnil : lostL lost (colN d p n) ++ pickK (kept lost (colN d p n)) [] = lostL lost (colN d p n) := by simp [pickK]
  rw [hnil] at hus htry
  have hsm := hsum us hus
  obtain ⟨_, da, h3, n3, e3, l3, r3, k3, b33, b34, b35, s3', _, dl⟩ := htry.resolve_right fun z => z.1 hsm
  have hY := hE false h3 n3 (by
    unfold YX
    rw [if_pos rfl]
    simp only [List.length_singleton]
    rw [if_pos (by rfl)]
    simp only [mst_]
    exact e3)
  rw [hY, some_bind]
  dsimp only
  rw [r3, some_bind]
  dsimp only
  rw [if_neg (by decide), if_pos (by decide)]
  have pr : ∀ j, j ≠ rec → (h3.put rec none) j = h3 j := fun j hj => put_ne hj
  rw [ld_at ((pr _ (by omega)).trans b33) rfl]
  simp only [mst_]
  rw [ld_at ((pr _ (by omega)).trans b34) rfl]
  simp only [mst_]
  rw [ld_at ((pr _ (by omega)).trans b35) rfl]
  simp only [mst_]
  refine ⟨us, da, some (id, 0), true, h3.put rec none, n3, hus, rfl, ⟨by omega, fun j hj => by rw [pr j (by omega), k3 j hj, kH j (by omega), x1.2 j hj]⟩, ?_⟩
  refine s3'.fr (D := fun j => j = rec) (fun _ pp hpp z => ?_) ⟨Nat.le_refl _, fun j _ hne => pr j hne⟩
  have := dl pp hpp
  omega

end Go.Proofs.Ytalfcokiooaliaa.T
