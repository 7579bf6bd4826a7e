import Derived.Test.YtalfcokiooaliaaG3
set_option linter.unusedVariables false
set_option linter.unusedSimpArgs false
namespace Go.Proofs.Ytalfcokiooaliaa.T
open Go Go.RowKit Go.Proofs

/-! ### par.Rebuild of any columns -/
def nD (g : Nat → Bool) (Da : Nat → List Nat) (w k : Nat) : List Nat := if g k then List.replicate w 0 else Da k

theorem gb_first {k0 : Nat} (hk0 : 5 ≤ k0) (lf : Nat) {g : Nat → Bool} {Da : Nat → List Nat} {w n N : Nat} (hN : N ≤ 256) (hw : w ≤ 4096) {a ga : Option (Nat × Nat)} (c gc oc : Bool) {h0 : AHeap} {lo : Nat} (t : Torn h0 lo a N g w (Da)) (sg : Sl h0 lo ga N 1 (bls g N)) {ob : Nat} (b0 : lo ≤ ob) (m : Nat) :
    ∀ (f i : Nat) (q : Nat → Rw) (ha : Option (Nat × Nat)) (hc : Bool) (h : AHeap) (nx : Nat), i + m = N → m < f → Ext h0 lo h nx → Bld h lo nx ob w N (okA g n i) q (nD g Da w) (ownOf ha) → OwnRows NRow h nx ha 1 (hol g n i) → (∀ i, ownOf ha i → lo ≤ i) → (∀ k, k < i → k < n → g k = true → ∃ tid, (q k).1 = some (tid, 0)) →
    ∃ (q' : Nat → Rw) (ha' : Option (Nat × Nat)) (hc' : Bool) (h' : AHeap) (nx' : Nat), F44_L1 (callP Try.prog keepT k0) Y0 lf f a N c (n : Int) ga N gc (w : Int) (some (ob, 0)) N oc ha (hol g n i).length hc none 0 false a N c ((N : Nat) : Int) (i : Int) h nx =
        F44_L2 (callP Try.prog keepT k0) Y0 lf lf a N c (n : Int) ga N gc (some (ob, 0)) N oc ha' (hol g n N).length hc' none 0 false (n : Int) h' nx' ∧ Ext h0 lo h' nx' ∧ Bld h' lo nx' ob w N (okA g n N) q' (nD g Da w) (ownOf ha') ∧ OwnRows NRow h' nx' ha' 1 (hol g n N) ∧ (∀ i, ownOf ha' i → lo ≤ i) ∧ (∀ k, k < N → k < n → g k = true → ∃ tid, (q' k).1 = some (tid, 0)) := by
  obtain ⟨P, s, tk⟩ := t
  induction m with
  | zero =>
    intro f i q ha hc h nx e hf x B o lh hq
    obtain ⟨f, rfl⟩ : ∃ m, f = m + 1 := ⟨f - 1, by omega⟩
    obtain rfl : i = N := by omega
    rw [F44_L1_eq, if_neg (by simp)]
    exact ⟨q, ha, hc, h, nx + 3, rfl, x.le (by omega), B.ext ⟨by omega, fun _ _ => rfl⟩ (fun _ _ q => q), o.go (D := fun _ => False) ⟨by omega, fun _ _ _ => rfl⟩ (fun _ _ q => q) (fun _ _ q => q), lh, hq⟩
  | succ m ih =>
    intro f i q ha hc h nx e hf x B o lh hq
    obtain ⟨f, rfl⟩ : ∃ m, f = m + 1 := ⟨f - 1, by omega⟩
    have hi : i < N := by omega
    have y := x.1
    have hlt := o.lt
    have hll := hol_le g n i
    rw [F44_L1_eq, if_pos (by simpa using hi), (s.ext x).readP hi]
    simp only [mst_]
    rw [(sg.ext x).readB hi]
    simp only [mst_]
    by_cases hg : g i = true
    · rw [hg, if_not_true']
      by_cases hin : i < n
      · -- a hole
        rw [if_pos (by simpa using hin)]
        have hs := hol_succ g n i
        rw [if_pos ⟨hg, hin⟩] at hs
        obtain ⟨E, s1, s2, s3, s4, s5, s6, s7, s8, s9⟩ := o.pushE x lh hc (bytes := 8) (id := nx + 20) (id2 := nx + 21) (x := i) (r := [AV.int .i64 (i : Int)]) rfl rfl (growOk_of (by omega) (by omega)) (by omega) (by omega)
        rw [s1, some_bind, s2, some_bind, s4]
        obtain ⟨Ea, hEa⟩ : ∃ z, z = E.a := ⟨_, rfl⟩
        rw [← hEa] at s3 s5 s8
        generalize hH : (h.put (nx + 20) (some ⟨[AV.int .i64 (i : Int)], 1, true⟩)).puts E.sets = H at s5 s6 s7
        have aa : AllApart [([nx + 23], E.reads)] := ⟨fun z hz hz2 => by
          have hz : z = nx + 23 := by simpa using hz
          rcases s9 z hz2 with q | q
          · have := hlt z q; omega
          · omega, trivial⟩
        rw [if_pos (by simp; omega)]
        have hz : madeA [AV.int .u8 0] (Int.toNat ((w : Nat) : Int) * 1) = ints .u8 (nints (List.replicate w 0)) := by
          rw [Int.toNat_natCast, Nat.mul_one, made1]; simp [ints, nints]
        rw [hz, show Int.toNat ((w : Nat) : Int) = w from Int.toNat_natCast w, show (((w : Nat) : Int) == ((w : Nat) : Int)) = true from by simp]
        have fH : Frm (ownOf ha) h nx (H.put (nx + 23) (some ⟨ints .u8 (nints (List.replicate w 0)), 1, true⟩)) (nx + 24) := s6.put (.inr (by omega)) (by omega)
        have B1 : Bld (H.put (nx + 23) (some ⟨ints .u8 (nints (List.replicate w 0)), 1, true⟩)) lo (nx + 24) ob w N (okA g n i) q (nD g Da w) (ownOf Ea) := B.go fH (fun _ _ q => q) fun j hj z => by have := s8 j z; omega
        have hD : nD g Da w i = List.replicate w 0 := by unfold nD; rw [if_pos hg]
        have ob1 := B.b1
        obtain ⟨p1, p2⟩ := B1.set hi (r := (some (nx + 23, 0), true)) (by rw [hD]; exact ⟨by simp, .inr ⟨nx + 23, rfl, by omega, by omega, put_same _ _ _⟩⟩) (fun id z => by
          obtain rfl : nx + 23 = id := by simpa using z
          refine ⟨by omega, fun z => by have := s8 _ z; omega, fun j hj hok hne z => ?_⟩
          have := ((B.row j hj hok).in z).2; omega)
        rw [if_pos ⟨by omega, by omega⟩]
        have p1 := fun {R : Type} (K : ABlk → Option R) => p1 K
        dsimp only at p1
        rw [p1, ifApart_pos aa, wsucc (by omega), show (hol g n i).length + 1 = (hol g n (i + 1)).length from by rw [hs]; simp, ← hEa]
        refine ih f (i + 1) (fun j => if j = i then (some (nx + 23, 0), true) else q j) Ea E.c _ (nx + 29) (by omega) (by omega) ⟨by omega, fun j hj => ?_⟩ ?_ ?_ (fun j z => by have := s8 j z; omega) ?_
        · rw [put_ne (by omega), put_ne (by omega), s7.2 j hj]
        · exact (p2.ext (nx' := nx + 29) ⟨by omega, fun _ _ => rfl⟩ (fun _ _ q => q)).congr (fun j _ => okA_set (.inr hin) j) (fun _ _ _ => rfl)
        · rw [hs]
          exact s5.go (D := fun i => i = ob ∨ nx + 22 ≤ i) ⟨by omega, fun j hj hne => by rw [put_ne (fun z => hne (.inl z)), put_ne (by omega)]⟩ (fun j z zz => by have := s8 j z; omega) (fun _ _ q => q)
        · intro k hk hkn hgk
          by_cases ek : k = i
          · subst ek; exact ⟨nx + 23, by simp⟩
          · simp only [if_neg ek]; exact hq k (by omega) hkn hgk
      · -- a parity column that is lost
        rw [if_neg (by simpa using hin), wsucc (by omega)]
        have hs := hol_succ g n i
        rw [if_neg (by omega)] at hs
        rw [← hs]
        exact ih f (i + 1) q ha hc h (nx + 18) (by omega) (by omega) (x.le (by omega)) ((B.ext (nx' := nx + 18) ⟨by omega, fun _ _ => rfl⟩ (fun _ _ q => q)).congr (fun j _ => okA_skip hg (by omega) j) (fun _ _ _ => rfl)) (by rw [hs]; exact o.go (D := fun _ => False) ⟨by omega, fun _ _ _ => rfl⟩ (fun _ _ q => q) (fun _ _ q => q)) lh (fun k hk hkn hgk => hq k (by omega) hkn hgk)
    · -- a column that is left
      have hg : g i = false := by simpa using hg
      rw [hg, if_not_false']
      obtain ⟨k1, k2, k3⟩ := tk i hi hg
      rw [k1]
      obtain ⟨r, h1, n1, e1, r1, x1⟩ := bclone_spec (f := k0) (by omega) k2 (by omega) (P i).2.2 ((k3.ext x).ext (nx' := nx + 18) ⟨by omega, fun _ _ => rfl⟩)
      have y1 := x1.1
      have hs := hol_succ g n i
      rw [if_neg (by simp [hg])] at hs
      have ob1 := B.b1
      have B1 := B.ext (nx' := n1) ⟨by omega, fun j hj => x1.2 j (by omega)⟩ (X' := ownOf ha) (fun _ _ q => q)
      have hD : nD g Da w i = Da i := by unfold nD; rw [if_neg (by simp [hg])]
      obtain ⟨p1, p2⟩ := B1.set hi (r := r) (by
        rw [hD]
        exact ⟨r1.1, r1.2.imp (fun z => z) fun ⟨id, z1, z2, z3, z4⟩ => ⟨id, z1, by omega, z3, z4⟩⟩) (fun id z => by
        have := (r1.in z).1
        refine ⟨by omega, fun z => by have := hlt _ z; omega, fun j hj hok hne z => ?_⟩
        have := ((B.row j hj hok).in z).2; omega)
      rw [e1]
      simp only [mst_]
      rw [if_pos ⟨by omega, by omega⟩, p1, wsucc (by omega), ← hs]
      refine ih f (i + 1) (fun j => if j = i then r else q j) ha hc _ (n1 + 2) (by omega) (by omega) ⟨by omega, fun j hj => ?_⟩ ?_ ?_ lh ?_
      · rw [put_ne (by omega), x1.2 j (by omega), x.2 j hj]
      · exact (p2.ext (nx' := n1 + 2) ⟨by omega, fun _ _ => rfl⟩ (fun _ _ q => q)).congr (fun j _ => okA_set (.inl hg) j) (fun _ _ _ => rfl)
      · rw [hs]
        exact o.go (D := fun i => i = ob) ⟨by omega, fun j hj hne => by rw [put_ne hne, x1.2 j (by omega)]⟩ (fun j z zz => by subst zz; exact B.bx z) (fun _ _ q => q)
      · intro k hk hkn hgk
        have ek : k ≠ i := fun z => by subst z; rw [hg] at hgk; cases hgk
        simp only [if_neg ek]; exact hq k (by omega) hkn hgk


theorem gb_used {k0 : Nat} (lf : Nat) {g : Nat → Bool} {Dn : Nat → List Nat} {w n p N t : Nat} (hN : N = n + p) (hN2 : N ≤ 256) {a ga : Option (Nat × Nat)} (c gc oc : Bool) {h0 : AHeap} {lo : Nat} (sg : Sl h0 lo ga N 1 (bls g N)) {ob : Nat} {q : Nat → Rw} {hs : List Nat} (hh : hs.length = t) (enough : t ≤ (surv g n p).length) {ha : Option (Nat × Nat)} (hc : Bool) (m : Nat) :
    ∀ (f i : Nat) (ua : Option (Nat × Nat)) (uc : Bool) (h : AHeap) (nx : Nat), i + m = p → m < f → (surv g n i).length ≤ t → Ext h0 lo h nx → Bld h lo nx ob w N (okA g n N) q Dn (hu ha ua) → OwnRows NRow h nx ha 1 hs → OwnRows NRow h nx ua 1 (surv g n i) → (∀ i, ownOf ha i → lo ≤ i) → (∀ i, ownOf ua i → lo ≤ i) → (∀ i, ownOf ua i → ¬ ownOf ha i) →
    ∃ (j : Nat) (ua' : Option (Nat × Nat)) (uc' : Bool) (h' : AHeap) (nx' : Nat), F44_L2 (callP Try.prog keepT k0) Y0 lf f a N c (n : Int) ga N gc (some (ob, 0)) N oc ha t hc ua (surv g n i).length uc ((n + i : Nat) : Int) h nx =
        F44_J4 (callP Try.prog keepT k0) Y0 lf a N c (n : Int) ga N gc (some (ob, 0)) N oc ha t hc ua' t uc' h' nx' ∧ j ≤ p ∧ (surv g n j).length = t ∧ Ext h0 lo h' nx' ∧ Bld h' lo nx' ob w N (okA g n N) q Dn (hu ha ua') ∧ OwnRows NRow h' nx' ha 1 hs ∧ OwnRows NRow h' nx' ua' 1 (surv g n j) := by
  induction m with
  | zero =>
    intro f i ua uc h nx e hf hle x B oh ou lh lu dj
    obtain ⟨f, rfl⟩ : ∃ m, f = m + 1 := ⟨f - 1, by omega⟩
    obtain rfl : i = p := by omega
    rw [F44_L2_eq, if_neg (by simp; omega)]
    have : (surv g n i).length = t := by omega
    rw [this]
    exact ⟨i, ua, uc, h, nx + 11, rfl, by omega, this, x.le (by omega), B.ext ⟨by omega, fun _ _ => rfl⟩ (fun _ _ q => q), oh.go (D := fun _ => False) ⟨by omega, fun _ _ _ => rfl⟩ (fun _ _ q => q) (fun _ _ q => q), ou.go (D := fun _ => False) ⟨by omega, fun _ _ _ => rfl⟩ (fun _ _ q => q) (fun _ _ q => q)⟩
  | succ m ih =>
    intro f i ua uc h nx e hf hle x B oh ou lh lu dj
    obtain ⟨f, rfl⟩ : ∃ m, f = m + 1 := ⟨f - 1, by omega⟩
    have y := x.1
    rw [F44_L2_eq, if_pos (by simp; omega)]
    by_cases ht : (surv g n i).length = t
    · rw [ht, if_neg (by simp)]
      exact ⟨i, ua, uc, h, nx + 11, rfl, by omega, ht, x.le (by omega), B.ext ⟨by omega, fun _ _ => rfl⟩ (fun _ _ q => q), oh.go (D := fun _ => False) ⟨by omega, fun _ _ _ => rfl⟩ (fun _ _ q => q) (fun _ _ q => q), ou.go (D := fun _ => False) ⟨by omega, fun _ _ _ => rfl⟩ (fun _ _ q => q) (fun _ _ q => q)⟩
    · rw [if_pos (by simp; omega), F44_J3_eq, ((sg.ext x).ext (nx' := nx + 11) ⟨by omega, fun _ _ => rfl⟩).readB (by omega)]
      simp only [mst_]
      have ss := surv_succ g n i
      by_cases hg : g (n + i) = true
      · rw [if_pos hg] at ss
        rw [hg, if_not_true', wsucc (by omega), Nat.add_assoc, ← ss]
        exact ih f (i + 1) ua uc h (nx + 11 + 8) (by omega) (by omega) (by rw [ss]; exact hle) (x.le (by omega)) (B.ext ⟨by omega, fun _ _ => rfl⟩ (fun _ _ q => q)) (oh.go (D := fun _ => False) ⟨by omega, fun _ _ _ => rfl⟩ (fun _ _ q => q) (fun _ _ q => q)) (by rw [ss]; exact ou.go (D := fun _ => False) ⟨by omega, fun _ _ _ => rfl⟩ (fun _ _ q => q) (fun _ _ q => q)) lh lu dj
      · have hg : g (n + i) = false := by simpa using hg
        rw [if_neg (by simp [hg])] at ss
        have sl := surv_le g n i
        obtain ⟨E, s1, s2, s3, s4, s5, s6, s7, s8, _⟩ := ou.pushE x lu uc (bytes := 8) (id := nx + 11 + 9) (id2 := nx + 11 + 10) (x := i) (r := [AV.int .i64 (i : Int)]) rfl rfl (growOk_of (by omega) (by omega)) (by omega) (by omega)
        rw [hg, if_not_false', show wrapA .i64 (((n + i : Nat) : Int) - (n : Int)) = (i : Int) from by rw [wA (by omega) (by omega)]; omega]
        rw [s1, some_bind, s2, some_bind, s4, wsucc (by omega), Nat.add_assoc, show (surv g n i).length + 1 = (surv g n (i + 1)).length from by rw [ss]; simp]
        have hlt := oh.lt
        have f6 : Frm (ownOf ua) h nx ((h.put (nx + 11 + 9) (some ⟨[AV.int .i64 (i : Int)], 1, true⟩)).puts E.sets) (nx + 11 + 15) := s6.le (by omega)
        refine ih f (i + 1) E.a E.c _ (nx + 11 + 15) (by omega) (by omega) (by rw [ss]; simp; omega) (s7.le (by omega)) (B.go f6 (fun _ _ z => .inr z) fun j hj z => ?_) (oh.go f6 (fun j z zz => dj j zz z) (fun _ _ q => q)) ?_ lh (fun j z => by have := s8 j z; omega) (fun j z zz => by have := s8 j z; have := hlt j zz; omega)
        · rcases z with z | z
          · exact .inl z
          · have := s8 j z; omega
        · rw [ss]
          exact s5.go (D := fun _ => False) ⟨by omega, fun _ _ _ => rfl⟩ (fun _ _ q => q) (fun _ _ q => q)


theorem gb_last {k0 : Nat} (hk0 : 5010 ≤ k0) (lf : Nat) {g : Nat → Bool} {M : List (List Nat)} {w n p N : Nat} (hn : M.length = n) (hn1 : 1 ≤ n) (hN : N = n + p) (hp : p ≤ 16) (hN2 : N ≤ 256) (hw : w ≤ 4096) (sM : SmallM M) {D : Nat → List Nat} (hD0 : (List.range n).map D = M) (hD1 : ∀ i, i < p → g (n + i) = true → D (n + i) = enc M i w) {a ga : Option (Nat × Nat)} (c gc oc : Bool) {h0 : AHeap} {lo : Nat} (sg : Sl h0 lo ga N 1 (bls g N)) {ob : Nat} (m : Nat) :
    ∀ (f i : Nat) (q : Nat → Rw) (h : AHeap) (nx : Nat), i + m = p → m < f → Ext h0 lo h nx → Bld h lo nx ob w N (okB g n (n + i)) q D (fun _ => False) →
    ∃ (q' : Nat → Rw) (h' : AHeap) (nx' : Nat), F44_L5 (callP Try.prog keepT k0) Y0 lf f a N c (n : Int) ga N gc (some (ob, 0)) N oc ((n + i : Nat) : Int) h nx = some (.slice (some (ob, 0)) N oc, h', nx') ∧ Ext h0 lo h' nx' ∧ Bld h' lo nx' ob w N (okB g n N) q' D (fun _ => False) := by
  induction m with
  | zero =>
    intro f i q h nx e hf x B
    obtain ⟨f, rfl⟩ : ∃ m, f = m + 1 := ⟨f - 1, by omega⟩
    obtain rfl : i = p := by omega
    rw [F44_L5_eq, if_neg (by simp; omega)]
    rw [← hN] at B
    exact ⟨q, h, nx + 6, rfl, x.le (by omega), B.ext ⟨by omega, fun _ _ => rfl⟩ (fun _ _ q => q)⟩
  | succ m ih =>
    intro f i q h nx e hf x B
    obtain ⟨f, rfl⟩ : ∃ m, f = m + 1 := ⟨f - 1, by omega⟩
    have y := x.1
    rw [F44_L5_eq, if_pos (by simp; omega), (sg.ext x).readB (by omega)]
    simp only [mst_]
    by_cases hg : g (n + i) = true
    · rw [if_pos hg, show wrapA .i64 (((n + i : Nat) : Int) - (n : Int)) = (i : Int) from by rw [wA (by omega) (by omega)]; omega, wsucc (by omega), Nat.add_assoc]
      obtain ⟨cp, cc, c1, c2⟩ := B.cut (m := n) (by omega) (fun k hk => (okB_iff _ _ _ _).2 (.inl hk)) oc
      rw [hD0] at c2
      obtain ⟨id, h1, n1, e1, i0, i1, ib, x1⟩ := enc_spec (f := k0) (by omega) i (by omega) (M := M) (w := w) (by omega) (by omega) hw sM cc (c2.ext (nx' := nx + 19) ⟨by omega, fun _ _ => rfl⟩)
      rw [hn] at e1
      have y1 := x1.1
      have ob1 := B.b1
      have b0 := B.b0
      have B1 := B.ext (nx' := n1) ⟨by omega, fun j hj => x1.2 j (by omega)⟩ (X' := fun _ => False) (fun _ _ q => q)
      have hD : D (n + i) = enc M i w := hD1 i (by omega) hg
      obtain ⟨p1, p2⟩ := B1.set (k := n + i) (by omega) (r := (some (id, 0), true)) (by
        rw [hD]
        exact ⟨enc_len _ _ _, .inr ⟨id, rfl, by omega, by omega, ib⟩⟩) (fun id' z => by
        obtain rfl : id = id' := by simpa using z
        refine ⟨by omega, fun z => z, fun j hj hok hne z => ?_⟩
        have := ((B.row j hj hok).in z).2; omega)
      have p1 := fun {R : Type} (K : ABlk → Option R) => p1 K
      dsimp only at p1
      rw [c1, some_bind]
      dsimp only
      rw [e1]
      simp only [mst_]
      rw [if_pos ⟨by omega, by omega⟩, p1]
      refine ih f (i + 1) (fun j => if j = n + i then (some (id, 0), true) else q j) _ (n1 + 3) (by omega) (by omega) ⟨by omega, fun j hj => ?_⟩ ?_
      · rw [put_ne (by omega), x1.2 j (by omega), x.2 j hj]
      · exact (p2.ext (nx' := n1 + 3) ⟨by omega, fun _ _ => rfl⟩ (fun _ _ q => q)).congr (fun j _ => okB_set j) (fun _ _ _ => rfl)
    · have hg : g (n + i) = false := by simpa using hg
      rw [if_neg (by simp [hg]), wsucc (by omega), Nat.add_assoc]
      exact ih f (i + 1) q h (nx + 11) (by omega) (by omega) (x.le (by omega)) ((B.ext (nx' := nx + 11) ⟨by omega, fun _ _ => rfl⟩ (fun _ _ q => q)).congr (fun j _ => okB_skip hg j) (fun _ _ _ => rfl))



end Go.Proofs.Ytalfcokiooaliaa.T
