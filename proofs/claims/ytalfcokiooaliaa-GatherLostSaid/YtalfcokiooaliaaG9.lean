import Derived.Test.YtalfcokiooaliaaG8
set_option linter.unusedVariables false
set_option linter.unusedSimpArgs false
namespace Go.Proofs.Ytalfcokiooaliaa.T
open Go Go.RowKit Go.Proofs

/-! ### the sum of bytes; laid -/
def sumOfL (l : List Nat) : B.Sm := B.Sm.zero.fold (B.wordsOf (nints l))
def sA (l : List Nat) : Int := wrapA .i64 (sumOfL l).a
def sB (l : List Nat) : Int := wrapA .i64 (sumOfL l).b
def sC (l : List Nat) : Int := wrapA .i64 (sumOfL l).c
def sD (l : List Nat) : Int := wrapA .i64 (sumOfL l).d
theorem of_spec {f : Nat} {l : List Nat} {m : Nat} (hl : l.length = 4 * m) (hf : m + 20 ≤ f) (sl : Small l) {a : Option (Nat × Nat)} (c : Bool) {h : AHeap} {nx T : Nat} (hT : l.length = T) (s : Sl h nx a T 1 (ints .u8 (nints l))) :
    ∃ h' nx', callP Try.prog keepT f Y0 14 [.slice a T c] h nx = some (.tuple [.agg [.int .i64 (sA l), .int .i64 (sB l), .int .i64 (sC l), .int .i64 (sD l)], .int .i64 0], h', nx') ∧ Ext h nx h' nx' := by
  subst hT
  have := B.ofb_spec (k := f) (nints l) m (by rw [nints_len]; exact hl) hf (fun x hx => by
    obtain ⟨y, hy, rfl⟩ := List.mem_map.1 hx
    have := sl y hy
    omega) c (h := h) (nx := nx) (a := a) (by rw [nints_len]; exact s)
  rw [nints_len] at this
  exact this

abbrev PRow (P : Nat → Tri) : Nat → List AV → Prop := fun k r => r = [AV.bool false, tcell (P k)]
theorem laid_loop (call : YldF → CallF) (lf : Nat) {P : Nat → Tri} {N : Nat} (hN : N ≤ 256) (X9 X13 : Option (Nat × Nat)) {xa : Option (Nat × Nat)} (xc : Bool) {h0 : AHeap} {n0 : Nat} (s : Sl h0 n0 xa N 1 (tcells P N)) (m : Nat) :
    ∀ (f i : Nat) (oa : Option (Nat × Nat)) (oc : Bool) (h : AHeap) (nx : Nat), i + m = N → m < f → Ext h0 n0 h nx → OwnRows (PRow P) h nx oa 2 (List.range i) → (∀ j, ownOf oa j → n0 ≤ j) →
    ∃ (f' : Nat) (oa' : Option (Nat × Nat)) (oc' : Bool) (h' : AHeap) (nx' : Nat), F10_L2 call Y0 lf f X9 xa N xc X13 oa i oc (i : Int) h nx = F10_L2 call Y0 lf (f' + 1) X9 xa N xc X13 oa' N oc' (N : Int) h' nx' ∧ Ext h0 n0 h' nx' ∧ OwnRows (PRow P) h' nx' oa' 2 (List.range N) ∧ (∀ j, ownOf oa' j → n0 ≤ j) := by
  induction m with
  | zero =>
    intro f i oa oc h nx e hf x o lo
    obtain ⟨f, rfl⟩ : ∃ m, f = m + 1 := ⟨f - 1, by omega⟩
    obtain rfl : i = N := by omega
    exact ⟨f, oa, oc, h, nx, rfl, x, o, lo⟩
  | succ m ih =>
    intro f i oa oc h nx e hf x o lo
    obtain ⟨f, rfl⟩ : ∃ m, f = m + 1 := ⟨f - 1, by omega⟩
    have hi : i < N := by omega
    have y := x.1
    obtain ⟨E, s1, s2, s3, s4, s5, s6, s7, s8, _⟩ := o.pushE x lo oc (bytes := 32) (id := nx + 10) (id2 := nx + 11) (x := i) (r := [AV.bool false, tcell (P i)]) rfl rfl (growOk_of (by rw [List.length_range]; omega) (by omega)) (by omega) (by omega)
    rw [List.length_range] at s2 s4
    rw [F10_L2_eq, if_pos (by simpa using hi), (s.ext x).read0 (by omega) (by omega) (by omega) (v := tcell (P i)) (by rw [Int.toNat_natCast, Nat.mul_one]; exact tcells_get hi)]
    unfold tcell at s1 s2 ⊢
    simp only [mst_]
    rw [s1, some_bind, s2, some_bind, s4, wsucc (by omega)]
    refine ih f (i + 1) E.a E.c _ (nx + 16) (by omega) (by omega) (s7.le (by omega)) ?_ (fun j z => by have := s8 j z; omega)
    rw [List.range_succ]
    exact s5.go (D := fun _ => False) ⟨by omega, fun _ _ _ => rfl⟩ (fun _ _ q => q) (fun _ _ q => q)

theorem laid_spec {f : Nat} (hf : 5500 ≤ f) {d p a m n : Nat} (hd : 2 ≤ d) (hd' : d ≤ 8) (hp : 1 ≤ p) (hp' : p ≤ 3) (hpd : p < d) (ha : a ≤ 65536) (hm : 1 ≤ m) (hm' : m ≤ 4000) (hn : n = (m + 127) / 128) {D : List Nat} (hD : D.length = m) (sD' : Small D) {da : Option (Nat × Nat)} (dc : Bool) {h : AHeap} {nx : Nat} (sl : Sl h nx da m 1 (ints .u8 (nints D))) :
    ∃ P xa xc h' nx', callP Try.prog keepT f Y0 10 [.int .i64 (d : Int), .int .i64 (p : Int), .int .i64 (a : Int), .slice da m dc] h nx = some (.tuple [.slice xa (colN d p n) xc, .agg [.int .i64 (sA (padW (n * 128) D)), .int .i64 (sB (padW (n * 128) D)), .int .i64 (sC (padW (n * 128) D)), .int .i64 (sD (padW (n * 128) D))], .bool true], h', nx') ∧ Ext h nx h' nx' ∧ OwnRows (PRow P) h' nx' xa 2 (List.range (colN d p n)) ∧ ColsAt h' nx' (colN d p n) (bw d p n) (colV (padW (n * 128) D) d p n) P ∧ (∀ k, k < colN d p n → Av (fun j => ownOf xa j ∨ j < nx) (P k).1 (bw d p n k)) ∧ (∀ j, ownOf xa j → nx ≤ j) := by
  obtain ⟨f, rfl⟩ : ∃ m, f = m + 1 := ⟨f - 1, by omega⟩
  have hn1 : 1 ≤ n ∧ n ≤ 32 := by omega
  have g := geo d p n hd' hp' (by omega) hd hp hpd (by omega)
  have gp := g.pN
  have g8 := g.N8
  have hu : upTo m = n * 128 := by unfold upTo; rw [hn]
  have x0 : Ext h nx (h.put (nx + 1) (some ⟨[.int .i64 0, .int .i64 0, .int .i64 0, .int .i64 0], 4, true⟩)) (nx + 13) := ⟨by omega, fun j hj => put_ne (by omega)⟩
  obtain ⟨P, ob, oc, h2, n2, e2, x2, s2, c2, a2⟩ := lay_spec (f := f) (by omega) hd hd' hp hp' hpd ha hm hm' hn hD sD' dc (sl.ext x0)
  have y2 := x2.1
  have x02 : Ext h nx h2 (n2 + 9) := (x0.trans x2).le (by omega)
  obtain ⟨pa, pc, h3, n3, e3, x3, o3⟩ := padded_spec (f := f) (by omega) hD (by omega) dc (sl.ext x02)
  rw [hu] at e3 o3
  have y3 := x3.1
  have hPl : (padW (n * 128) D).length = n * 128 := padW_len (by omega)
  obtain ⟨h4, n4, e4, x4⟩ := of_spec (f := f) (l := padW (n * 128) D) (m := n * 32) (by omega) (by omega) (padW_small sD') pc hPl o3.sl
  have y4 := x4.1
  rw [F10_eq]
  dsimp only
  rw [e2]
  simp only [mst_]
  rw [e3]
  simp only [mst_]
  rw [e4]
  simp only [mst_]
  rw [st_all (put_same _ _ _) (by simp) (by simp) (by simp [allOne, AV.one]), if_neg (by decide), if_neg (by decide), if_neg (by simp; omega), F10_J1_eq]
  obtain ⟨h5, hh5⟩ : ∃ h5, h5 = AHeap.put (AHeap.put h4 (n2 + 6) (some ⟨[.int .i64 0, .int .i64 0, .int .i64 0, .int .i64 0], 4, true⟩)) (n2 + 6) (some ⟨[.int .i64 (sA (padW (n * 128) D)), .int .i64 (sB (padW (n * 128) D)), .int .i64 (sC (padW (n * 128) D)), .int .i64 (sD (padW (n * 128) D))], 4, true⟩) := ⟨_, rfl⟩
  rw [← hh5]
  have x5 : Ext h2 n2 h5 (n4 + 12 + 2) := ⟨by omega, fun j hj => by rw [hh5, put_ne (by omega), put_ne (by omega), x4.2 j (by omega), x3.2 j (by omega)]⟩
  have b5 : h5 (n2 + 6) = some ⟨[.int .i64 (sA (padW (n * 128) D)), .int .i64 (sB (padW (n * 128) D)), .int .i64 (sC (padW (n * 128) D)), .int .i64 (sD (padW (n * 128) D))], 4, true⟩ := by rw [hh5, put_same]
  obtain ⟨f', xa, xc, h6, n6, e6, x6, o6, l6⟩ := laid_loop (callP Try.prog keepT f) f (N := colN d p n) (by omega) (some (nx + 1, 0)) (some (n2 + 6, 0)) oc (s2.ext x5) (colN d p n) f 0 none false h5 (n4 + 12 + 2) (by omega) (by omega) (Ext.refl _ _) (OwnRows.nil _ _ _ _) (fun j ⟨_, z⟩ => by cases z)
  rw [show ((0 : Nat) : Int) = 0 from rfl] at e6
  rw [e6, F10_L2_eq, if_neg (by simp)]
  have y6 := x6.1
  have b6 : h6 (n2 + 6) = some ⟨[.int .i64 (sA (padW (n * 128) D)), .int .i64 (sB (padW (n * 128) D)), .int .i64 (sC (padW (n * 128) D)), .int .i64 (sD (padW (n * 128) D))], 4, true⟩ := by rw [x6.2 _ (by omega), b5]
  have b1 : h6 (nx + 1) = some ⟨[.int .i64 0, .int .i64 0, .int .i64 0, .int .i64 0], 4, true⟩ := by rw [x6.2 _ (by omega), x5.2 _ (by omega), x2.2 _ (by omega), put_same]
  simp only [mst_]
  rw [ldr_all b6 (by simp)]
  simp only [mst_]
  rw [st_all b1 (by simp) (by simp) (by simp [allOne, AV.one])]
  rw [ldr_all (put_same _ _ _) (by simp)]
  simp only [mst_]
  have fr : Frm (fun j => j = nx + 1) h6 n6 (h6.put (nx + 1) (some ⟨[.int .i64 (sA (padW (n * 128) D)), .int .i64 (sB (padW (n * 128) D)), .int .i64 (sC (padW (n * 128) D)), .int .i64 (sD (padW (n * 128) D))], 4, true⟩)) (n6 + 9) := ⟨by omega, fun j hj hne => put_ne hne⟩
  refine ⟨P, xa, xc, _, n6 + 9, rfl, ⟨by omega, fun j hj => ?_⟩, o6.go fr (fun j z zz => by have := l6 j z; omega) (fun _ _ q => q), fun k hk => ⟨(c2 k hk).1, (c2 k hk).2.1, ?_⟩, fun k hk => ?_, fun j z => by have := l6 j z; omega⟩
  · rw [put_ne (by omega), x6.2 j (by omega), x5.2 j (by omega), x02.2 j hj]
  · exact (((c2 k hk).2.2.ext x5).ext x6).fr (D := fun j => j = nx + 1) ((a2 k hk).less fun j z => by omega) fr
  · refine Av.go (a2 k hk) (c2 k hk).2.2 fun i hi z => ?_
    rcases z with z | z
    · have := l6 i z; omega
    · omega

end Go.Proofs.Ytalfcokiooaliaa.T
