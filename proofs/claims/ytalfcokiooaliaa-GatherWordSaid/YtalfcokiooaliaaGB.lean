import Derived.Test.YtalfcokiooaliaaGA
set_option linter.unusedVariables false
set_option linter.unusedSimpArgs false
namespace Go.Proofs.Ytalfcokiooaliaa.T
open Go Go.RowKit Go.Proofs

/-! ### the sum of bytes; laid -/
def sumOfL (l : List Nat) : B.Sm := B.Sm.zero.fold (B.wordsOf (nints l))
def sA (l : List Nat) : Int := wrapA .i64 (sumOfL l).a
def sB (l : List Nat) : Int := wrapA .i64 (sumOfL l).b
def sC (l : List Nat) : Int := wrapA .i64 (sumOfL l).c
def sD (l : List Nat) : Int := wrapA .i64 (sumOfL l).d
theorem of_spec {f : Nat} {l : List Nat} {m : Nat} (hl : l.length = 4 * m) (hf : m + 20 ≤ f) (sl : Small l) {a : Option (Nat × Nat)} (c : Bool) {h : AHeap} {nx T : Nat} (hT : l.length = T) (s : Sl h nx a T 1 (ints .u8 (nints l))) :
    ∃ h' nx', callP Try.prog keepT f Y0 14 [.slice a T c] h nx = some (.tuple [.agg [.int .i64 (sA l), .int .i64 (sB l), .int .i64 (sC l), .int .i64 (sD l)], .int .i64 0], h', nx') ∧ Ext h nx h' nx' := by
  subst hT
  have := B.ofb_spec (k := f) (nints l) m (by rw [nints_len]; exact hl) hf (fun x hx => by
    obtain ⟨y, hy, rfl⟩ := List.mem_map.1 hx
    have := sl y hy
    omega) c (h := h) (nx := nx) (a := a) (by rw [nints_len]; exact s)
  rw [nints_len] at this
  exact this

abbrev PRow (P : Nat → Tri) : Nat → List AV → Prop := fun k r => r = [AV.bool false, tcell (P k)]
theorem laid_loop (call : YldF → CallF) (lf : Nat) {P : Nat → Tri} {N : Nat} (hN : N ≤ 256) (X9 X13 : Option (Nat × Nat)) {xa : Option (Nat × Nat)} (xc : Bool) {h0 : AHeap} {n0 : Nat} (s : Sl h0 n0 xa N 1 (tcells P N)) (m : Nat) :
    ∀ (f i : Nat) (oa : Option (Nat × Nat)) (oc : Bool) (h : AHeap) (nx : Nat), i + m = N → m < f → Ext h0 n0 h nx → OwnRows (PRow P) h nx oa 2 (List.range i) → (∀ j, ownOf oa j → n0 ≤ j) →
    ∃ (f' : Nat) (oa' : Option (Nat × Nat)) (oc' : Bool) (h' : AHeap) (nx' : Nat), F10_L2 call Y0 lf f X9 xa N xc X13 oa i oc (i : Int) h nx = F10_L2 call Y0 lf (f' + 1) X9 xa N xc X13 oa' N oc' (N : Int) h' nx' ∧ Ext h0 n0 h' nx' ∧ OwnRows (PRow P) h' nx' oa' 2 (List.range N) ∧ (∀ j, ownOf oa' j → n0 ≤ j) := by
  induction m with
  | zero =>
    intro f i oa oc h nx e hf x o lo
    obtain ⟨f, rfl⟩ : ∃ m, f = m + 1 := ⟨f - 1, by omega⟩
    obtain rfl : i = N := by omega
    exact ⟨f, oa, oc, h, nx, rfl, x, o, lo⟩
  | succ m ih =>
    intro f i oa oc h nx e hf x o lo
    obtain ⟨f, rfl⟩ : ∃ m, f = m + 1 := ⟨f - 1, by omega⟩
    have hi : i < N := by omega
    have y := x.1
    obtain ⟨E, s1, s2, s3, s4, s5, s6, s7, s8, _⟩ := o.pushE x lo oc (bytes := 32) (id := nx + 10) (id2 := nx + 11) (x := i) (r := [AV.bool false, tcell (P i)]) rfl rfl (growOk_of (by rw [List.length_range]; omega) (by omega)) (by omega) (by omega)
    rw [List.length_range] at s2 s4
    rw [F10_L2_eq, if_pos (by simpa using hi), (s.ext x).read0 (by omega) (by omega) (by omega) (v := tcell (P i)) (by rw [Int.toNat_natCast, Nat.mul_one]; exact tcells_get hi)]
    unfold tcell at s1 s2 ⊢
    simp only [mst_]
    rw [s1, some_bind, s2, some_bind, s4, wsucc (by omega)]
    refine ih f (i + 1) E.a E.c _ (nx + 16) (by omega) (by omega) (s7.le (by omega)) ?_ (fun j z => by have := s8 j z; omega)
    rw [List.range_succ]
    exact s5.go (D := fun _ => False) ⟨by omega, fun _ _ _ => rfl⟩ (fun _ _ q => q) (fun _ _ q => q)

theorem laid_spec {f : Nat} (hf : 5500 ≤ f) {d p a m n : Nat} (hd : 2 ≤ d) (hd' : d ≤ 8) (hp : 1 ≤ p) (hp' : p ≤ 3) (hpd : p < d) (ha : a ≤ 65536) (hm : 1 ≤ m) (hm' : m ≤ 4000) (hn : n = (m + 127) / 128) {D : List Nat} (hD : D.length = m) (sD' : Small D) {da : Option (Nat × Nat)} (dc : Bool) {h : AHeap} {nx : Nat} (sl : Sl h nx da m 1 (ints .u8 (nints D))) :
    ∃ P xa xc h' nx', callP Try.prog keepT f Y0 10 [.int .i64 (d : Int), .int .i64 (p : Int), .int .i64 (a : Int), .slice da m dc] h nx = some (.tuple [.slice xa (colN d p n) xc, .agg [.int .i64 (sA (padW (n * 128) D)), .int .i64 (sB (padW (n * 128) D)), .int .i64 (sC (padW (n * 128) D)), .int .i64 (sD (padW (n * 128) D))], .bool true], h', nx') ∧ Ext h nx h' nx' ∧ OwnRows (PRow P) h' nx' xa 2 (List.range (colN d p n)) ∧ ColsAt h' nx' (colN d p n) (bw d p n) (colV (padW (n * 128) D) d p n) P ∧ (∀ k, k < colN d p n → Av (fun j => ownOf xa j ∨ j < nx) (P k).1 (bw d p n k)) ∧ (∀ j, ownOf xa j → nx ≤ j) := by
  obtain ⟨f, rfl⟩ : ∃ m, f = m + 1 := ⟨f - 1, by omega⟩
  have hn1 : 1 ≤ n ∧ n ≤ 32 := by omega
  have g := geo d p n hd' hp' (by omega) hd hp hpd (by omega)
  have gp := g.pN
  have g8 := g.N8
  have hu : upTo m = n * 128 := by unfold upTo; rw [hn]
  have x0 : Ext h nx (h.put (nx + 1) (some ⟨[.int .i64 0, .int .i64 0, .int .i64 0, .int .i64 0], 4, true⟩)) (nx + 13) := ⟨by omega, fun j hj => put_ne (by omega)⟩
  obtain ⟨P, ob, oc, h2, n2, e2, x2, s2, c2, a2⟩ := lay_spec (f := f) (by omega) hd hd' hp hp' hpd ha hm hm' hn hD sD' dc (sl.ext x0)
  have y2 := x2.1
  have x02 : Ext h nx h2 (n2 + 9) := (x0.trans x2).le (by omega)
  obtain ⟨pa, pc, h3, n3, e3, x3, o3⟩ := padded_spec (f := f) (by omega) hD (by omega) dc (sl.ext x02)
  rw [hu] at e3 o3
  have y3 := x3.1
  have hPl : (padW (n * 128) D).length = n * 128 := padW_len (by omega)
  obtain ⟨h4, n4, e4, x4⟩ := of_spec (f := f) (l := padW (n * 128) D) (m := n * 32) (by omega) (by omega) (padW_small sD') pc hPl o3.sl
  have y4 := x4.1
  rw [F10_eq]
  dsimp only
  rw [e2]
  simp only [mst_]
  rw [e3]
  simp only [mst_]
  rw [e4]
  simp only [mst_]
  rw [st_all (put_same _ _ _) (by simp) (by simp) (by simp [allOne, AV.one]), if_neg (by decide), if_neg (by decide), if_neg (by simp; omega), F10_J1_eq]
  obtain ⟨h5, hh5⟩ : ∃ h5, h5 = AHeap.put (AHeap.put h4 (n2 + 6) (some ⟨[.int .i64 0, .int .i64 0, .int .i64 0, .int .i64 0], 4, true⟩)) (n2 + 6) (some ⟨[.int .i64 (sA (padW (n * 128) D)), .int .i64 (sB (padW (n * 128) D)), .int .i64 (sC (padW (n * 128) D)), .int .i64 (sD (padW (n * 128) D))], 4, true⟩) := ⟨_, rfl⟩
  rw [← hh5]
  have x5 : Ext h2 n2 h5 (n4 + 12 + 2) := ⟨by omega, fun j hj => by rw [hh5, put_ne (by omega), put_ne (by omega), x4.2 j (by omega), x3.2 j (by omega)]⟩
  have b5 : h5 (n2 + 6) = some ⟨[.int .i64 (sA (padW (n * 128) D)), .int .i64 (sB (padW (n * 128) D)), .int .i64 (sC (padW (n * 128) D)), .int .i64 (sD (padW (n * 128) D))], 4, true⟩ := by rw [hh5, put_same]
  obtain ⟨f', xa, xc, h6, n6, e6, x6, o6, l6⟩ := laid_loop (callP Try.prog keepT f) f (N := colN d p n) (by omega) (some (nx + 1, 0)) (some (n2 + 6, 0)) oc (s2.ext x5) (colN d p n) f 0 none false h5 (n4 + 12 + 2) (by omega) (by omega) (Ext.refl _ _) (OwnRows.nil _ _ _ _) (fun j ⟨_, z⟩ => by cases z)
  rw [show ((0 : Nat) : Int) = 0 from rfl] at e6
  rw [e6, F10_L2_eq, if_neg (by simp)]
  have y6 := x6.1
  have b6 : h6 (n2 + 6) = some ⟨[.int .i64 (sA (padW (n * 128) D)), .int .i64 (sB (padW (n * 128) D)), .int .i64 (sC (padW (n * 128) D)), .int .i64 (sD (padW (n * 128) D))], 4, true⟩ := by rw [x6.2 _ (by omega), b5]
  have b1 : h6 (nx + 1) = some ⟨[.int .i64 0, .int .i64 0, .int .i64 0, .int .i64 0], 4, true⟩ := by rw [x6.2 _ (by omega), x5.2 _ (by omega), x2.2 _ (by omega), put_same]
  simp only [mst_]
  rw [ldr_all b6 (by simp)]
  simp only [mst_]
  rw [st_all b1 (by simp) (by simp) (by simp [allOne, AV.one])]
  rw [ldr_all (put_same _ _ _) (by simp)]
  simp only [mst_]
  have fr : Frm (fun j => j = nx + 1) h6 n6 (h6.put (nx + 1) (some ⟨[.int .i64 (sA (padW (n * 128) D)), .int .i64 (sB (padW (n * 128) D)), .int .i64 (sC (padW (n * 128) D)), .int .i64 (sD (padW (n * 128) D))], 4, true⟩)) (n6 + 9) := ⟨by omega, fun j hj hne => put_ne hne⟩
  refine ⟨P, xa, xc, _, n6 + 9, rfl, ⟨by omega, fun j hj => ?_⟩, o6.go fr (fun j z zz => by have := l6 j z; omega) (fun _ _ q => q), fun k hk => ⟨(c2 k hk).1, (c2 k hk).2.1, ?_⟩, fun k hk => ?_, fun j z => by have := l6 j z; omega⟩
  · rw [put_ne (by omega), x6.2 j (by omega), x5.2 j (by omega), x02.2 j hj]
  · exact (((c2 k hk).2.2.ext x5).ext x6).fr (D := fun j => j = nx + 1) ((a2 k hk).less fun j z => by omega) fr
  · refine Av.go (a2 k hk) (c2 k hk).2.2 fun i hi z => ?_
    rcases z with z | z
    · have := l6 i z; omega
    · omega

end Go.Proofs.Ytalfcokiooaliaa.T

namespace Go.Proofs.Ytalfcokiooaliaa.T
open Go Go.RowKit Go.Proofs

/-! ### pieces -/
def prow (P : Nat → Tri) (lost : Nat → Bool) (k : Nat) : List AV := if lost k then [AV.bool true, AV.slice none 0 false] else [AV.bool false, tcell (P k)]
def prows (P : Nat → Tri) (lost : Nat → Bool) (N : Nat) : List (List AV) := (List.range N).map (prow P lost)
theorem prow_len (P : Nat → Tri) (lost : Nat → Bool) (k : Nat) : (prow P lost k).length = 2 := by unfold prow; split <;> rfl
theorem prows_row (P : Nat → Tri) (lost : Nat → Bool) (N : Nat) : ∀ r ∈ prows P lost N, r.length = 2 := by
  intro r hr
  obtain ⟨k, _, rfl⟩ := List.mem_map.1 hr
  exact prow_len _ _ _
theorem prows_len (P : Nat → Tri) (lost : Nat → Bool) (N : Nat) : (prows P lost N).length = N := by simp [prows]
theorem prows_get {P : Nat → Tri} {lost : Nat → Bool} {N k : Nat} (hk : k < N) : (prows P lost N)[k]? = some (prow P lost k) := by simp [prows, List.getElem?_range hk]
theorem All2_map {α β : Type} {F : α → β} : ∀ {l : List α} {rows : List β}, All2 (fun k r => r = F k) l rows → rows = l.map F
  | [], rows, e => by simp only [All2] at e; exact e
  | x :: l, rows, e => by
    obtain ⟨r, rs, rfl, rfl, b⟩ := e
    rw [All2_map b]; rfl
theorem PRow.blk {P : Nat → Tri} {h : AHeap} {nx N : Nat} {xa : Option (Nat × Nat)} (o : OwnRows (PRow P) h nx xa 2 (List.range N)) (hN : 1 ≤ N) : ∃ pid, xa = some (pid, 0) ∧ pid < nx ∧ h pid = some ⟨(prows P (fun _ => false) N).flatten, 2, true⟩ := by
  obtain ⟨rows, q, len, s⟩ := o
  have e := All2_map q
  rcases s with ⟨_, z⟩ | ⟨b, z1, z2, z3⟩
  · have := congrArg List.length z
    rw [List.length_range] at this; simp at this; omega
  · refine ⟨b, z1, z2, ?_⟩
    rw [z3, e]
    have : prows P (fun _ => false) N = (List.range N).map fun k => [AV.bool false, tcell (P k)] := List.map_congr_left fun k _ => by simp [prow]
    rw [this]
theorem Sl.pcs {P : Nat → Tri} {lost : Nat → Bool} {h : AHeap} {nx N pid : Nat} (hb : h pid = some ⟨(prows P lost N).flatten, 2, true⟩) (hl : pid < nx) : Sl h nx (some (pid, 0)) N 2 (prows P lost N).flatten :=
  Sl.ofBlk hb (by rw [flat_len (prows_row _ _ _), prows_len]) hl

end Go.Proofs.Ytalfcokiooaliaa.T

namespace Go.Proofs.Ytalfcokiooaliaa.T
open Go Go.RowKit Go.Proofs

/-! ### stripe.Gather: what is lost -/
def lostL (lost : Nat → Bool) (c : Nat) : List Nat := (List.range c).filter lost
theorem lostL_succ (lost : Nat → Bool) (c : Nat) : lostL lost (c + 1) = if lost c then lostL lost c ++ [c] else lostL lost c := by
  unfold lostL
  rw [List.range_succ, List.filter_append]
  by_cases h : lost c = true
  · simp [h]
  · simp [h]
theorem lostL_len (lost : Nat → Bool) (c : Nat) : (lostL lost c).length = cnt lost c := rfl
theorem scan_loop {k0 : Nat} (hk0 : 2 ≤ k0) (lf : Nat) {d p a n : Nat} (g : Geo d p n) (x1 : Int) (X9 X10 X11 X12 X13 X14 : Option (Nat × Nat)) {bb lv kv : Nat} {sa : Option (Nat × Nat)} (sc : Bool) {PP WW : Int} {P : Nat → Tri} {lost : Nat → Bool} {xa : Option (Nat × Nat)} (xc : Bool) {h0 : AHeap} {n0 : Nat}
    (hb : h0 bb = some ⟨[.slice sa (colN d p n) sc, .int .i64 PP, .int .i64 WW], 3, true⟩) (hbl : bb < n0) (shp : Shp h0 n0 sa d p a n) (sp : Sl h0 n0 xa (colN d p n) 2 (prows P lost (colN d p n)).flatten) (sz : ∀ k, k < colN d p n → lost k = false → (P k).2.1 = bw d p n k) (hlv : n0 ≤ lv) (hkv : n0 ≤ kv) (hne : lv ≠ kv) (m : Nat) :
    ∀ (f i : Nat) (la ka : Option (Nat × Nat)) (lc kc : Bool) (h : AHeap) (nx : Nat), i + m = colN d p n → m < f → lv < nx → kv < nx → Ext h0 n0 h nx →
      h lv = some ⟨[.slice la (cnt lost i) lc], 1, true⟩ → h kv = some ⟨[.slice ka (kept lost i).length kc], 1, true⟩ →
      OwnRows NRow h nx la 1 (lostL lost i) → OwnRows NRow h nx ka 1 (kept lost i) → (∀ j, ownOf la j → n0 ≤ j ∧ j ≠ lv ∧ j ≠ kv) → (∀ j, ownOf ka j → n0 ≤ j ∧ j ≠ lv ∧ j ≠ kv) → (∀ j, ownOf la j → ¬ ownOf ka j) →
    ∃ (f' : Nat) (la' ka' : Option (Nat × Nat)) (lc' kc' : Bool) (h' : AHeap) (nx' : Nat),
      F12_L1 (callP Try.prog keepT k0) Y0 lf f x1 X9 X10 X11 X12 X13 X14 (some (bb, 0)) (some (lv, 0)) (some (kv, 0)) xa (colN d p n) xc ((colN d p n : Nat) : Int) (i : Int) h nx =
        F12_L1 (callP Try.prog keepT k0) Y0 lf (f' + 1) x1 X9 X10 X11 X12 X13 X14 (some (bb, 0)) (some (lv, 0)) (some (kv, 0)) xa (colN d p n) xc ((colN d p n : Nat) : Int) ((colN d p n : Nat) : Int) h' nx' ∧ lv < nx' ∧ kv < nx' ∧ Ext h0 n0 h' nx' ∧
      h' lv = some ⟨[.slice la' (cnt lost (colN d p n)) lc'], 1, true⟩ ∧ h' kv = some ⟨[.slice ka' (kept lost (colN d p n)).length kc'], 1, true⟩ ∧
      OwnRows NRow h' nx' la' 1 (lostL lost (colN d p n)) ∧ OwnRows NRow h' nx' ka' 1 (kept lost (colN d p n)) ∧ (∀ j, ownOf la' j → n0 ≤ j ∧ j ≠ lv ∧ j ≠ kv) ∧ (∀ j, ownOf ka' j → n0 ≤ j ∧ j ≠ lv ∧ j ≠ kv) ∧ (∀ j, ownOf la' j → ¬ ownOf ka' j) := by
  have g8 := g.N8
  induction m with
  | zero =>
    intro f i la ka lc kc h nx e hf hl1 hk1 x bl bk ol ok l1 l2 dj
    obtain ⟨f, rfl⟩ : ∃ m, f = m + 1 := ⟨f - 1, by omega⟩
    obtain rfl : i = colN d p n := by omega
    exact ⟨f, la, ka, lc, kc, h, nx, rfl, hl1, hk1, x, bl, bk, ol, ok, l1, l2, dj⟩
  | succ m ih =>
    intro f i la ka lc kc h nx e hf hl1 hk1 x bl bk ol ok l1 l2 dj
    obtain ⟨f, rfl⟩ : ∃ m, f = m + 1 := ⟨f - 1, by omega⟩
    have y := x.1
    have hi : i < colN d p n := by omega
    have lt1 := ol.lt
    have lt2 := ok.lt
    have hcl := cnt_le lost i
    have hkl := kept_le lost i
    have hrow : ((prows P lost (colN d p n)).flatten.drop (i * 2)).take 2 = prow P lost i := flat_drop (prows_row _ _ _) (prows_get hi)
    obtain ⟨h8, hh8⟩ : ∃ h8, h8 = AHeap.put (AHeap.put h (nx + 4) (some ⟨[.bool false, .slice none 0 false], 2, true⟩)) (nx + 4) (some ⟨prow P lost i, 2, true⟩) := ⟨_, rfl⟩
    have x8 : Ext h nx h8 (nx + 5) := ⟨by omega, fun j hj => by rw [hh8, put_ne (by omega), put_ne (by omega)]⟩
    have b8 : h8 (nx + 4) = some ⟨prow P lost i, 2, true⟩ := by rw [hh8, put_same]
    rw [F12_L1_eq, if_pos (by simpa using hi), (sp.ext x).readR hi, hrow]
    have bl8 := (x8.2 lv hl1).trans bl
    have bk8 := (x8.2 kv hk1).trans bk
    have ol8 : OwnRows NRow h8 (nx + 11) la 1 (lostL lost i) := ol.go (D := fun _ => False) ⟨by omega, fun j hj _ => x8.2 j hj⟩ (fun _ _ q => q) (fun _ _ q => q)
    have ok8 : OwnRows NRow h8 (nx + 11) ka 1 (kept lost i) := ok.go (D := fun _ => False) ⟨by omega, fun j hj _ => x8.2 j hj⟩ (fun _ _ q => q) (fun _ _ q => q)
    by_cases hg : lost i = true
    · have hp : prow P lost i = [AV.bool true, AV.slice none 0 false] := by unfold prow; rw [if_pos hg]
      rw [hp] at hh8 b8 ⊢
      simp only [mst_]
      rw [st_all (put_same _ _ _) (by simp) (by simp) (by simp [allOne, AV.one]), ← hh8, ld_at b8 rfl]
      simp only [mst_]
      rw [if_pos trivial, ld_at bl8 rfl]
      simp only [mst_]
      have lls := lostL_succ lost i
      rw [if_pos hg] at lls
      have cs := cnt_succ lost i
      rw [if_pos hg] at cs
      have ks := kept_succ lost i
      rw [if_pos hg] at ks
      obtain ⟨E, s1, s2, s3, s4, s5, s6, s7, _⟩ := ol8.pushF lc (bytes := 8) (id := nx + 11) (id2 := nx + 12) (x := i) (r := [AV.int .i64 (i : Int)]) rfl rfl (growOk_of (by rw [lostL_len]; omega) (by omega)) (by omega) (by omega)
      rw [lostL_len] at s2 s4
      rw [s1, some_bind, s2, some_bind]
      obtain ⟨Ea, hEa⟩ : ∃ z, z = E.a := ⟨_, rfl⟩
      rw [← hEa] at s3 s5 s7 ⊢
      generalize hH : (h8.put (nx + 11) (some ⟨[AV.int .i64 (i : Int)], 1, true⟩)).puts E.sets = H at s5 s6
      have blH : H lv = some ⟨[.slice la (cnt lost i) lc], 1, true⟩ := by rw [s6 lv (fun z => (l1 lv z).2.1 rfl) (by omega) (by omega), bl8]
      rw [st_to blH rfl (by simp) (cs' := [.slice Ea E.n E.c]) (by simp), s4, wsucc (by omega), ← cs]
      have bkH : H kv = some ⟨[.slice ka (kept lost (i + 1)).length kc], 1, true⟩ := by rw [ks, s6 kv (fun z => (l1 kv z).2.2 rfl) (by omega) (by omega), bk8]
      obtain ⟨H', hH'⟩ : ∃ H', H' = H.put lv (some ⟨[.slice Ea (cnt lost (i + 1)) E.c], 1, true⟩) := ⟨_, rfl⟩
      have pu : ∀ j, j ≠ lv → H' j = H j := fun j hj => by rw [hH', put_ne hj]
      rw [← hH']
      have q1 : Ext h0 n0 H' (nx + 16) := ⟨by omega, fun j hj => by
        rw [pu j (by omega), s6 j (fun z => by have := (l1 j z).1; omega) (by omega) (by omega), x8.2 j (by omega), x.2 j hj]⟩
      have q2 : H' lv = some ⟨[.slice Ea (cnt lost (i + 1)) E.c], 1, true⟩ := by rw [hH', put_same]
      have q3 : H' kv = some ⟨[.slice ka (kept lost (i + 1)).length kc], 1, true⟩ := by rw [pu kv hne.symm]; exact bkH
      have q4 : OwnRows NRow H' (nx + 16) Ea 1 (lostL lost (i + 1)) := by
        rw [lls]
        exact s5.go (D := fun j => j = lv) ⟨by omega, fun j hj hn => pu j hn⟩ (fun j z zz => by have := s7 j z; omega) (fun _ _ q => q)
      have q5 : OwnRows NRow H' (nx + 16) ka 1 (kept lost (i + 1)) := by
        rw [ks]
        exact ok8.go (D := fun j => j = lv ∨ ownOf la j ∨ nx + 11 ≤ j) ⟨by omega, fun j hj hn => by
          rw [pu j (fun z => hn (.inl z)), s6 j (fun z => hn (.inr (.inl z))) (by omega) (by omega)]⟩ (fun j z zz => by
          rcases zz with zz | zz | zz
          · exact (l2 j z).2.1 zz
          · exact dj j zz z
          · have := lt2 j z; omega) (fun _ _ q => q)
      exact ih f (i + 1) Ea ka E.c kc H' (nx + 16) (by omega) (by omega) (by omega) (by omega) q1 q2 q3 q4 q5 (fun j z => by have := s7 j z; omega) l2 (fun j z zz => by have := s7 j z; have := lt2 j zz; omega)
    · have hg : lost i = false := by simpa using hg
      have hp : prow P lost i = [AV.bool false, tcell (P i)] := by unfold prow; rw [if_neg (by simp [hg])]
      have hsz := sz i hi hg
      have hbh : h8 bb = some ⟨[.slice sa (colN d p n) sc, .int .i64 PP, .int .i64 WW], 3, true⟩ := by rw [x8.2 bb (by omega), x.2 bb hbl, hb]
      rw [hp] at hh8 b8 ⊢
      unfold tcell at hh8 b8 ⊢
      simp only [mst_]
      rw [st_all (put_same _ _ _) (by simp) (by simp) (by simp [allOne, AV.one]), ← hh8, ld_at b8 rfl]
      simp only [mst_]
      rw [ld_at b8 rfl]
      simp only [mst_]
      rw [ldr_all hbh (by simp)]
      simp only [mst_]
      rw [size_spec (f := k0) (by omega) g sc PP WW (shp.ext ((x.trans x8).le (show nx + 5 ≤ nx + 16 by omega))) hi]
      simp only [mst_]
      have ak : AllKept [(h8, h8.put (nx + 16) (some ⟨[.slice sa (colN d p n) sc, .int .i64 PP, .int .i64 WW], 3, true⟩), [nx + 4])] := by
        refine ⟨fun z hz => ?_, trivial⟩
        simp only [List.mem_singleton] at hz; subst hz; exact put_ne (by omega)
      obtain ⟨h9, hh9⟩ : ∃ h9, h9 = h8.put (nx + 16) (some ⟨[.slice sa (colN d p n) sc, .int .i64 PP, .int .i64 WW], 3, true⟩) := ⟨_, rfl⟩
      rw [ifKept_pos ak, hsz, if_neg (by rw [show bw d p n i = lenC d p n i * 128 from rfl]; simp), ← hh9]
      have x9 : Ext h8 (nx + 11) h9 (nx + 28) := ⟨by omega, fun j hj => by rw [hh9, put_ne (by omega)]⟩
      have bl9 := (x9.2 lv (by omega)).trans bl8
      have bk9 := (x9.2 kv (by omega)).trans bk8
      have ol9 : OwnRows NRow h9 (nx + 28) la 1 (lostL lost i) := ol8.go (x9.fr fun _ => False) (fun _ _ q => q) (fun _ _ q => q)
      have ok9 : OwnRows NRow h9 (nx + 28) ka 1 (kept lost i) := ok8.go (x9.fr fun _ => False) (fun _ _ q => q) (fun _ _ q => q)
      rw [ld_at bk9 rfl]
      simp only [mst_]
      have lls := lostL_succ lost i
      rw [if_neg (by simp [hg])] at lls
      have cs : cnt lost (i + 1) = cnt lost i := by rw [cnt_succ, if_neg (by simp [hg]), Nat.add_zero]
      have ks := kept_succ lost i
      rw [if_neg (by simp [hg])] at ks
      obtain ⟨E, s1, s2, s3, s4, s5, s6, s7, _⟩ := ok9.pushF kc (bytes := 8) (id := nx + 16 + 10 + 2) (id2 := nx + 16 + 10 + 3) (x := i) (r := [AV.int .i64 (i : Int)]) rfl rfl (growOk_of (by omega) (by omega)) (by omega) (by omega)
      rw [s1, some_bind, s2, some_bind]
      obtain ⟨Ea, hEa⟩ : ∃ z, z = E.a := ⟨_, rfl⟩
      rw [← hEa] at s3 s5 s7 ⊢
      generalize hH : (h9.put (nx + 16 + 10 + 2) (some ⟨[AV.int .i64 (i : Int)], 1, true⟩)).puts E.sets = H at s5 s6
      have bkH : H kv = some ⟨[.slice ka (kept lost i).length kc], 1, true⟩ := by rw [s6 kv (fun z => (l2 kv z).2.2 rfl) (by omega) (by omega), bk9]
      rw [st_to bkH rfl (by simp) (cs' := [.slice Ea E.n E.c]) (by simp), s4, wsucc (by omega), show (kept lost i).length + 1 = (kept lost (i + 1)).length from by rw [ks]; simp]
      have blH : H lv = some ⟨[.slice la (cnt lost (i + 1)) lc], 1, true⟩ := by rw [cs, s6 lv (fun z => (l2 lv z).2.1 rfl) (by omega) (by omega), bl9]
      refine ih f (i + 1) la Ea lc E.c _ (nx + 16 + 10 + 7) (by omega) (by omega) (by omega) (by omega) ⟨by omega, fun j hj => ?_⟩ (by rw [put_ne hne]; exact blH) (put_same _ _ _) ?_ ?_ l1 (fun j z => by have := s7 j z; omega) (fun j z zz => by have := s7 j zz; have := lt1 j z; omega)
      · rw [put_ne (by omega), s6 j (fun z => by have := (l2 j z).1; omega) (by omega) (by omega), x9.2 j (by omega), x8.2 j (by omega), x.2 j hj]
      · rw [lls]
        exact ol9.go (D := fun j => j = kv ∨ ownOf ka j ∨ nx + 28 ≤ j) ⟨by omega, fun j hj hn => by
          rw [put_ne (fun z => hn (.inl z)), s6 j (fun z => hn (.inr (.inl z))) (by omega) (by omega)]⟩ (fun j z zz => by
          rcases zz with zz | zz | zz
          · exact (l1 j z).2.2 zz
          · exact dj j z zz
          · have := lt1 j z; omega) (fun _ _ q => q)
      · rw [ks]
        exact s5.go (D := fun j => j = kv) ⟨by omega, fun j hj hn => put_ne hn⟩ (fun j z zz => by have := s7 j z; omega) (fun _ _ q => q)

end Go.Proofs.Ytalfcokiooaliaa.T

namespace Go.Proofs.Ytalfcokiooaliaa.T
open Go Go.RowKit Go.Proofs

/-- What stripe.Gather holds after it has seen the pieces. -/
structure Scan (h : AHeap) (nx0 nx : Nat) (d p a n : Nat) (lost : Nat → Bool) (m : Nat) (xa : Option (Nat × Nat)) (xc : Bool) (S : List AV) (sa : Option (Nat × Nat)) (sc : Bool) (lv kv : Nat) (la ka : Option (Nat × Nat)) (lc kc : Bool) : Prop where
  b0 : h nx0 = some ⟨[.int .i64 (m : Int)], 1, true⟩
  b1 : h (nx0 + 1) = some ⟨[.slice xa (colN d p n) xc], 1, true⟩
  b2 : h (nx0 + 2) = some ⟨S, 4, true⟩
  b3 : h (nx0 + 3) = some ⟨[.slice none 0 false], 1, true⟩
  b4 : h (nx0 + 4) = some ⟨[.slice none 0 false], 1, true⟩
  b5 : h (nx0 + 5) = some ⟨[.int .i64 0], 1, true⟩
  bb : h (nx0 + 14) = some ⟨[.slice sa (colN d p n) sc, .int .i64 (p : Int), .int .i64 ((bw d p n 0 : Nat) : Int)], 3, true⟩
  sh : Shp h nx sa d p a n
  sav : ∀ i o, sa = some (i, o) → nx0 + 15 ≤ i ∧ i ≠ lv ∧ i ≠ kv
  lv0 : nx0 + 15 ≤ lv
  kv0 : nx0 + 15 ≤ kv
  lk : lv ≠ kv
  lv1 : lv < nx
  kv1 : kv < nx
  bl : h lv = some ⟨[.slice la (cnt lost (colN d p n)) lc], 1, true⟩
  bk : h kv = some ⟨[.slice ka (kept lost (colN d p n)).length kc], 1, true⟩
  ol : OwnRows NRow h nx la 1 (lostL lost (colN d p n))
  ok : OwnRows NRow h nx ka 1 (kept lost (colN d p n))
  l1 : ∀ j, ownOf la j → nx0 + 15 ≤ j ∧ j ≠ lv ∧ j ≠ kv
  l2 : ∀ j, ownOf ka j → nx0 + 15 ≤ j ∧ j ≠ lv ∧ j ≠ kv
  dj : ∀ j, ownOf la j → ¬ ownOf ka j

theorem gather_scan {k : Nat} (hk : 30 ≤ k) {d p a m n : Nat} (hd : 2 ≤ d) (hd' : d ≤ 8) (hp : 1 ≤ p) (hp' : p ≤ 3) (hpd : p < d) (ha : a ≤ 65536) (hm : 1 ≤ m) (hm' : m ≤ 4000) (hn : n = (m + 127) / 128) {P : Nat → Tri} {lost : Nat → Bool} {xa : Option (Nat × Nat)} (xc : Bool) {s0 s1 s2 s3 : Int} {h : AHeap} {nx : Nat}
    (sp : Sl h nx xa (colN d p n) 2 (prows P lost (colN d p n)).flatten) (sz : ∀ k, k < colN d p n → lost k = false → (P k).2.1 = bw d p n k) :
    ∃ f' sa sc lv kv la ka lc kc h' nx', callP Try.prog keepT (k + 1) Y0 12 [.int .i64 (d : Int), .int .i64 (p : Int), .int .i64 (a : Int), .int .i64 (m : Int), .slice xa (colN d p n) xc, .agg [.int .i64 s0, .int .i64 s1, .int .i64 s2, .int .i64 s3]] h nx =
      F12_L1 (callP Try.prog keepT k) Y0 k (f' + 1) (p : Int) (some (nx, 0)) (some (nx + 1, 0)) (some (nx + 2, 0)) (some (nx + 3, 0)) (some (nx + 4, 0)) (some (nx + 5, 0)) (some (nx + 14, 0)) (some (lv, 0)) (some (kv, 0)) xa (colN d p n) xc ((colN d p n : Nat) : Int) ((colN d p n : Nat) : Int) h' nx' ∧ Ext h nx h' nx' ∧
      Scan h' nx nx' d p a n lost m xa xc [.int .i64 s0, .int .i64 s1, .int .i64 s2, .int .i64 s3] sa sc lv kv la ka lc kc := by
  have hn1 : 1 ≤ n ∧ n ≤ 32 := by omega
  have g := geo d p n hd' hp' (by omega) hd hp hpd (by omega)
  have g8 := g.N8
  obtain ⟨H6, hH6⟩ : ∃ H6, H6 = AHeap.put (AHeap.put (AHeap.put (AHeap.put (AHeap.put (AHeap.put h nx (some ⟨[.int .i64 (m : Int)], 1, true⟩)) (nx + 1) (some ⟨[.slice xa (colN d p n) xc], 1, true⟩)) (nx + 2) (some ⟨[.int .i64 s0, .int .i64 s1, .int .i64 s2, .int .i64 s3], 4, true⟩)) (nx + 3) (some ⟨[.slice none 0 false], 1, true⟩)) (nx + 4) (some ⟨[.slice none 0 false], 1, true⟩)) (nx + 5) (some ⟨[.int .i64 0], 1, true⟩) := ⟨_, rfl⟩
  have c0 : H6 nx = some ⟨[.int .i64 (m : Int)], 1, true⟩ := by rw [hH6, put_ne (by omega), put_ne (by omega), put_ne (by omega), put_ne (by omega), put_ne (by omega), put_same]
  have c1 : H6 (nx + 1) = some ⟨[.slice xa (colN d p n) xc], 1, true⟩ := by rw [hH6, put_ne (by omega), put_ne (by omega), put_ne (by omega), put_ne (by omega), put_same]
  have c2 : H6 (nx + 2) = some ⟨[.int .i64 s0, .int .i64 s1, .int .i64 s2, .int .i64 s3], 4, true⟩ := by rw [hH6, put_ne (by omega), put_ne (by omega), put_ne (by omega), put_same]
  have c3 : H6 (nx + 3) = some ⟨[.slice none 0 false], 1, true⟩ := by rw [hH6, put_ne (by omega), put_ne (by omega), put_same]
  have c4 : H6 (nx + 4) = some ⟨[.slice none 0 false], 1, true⟩ := by rw [hH6, put_ne (by omega), put_same]
  have c5 : H6 (nx + 5) = some ⟨[.int .i64 0], 1, true⟩ := by rw [hH6, put_same]
  have x6 : Ext h nx H6 (nx + 17) := ⟨by omega, fun j hj => by rw [hH6, put_ne (by omega), put_ne (by omega), put_ne (by omega), put_ne (by omega), put_ne (by omega), put_ne (by omega)]⟩
  obtain ⟨sa, sc, h1, n1, e1, sh1, x1, si, sie, si0, si1⟩ := shaped_spec (f := k) hk hd hd' hp hp' hpd ha hm (by omega) H6 (nx + 17)
  rw [← hn] at e1 sh1
  change callP _ _ _ _ _ _ _ _ = some (.tuple [.agg [.slice sa (colN d p n) sc, .int .i64 (p : Int), .int .i64 ((bw d p n 0 : Nat) : Int)], .int .i64 0], h1, n1) at e1
  have y1 := x1.1
  rw [F12_eq]
  dsimp only
  rw [← hH6, ld_at c0 rfl]
  simp only [mst_]
  rw [e1]
  simp only [mst_]
  rw [st_all (put_same _ _ _) (by simp) (by simp) (by simp [allOne, AV.one]), if_neg (by decide)]
  obtain ⟨H7, hH7⟩ : ∃ H7, H7 = AHeap.put (AHeap.put h1 (nx + 14) (some ⟨[.slice none 0 false, .int .i64 0, .int .i64 0], 3, true⟩)) (nx + 14) (some ⟨[.slice sa (colN d p n) sc, .int .i64 (p : Int), .int .i64 ((bw d p n 0 : Nat) : Int)], 3, true⟩) := ⟨_, rfl⟩
  have p7 : ∀ j, j ≠ nx + 14 → H7 j = h1 j := fun j hj => by rw [hH7, put_ne hj, put_ne hj]
  have cb : H7 (nx + 14) = some ⟨[.slice sa (colN d p n) sc, .int .i64 (p : Int), .int .i64 ((bw d p n 0 : Nat) : Int)], 3, true⟩ := by rw [hH7, put_same]
  have c1' : H7 (nx + 1) = some ⟨[.slice xa (colN d p n) xc], 1, true⟩ := by rw [p7 _ (by omega), x1.2 _ (by omega), c1]
  rw [← hH7, ld_at c1' rfl]
  simp only [mst_]
  rw [ld_at cb rfl]
  simp only [mst_]
  rw [if_neg (by simp)]
  obtain ⟨H9, hH9⟩ : ∃ H9, H9 = AHeap.put (AHeap.put H7 (n1 + 8) (some ⟨[.slice none 0 false], 1, true⟩)) (n1 + 9) (some ⟨[.slice none 0 false], 1, true⟩) := ⟨_, rfl⟩
  have p9 : ∀ j, j < n1 + 8 → H9 j = H7 j := fun j hj => by rw [hH9, put_ne (by omega), put_ne (by omega)]
  rw [← hH9, ld_at ((p9 _ (by omega)).trans c1') rfl]
  simp only [mst_]
  have q9 : ∀ j, j < n1 → j ≠ nx + 14 → H9 j = h1 j := fun j hj hne => (p9 j (by omega)).trans (p7 j hne)
  have x9 : Ext h nx H9 (n1 + 8) := ⟨by omega, fun j hj => by rw [q9 j (by omega) (by omega), x1.2 j (by omega), x6.2 j hj]⟩
  have sh9 : Shp H9 (n1 + 8) sa d p a n := by
    refine Sl.fr (D := fun j => j = nx + 14) sh1 (fun _ pp hpp z => ?_) ⟨by omega, fun j hj hne => q9 j hj hne⟩
    rw [sie] at hpp
    obtain rfl := Option.some.inj hpp
    simp only at z; omega
  obtain ⟨f', la, ka, lc, kc, h', nx', e', lv', kv', x', bl, bk, ol, ok, l1, l2, dj⟩ := scan_loop (k0 := k) (by omega) k g (p : Int) (some (nx, 0)) (some (nx + 1, 0)) (some (nx + 2, 0)) (some (nx + 3, 0)) (some (nx + 4, 0)) (some (nx + 5, 0)) (bb := nx + 14) (lv := n1 + 8) (kv := n1 + 9) sc (P := P) (lost := lost) (xa := xa) xc (h0 := H9) (n0 := n1 + 8) ((p9 _ (by omega)).trans cb) (by omega) sh9 (sp.ext x9) sz (by omega) (by omega) (by omega) (colN d p n) k 0 none none false false H9 (n1 + 13) (by omega) (by omega) (by omega) (by omega) ⟨by omega, fun _ _ => rfl⟩ (by rw [hH9, put_ne (by omega), put_same]; rfl) (by rw [hH9, put_same]; rfl) (OwnRows.nil _ _ _ _) (OwnRows.nil _ _ _ _) (fun j ⟨_, z⟩ => by cases z) (fun j ⟨_, z⟩ => by cases z) (fun j ⟨_, z⟩ => by cases z)
  rw [show ((0 : Nat) : Int) = 0 from rfl] at e'
  have y' := x'.1
  refine ⟨f', sa, sc, n1 + 8, n1 + 9, la, ka, lc, kc, h', nx', e', ⟨by omega, fun j hj => by rw [x'.2 j (by omega), x9.2 j hj]⟩, ?_⟩
  have q : ∀ j, j < n1 → j ≠ nx + 14 → h' j = h1 j := fun j hj hne => by rw [x'.2 j (by omega), q9 j hj hne]
  exact { b0 := by rw [q _ (by omega) (by omega), x1.2 _ (by omega), c0]
          b1 := by rw [q _ (by omega) (by omega), x1.2 _ (by omega), c1]
          b2 := by rw [q _ (by omega) (by omega), x1.2 _ (by omega), c2]
          b3 := by rw [q _ (by omega) (by omega), x1.2 _ (by omega), c3]
          b4 := by rw [q _ (by omega) (by omega), x1.2 _ (by omega), c4]
          b5 := by rw [q _ (by omega) (by omega), x1.2 _ (by omega), c5]
          bb := by rw [x'.2 _ (by omega), p9 _ (by omega), cb]
          sh := sh9.ext x'
          sav := fun i o hi => by
            rw [sie] at hi
            have := congrArg Prod.fst (Option.some.inj hi)
            simp only at this; omega
          lv0 := by omega
          kv0 := by omega
          lk := by omega
          lv1 := lv'
          kv1 := kv'
          bl := bl
          bk := bk
          ol := ol
          ok := ok
          l1 := fun j z => by have := l1 j z; omega
          l2 := fun j z => by have := l2 j z; omega
          dj := dj }

end Go.Proofs.Ytalfcokiooaliaa.T

namespace Go.Proofs.Ytalfcokiooaliaa.T
open Go Go.RowKit Go.Proofs

end Go.Proofs.Ytalfcokiooaliaa.T

namespace Go.Proofs.Ytalfcokiooaliaa.T
open Go Go.RowKit Go.Proofs

end Go.Proofs.Ytalfcokiooaliaa.T
