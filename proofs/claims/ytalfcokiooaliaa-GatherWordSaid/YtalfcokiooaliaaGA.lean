import Derived.Test.YtalfcokiooaliaaEA3
import Derived.Test.YtalfcokiooaliaaEB1
set_option linter.unusedVariables false
set_option linter.unusedSimpArgs false
namespace Go.Proofs.Ytalfcokiooaliaa.T
open Go Go.RowKit Go.Proofs

/-! ### the shape of a block -/
def lenC (d p n c : Nat) : Nat := (if (c : Int) < B.longOf d p n then (n : Int) / ((d : Int) - p) + 1 else (n : Int) / ((d : Int) - p)).toNat
def colN (d p n : Nat) : Nat := (B.manyOf d p n).toNat
/-- Sectors of data columns ahead of column c. -/
def offC (d p n : Nat) : Nat → Nat
  | 0 => 0
  | i + 1 => offC d p n i + lenC d p n (p + i)
def geoOk (d p n : Nat) : Bool := decide (p < colN d p n) && decide (colN d p n ≤ 8) && decide (1 ≤ lenC d p n 0) && decide (lenC d p n 0 ≤ 32) && ((List.range 8).all fun c => decide (lenC d p n c ≤ lenC d p n 0) && (!decide (c < p) || decide (lenC d p n c = lenC d p n 0)) && (!decide (c < colN d p n) || decide (1 ≤ lenC d p n c))) && decide (offC d p n (colN d p n - p) = n) && decide (0 ≤ (n : Int) / ((d : Int) - p))
theorem geoAll : ((List.range 9).all fun d => (List.range 4).all fun p => (List.range 33).all fun n => !(decide (2 ≤ d) && decide (1 ≤ p) && decide (p < d) && decide (1 ≤ n)) || geoOk d p n) = true := by decide +kernel
structure Geo (d p n : Nat) : Prop where
  pN : p < colN d p n
  N8 : colN d p n ≤ 8
  l1 : 1 ≤ lenC d p n 0
  l32 : lenC d p n 0 ≤ 32
  le : ∀ c, c < 8 → lenC d p n c ≤ lenC d p n 0
  par : ∀ c, c < 8 → c < p → lenC d p n c = lenC d p n 0
  pos : ∀ c, c < colN d p n → 1 ≤ lenC d p n c
  sum : offC d p n (colN d p n - p) = n
  q0 : 0 ≤ (n : Int) / ((d : Int) - p)
theorem geo (d p n : Nat) (hd : d ≤ 8) (hp : p ≤ 3) (hn : n ≤ 32) (h1 : 2 ≤ d) (h2 : 1 ≤ p) (hpd : p < d) (h3 : 1 ≤ n) : Geo d p n := by
  have h := List.all_eq_true.1 (List.all_eq_true.1 (List.all_eq_true.1 geoAll d (List.mem_range.2 (by omega))) p (List.mem_range.2 (by omega))) n (List.mem_range.2 (by omega))
  simp only [geoOk, h1, h2, h3, hpd, decide_true, Bool.and_self, Bool.not_true, Bool.false_or, Bool.and_eq_true, decide_eq_true_eq, Bool.or_eq_true, Bool.not_eq_true', decide_eq_false_iff_not, List.all_eq_true, List.mem_range] at h
  obtain ⟨⟨⟨⟨⟨⟨a1, a2⟩, a3⟩, a4⟩, a5⟩, a6⟩, a7⟩ := h
  exact ⟨a1, a2, a3, a4, fun c hc => (a5 c hc).1.1, fun c hc hcp => ((a5 c hc).1.2).resolve_left (fun y => y hcp), fun c hc => ((a5 c (by omega)).2).resolve_left (fun y => y hc), a6, a7⟩

def Shp (h : AHeap) (nx : Nat) (sa : Option (Nat × Nat)) (d p a n : Nat) : Prop := Sl h nx sa (colN d p n) 4 (B.cols d p a ((n : Int) / ((d : Int) - p)) (B.longOf d p n) (colN d p n))
theorem Shp.ext {h h' : AHeap} {nx nx' d p a n : Nat} {sa : Option (Nat × Nat)} (s : Shp h nx sa d p a n) (x : Ext h nx h' nx') : Shp h' nx' sa d p a n := Sl.ext s x
theorem Shp.len {R : Type} {h : AHeap} {nx d p a n : Nat} {sa : Option (Nat × Nat)} (g : Geo d p n) (s : Shp h nx sa d p a n) {c : Nat} (hc : c < colN d p n) (K : AV → Option R) :
    (sa.bind fun q => if 0 ≤ (c : Int) ∧ (c : Int) < ((colN d p n : Nat) : Int) then (ldA h q.1 ((q.2 + Int.toNat (c : Int) * 4) + 2)).bind K else none) = K (.int .i64 ((lenC d p n c : Nat) : Int)) := by
  have z := g.q0
  refine Sl.read s (by omega) (by omega) (by omega) ?_ K
  rw [Int.toNat_natCast, B.cols_at _ _ _ _ _ _ _ _ hc (by omega)]
  unfold lenC
  show some (AV.int .i64 (if (c : Int) < B.longOf d p n then (n : Int) / ((d : Int) - p) + 1 else (n : Int) / ((d : Int) - p))) = _
  rw [Int.toNat_of_nonneg (by split <;> omega)]

theorem size_spec {f : Nat} (hf : 1 ≤ f) {d p a n : Nat} (g : Geo d p n) {sa : Option (Nat × Nat)} (sc : Bool) (P W : Int) {h : AHeap} {nx : Nat} (s : Shp h nx sa d p a n) {c : Nat} (hc : c < colN d p n) :
    callP Try.prog keepT f Y0 18 [.agg [.slice sa (colN d p n) sc, .int .i64 P, .int .i64 W], .int .i64 (c : Int)] h nx = some (.int .i64 ((lenC d p n c * 128 : Nat) : Int), h.put nx (some ⟨[.slice sa (colN d p n) sc, .int .i64 P, .int .i64 W], 3, true⟩), nx + 10) := by
  obtain ⟨f, rfl⟩ : ∃ m, f = m + 1 := ⟨f - 1, by omega⟩
  have x : Ext h nx (h.put nx (some ⟨[.slice sa (colN d p n) sc, .int .i64 P, .int .i64 W], 3, true⟩)) (nx + 1) := ⟨by omega, fun j hj => put_ne (by omega)⟩
  have l := g.le c (by have := g.N8; omega)
  have l2 := g.l32
  rw [F18_eq]
  dsimp only
  rw [ld_at (put_same _ _ _) rfl]
  simp only [mst_]
  rw [Shp.len g (s.ext x) hc]
  simp only [mst_]
  have e : wrapA .i64 (((lenC d p n c : Nat) : Int) * 128) = ((lenC d p n c * 128 : Nat) : Int) := by
    generalize lenC d p n c = L at *
    rw [wA (by omega) (by omega)]; omega
  rw [e]

theorem sectors_spec {f : Nat} (hf : 1 ≤ f) (m : Nat) (hm : m ≤ 100000) (h : AHeap) (nx : Nat) : callP Try.prog keepT f Y0 23 [.int .i64 (m : Int)] h nx = some (.int .i64 (((m + 127) / 128 : Nat) : Int), h, nx + 6) := by
  obtain ⟨f, rfl⟩ : ∃ m, f = m + 1 := ⟨f - 1, by omega⟩
  rw [F23_eq, wA (x := (m : Int) + 128) (by omega) (by omega), wA (x := (m : Int) + 128 - 1) (by omega) (by omega), Int.tdiv_eq_ediv_of_nonneg (by omega), wA (by omega) (by omega), show ((m : Int) + 128 - 1) / 128 = (((m + 127) / 128 : Nat) : Int) from by omega]

theorem shaped_spec {f : Nat} (hf : 30 ≤ f) {d p a m : Nat} (hd : 2 ≤ d) (hd' : d ≤ 8) (hp : 1 ≤ p) (hp' : p ≤ 3) (hpd : p < d) (ha : a ≤ 65536) (hm : 1 ≤ m) (hm' : m ≤ 4096) (h : AHeap) (nx : Nat) :
    ∃ sa sc h' nx', callP Try.prog keepT f Y0 17 [.int .i64 (d : Int), .int .i64 (p : Int), .int .i64 (a : Int), .int .i64 (m : Int)] h nx = some (.tuple [.agg [.slice sa (colN d p ((m + 127) / 128)) sc, .int .i64 (p : Int), .int .i64 ((lenC d p ((m + 127) / 128) 0 * 128 : Nat) : Int)], .int .i64 0], h', nx') ∧ Shp h' nx' sa d p a ((m + 127) / 128) ∧ Ext h nx h' nx' ∧ ∃ i, sa = some (i, 0) ∧ nx ≤ i ∧ i < nx' := by
  obtain ⟨f, rfl⟩ : ∃ m, f = m + 1 := ⟨f - 1, by omega⟩
  obtain ⟨k, rfl⟩ : ∃ m, f = m + 1 := ⟨f - 1, by omega⟩
  have hn : 1 ≤ (m + 127) / 128 ∧ (m + 127) / 128 ≤ 32 := by omega
  obtain ⟨n, hnn⟩ : ∃ n, n = (m + 127) / 128 := ⟨_, rfl⟩
  have g := geo d p n hd' hp' (by omega) hd hp hpd (by omega)
  have hx : Ext h nx (h.put nx (some ⟨[.slice none 0 false, .int .i64 0, .int .i64 0], 3, true⟩)) (nx + 5 + 8 + 11 + 6) := ⟨by omega, fun j hj => put_ne (by omega)⟩
  obtain ⟨sa, sc, h1, n1, e1, o1, x1⟩ := B.columns_spec (k := k + 1) (by omega) (d : Int) (p : Int) (a : Int) (n : Int) (h.put nx (some ⟨[.slice none 0 false, .int .i64 0, .int .i64 0], 3, true⟩)) (nx + 5 + 8 + 11 + 6) (by omega) (by omega) (by omega) (by omega) (by omega) (by omega) (by omega) (by omega) (by omega)
  have y1 := x1.1
  have s1 : Shp h1 n1 sa d p a n := o1.sl
  have l0 := g.l32
  rw [← hnn]
  rw [F17_eq]
  dsimp only
  rw [F27_eq, if_pos (by simp; omega), decide_eq_true (by omega)]
  simp only [mst_]
  rw [sectors_spec (by omega) m (by omega), ← hnn]
  simp only [mst_]
  rw [e1]
  simp only [mst_]
  change ∃ sa' sc' h' nx', (if ((0 : Int) != 0) = true then _ else (sa.bind fun q => if 0 ≤ ((0 : Nat) : Int) ∧ ((0 : Nat) : Int) < ((colN d p n : Nat) : Int) then (ldA h1 q.1 ((q.2 + Int.toNat ((0 : Nat) : Int) * 4) + 2)).bind _ else none)) = _ ∧ _
  rw [if_neg (by simp), Shp.len g s1 (by have := g.pN; omega)]
  simp only [mst_]
  have hb : h1 nx = some ⟨[.slice none 0 false, .int .i64 0, .int .i64 0], 3, true⟩ := by rw [x1.2 nx (by omega), put_same]
  rw [wA (by omega) (by omega), show ((lenC d p n 0 : Nat) : Int) * 128 = ((lenC d p n 0 * 128 : Nat) : Int) from by omega, st_all hb (by simp) (by simp) (by simp [allOne, AV.one])]
  rw [ldr_all (put_same _ _ _) (by simp)]
  simp only [mst_]
  refine ⟨sa, sc, h1.put nx (some ⟨[.slice sa (colN d p n) sc, .int .i64 (p : Int), .int .i64 ((lenC d p n 0 * 128 : Nat) : Int)], 3, true⟩), n1 + 12, rfl, ?_, ?_, ?_⟩
  · refine Sl.fr (D := fun i => i = nx) s1 ?_ ⟨by omega, fun j hj hne => put_ne hne⟩
    intro h0 q hq e
    rcases o1.2 with ⟨_, z⟩ | ⟨i, z, z1, _⟩
    · have := g.pN; unfold colN at this; omega
    · rw [z] at hq
      have := congrArg Prod.fst (Option.some.inj hq)
      simp only at this; omega
  · exact ⟨by omega, fun j hj => by rw [put_ne (by omega), x1.2 j (by omega), put_ne (by omega)]⟩
  · rcases o1.2 with ⟨_, z⟩ | ⟨i, z, z1, z2, _⟩
    · have := g.pN; unfold colN at this; omega
    · exact ⟨i, z, by omega, by omega⟩

end Go.Proofs.Ytalfcokiooaliaa.T

namespace Go.Proofs.Ytalfcokiooaliaa.T
open Go Go.RowKit Go.Proofs

/-! ### filled, padded, Block -/
def padW (W : Nat) (l : List Nat) : List Nat := l ++ List.replicate (W - l.length) 0
theorem padW_len {W : Nat} {l : List Nat} (h : l.length ≤ W) : (padW W l).length = W := by simp [padW]; omega
theorem padW_small {W : Nat} {l : List Nat} (h : Small l) : Small (padW W l) := by
  intro x hx
  rcases List.mem_append.1 hx with hx | hx
  · exact h x hx
  · rw [List.eq_of_mem_replicate hx]; omega
theorem padW_take {W m : Nat} {l : List Nat} (h : l.length = m) : (padW W l).take m = l := by
  unfold padW; subst h; simp

theorem filled_spec {f : Nat} (hf : 1 ≤ f) (sa : Option (Nat × Nat)) (N : Nat) (sc : Bool) (P : Int) {W m : Nat} (hW : W ≤ 100000) {l : List Nat} (hl : l.length = m) (hm : m ≤ W) {a : Option (Nat × Nat)} (c : Bool) {h : AHeap} {nx : Nat} (s : Sl h nx a m 1 (ints .u8 (nints l))) :
    ∃ h', callP Try.prog keepT f Y0 25 [.agg [.slice sa N sc, .int .i64 P, .int .i64 ((W : Nat) : Int)], .slice a m c] h nx = some (.slice (some (nx + 4, 0)) W true, h', nx + 11) ∧ h' (nx + 4) = some ⟨ints .u8 (nints (padW W l)), 1, true⟩ ∧ Ext h nx h' (nx + 11) := by
  obtain ⟨f, rfl⟩ : ∃ m, f = m + 1 := ⟨f - 1, by omega⟩
  have hz : madeA [AV.int .u8 0] (Int.toNat ((W : Nat) : Int) * 1) = ints .u8 (nints (List.replicate W 0)) := by
    rw [Int.toNat_natCast, Nat.mul_one, made1]; simp [ints, nints]
  rw [F25_eq]
  dsimp only
  rw [ld_at (put_same _ _ _) rfl]
  simp only [mst_]
  rw [if_pos (by simp; omega), hz, show Int.toNat ((W : Nat) : Int) = W from Int.toNat_natCast W, show (((W : Nat) : Int) == ((W : Nat) : Int)) = true from by simp]
  by_cases h0 : m = 0
  · subst h0
    have : l = [] := List.length_eq_zero_iff.1 hl
    subst this
    have e : copD (AHeap.put (AHeap.put h nx (some ⟨[.slice sa N sc, .int .i64 P, .int .i64 ((W : Nat) : Int)], 3, true⟩)) (nx + 4) (some ⟨ints .u8 (nints (List.replicate W 0)), 1, true⟩)) (some (nx + 4, 0)) W a 0 1 = some (0, [], []) := by simp [copD]
    rw [e, some_bind]
    refine ⟨_, rfl, ?_, ⟨by omega, fun j hj => ?_⟩⟩
    · rw [puts_nil, put_same]; simp [padW]
    · rw [puts_nil, put_ne (by omega), put_ne (by omega)]
  · have x : Ext h nx (AHeap.put (AHeap.put h nx (some ⟨[.slice sa N sc, .int .i64 P, .int .i64 ((W : Nat) : Int)], 3, true⟩)) (nx + 4) (some ⟨ints .u8 (nints (List.replicate W 0)), 1, true⟩)) (nx + 5) := ⟨by omega, fun j hj => by rw [put_ne (by omega), put_ne (by omega)]⟩
    obtain ⟨rd, e⟩ := copy_spec (d := nx + 4) (n := W) (k := m) (by omega) hm (put_same _ _ _) (by simp [nints_len]) (s.ext x)
    rw [e, some_bind]
    refine ⟨_, rfl, ?_, ⟨by omega, fun j hj => ?_⟩⟩
    · rw [puts_cons, puts_nil, put_same]
      congr 2
      simp only [padW, ints, nints, List.map_append, List.map_replicate, List.drop_replicate, hl]
    · rw [puts_cons, puts_nil, put_ne (by omega), put_ne (by omega), put_ne (by omega)]

theorem pad_loop (call : YldF → CallF) (lf : Nat) {l : List Nat} {m T : Nat} (hl : l.length = m) (hT : T ≤ 100000) (hT1 : T % 128 = 0) (hT2 : T < m + 128) {h0 : AHeap} {n0 : Nat} (r : Nat) :
    ∀ (f k : Nat) (a : Option (Nat × Nat)) (c : Bool) (h : AHeap) (nx : Nat), k + r = T → r < f → m ≤ k → Ext h0 n0 h nx → OwnSl h n0 nx a k 1 (ints .u8 (nints (padW k l))) →
    ∃ a' c' h' nx', F15_L1 call Y0 lf f a k c h nx = some (.slice a' T c', h', nx') ∧ Ext h0 n0 h' nx' ∧ OwnSl h' n0 nx' a' T 1 (ints .u8 (nints (padW T l))) := by
  induction r with
  | zero =>
    intro f k a c h nx e hf hk x o
    obtain ⟨f, rfl⟩ : ∃ m, f = m + 1 := ⟨f - 1, by omega⟩
    obtain rfl : k = T := by omega
    rw [F15_L1_eq, if_neg (by rw [Int.tmod_eq_emod_of_nonneg (by omega)]; simp; omega)]
    exact ⟨a, c, h, nx + 6, rfl, x.le (by omega), o.le (by omega)⟩
  | succ r ih =>
    intro f k a c h nx e hf hk x o
    obtain ⟨f, rfl⟩ : ∃ m, f = m + 1 := ⟨f - 1, by omega⟩
    have y := x.1
    obtain ⟨E, f1, f2, f3, f4⟩ := o.push (c := c) (bytes := 1) (id := nx + 5) (id2 := nx + 6) (ws := [.int .u8 0]) rfl (growOk_of (by omega) (by omega)) (by omega) (by omega) (by omega)
    rw [F15_L1_eq, if_pos (by rw [Int.tmod_eq_emod_of_nonneg (by omega)]; simp; omega)]
    dsimp only
    rw [src_lit1, some_bind, f1, some_bind, f2]
    refine ih f (k + 1) E.a E.c _ (nx + 8) (by omega) (by omega) (by omega) ((x.then f4).le (by omega)) ?_
    have : ints .u8 (nints (padW (k + 1) l)) = ints .u8 (nints (padW k l)) ++ [.int .u8 0] := by
      unfold padW
      rw [show k + 1 - l.length = (k - l.length) + 1 from by omega, List.replicate_succ']
      simp [ints, nints]
    rw [this]
    exact f3.le (by omega)

def upTo (m : Nat) : Nat := (m + 127) / 128 * 128
theorem padded_spec {f : Nat} {l : List Nat} {m : Nat} (hf : 300 ≤ f) (hl : l.length = m) (hm : m ≤ 5000) {a : Option (Nat × Nat)} (c : Bool) {h : AHeap} {nx : Nat} (s : Sl h nx a m 1 (ints .u8 (nints l))) :
    ∃ a' c' h' nx', callP Try.prog keepT f Y0 15 [.slice a m c] h nx = some (.slice a' (upTo m) c', h', nx') ∧ Ext h nx h' nx' ∧ OwnSl h' nx nx' a' (upTo m) 1 (ints .u8 (nints (padW (upTo m) l))) := by
  obtain ⟨f, rfl⟩ : ∃ m, f = m + 1 := ⟨f - 1, by omega⟩
  obtain ⟨rd, c1⟩ := s.src'
  obtain ⟨E, f1, f2, f3, f4⟩ := copyOf (h := h) (nx := nx) (n := m) (es := 1) (bytes := 1) (id := nx + 2) (rd := rd) s.1 (growOk_of (by omega) (by omega)) (by omega)
  rw [F15_eq, c1, some_bind, f1, some_bind, f2]
  have hu : upTo m % 128 = 0 ∧ m ≤ upTo m ∧ upTo m < m + 128 := by unfold upTo; omega
  exact pad_loop (callP Try.prog keepT f) f hl (by omega) hu.1 hu.2.2 (upTo m - m) f m E.a E.c _ (nx + 4) (by omega) (by omega) (by omega) (f4.le (by omega)) (by
    have : padW m l = l := by unfold padW; rw [hl, Nat.sub_self]; simp
    rw [this]; exact f3.le (by omega))

theorem Block_spec {f : Nat} (hf : 1 ≤ f) {l : List Nat} (sl : Small l) (hl : l.length ≤ 1000000000000000) {a : Option (Nat × Nat)} (c : Bool) {h : AHeap} {nx : Nat} (s : Sl h nx a l.length 1 (ints .u8 (nints l))) :
    ∃ (D : List Nat) (oa : Option (Nat × Nat)) (oc : Bool) (h' : AHeap) (nx' : Nat), Small D ∧ 1 ≤ D.length ∧ D.length ≤ 1000 ∧ callP Try.prog keepT f Y0 9 [.slice a l.length c, .int .i64 1000] h nx = some (.slice oa D.length oc, h', nx') ∧ Ext h nx h' nx' ∧ Sl h' nx' oa D.length 1 (ints .u8 (nints D)) := by
  obtain ⟨f, rfl⟩ : ∃ m, f = m + 1 := ⟨f - 1, by omega⟩
  rw [F9_eq]
  by_cases h0 : l.length = 0
  · rw [if_pos (by simp [h0])]
    refine ⟨[7], some (nx + 4, 0), true, _, nx + 6, ?_, by simp, by simp, rfl, ⟨by omega, fun j hj => put_ne (by omega)⟩, Sl.ofBlk (put_same _ _ _) (by simp [nints]) (by omega)⟩
    intro x hx; simp at hx; omega
  · rw [if_neg (by simpa using h0)]
    obtain ⟨m, hm⟩ : ∃ m : Nat, m = min l.length 1000 := ⟨_, rfl⟩
    have e : (if (1000 : Int) < ((l.length : Nat) : Int) then (1000 : Int) else ((l.length : Nat) : Int)) = ((m : Nat) : Int) := by
      split <;> omega
    rw [e]
    obtain ⟨c1, c2, _⟩ := s.cut c (lo := 0) (hi := m) (l := none) (r := some (.int .i64 ((m : Nat) : Int))) (by omega) (by omega) bound_none (bound_some (by omega))
    rw [Nat.sub_zero] at c1 c2
    obtain ⟨rd, c3⟩ := c2.src'
    obtain ⟨E, f1, f2, f3, f4⟩ := copyOf (h := h) (nx := nx) (n := m) (es := 1) (bytes := 1) (id := nx + 10) (rd := rd) c2.1 (growOk_of (by omega) (by omega)) (by omega)
    rw [c1, some_bind]
    dsimp only
    rw [c3, some_bind, f1, some_bind, f2]
    have hD : (l.take m).length = m := by rw [List.length_take]; omega
    refine ⟨l.take m, E.a, E.c, _, nx + 12, fun x hx => sl x (List.mem_of_mem_take hx), by omega, by omega, by rw [hD], f4.le (by omega), ?_⟩
    rw [hD]
    have : ((ints .u8 (nints l)).drop (0 * 1)).take (m * 1) = ints .u8 (nints (l.take m)) := by
      rw [Nat.zero_mul, List.drop_zero, Nat.mul_one, nints_take, ints, ints, List.map_take]
    rw [this] at f3
    exact (f3.le (by omega)).sl

end Go.Proofs.Ytalfcokiooaliaa.T

namespace Go.Proofs.Ytalfcokiooaliaa.T
open Go Go.RowKit Go.Proofs

/-! ### the columns that fit what is left, whatever it is -/
theorem hs_getD (g : Nat → Bool) : ∀ n i, i < n → g i = true → ((List.range n).filter g).getD (cnt g i) 0 = i ∧ cnt g i < ((List.range n).filter g).length
  | 0, i, h, _ => by omega
  | n + 1, i, h, hg => by
    rw [List.range_succ, List.filter_append]
    by_cases e : i = n
    · subst e
      simp [hg, cnt]
    · obtain ⟨e1, e2⟩ := hs_getD g n i (by omega) hg
      refine ⟨?_, by rw [List.length_append]; omega⟩
      simp only [List.getD, List.getElem?_append_left e2]
      exact e1
theorem cnt_hs {g : Nat → Bool} {n a : Nat} (ha : a < ((List.range n).filter g).length) : cnt g (((List.range n).filter g).getD a 0) = a := by
  have hm : ((List.range n).filter g).getD a 0 ∈ (List.range n).filter g := by rw [getD_at ha]; exact List.getElem_mem _
  obtain ⟨h1, h2⟩ := List.mem_filter.1 hm
  have h1 := List.mem_range.1 h1
  obtain ⟨e1, e2⟩ := hs_getD g n _ h1 h2
  have pw : ((List.range n).filter g).Pairwise (· < ·) := List.Pairwise.filter _ List.pairwise_lt_range
  generalize hi : ((List.range n).filter g).getD a 0 = i at *
  rcases Nat.lt_trichotomy (cnt g i) a with l | l | l
  · have := pw_ne pw l ha; omega
  · exact l
  · have := pw_ne pw l e2; omega

def holedA (g : Nat → Bool) (Da : Nat → List Nat) (n w : Nat) : List (List Nat) := (List.range n).map fun i => if g i then List.replicate w 0 else Da i
def wantD (g : Nat → Bool) (Da : Nat → List Nat) (n w u : Nat) : List Nat := mixed 1 (enc (holedA g Da n w) u w) (Da (n + u))
/-- The data columns that one gets. -/
def solA (g : Nat → Bool) (Da : Nat → List Nat) (n w : Nat) (us : List Nat) (t : Nat) : List (List Nat) :=
  (List.range n).map fun i => if g i then fillTo (invF t (facF us ((List.range n).filter g))) (fun b => wantD g Da n w (us.getD b 0)) w (cnt g i) t else Da i
theorem solA_len (g : Nat → Bool) (Da : Nat → List Nat) (n w : Nat) (us : List Nat) (t : Nat) : (solA g Da n w us t).length = n := by simp [solA]
theorem solA_get {g : Nat → Bool} {Da : Nat → List Nat} {n w : Nat} {us : List Nat} {t i : Nat} (hi : i < n) : (solA g Da n w us t).getD i [] = if g i then fillTo (invF t (facF us ((List.range n).filter g))) (fun b => wantD g Da n w (us.getD b 0)) w (cnt g i) t else Da i := by
  simp [solA, List.getD, List.getElem?_range hi]
structure GoodA (g : Nat → Bool) (Da : Nat → List Nat) (N w : Nat) : Prop where
  len : ∀ k, k < N → g k = false → (Da k).length = w
  sm : ∀ k, k < N → g k = false → Small (Da k)
theorem solA_row {g : Nat → Bool} {Da : Nat → List Nat} {n w N : Nat} {us : List Nat} {t : Nat} (G : GoodA g Da N w) (hn : n ≤ N) : ∀ r ∈ solA g Da n w us t, r.length = w := by
  intro r hr
  obtain ⟨i, hi, rfl⟩ := List.mem_map.1 hr
  have hi := List.mem_range.1 hi
  split
  · exact fillTo_len _ _ _ _ _
  · next h => exact G.len i (by omega) (by simpa using h)
theorem solA_small {g : Nat → Bool} {Da : Nat → List Nat} {n w N : Nat} {us : List Nat} {t : Nat} (G : GoodA g Da N w) (hn : n ≤ N) : SmallM (solA g Da n w us t) := by
  intro r hr
  obtain ⟨i, hi, rfl⟩ := List.mem_map.1 hr
  have hi := List.mem_range.1 hi
  split
  · exact fillTo_small (invF_F8 (facF_F8 _ _)) _ _ _ _
  · next h => exact G.sm i (by omega) (by simpa using h)
theorem holed_sol (g : Nat → Bool) (Da : Nat → List Nat) (n w : Nat) (us : List Nat) (t : Nat) : holed g (solA g Da n w us t) w = holedA g Da n w := by
  unfold holed holedA
  rw [solA_len]
  refine List.map_congr_left fun i hi => ?_
  have hi := List.mem_range.1 hi
  by_cases h : g i = true
  · rw [if_pos h, if_pos h]
  · rw [if_neg h, if_neg h, solA_get hi, if_neg h]
theorem xor_cancel {a b c : Nat} (h : a ^^^ b = a ^^^ c) : b = c := by
  have := congrArg (a ^^^ ·) h
  simpa [← Nat.xor_assoc] using this

theorem solA_enc {g : Nat → Bool} {Da : Nat → List Nat} {n w N t : Nat} {us : List Nat} (G : GoodA g Da N w) (hn12 : n ≤ 12) (hnN : n ≤ N) (hu : us.length = t) (hh : ((List.range n).filter g).length = t) (pu : us.Pairwise (· < ·)) (u3 : ∀ u ∈ us, u < 3) (uN : ∀ u ∈ us, n + u < N ∧ g (n + u) = false) :
    ∀ u ∈ us, Da (n + u) = enc (solA g Da n w us t) u w := by
  intro u hmem
  obtain ⟨b, hb, rfl⟩ := List.getElem_of_mem hmem
  have ph : ((List.range n).filter g).Pairwise (· < ·) := List.Pairwise.filter _ List.pairwise_lt_range
  have h12 : ∀ i ∈ (List.range n).filter g, i < 12 := fun i hi => by
    have := List.mem_range.1 (List.mem_filter.1 hi).1; omega
  have full := facF_full hu hh pu ph u3 h12
  have inv := (invF_both (facF_F8 us _) full).2
  have hR := invF_F8 (n := t) (facF_F8 us ((List.range n).filter g))
  have lD := G.len _ (uN _ hmem).1 (uN _ hmem).2
  have sD := G.sm _ (uN _ hmem).1 (uN _ hmem).2
  have sl := solA_len g Da n w us t
  apply List.ext_getElem
  · rw [enc_len, lD]
  · intro k h1 h2
    rw [lD] at h1
    have wa := want_at (g := g) (M := solA g Da n w us t) (w := w) us[b] k h1
    rw [sl, hh] at wa
    have e1 : ∀ a, a < t → (solA g Da n w us t).getD (((List.range n).filter g).getD a 0) [] = fillTo (invF t (facF us ((List.range n).filter g))) (fun b => wantD g Da n w (us.getD b 0)) w a t := fun a ha => by
      have hm : ((List.range n).filter g).getD a 0 ∈ (List.range n).filter g := by rw [getD_at (by omega)]; exact List.getElem_mem _
      obtain ⟨z1, z2⟩ := List.mem_filter.1 hm
      rw [solA_get (List.mem_range.1 z1), if_pos z2, cnt_hs (by omega)]
    have e2 : xsum t (fun a => Gf.gm (fac us[b] (((List.range n).filter g).getD a 0)) (((solA g Da n w us t).getD (((List.range n).filter g).getD a 0) []).getD k 0)) = (wantD g Da n w us[b]).getD k 0 := by
      have hW : F8 fun c k => (wantD g Da n w (us.getD c 0)).getD k 0 := fun c k => getD_lt (by
        unfold wantD
        by_cases hc : c < us.length
        · have z := uN _ (List.getElem_mem hc)
          refine mixed_small (by omega) (enc_small _ _ _) ?_
          rw [enc_len, getD_at hc, G.len _ z.1 z.2]
        · have z : us.getD c 0 = 0 := by simp [List.getD, List.getElem?_eq_none (by omega : us.length ≤ c)]
          rw [z]
          intro x hx
          obtain ⟨i, hi, rfl⟩ := List.getElem_of_mem hx
          simp only [mixed, List.getElem_zipWith]
          exact Gf.xor_lt (enc_small _ _ _ _ (List.getElem_mem _)) (Gf.gm_lt (by omega))) k
      rw [xsum_congr (g := fun a => Gf.gm (facF us ((List.range n).filter g) b a) (xsum t fun c => Gf.gm (invF t (facF us ((List.range n).filter g)) a c) ((wantD g Da n w (us.getD c 0)).getD k 0))) fun a ha => by
        rw [e1 a ha, facF_eq, getD_at hb]
        congr 1
        simp [fillTo, List.getD, List.getElem?_range h1]]
      rw [assoc3 (fun a => facF_F8 us _ b a) hR hW k]
      rw [xsum_congr (g := fun c => Gf.gm (dl b c) ((wantD g Da n w (us.getD c 0)).getD k 0)) fun c hc => by rw [← inv b c (by omega) hc]; rfl]
      rw [xsum_dl t b _ (fun c => hW c k) (by omega)]
      dsimp only
      rw [getD_at hb]
    rw [e2] at wa
    unfold want wantD at wa
    rw [holed_sol] at wa
    have l1 := enc_len (holedA g Da n w) us[b] w
    have l2 := enc_len (solA g Da n w us t) us[b] w
    rw [mixed_at (by omega) (by omega), mixed_at (by omega) (by omega)] at wa
    have := xor_cancel wa
    have es : (enc (solA g Da n w us t) us[b] w).getD k 0 < 256 := getD_lt (enc_small _ _ _) _
    have eD : (Da (n + us[b])).getD k 0 < 256 := getD_lt sD _
    rw [Gf.one_gm es, Gf.one_gm eD, getD_at (by omega), getD_at (by omega)] at this
    exact this.symm

/-- Columns that fit are these. -/
theorem solA_only {g : Nat → Bool} {Da : Nat → List Nat} {n w t : Nat} {us : List Nat} {M : List (List Nat)} (hn : M.length = n) (hM : ∀ r ∈ M, r.length = w) (sM : SmallM M) (hn12 : n ≤ 12) (hu : us.length = t) (hh : ((List.range n).filter g).length = t) (pu : us.Pairwise (· < ·)) (u3 : ∀ u ∈ us, u < 3)
    (k1 : ∀ k, k < n → g k = false → Da k = M.getD k []) (k2 : ∀ u ∈ us, Da (n + u) = enc M u w) : solA g Da n w us t = M := by
  have hol : holed g M w = holedA g Da n w := by
    unfold holed holedA
    rw [hn]
    refine List.map_congr_left fun i hi => ?_
    have hi := List.mem_range.1 hi
    by_cases h : g i = true
    · rw [if_pos h, if_pos h]
    · rw [if_neg h, if_neg h, k1 i hi (by simpa using h)]
  have hwant : ∀ b, b < t → want g M w (us.getD b 0) = wantD g Da n w (us.getD b 0) := fun b hb => by
    unfold want wantD
    rw [hol, k2 _ (by rw [getD_at (by omega)]; exact List.getElem_mem _)]
  apply List.ext_getElem
  · rw [solA_len, hn]
  · intro i h1 h2
    have hi : i < n := by omega
    have e : (solA g Da n w us t).getD i [] = M.getD i [] := by
      rw [solA_get hi]
      by_cases h : g i = true
      · rw [if_pos h]
        obtain ⟨z1, z2⟩ := hs_getD g n i hi h
        have fl := fill_law (g := g) (M := M) (w := w) (t := t) (us := us) hM sM (by omega) hu (by rw [hn]; exact hh) pu u3 (a := cnt g i) (by omega)
        rw [hn, z1] at fl
        rw [← fl]
        unfold fillTo
        refine List.map_congr_left fun k _ => xsum_congr fun c hc => by dsimp only; rw [hwant c hc]
      · rw [if_neg h, k1 i hi (by simpa using h)]
    rw [getD_at h1, getD_at h2] at e
    exact e

end Go.Proofs.Ytalfcokiooaliaa.T

namespace Go.Proofs.Ytalfcokiooaliaa.T
open Go Go.RowKit Go.Proofs

/-! ### par.Rebuild of any columns -/
def nD (g : Nat → Bool) (Da : Nat → List Nat) (w k : Nat) : List Nat := if g k then List.replicate w 0 else Da k

theorem gb_first {k0 : Nat} (hk0 : 5 ≤ k0) (lf : Nat) {g : Nat → Bool} {Da : Nat → List Nat} {w n N : Nat} (hN : N ≤ 256) (hw : w ≤ 4096) {a ga : Option (Nat × Nat)} (c gc oc : Bool) {h0 : AHeap} {lo : Nat} (t : Torn h0 lo a N g w (Da)) (sg : Sl h0 lo ga N 1 (bls g N)) {ob : Nat} (b0 : lo ≤ ob) (m : Nat) :
    ∀ (f i : Nat) (q : Nat → Rw) (ha : Option (Nat × Nat)) (hc : Bool) (h : AHeap) (nx : Nat), i + m = N → m < f → Ext h0 lo h nx → Bld h lo nx ob w N (okA g n i) q (nD g Da w) (ownOf ha) → OwnRows NRow h nx ha 1 (hol g n i) → (∀ i, ownOf ha i → lo ≤ i) → (∀ k, k < i → k < n → g k = true → ∃ tid, (q k).1 = some (tid, 0)) →
    ∃ (q' : Nat → Rw) (ha' : Option (Nat × Nat)) (hc' : Bool) (h' : AHeap) (nx' : Nat), F44_L1 (callP Try.prog keepT k0) Y0 lf f a N c (n : Int) ga N gc (w : Int) (some (ob, 0)) N oc ha (hol g n i).length hc none 0 false a N c ((N : Nat) : Int) (i : Int) h nx =
        F44_L2 (callP Try.prog keepT k0) Y0 lf lf a N c (n : Int) ga N gc (some (ob, 0)) N oc ha' (hol g n N).length hc' none 0 false (n : Int) h' nx' ∧ Ext h0 lo h' nx' ∧ Bld h' lo nx' ob w N (okA g n N) q' (nD g Da w) (ownOf ha') ∧ OwnRows NRow h' nx' ha' 1 (hol g n N) ∧ (∀ i, ownOf ha' i → lo ≤ i) ∧ (∀ k, k < N → k < n → g k = true → ∃ tid, (q' k).1 = some (tid, 0)) := by
  obtain ⟨P, s, tk⟩ := t
  induction m with
  | zero =>
    intro f i q ha hc h nx e hf x B o lh hq
    obtain ⟨f, rfl⟩ : ∃ m, f = m + 1 := ⟨f - 1, by omega⟩
    obtain rfl : i = N := by omega
    rw [F44_L1_eq, if_neg (by simp)]
    exact ⟨q, ha, hc, h, nx + 3, rfl, x.le (by omega), B.ext ⟨by omega, fun _ _ => rfl⟩ (fun _ _ q => q), o.go (D := fun _ => False) ⟨by omega, fun _ _ _ => rfl⟩ (fun _ _ q => q) (fun _ _ q => q), lh, hq⟩
  | succ m ih =>
    intro f i q ha hc h nx e hf x B o lh hq
    obtain ⟨f, rfl⟩ : ∃ m, f = m + 1 := ⟨f - 1, by omega⟩
    have hi : i < N := by omega
    have y := x.1
    have hlt := o.lt
    have hll := hol_le g n i
    rw [F44_L1_eq, if_pos (by simpa using hi), (s.ext x).readP hi]
    simp only [mst_]
    rw [(sg.ext x).readB hi]
    simp only [mst_]
    by_cases hg : g i = true
    · rw [hg, if_not_true']
      by_cases hin : i < n
      · -- a hole
        rw [if_pos (by simpa using hin)]
        have hs := hol_succ g n i
        rw [if_pos ⟨hg, hin⟩] at hs
        obtain ⟨E, s1, s2, s3, s4, s5, s6, s7, s8, s9⟩ := o.pushE x lh hc (bytes := 8) (id := nx + 20) (id2 := nx + 21) (x := i) (r := [AV.int .i64 (i : Int)]) rfl rfl (growOk_of (by omega) (by omega)) (by omega) (by omega)
        rw [s1, some_bind, s2, some_bind, s4]
        obtain ⟨Ea, hEa⟩ : ∃ z, z = E.a := ⟨_, rfl⟩
        rw [← hEa] at s3 s5 s8
        generalize hH : (h.put (nx + 20) (some ⟨[AV.int .i64 (i : Int)], 1, true⟩)).puts E.sets = H at s5 s6 s7
        have aa : AllApart [([nx + 23], E.reads)] := ⟨fun z hz hz2 => by
          have hz : z = nx + 23 := by simpa using hz
          rcases s9 z hz2 with q | q
          · have := hlt z q; omega
          · omega, trivial⟩
        rw [if_pos (by simp; omega)]
        have hz : madeA [AV.int .u8 0] (Int.toNat ((w : Nat) : Int) * 1) = ints .u8 (nints (List.replicate w 0)) := by
          rw [Int.toNat_natCast, Nat.mul_one, made1]; simp [ints, nints]
        rw [hz, show Int.toNat ((w : Nat) : Int) = w from Int.toNat_natCast w, show (((w : Nat) : Int) == ((w : Nat) : Int)) = true from by simp]
        have fH : Frm (ownOf ha) h nx (H.put (nx + 23) (some ⟨ints .u8 (nints (List.replicate w 0)), 1, true⟩)) (nx + 24) := s6.put (.inr (by omega)) (by omega)
        have B1 : Bld (H.put (nx + 23) (some ⟨ints .u8 (nints (List.replicate w 0)), 1, true⟩)) lo (nx + 24) ob w N (okA g n i) q (nD g Da w) (ownOf Ea) := B.go fH (fun _ _ q => q) fun j hj z => by have := s8 j z; omega
        have hD : nD g Da w i = List.replicate w 0 := by unfold nD; rw [if_pos hg]
        have ob1 := B.b1
        obtain ⟨p1, p2⟩ := B1.set hi (r := (some (nx + 23, 0), true)) (by rw [hD]; exact ⟨by simp, .inr ⟨nx + 23, rfl, by omega, by omega, put_same _ _ _⟩⟩) (fun id z => by
          obtain rfl : nx + 23 = id := by simpa using z
          refine ⟨by omega, fun z => by have := s8 _ z; omega, fun j hj hok hne z => ?_⟩
          have := ((B.row j hj hok).in z).2; omega)
        rw [if_pos ⟨by omega, by omega⟩]
        have p1 := fun {R : Type} (K : ABlk → Option R) => p1 K
        dsimp only at p1
        rw [p1, ifApart_pos aa, wsucc (by omega), show (hol g n i).length + 1 = (hol g n (i + 1)).length from by rw [hs]; simp, ← hEa]
        refine ih f (i + 1) (fun j => if j = i then (some (nx + 23, 0), true) else q j) Ea E.c _ (nx + 29) (by omega) (by omega) ⟨by omega, fun j hj => ?_⟩ ?_ ?_ (fun j z => by have := s8 j z; omega) ?_
        · rw [put_ne (by omega), put_ne (by omega), s7.2 j hj]
        · exact (p2.ext (nx' := nx + 29) ⟨by omega, fun _ _ => rfl⟩ (fun _ _ q => q)).congr (fun j _ => okA_set (.inr hin) j) (fun _ _ _ => rfl)
        · rw [hs]
          exact s5.go (D := fun i => i = ob ∨ nx + 22 ≤ i) ⟨by omega, fun j hj hne => by rw [put_ne (fun z => hne (.inl z)), put_ne (by omega)]⟩ (fun j z zz => by have := s8 j z; omega) (fun _ _ q => q)
        · intro k hk hkn hgk
          by_cases ek : k = i
          · subst ek; exact ⟨nx + 23, by simp⟩
          · simp only [if_neg ek]; exact hq k (by omega) hkn hgk
      · -- a parity column that is lost
        rw [if_neg (by simpa using hin), wsucc (by omega)]
        have hs := hol_succ g n i
        rw [if_neg (by omega)] at hs
        rw [← hs]
        exact ih f (i + 1) q ha hc h (nx + 18) (by omega) (by omega) (x.le (by omega)) ((B.ext (nx' := nx + 18) ⟨by omega, fun _ _ => rfl⟩ (fun _ _ q => q)).congr (fun j _ => okA_skip hg (by omega) j) (fun _ _ _ => rfl)) (by rw [hs]; exact o.go (D := fun _ => False) ⟨by omega, fun _ _ _ => rfl⟩ (fun _ _ q => q) (fun _ _ q => q)) lh (fun k hk hkn hgk => hq k (by omega) hkn hgk)
    · -- a column that is left
      have hg : g i = false := by simpa using hg
      rw [hg, if_not_false']
      obtain ⟨k1, k2, k3⟩ := tk i hi hg
      rw [k1]
      obtain ⟨r, h1, n1, e1, r1, x1⟩ := bclone_spec (f := k0) (by omega) k2 (by omega) (P i).2.2 ((k3.ext x).ext (nx' := nx + 18) ⟨by omega, fun _ _ => rfl⟩)
      have y1 := x1.1
      have hs := hol_succ g n i
      rw [if_neg (by simp [hg])] at hs
      have ob1 := B.b1
      have B1 := B.ext (nx' := n1) ⟨by omega, fun j hj => x1.2 j (by omega)⟩ (X' := ownOf ha) (fun _ _ q => q)
      have hD : nD g Da w i = Da i := by unfold nD; rw [if_neg (by simp [hg])]
      obtain ⟨p1, p2⟩ := B1.set hi (r := r) (by
        rw [hD]
        exact ⟨r1.1, r1.2.imp (fun z => z) fun ⟨id, z1, z2, z3, z4⟩ => ⟨id, z1, by omega, z3, z4⟩⟩) (fun id z => by
        have := (r1.in z).1
        refine ⟨by omega, fun z => by have := hlt _ z; omega, fun j hj hok hne z => ?_⟩
        have := ((B.row j hj hok).in z).2; omega)
      rw [e1]
      simp only [mst_]
      rw [if_pos ⟨by omega, by omega⟩, p1, wsucc (by omega), ← hs]
      refine ih f (i + 1) (fun j => if j = i then r else q j) ha hc _ (n1 + 2) (by omega) (by omega) ⟨by omega, fun j hj => ?_⟩ ?_ ?_ lh ?_
      · rw [put_ne (by omega), x1.2 j (by omega), x.2 j hj]
      · exact (p2.ext (nx' := n1 + 2) ⟨by omega, fun _ _ => rfl⟩ (fun _ _ q => q)).congr (fun j _ => okA_set (.inl hg) j) (fun _ _ _ => rfl)
      · rw [hs]
        exact o.go (D := fun i => i = ob) ⟨by omega, fun j hj hne => by rw [put_ne hne, x1.2 j (by omega)]⟩ (fun j z zz => by subst zz; exact B.bx z) (fun _ _ q => q)
      · intro k hk hkn hgk
        have ek : k ≠ i := fun z => by subst z; rw [hg] at hgk; cases hgk
        simp only [if_neg ek]; exact hq k (by omega) hkn hgk


theorem gb_used {k0 : Nat} (lf : Nat) {g : Nat → Bool} {Dn : Nat → List Nat} {w n p N t : Nat} (hN : N = n + p) (hN2 : N ≤ 256) {a ga : Option (Nat × Nat)} (c gc oc : Bool) {h0 : AHeap} {lo : Nat} (sg : Sl h0 lo ga N 1 (bls g N)) {ob : Nat} {q : Nat → Rw} {hs : List Nat} (hh : hs.length = t) (enough : t ≤ (surv g n p).length) {ha : Option (Nat × Nat)} (hc : Bool) (m : Nat) :
    ∀ (f i : Nat) (ua : Option (Nat × Nat)) (uc : Bool) (h : AHeap) (nx : Nat), i + m = p → m < f → (surv g n i).length ≤ t → Ext h0 lo h nx → Bld h lo nx ob w N (okA g n N) q Dn (hu ha ua) → OwnRows NRow h nx ha 1 hs → OwnRows NRow h nx ua 1 (surv g n i) → (∀ i, ownOf ha i → lo ≤ i) → (∀ i, ownOf ua i → lo ≤ i) → (∀ i, ownOf ua i → ¬ ownOf ha i) →
    ∃ (j : Nat) (ua' : Option (Nat × Nat)) (uc' : Bool) (h' : AHeap) (nx' : Nat), F44_L2 (callP Try.prog keepT k0) Y0 lf f a N c (n : Int) ga N gc (some (ob, 0)) N oc ha t hc ua (surv g n i).length uc ((n + i : Nat) : Int) h nx =
        F44_J4 (callP Try.prog keepT k0) Y0 lf a N c (n : Int) ga N gc (some (ob, 0)) N oc ha t hc ua' t uc' h' nx' ∧ j ≤ p ∧ (surv g n j).length = t ∧ Ext h0 lo h' nx' ∧ Bld h' lo nx' ob w N (okA g n N) q Dn (hu ha ua') ∧ OwnRows NRow h' nx' ha 1 hs ∧ OwnRows NRow h' nx' ua' 1 (surv g n j) := by
  induction m with
  | zero =>
    intro f i ua uc h nx e hf hle x B oh ou lh lu dj
    obtain ⟨f, rfl⟩ : ∃ m, f = m + 1 := ⟨f - 1, by omega⟩
    obtain rfl : i = p := by omega
    rw [F44_L2_eq, if_neg (by simp; omega)]
    have : (surv g n i).length = t := by omega
    rw [this]
    exact ⟨i, ua, uc, h, nx + 11, rfl, by omega, this, x.le (by omega), B.ext ⟨by omega, fun _ _ => rfl⟩ (fun _ _ q => q), oh.go (D := fun _ => False) ⟨by omega, fun _ _ _ => rfl⟩ (fun _ _ q => q) (fun _ _ q => q), ou.go (D := fun _ => False) ⟨by omega, fun _ _ _ => rfl⟩ (fun _ _ q => q) (fun _ _ q => q)⟩
  | succ m ih =>
    intro f i ua uc h nx e hf hle x B oh ou lh lu dj
    obtain ⟨f, rfl⟩ : ∃ m, f = m + 1 := ⟨f - 1, by omega⟩
    have y := x.1
    rw [F44_L2_eq, if_pos (by simp; omega)]
    by_cases ht : (surv g n i).length = t
    · rw [ht, if_neg (by simp)]
      exact ⟨i, ua, uc, h, nx + 11, rfl, by omega, ht, x.le (by omega), B.ext ⟨by omega, fun _ _ => rfl⟩ (fun _ _ q => q), oh.go (D := fun _ => False) ⟨by omega, fun _ _ _ => rfl⟩ (fun _ _ q => q) (fun _ _ q => q), ou.go (D := fun _ => False) ⟨by omega, fun _ _ _ => rfl⟩ (fun _ _ q => q) (fun _ _ q => q)⟩
    · rw [if_pos (by simp; omega), F44_J3_eq, ((sg.ext x).ext (nx' := nx + 11) ⟨by omega, fun _ _ => rfl⟩).readB (by omega)]
      simp only [mst_]
      have ss := surv_succ g n i
      by_cases hg : g (n + i) = true
      · rw [if_pos hg] at ss
        rw [hg, if_not_true', wsucc (by omega), Nat.add_assoc, ← ss]
        exact ih f (i + 1) ua uc h (nx + 11 + 8) (by omega) (by omega) (by rw [ss]; exact hle) (x.le (by omega)) (B.ext ⟨by omega, fun _ _ => rfl⟩ (fun _ _ q => q)) (oh.go (D := fun _ => False) ⟨by omega, fun _ _ _ => rfl⟩ (fun _ _ q => q) (fun _ _ q => q)) (by rw [ss]; exact ou.go (D := fun _ => False) ⟨by omega, fun _ _ _ => rfl⟩ (fun _ _ q => q) (fun _ _ q => q)) lh lu dj
      · have hg : g (n + i) = false := by simpa using hg
        rw [if_neg (by simp [hg])] at ss
        have sl := surv_le g n i
        obtain ⟨E, s1, s2, s3, s4, s5, s6, s7, s8, _⟩ := ou.pushE x lu uc (bytes := 8) (id := nx + 11 + 9) (id2 := nx + 11 + 10) (x := i) (r := [AV.int .i64 (i : Int)]) rfl rfl (growOk_of (by omega) (by omega)) (by omega) (by omega)
        rw [hg, if_not_false', show wrapA .i64 (((n + i : Nat) : Int) - (n : Int)) = (i : Int) from by rw [wA (by omega) (by omega)]; omega]
        rw [s1, some_bind, s2, some_bind, s4, wsucc (by omega), Nat.add_assoc, show (surv g n i).length + 1 = (surv g n (i + 1)).length from by rw [ss]; simp]
        have hlt := oh.lt
        have f6 : Frm (ownOf ua) h nx ((h.put (nx + 11 + 9) (some ⟨[AV.int .i64 (i : Int)], 1, true⟩)).puts E.sets) (nx + 11 + 15) := s6.le (by omega)
        refine ih f (i + 1) E.a E.c _ (nx + 11 + 15) (by omega) (by omega) (by rw [ss]; simp; omega) (s7.le (by omega)) (B.go f6 (fun _ _ z => .inr z) fun j hj z => ?_) (oh.go f6 (fun j z zz => dj j zz z) (fun _ _ q => q)) ?_ lh (fun j z => by have := s8 j z; omega) (fun j z zz => by have := s8 j z; have := hlt j zz; omega)
        · rcases z with z | z
          · exact .inl z
          · have := s8 j z; omega
        · rw [ss]
          exact s5.go (D := fun _ => False) ⟨by omega, fun _ _ _ => rfl⟩ (fun _ _ q => q) (fun _ _ q => q)


theorem gb_last {k0 : Nat} (hk0 : 5010 ≤ k0) (lf : Nat) {g : Nat → Bool} {M : List (List Nat)} {w n p N : Nat} (hn : M.length = n) (hn1 : 1 ≤ n) (hN : N = n + p) (hp : p ≤ 16) (hN2 : N ≤ 256) (hw : w ≤ 4096) (sM : SmallM M) {D : Nat → List Nat} (hD0 : (List.range n).map D = M) (hD1 : ∀ i, i < p → g (n + i) = true → D (n + i) = enc M i w) {a ga : Option (Nat × Nat)} (c gc oc : Bool) {h0 : AHeap} {lo : Nat} (sg : Sl h0 lo ga N 1 (bls g N)) {ob : Nat} (m : Nat) :
    ∀ (f i : Nat) (q : Nat → Rw) (h : AHeap) (nx : Nat), i + m = p → m < f → Ext h0 lo h nx → Bld h lo nx ob w N (okB g n (n + i)) q D (fun _ => False) →
    ∃ (q' : Nat → Rw) (h' : AHeap) (nx' : Nat), F44_L5 (callP Try.prog keepT k0) Y0 lf f a N c (n : Int) ga N gc (some (ob, 0)) N oc ((n + i : Nat) : Int) h nx = some (.slice (some (ob, 0)) N oc, h', nx') ∧ Ext h0 lo h' nx' ∧ Bld h' lo nx' ob w N (okB g n N) q' D (fun _ => False) := by
  induction m with
  | zero =>
    intro f i q h nx e hf x B
    obtain ⟨f, rfl⟩ : ∃ m, f = m + 1 := ⟨f - 1, by omega⟩
    obtain rfl : i = p := by omega
    rw [F44_L5_eq, if_neg (by simp; omega)]
    rw [← hN] at B
    exact ⟨q, h, nx + 6, rfl, x.le (by omega), B.ext ⟨by omega, fun _ _ => rfl⟩ (fun _ _ q => q)⟩
  | succ m ih =>
    intro f i q h nx e hf x B
    obtain ⟨f, rfl⟩ : ∃ m, f = m + 1 := ⟨f - 1, by omega⟩
    have y := x.1
    rw [F44_L5_eq, if_pos (by simp; omega), (sg.ext x).readB (by omega)]
    simp only [mst_]
    by_cases hg : g (n + i) = true
    · rw [if_pos hg, show wrapA .i64 (((n + i : Nat) : Int) - (n : Int)) = (i : Int) from by rw [wA (by omega) (by omega)]; omega, wsucc (by omega), Nat.add_assoc]
      obtain ⟨cp, cc, c1, c2⟩ := B.cut (m := n) (by omega) (fun k hk => (okB_iff _ _ _ _).2 (.inl hk)) oc
      rw [hD0] at c2
      obtain ⟨id, h1, n1, e1, i0, i1, ib, x1⟩ := enc_spec (f := k0) (by omega) i (by omega) (M := M) (w := w) (by omega) (by omega) hw sM cc (c2.ext (nx' := nx + 19) ⟨by omega, fun _ _ => rfl⟩)
      rw [hn] at e1
      have y1 := x1.1
      have ob1 := B.b1
      have b0 := B.b0
      have B1 := B.ext (nx' := n1) ⟨by omega, fun j hj => x1.2 j (by omega)⟩ (X' := fun _ => False) (fun _ _ q => q)
      have hD : D (n + i) = enc M i w := hD1 i (by omega) hg
      obtain ⟨p1, p2⟩ := B1.set (k := n + i) (by omega) (r := (some (id, 0), true)) (by
        rw [hD]
        exact ⟨enc_len _ _ _, .inr ⟨id, rfl, by omega, by omega, ib⟩⟩) (fun id' z => by
        obtain rfl : id = id' := by simpa using z
        refine ⟨by omega, fun z => z, fun j hj hok hne z => ?_⟩
        have := ((B.row j hj hok).in z).2; omega)
      have p1 := fun {R : Type} (K : ABlk → Option R) => p1 K
      dsimp only at p1
      rw [c1, some_bind]
      dsimp only
      rw [e1]
      simp only [mst_]
      rw [if_pos ⟨by omega, by omega⟩, p1]
      refine ih f (i + 1) (fun j => if j = n + i then (some (id, 0), true) else q j) _ (n1 + 3) (by omega) (by omega) ⟨by omega, fun j hj => ?_⟩ ?_
      · rw [put_ne (by omega), x1.2 j (by omega), x.2 j hj]
      · exact (p2.ext (nx' := n1 + 3) ⟨by omega, fun _ _ => rfl⟩ (fun _ _ q => q)).congr (fun j _ => okB_set j) (fun _ _ _ => rfl)
    · have hg : g (n + i) = false := by simpa using hg
      rw [if_neg (by simp [hg]), wsucc (by omega), Nat.add_assoc]
      exact ih f (i + 1) q h (nx + 11) (by omega) (by omega) (x.le (by omega)) ((B.ext (nx' := nx + 11) ⟨by omega, fun _ _ => rfl⟩ (fun _ _ q => q)).congr (fun j _ => okB_skip hg j) (fun _ _ _ => rfl))



end Go.Proofs.Ytalfcokiooaliaa.T

namespace Go.Proofs.Ytalfcokiooaliaa.T
open Go Go.RowKit Go.Proofs

theorem rebuilt_any {f : Nat} (hf : 5300 ≤ f) {g : Nat → Bool} {Da : Nat → List Nat} {w n p N : Nat} (hn1 : 1 ≤ n) (hn12 : n ≤ 12) (hp3 : p ≤ 3) (hN : N = n + p) (G : GoodA g Da N w) (hw : w ≤ 4096)
    {a ga : Option (Nat × Nat)} (c gc : Bool) {h : AHeap} {nx : Nat} (t : Torn h nx a N g w Da) (sg : Sl h nx ga N 1 (bls g N)) (enough : ((List.range n).filter g).length ≤ (surv g n p).length) (kp : 1 ≤ (kept g N).length) :
    ∃ us ob oc h' nx' R, us.length = ((List.range n).filter g).length ∧ us.Pairwise (· < ·) ∧ (∀ u ∈ us, u < p ∧ g (n + u) = false) ∧ callP Try.prog keepT f Y0 44 [.slice a N c, .int .i64 (n : Int), .slice ga N gc] h nx = some (.slice (some (ob, 0)) N oc, h', nx') ∧ Ext h nx h' nx' ∧ Mat h' nx' .u8 (some (ob, 0)) (solA g Da n w us us.length ++ R) w ∧ R.length = p := by
  obtain ⟨f, rfl⟩ : ∃ m, f = m + 1 := ⟨f - 1, by omega⟩
  obtain ⟨la, lc, h1, n1, e1, x1, m1⟩ := left_spec (f := f) (by omega) c gc (by omega) (t.ext (nx' := nx + 8) ⟨by omega, fun _ _ => rfl⟩) (sg.ext (nx' := nx + 8) ⟨by omega, fun _ _ => rfl⟩)
  have y1 := x1.1
  obtain ⟨q0, q1, q2, q3⟩ := m1.row (R := AV × AHeap × Nat) (i := 0) (by rw [List.length_map]; omega)
  rw [List.length_map, show ((0 : Nat) : Int) = 0 from rfl] at q3
  rw [F44_eq, e1]
  simp only [mst_]
  rw [q3]
  simp only [mst_]
  rw [if_pos (by simp; omega)]
  have hz : madeA [AV.slice none 0 false] (Int.toNat ((N : Nat) : Int) * 1) = outCells w N (fun _ => false) (fun _ => (none, false)) := by
    rw [Int.toNat_natCast, Nat.mul_one]; exact outCells_zero _ _ _
  rw [hz, show Int.toNat ((N : Nat) : Int) = N from Int.toNat_natCast N, show (((N : Nat) : Int) == ((N : Nat) : Int)) = true from by simp]
  obtain ⟨H, hH⟩ : ∃ H, H = h1.put (n1 + 2) (some ⟨outCells w N (fun _ => false) (fun _ => (none, false)), 1, true⟩) := ⟨_, rfl⟩
  have x2 : Ext h nx H (n1 + 9) := ⟨by omega, fun j hj => by rw [hH, put_ne (by omega), x1.2 j (by omega)]⟩
  have B0 : Bld H nx (n1 + 9) (n1 + 2) w N (fun _ => false) (fun _ => (none, false)) (nD g Da w) (ownOf none) := Bld.new (by rw [hH]; exact put_same _ _ _) (by omega) (by omega) (fun ⟨_, z⟩ => by cases z) _
  rw [← hH]
  obtain ⟨q', ha, hc, h3, n3, e3, x3, B3, o3, l3, t3⟩ := gb_first (k0 := f) (by omega) f (n := n) (by omega) hw c gc true t sg (ob := n1 + 2) (by omega) N f 0 (fun _ => (none, false)) none false H (n1 + 9) (by omega) (by omega) x2 (B0.congr (fun j _ => by simp [okA]) (fun _ _ _ => rfl)) (OwnRows.nil _ _ _ _) (fun i ⟨_, z⟩ => by cases z) (fun k hk => by omega)
  rw [show ((0 : Nat) : Int) = 0 from rfl] at e3
  change F44_L1 _ _ _ _ _ _ _ _ _ _ _ _ _ _ _ none 0 false none 0 false _ _ _ _ 0 _ _ = _ at e3
  rw [e3]
  have hh : hol g n N = (List.range n).filter g := hol_all g (by omega)
  rw [hh] at o3 ⊢
  obtain ⟨hs, hhs⟩ : ∃ hs, hs = (List.range n).filter g := ⟨_, rfl⟩
  rw [← hhs] at o3 enough ⊢
  obtain ⟨tt, ht⟩ : ∃ tt, hs.length = tt := ⟨_, rfl⟩
  rw [ht] at enough ⊢
  obtain ⟨j, ua, uc, h4, n4, e4, jp, jt, x4, B4, oh4, ou4⟩ := gb_used (k0 := f) (Dn := nD g Da w) f hN (by omega) c gc true sg ht enough (ha := ha) hc p f 0 none false h3 n3 (by omega) (by omega) (by simp [surv]) x3 (a := a) (B3.go (Y := fun _ => False) ⟨Nat.le_refl _, fun _ _ _ => rfl⟩ (fun _ _ q => q.elim) fun i _ z => by
    rcases z with z | ⟨_, z⟩
    · exact z
    · cases z) o3 (OwnRows.nil _ _ _ _) l3 (fun i ⟨_, z⟩ => by cases z) (fun i ⟨_, z⟩ => by cases z)
  change F44_L2 _ _ _ _ _ _ _ _ _ _ _ _ _ _ _ _ _ none 0 false ((n : Nat) : Int) _ _ = _ at e4
  rw [e4, F44_J4_eq]
  have hk : ∀ k, k < n → okA g n N k = true := fun k hk => (okA_iff _ _ _ _).2 ⟨by omega, .inr hk⟩
  have sp := surv_pw g n j
  have u3 : ∀ u ∈ surv g n j, u < 3 := fun u hu => by have := (surv_mem hu).1; omega
  have uN : ∀ u ∈ surv g n j, n + u < N ∧ g (n + u) = false := fun u hu => ⟨by have := (surv_mem hu).1; omega, (surv_mem hu).2⟩
  have hht : ((List.range n).filter g).length = tt := by rw [← hhs]; exact ht
  have enc2 := solA_enc G hn12 (by omega) jt hht sp u3 uN
  have hn := solA_len g Da n w (surv g n j) tt
  have hM : ∀ r ∈ solA g Da n w (surv g n j) tt, r.length = w := solA_row G (by omega)
  have sM : SmallM (solA g Da n w (surv g n j) tt) := solA_small G (by omega)
  have kM : ∀ k, k < n → g k = false → (solA g Da n w (surv g n j) tt).getD k [] = Da k := fun k hk hg => by rw [solA_get hk, if_neg (by simp [hg])]
  generalize hMe : solA g Da n w (surv g n j) tt = M at *
  obtain ⟨h5, n5, e5, f5, B5⟩ := fill_spec (f := f) (by omega) hn hn1 hn12 (N := N) (by omega) (by omega) hM sM hw (us := surv g n j) (hs := hs) jt ht hhs sp u3 (fun u hu => (uN u hu).1) (by
      have := surv_le g n j; omega) hc uc true (h := h4) (nx := n4 + 5) (B4.ext (nx' := n4 + 5) ⟨by omega, fun _ _ => rfl⟩ (fun _ _ q => q)) hk
    (fun u hu => (okA_iff _ _ _ _).2 ⟨(uN u hu).1, .inl (uN u hu).2⟩) (fun k hk hg => t3 k (by omega) hk hg) (fun k hk => by
      unfold nD
      by_cases z : g k = true
      · rw [if_pos z, if_pos z]
      · rw [if_neg z, if_neg z, kM k hk (by simpa using z)]) (fun u hu => by
      unfold nD
      rw [if_neg (by simp [(uN u hu).2])]; exact enc2 u hu)
    ((NRow.sl oh4 ht).ext (nx' := n4 + 5) ⟨by omega, fun _ _ => rfl⟩) ((NRow.sl ou4 jt).ext (nx' := n4 + 5) ⟨by omega, fun _ _ => rfl⟩) (fun i z => .inl z)
  have y5 := f5.1
  have y4 := x4.1
  rw [e5]
  simp only [mst_]
  obtain ⟨D, hD⟩ : ∃ D : Nat → List Nat, D = fun k => if k < n then M.getD k [] else if g k then enc M (k - n) w else Da k := ⟨_, rfl⟩
  have hD0 : (List.range n).map D = M := by
    apply List.ext_getElem
    · simp [hn]
    · intro i h1 h2
      simp only [List.getElem_map, List.getElem_range]
      rw [hD]
      simp only [if_pos (show i < n by omega)]
      rw [getD_at h2]
  obtain ⟨q6, h6, n6, e6, x6, B6⟩ := gb_last (k0 := f) (by omega) f hn hn1 hN (by omega) (by omega) hw sM hD0 (fun i hi hg => by
      rw [hD]
      simp only [if_neg (show ¬ n + i < n by omega), if_pos hg]
      congr 1; omega) (a := a) c gc true sg p f 0 q' h5 (n5 + 2) (by omega) (by omega) ⟨by omega, fun i hi => by rw [f5.2 i (by omega) (fun z => by omega), x4.2 i hi]⟩
    ((B5.ext (nx' := n5 + 2) ⟨by omega, fun _ _ => rfl⟩ (X' := fun _ => False) (fun _ _ q => q.elim)).congr (fun k hk => by
      rw [Bool.eq_iff_iff, okA_iff, okB_iff]
      constructor
      · rintro ⟨_, z | z⟩
        · exact .inr (.inl z)
        · exact .inl z
      · rintro (z | z | z)
        · exact ⟨by omega, .inr z⟩
        · exact ⟨by omega, .inl z⟩
        · exact ⟨by omega, .inr (by omega)⟩) fun k hk hok => by
      rw [hD]
      by_cases z : k < n
      · simp only [if_pos z]
      · simp only [if_neg z]
        rcases (okB_iff _ _ _ _).1 hok with q | q | q
        · omega
        · unfold nD
          rw [if_neg (by simp [q]), if_neg (by simp [q])]
        · omega)
  rw [show ((n + 0 : Nat) : Int) = (n : Int) from rfl] at e6
  rw [e6]
  refine ⟨surv g n j, n1 + 2, true, h6, n6, (List.range p).map fun i => D (n + i), by rw [jt, ← ht], sp, fun u hu => ⟨by have := (surv_mem hu).1; omega, (surv_mem hu).2⟩, rfl, x6, ?_, by simp⟩
  have := B6.all fun k hk => (okB_iff _ _ _ _).2 (.inr (.inr hk))
  have e : (List.range N).map D = M ++ (List.range p).map fun i => D (n + i) := by
    rw [← hD0, hN, List.range_add, List.map_append, List.map_map]; rfl
  rw [e] at this
  rw [jt, hMe]
  exact this

end Go.Proofs.Ytalfcokiooaliaa.T

namespace Go.Proofs.Ytalfcokiooaliaa.T
open Go Go.RowKit Go.Proofs

theorem inL_nd {ls : List Nat} {i k : Nat} (hp : ls.Nodup) (hi : i < ls.length) (hk : ls[i] = k) : inL ls i k = false := by
  unfold inL
  rw [decide_eq_false_iff_not]
  intro hm
  obtain ⟨j, hj, e⟩ := List.getElem_of_mem hm
  have hji : j < i := by rw [List.length_take] at hj; omega
  rw [List.getElem_take] at e
  have := (List.pairwise_iff_getElem.1 hp) j i (by omega) hi hji
  exact this (e.trans hk.symm)
theorem inL_ls {g : Nat → Bool} {ls : List Nat} {N t j : Nat} (ht : ls.length = t) (hg : ∀ j, j < N → g j = decide (j ∈ ls)) (hj : j < N) : inL ls t j = g j := by
  unfold inL
  rw [List.take_of_length_le (by omega), hg j hj]
theorem cnt_congr {g g' : Nat → Bool} : ∀ n, (∀ j, j < n → g j = g' j) → cnt g n = cnt g' n
  | 0, _ => rfl
  | n + 1, h => by rw [cnt_succ, cnt_succ, cnt_congr n fun j hj => h j (by omega), h n (by omega)]
theorem cnt_mem : ∀ {ls : List Nat} {N : Nat}, (∀ k ∈ ls, k < N) → ls.Nodup → cnt (fun j => decide (j ∈ ls)) N = ls.length
  | [], N, _, _ => by
    have : cnt (fun j => decide (j ∈ ([] : List Nat))) N = cnt (fun _ => false) N := cnt_congr N fun j _ => by simp
    rw [this]; unfold cnt; rw [List.filter_eq_nil_iff.2 (by simp)]
  | k :: ls, N, h, nd => by
    have nd' := List.nodup_cons.1 nd
    have e : cnt (fun j => decide (j ∈ k :: ls)) N = cnt (fun j => j == k || decide (j ∈ ls)) N := cnt_congr N fun j _ => by
      rw [Bool.eq_iff_iff]; simp
    rw [e, cnt_set (g := fun j => decide (j ∈ ls)) (by simpa using nd'.1), cnt_mem (fun j hj => h j (List.mem_cons_of_mem _ hj)) nd'.2, if_pos (h k List.mem_cons_self)]
    rfl
theorem cnt_ls {g : Nat → Bool} {ls : List Nat} {N : Nat} (hmem : ∀ k ∈ ls, k < N) (hnd : ls.Nodup) (hg : ∀ j, j < N → g j = decide (j ∈ ls)) : cnt g N = ls.length := by
  rw [cnt_congr N hg, cnt_mem hmem hnd]

theorem ggone_loop (call : YldF → CallF) (lf : Nat) {N t : Nat} (hN : N ≤ 256) {g : Nat → Bool} {ls : List Nat} (ht : ls.length = t) (hmem : ∀ k ∈ ls, k < N) (hnd : ls.Nodup) (hg : ∀ j, j < N → g j = decide (j ∈ ls)) (a : Option (Nat × Nat)) {la : Option (Nat × Nat)} (c lc gc : Bool) (p n : Int) {h0 : AHeap} {n0 id : Nat} (sl : Sl h0 n0 la t 1 (ints .i64 (nints ls))) (hid : n0 ≤ id) (m : Nat) :
    ∀ (f i : Nat) (h : AHeap) (nx : Nat), i + m = t → m < f → id < nx → Ext h0 n0 h nx → h id = some ⟨bls (inL ls i) N, 1, true⟩ →
    ∃ (f' : Nat) (h' : AHeap) (nx' : Nat), F31_L2 call Y0 lf f a N c p la t lc n (some (id, 0)) N gc 0 la t lc ((t : Nat) : Int) (i : Int) h nx = F31_L2 call Y0 lf (f' + 1) a N c p la t lc n (some (id, 0)) N gc 0 la t lc ((t : Nat) : Int) (t : Int) h' nx' ∧ Ext h0 n0 h' nx' ∧ h' id = some ⟨bls g N, 1, true⟩ ∧ id < nx' := by
  have htl : t ≤ N := by rw [← ht, ← cnt_ls hmem hnd hg]; exact cnt_le g N
  induction m with
  | zero =>
    intro f i h nx e hf hlt x hb
    obtain ⟨f, rfl⟩ : ∃ m, f = m + 1 := ⟨f - 1, by omega⟩
    obtain rfl : i = t := by omega
    rw [bls_congr (g' := g) fun j hj => inL_ls ht hg hj] at hb
    exact ⟨f, h, nx, rfl, x, hb, hlt⟩
  | succ m ih =>
    intro f i h nx e hf hlt x hb
    obtain ⟨f, rfl⟩ : ∃ m, f = m + 1 := ⟨f - 1, by omega⟩
    have hi : i < t := by omega
    have y := x.1
    obtain ⟨k, hk⟩ : ∃ k, ls[i]'(by omega) = k := ⟨_, rfl⟩
    have hkN : k < N := hmem k (by rw [← hk]; exact List.getElem_mem _)
    rw [F31_L2_eq, if_pos (by simpa using hi), (sl.ext x).readN ht (by omega)]
    simp only [mst_]
    rw [hk, if_neg (by simp), if_neg (by simp; omega)]
    rw [if_pos ⟨by omega, by omega⟩, show 0 + Int.toNat (k : Int) * 1 = k from by omega, ld_at hb (bls_get _ hkN), inL_nd hnd (by omega) hk]
    simp only [mst_]
    rw [if_pos ⟨by omega, by omega⟩, st_to hb rfl (by rw [bls_len]; exact hkN) bls_set, wsucc (by omega)]
    refine ih f (i + 1) _ (nx + 24) (by omega) (by omega) (by omega) ⟨by omega, fun j hj => by rw [put_ne (by omega), x.2 j hj]⟩ ?_
    rw [put_same, bls_congr fun j _ => inL_set (by omega) hk j]


theorem rebuild_any {f : Nat} (hf : 5400 ≤ f) {g : Nat → Bool} {Da : Nat → List Nat} {w n p N t : Nat} (hn1 : 1 ≤ n) (hn12 : n ≤ 12) (hp1 : 1 ≤ p) (hp3 : p ≤ 3) (hN : N = n + p) (G : GoodA g Da N w) (hw : w ≤ 4096) {ls : List Nat} (ht : ls.length = t) (hmem : ∀ k ∈ ls, k < N) (hnd : ls.Nodup) (hg : ∀ j, j < N → g j = decide (j ∈ ls))
    {a la : Option (Nat × Nat)} (c lc : Bool) {h : AHeap} {nx : Nat} (T : Torn h nx a N g w Da) (sl : Sl h nx la t 1 (ints .i64 (nints ls))) (htp : t ≤ p) :
    ∃ us ob oc h' nx' R, us.length = ((List.range n).filter g).length ∧ us.Pairwise (· < ·) ∧ (∀ u ∈ us, u < p ∧ g (n + u) = false) ∧ callP Try.prog keepT f Y0 31 [.slice a N c, .int .i64 (p : Int), .slice la t lc] h nx = some (.tuple [.slice (some (ob, 0)) N oc, .int .i64 0], h', nx') ∧ Ext h nx h' nx' ∧ Mat h' nx' .u8 (some (ob, 0)) (solA g Da n w us us.length ++ R) w ∧ R.length = p := by
  obtain ⟨f, rfl⟩ : ∃ m, f = m + 1 := ⟨f - 1, by omega⟩
  obtain ⟨k, rfl⟩ : ∃ m, f = m + 1 := ⟨f - 1, by omega⟩
  have htl : t ≤ N := by rw [← ht, ← cnt_ls hmem hnd hg]; exact cnt_le g N
  rw [F31_eq, F36_eq, if_pos (by simp; omega), decide_eq_true (by omega)]
  simp only [mst_]
  rw [if_pos (show (p : Int) > 0 by omega), if_pos (show (p : Int) < ((N : Nat) : Int) by omega)]
  rw [show wrapA .i64 (((N : Nat) : Int) - (p : Int)) = (n : Int) from by rw [wA (by omega) (by omega)]; omega]
  rw [if_neg (by simp; omega), if_neg (by simp; omega), F31_J1_eq, if_pos (by simp; omega)]
  have hz : madeA [AV.bool false] (Int.toNat ((N : Nat) : Int) * 1) = bls (inL ls 0) N := by
    rw [Int.toNat_natCast, Nat.mul_one, inL_zero]; exact bls_false N
  rw [hz, show Int.toNat ((N : Nat) : Int) = N from Int.toNat_natCast N]
  obtain ⟨f', h1, n1, e1, x1, b1, l1⟩ := ggone_loop (callP Try.prog keepT (k + 1)) (k + 1) (N := N) (by omega) ht hmem hnd hg a c lc (((N : Nat) : Int) == ((N : Nat) : Int)) (p : Int) (n : Int) (id := nx + 22 + 8 + 2) sl (by omega) t (k + 1) 0 (h.put (nx + 22 + 8 + 2) (some ⟨bls (inL ls 0) N, 1, true⟩)) (nx + 22 + 8 + 8) (by omega) (by omega) (by omega) ⟨by omega, fun j hj => put_ne (by omega)⟩ (put_same _ _ _)
  rw [show ((0 : Nat) : Int) = 0 from rfl] at e1
  dsimp only
  rw [e1, F31_L2_eq, if_neg (by simp), if_pos (by simp)]
  have y1 := x1.1
  rw [if_neg (by simp; omega), F31_J3_eq, if_neg (by simp)]
  have sg : Sl h1 (n1 + 9) (some (nx + 22 + 8 + 2, 0)) N 1 (bls g N) := Sl.ofBlk b1 (by rw [bls_len]; omega) (by omega)
  have T1 := T.ext (x1.le (show n1 ≤ n1 + 9 + 7 by omega))
  obtain ⟨oa, oc, h2, n2, e2, x2, m2⟩ := left_spec (f := k + 1) (by omega) c (((N : Nat) : Int) == ((N : Nat) : Int)) (n := N) (by omega) T1 (sg.ext (nx' := n1 + 9 + 7) ⟨by omega, fun _ _ => rfl⟩)
  have kl := kept_le g N
  have y2 := x2.1
  obtain ⟨h3, n3, e3, x3⟩ := even_spec (f := k + 1) (by omega) (M := (kept g N).map Da) (by rw [List.length_map]; omega) hw oc m2
  rw [List.length_map] at e3
  have y3 := x3.1
  have ck := cnt_kept g N
  have cs := cnt_surv g n p
  have hct : cnt g N = t := by rw [cnt_ls hmem hnd hg, ht]
  rw [← hN, hct] at cs
  obtain ⟨us, ob, ooc, h4, n4, R, u1, u2, u3, e4, x4, m4, r4⟩ := rebuilt_any (f := k + 1) (by omega) hn1 hn12 hp3 hN G hw c (((N : Nat) : Int) == ((N : Nat) : Int)) (h := h3) (nx := n3 + 6)
    ((T1.ext x2).ext ⟨by omega, fun j hj => x3.2 j hj⟩) ((sg.ext (nx' := n2) ⟨by omega, fun j hj => x2.2 j (by omega)⟩).ext ⟨by omega, fun j hj => x3.2 j hj⟩) (by change cnt g n ≤ _; omega) (by omega)
  have y4 := x4.1
  rw [e2]
  simp only [mst_]
  rw [e3]
  simp only [mst_]
  rw [e4]
  simp only [mst_]
  exact ⟨us, ob, ooc, h4, n4, R, u1, u2, u3, rfl, ⟨by omega, fun j hj => by rw [x4.2 j (by omega), x3.2 j (by omega), x2.2 j (by omega), x1.2 j hj]⟩, m4, r4⟩

end Go.Proofs.Ytalfcokiooaliaa.T

namespace Go.Proofs.Ytalfcokiooaliaa.T
open Go Go.RowKit Go.Proofs

/-! ### stripe.Lay -/
theorem OwnRows.pushF {α : Type} {Q : α → List AV → Prop} {h : AHeap} {nx : Nat} {a : Option (Nat × Nat)} {es : Nat} {l : List α} (w : OwnRows Q h nx a es l) (c : Bool) {bytes id id2 : Nat} {x : α} {r : List AV} (hr : r.length = es) (hq : Q x r) (hg : growOk (l.length + 1) bytes = true) (h1 : nx ≤ id) (h2 : id < id2) :
    ∃ e, srcS (h.put id (some ⟨r, es, true⟩)) (some (id, 0)) 1 es = some (1, r, [id]) ∧ appD (h.put id (some ⟨r, es, true⟩)) a l.length c es bytes id2 (1, r, [id]) = some e ∧ e.a = some (id2, 0) ∧ e.n = l.length + 1 ∧
      OwnRows Q ((h.put id (some ⟨r, es, true⟩)).puts e.sets) (id2 + 1) e.a es (l ++ [x]) ∧ (∀ j, ¬ ownOf a j → j ≠ id → j ≠ id2 → ((h.put id (some ⟨r, es, true⟩)).puts e.sets) j = h j) ∧ (∀ i, ownOf e.a i → i = id2) ∧ ∀ i, i ∈ e.reads → ownOf a i ∨ i = id := by
  obtain ⟨e, s1, s2, s3, s4, s5, s6, s7, s8⟩ := w.push c hr hq hg h1 h2
  refine ⟨e, s1, s2, s3, s4, s5, fun j j1 j2 j3 => ?_, fun i hi => ?_, fun i hi => ?_⟩
  · rw [puts_get, put_ne j2]
    intro hx
    rcases s8 j hx with q | q
    · exact j1 q
    · exact j3 q
  · obtain ⟨o, ho⟩ := hi
    rw [s3] at ho
    have := congrArg Prod.fst (Option.some.inj ho)
    exact this.symm
  · rcases appD_reads s2 i hi with q | q
    · exact .inl q
    · simp at q; exact .inr q

abbrev Tri := Option (Nat × Nat) × Nat × Bool
def tcell (t : Tri) : AV := .slice t.1 t.2.1 t.2.2
def tcells (P : Nat → Tri) (N : Nat) : List AV := (List.range N).map fun k => tcell (P k)
theorem tcells_len (P : Nat → Tri) (N : Nat) : (tcells P N).length = N := by simp [tcells]
theorem tcells_get {P : Nat → Tri} {N k : Nat} (hk : k < N) : (tcells P N)[k]? = some (tcell (P k)) := by simp [tcells, List.getElem?_range hk]
theorem tcells_set {P : Nat → Tri} {N k : Nat} {t : Tri} : (tcells P N).set k (tcell t) = tcells (fun j => if j = k then t else P j) N := by
  apply List.ext_getElem
  · simp [tcells]
  · intro j h1 h2
    rw [List.getElem_set]
    simp only [tcells, List.getElem_map, List.getElem_range]
    by_cases ej : k = j
    · subst ej; simp
    · rw [if_neg ej, if_neg (Ne.symm ej)]
theorem tcells_zero (N : Nat) : madeA [AV.slice none 0 false] N = tcells (fun _ => (none, 0, false)) N := by
  rw [made1]
  apply List.ext_getElem
  · simp [tcells]
  · intro i h1 h2; simp [tcells, tcell]

def bw (d p n c : Nat) : Nat := lenC d p n c * 128
def pieceC (Pd : List Nat) (d p n i : Nat) : List Nat := (Pd.drop (offC d p n i * 128)).take (bw d p n (p + i))
def wholeL (Pd : List Nat) (d p n i : Nat) : List (List Nat) := (List.range i).map fun j => padW (bw d p n 0) (pieceC Pd d p n j)
theorem wholeL_succ (Pd : List Nat) (d p n i : Nat) : wholeL Pd d p n (i + 1) = wholeL Pd d p n i ++ [padW (bw d p n 0) (pieceC Pd d p n i)] := by simp [wholeL, List.range_succ]
theorem wholeL_len (Pd : List Nat) (d p n i : Nat) : (wholeL Pd d p n i).length = i := by simp [wholeL]
theorem offC_mono (d p n : Nat) {i : Nat} : ∀ j, i ≤ j → offC d p n i ≤ offC d p n j
  | 0, h => by obtain rfl : i = 0 := by omega
               exact Nat.le_refl _
  | j + 1, h => by
    by_cases e : i = j + 1
    · subst e; exact Nat.le_refl _
    · have := offC_mono d p n j (i := i) (by omega)
      show _ ≤ offC d p n j + _; omega
theorem Geo.off {d p n : Nat} (g : Geo d p n) {i : Nat} (hi : i < colN d p n - p) : offC d p n i + lenC d p n (p + i) ≤ n := by
  have h1 := offC_mono d p n (i := i + 1) (colN d p n - p) (by omega)
  rw [g.sum] at h1
  exact h1
theorem piece_len {Pd : List Nat} {d p n : Nat} (g : Geo d p n) (hP : Pd.length = n * 128) {i : Nat} (hi : i < colN d p n - p) : (pieceC Pd d p n i).length = bw d p n (p + i) := by
  have := g.off hi
  unfold pieceC bw
  rw [List.length_take, List.length_drop, hP]; omega
theorem bw_le {d p n : Nat} (g : Geo d p n) {c : Nat} (hc : c < 8) : bw d p n c ≤ bw d p n 0 := Nat.mul_le_mul_right _ (g.le c hc)
theorem bw_pos {d p n : Nat} (g : Geo d p n) {c : Nat} (hc : c < colN d p n) : 1 ≤ bw d p n c := by have := g.pos c hc; unfold bw; omega
theorem bw_max {d p n : Nat} (g : Geo d p n) : bw d p n 0 ≤ 4096 := by have := g.l32; unfold bw; omega
theorem piece_small {Pd : List Nat} (s : Small Pd) (d p n i : Nat) : Small (pieceC Pd d p n i) := fun x hx => s x (List.mem_of_mem_drop (List.mem_of_mem_take hx))

/-- The set that the columns avoid. -/
def avL (ob : Nat) (wa : Option (Nat × Nat)) : Nat → Prop := fun j => j = ob ∨ ownOf wa j

theorem lay_loop {k0 : Nat} (hk0 : 10 ≤ k0) (lf : Nat) {d p a n : Nat} (g : Geo d p n) {Pd : List Nat} (hP : Pd.length = n * 128) {sa : Option (Nat × Nat)} (sc : Bool) {bid rb ob : Nat} (oc : Bool) {h0 : AHeap} {n0 : Nat}
    (hb : h0 bid = some ⟨[.slice sa (colN d p n) sc, .int .i64 (p : Int), .int .i64 ((bw d p n 0 : Nat) : Int)], 3, true⟩) (hbl : bid < n0) (shp : Shp h0 n0 sa d p a n) (rest : Sl h0 n0 (some (rb, 0)) (n * 128) 1 (ints .u8 (nints Pd))) (hrb : rb < n0) (hob : n0 ≤ ob) (m : Nat) :
    ∀ (f i : Nat) (rc : Bool) (P : Nat → Tri) (wa : Option (Nat × Nat)) (wc : Bool) (h : AHeap) (nx : Nat), i + m = colN d p n - p → m < f → ob < nx → Ext h0 n0 h nx → h ob = some ⟨tcells P (colN d p n), 1, true⟩ →
      (∀ k, p ≤ k → k < p + i → (P k).2.1 = bw d p n k ∧ Sl h nx (P k).1 (bw d p n k) 1 (ints .u8 (nints (pieceC Pd d p n (k - p)))) ∧ Av (fun j => avL ob wa j ∨ j < n0) (P k).1 (bw d p n k)) →
      OwnRows (BlkRow .u8 h nx (avL ob wa) (bw d p n 0)) h nx wa 1 (wholeL Pd d p n i) → (∀ j, ownOf wa j → n0 ≤ j ∧ j ≠ ob) →
    ∃ (f' : Nat) (ra' : Option (Nat × Nat)) (rn' : Nat) (rc' : Bool) (P' : Nat → Tri) (wa' : Option (Nat × Nat)) (wc' : Bool) (h' : AHeap) (nx' : Nat),
      F16_L1 (callP Try.prog keepT k0) Y0 lf f (p : Int) (some (bid, 0)) (some (rb, offC d p n i * 128)) ((n - offC d p n i) * 128) rc (some (ob, 0)) (colN d p n) oc wa i wc ((p + i : Nat) : Int) h nx =
        F16_L1 (callP Try.prog keepT k0) Y0 lf (f' + 1) (p : Int) (some (bid, 0)) ra' rn' rc' (some (ob, 0)) (colN d p n) oc wa' (colN d p n - p) wc' ((colN d p n : Nat) : Int) h' nx' ∧ ob < nx' ∧ Ext h0 n0 h' nx' ∧ h' ob = some ⟨tcells P' (colN d p n), 1, true⟩ ∧
      (∀ k, p ≤ k → k < colN d p n → (P' k).2.1 = bw d p n k ∧ Sl h' nx' (P' k).1 (bw d p n k) 1 (ints .u8 (nints (pieceC Pd d p n (k - p)))) ∧ Av (fun j => avL ob wa' j ∨ j < n0) (P' k).1 (bw d p n k)) ∧
      OwnRows (BlkRow .u8 h' nx' (avL ob wa') (bw d p n 0)) h' nx' wa' 1 (wholeL Pd d p n (colN d p n - p)) ∧ (∀ j, ownOf wa' j → n0 ≤ j ∧ j ≠ ob) := by
  have gp := g.pN
  have g8 := g.N8
  obtain ⟨N, hN⟩ : ∃ N, colN d p n = N := ⟨_, rfl⟩
  have W4 := bw_max g
  induction m with
  | zero =>
    intro f i rc P wa wc h nx e hf hlt x hbo hc o lo
    obtain ⟨f, rfl⟩ : ∃ m, f = m + 1 := ⟨f - 1, by omega⟩
    obtain rfl : i = colN d p n - p := by omega
    rw [show p + (colN d p n - p) = colN d p n from by omega] at hc ⊢
    exact ⟨f, _, _, rc, P, wa, wc, h, nx, rfl, hlt, x, hbo, hc, o, lo⟩
  | succ m ih =>
    intro f i rc P wa wc h nx e hf hlt x hbo hc o lo
    obtain ⟨f, rfl⟩ : ∃ m, f = m + 1 := ⟨f - 1, by omega⟩
    have y := x.1
    have hi : i < colN d p n - p := by omega
    have hcN : p + i < colN d p n := by omega
    have go := g.off hi
    have pl := piece_len g hP hi
    have ble := bw_le g (c := p + i) (by omega)
    have hwl := wholeL_len Pd d p n i
    have olt := o.lt
    have hbh : h bid = some ⟨[.slice sa (colN d p n) sc, .int .i64 (p : Int), .int .i64 ((bw d p n 0 : Nat) : Int)], 3, true⟩ := (x.2 bid hbl).trans hb
    obtain ⟨w, hw⟩ : ∃ w, bw d p n (p + i) = w := ⟨_, rfl⟩
    have hw' : lenC d p n (p + i) * 128 = w := hw
    have hsz := size_spec (f := k0) (by omega) g sc (p : Int) ((bw d p n 0 : Nat) : Int) (shp.ext (x.le (show nx ≤ nx + 20 by omega))) hcN
    rw [hw'] at hsz
    obtain ⟨h1, hh1⟩ : ∃ h1, h1 = h.put (nx + 20) (some ⟨[.slice sa (colN d p n) sc, .int .i64 (p : Int), .int .i64 ((bw d p n 0 : Nat) : Int)], 3, true⟩) := ⟨_, rfl⟩
    rw [← hh1] at hsz
    have x1 : Ext h nx h1 (nx + 30) := ⟨by omega, fun j hj => by rw [hh1, put_ne (by omega)]⟩
    -- what is left
    have restI : Sl h0 n0 (some (rb, offC d p n i * 128)) ((n - offC d p n i) * 128) 1 (ints .u8 (nints (Pd.drop (offC d p n i * 128)))) := by
      obtain ⟨_, c2, _⟩ := rest.cut true (lo := offC d p n i * 128) (hi := n * 128) (l := some (.int .i64 ((offC d p n i * 128 : Nat) : Int))) (r := none) (by omega) (by omega) (bound_some (by omega)) bound_none
      have e1 : shiftAddr (some (rb, 0)) (offC d p n i * 128 * 1) = some (rb, offC d p n i * 128) := by simp [shiftAddr]
      rw [e1, show n * 128 - offC d p n i * 128 = (n - offC d p n i) * 128 from by omega] at c2
      have e2 : ((ints .u8 (nints Pd)).drop (offC d p n i * 128 * 1)).take ((n - offC d p n i) * 128 * 1) = ints .u8 (nints (Pd.drop (offC d p n i * 128))) := by
        rw [nints_drop, ints, ints, List.map_drop, Nat.mul_one, Nat.mul_one, List.take_of_length_le]
        rw [List.length_drop, List.length_map, nints_len, hP]; omega
      rw [e2] at c2; exact c2
    have xr1 : Ext h0 n0 h1 (nx + 30) := x.trans x1
    obtain ⟨u1, u2, _⟩ := (restI.ext xr1).cut rc (lo := 0) (hi := w) (l := none) (r := some (.int .i64 ((w : Nat) : Int))) (by omega) (by omega) bound_none (bound_some (by omega))
    have e3 : ((ints .u8 (nints (Pd.drop (offC d p n i * 128)))).drop (0 * 1)).take ((w - 0) * 1) = ints .u8 (nints (pieceC Pd d p n i)) := by
      unfold pieceC
      rw [hw, nints_take, ints, ints, List.map_take, Nat.zero_mul, List.drop_zero, Nat.sub_zero, Nat.mul_one]
    rw [e3, Nat.sub_zero] at u2
    rw [Nat.sub_zero] at u1
    obtain ⟨q, h2, n2, e2, r2, x2⟩ := bclone_spec (f := k0) (by omega) (pl.trans hw) (by omega) (rc && w == (n - offC d p n i) * 128) u2
    have y2 := x2.1
    have xr2 : Ext h0 n0 h2 n2 := xr1.trans x2
    have hsz2 := size_spec (f := k0) (by omega) g sc (p : Int) ((bw d p n 0 : Nat) : Int) (shp.ext xr2) hcN
    rw [hw'] at hsz2
    obtain ⟨h3, hh3⟩ : ∃ h3, h3 = h2.put n2 (some ⟨[.slice sa (colN d p n) sc, .int .i64 (p : Int), .int .i64 ((bw d p n 0 : Nat) : Int)], 3, true⟩) := ⟨_, rfl⟩
    rw [← hh3] at hsz2
    have x3 : Ext h2 n2 h3 (n2 + 10) := ⟨by omega, fun j hj => by rw [hh3, put_ne (by omega)]⟩
    have xr3 : Ext h0 n0 h3 (n2 + 10) := xr2.trans x3
    obtain ⟨v1, _, _⟩ := (restI.ext xr3).cut rc (lo := w) (hi := (n - offC d p n i) * 128) (l := some (.int .i64 ((w : Nat) : Int))) (r := none) (by omega) (by omega) (bound_some (by omega)) bound_none
    have e4 : shiftAddr (some (rb, offC d p n i * 128)) (w * 1) = some (rb, offC d p n (i + 1) * 128) := by
      have : offC d p n (i + 1) * 128 = offC d p n i * 128 + w * 1 := by
        show (offC d p n i + lenC d p n (p + i)) * 128 = _
        rw [Nat.add_mul, hw']; omega
      rw [this]; rfl
    have e5 : (n - offC d p n i) * 128 - w = (n - offC d p n (i + 1)) * 128 := by
      have : offC d p n (i + 1) = offC d p n i + lenC d p n (p + i) := rfl
      omega
    rw [e4, e5] at v1
    have hob3 : h3 ob = some ⟨tcells P (colN d p n), 1, true⟩ := by rw [x3.2 ob (by omega), x2.2 ob (by omega), x1.2 ob hlt, hbo]
    obtain ⟨P', hP'⟩ : ∃ P' : Nat → Tri, P' = fun j => if j = p + i then (q.1, w, q.2) else P j := ⟨_, rfl⟩
    have hset : (tcells P (colN d p n)).set (p + i) (.slice q.1 w q.2) = tcells P' (colN d p n) := by rw [hP']; exact tcells_set (t := (q.1, w, q.2))
    obtain ⟨h4, hh4⟩ : ∃ h4, h4 = h3.put ob (some ⟨tcells P' (colN d p n), 1, true⟩) := ⟨_, rfl⟩
    have b4 : h4 ob = some ⟨tcells P' (colN d p n), 1, true⟩ := by rw [hh4, put_same]
    -- the column
    obtain ⟨qid, q1, qi0, qi1, qb⟩ : ∃ id, q.1 = some (id, 0) ∧ nx + 30 ≤ id ∧ id < n2 ∧ h2 id = some ⟨ints .u8 (nints (pieceC Pd d p n i)), 1, true⟩ := by
      rcases r2.2 with ⟨_, z⟩ | z
      · have := bw_pos g hcN; omega
      · exact z
    have qb4 : h4 qid = some ⟨ints .u8 (nints (pieceC Pd d p n i)), 1, true⟩ := by rw [hh4, put_ne (by omega), x3.2 qid qi1, qb]
    have sq4 : Sl h4 (n2 + 20) q.1 w 1 (ints .u8 (nints (pieceC Pd d p n i))) := by
      rw [q1]; exact Sl.ofBlk qb4 (by simp [nints_len, pl, hw]) (by omega)
    obtain ⟨h5, e6, b5, x5⟩ := filled_spec (f := k0) (by omega) sa (colN d p n) sc (p : Int) (W := bw d p n 0) (by omega) (pl.trans hw) (by omega) q.2 sq4
    -- whole
    have f5 : ∀ j, j < nx → j ≠ ob → h5 j = h j := fun j hj hne => by rw [x5.2 j (by omega), hh4, put_ne hne, x3.2 j (by omega), x2.2 j (by omega), x1.2 j hj]
    have o5 : OwnRows (BlkRow .u8 h5 (n2 + 31) (fun j => avL ob wa j ∨ j = n2 + 17 ∨ j = n2 + 18) (bw d p n 0)) h5 (n2 + 17) wa 1 (wholeL Pd d p n i) :=
      o.go (D := fun j => j = ob) ⟨by omega, fun j hj hne => f5 j hj hne⟩ (fun j z zz => (lo j z).2 zz) fun r c bb => bb.go (Y := fun j => j = ob) ⟨by omega, fun j hj hne => f5 j hj hne⟩ (fun _ _ z => .inl z) (fun j hj z => z.elim (fun z => z) fun z => by omega)
    obtain ⟨E, s1, s2, s3, s4, s5, s6, s7, _⟩ := o5.pushF wc (bytes := 24) (id := n2 + 17) (id2 := n2 + 18) (x := padW (bw d p n 0) (pieceC Pd d p n i)) (r := [.slice (some (n2 + 20 + 4, 0)) (bw d p n 0) true]) rfl
      ⟨n2 + 20 + 4, true, rfl, padW_len (by omega), by omega, (by
        rintro ((z | z) | z)
        · omega
        · have := olt _ z; omega
        · omega), b5⟩ (growOk_of (by omega) (by omega)) (by omega) (by omega)
    rw [hwl] at s2 s4
    obtain ⟨Ea, hEa⟩ : ∃ z, z = E.a := ⟨_, rfl⟩
    rw [← hEa] at s3 s5 s7
    generalize hH : (h5.put (n2 + 17) (some ⟨[AV.slice (some (n2 + 20 + 4, 0)) (bw d p n 0) true], 1, true⟩)).puts E.sets = H at s5 s6
    have fH : ∀ j, j < nx → ¬ avL ob wa j → H j = h j := fun j hj hne => by
      rw [s6 j (fun z => hne (.inr z)) (by omega) (by omega)]
      exact f5 j hj fun z => hne (.inl z)
    have av' : ∀ j, j < nx → avL ob Ea j → avL ob wa j := fun j hj z => by
      rcases z with z | z
      · exact .inl z
      · have := s7 j z; omega
    have ak : AllKept [(h, h1, [bid]), (h1, h2, [bid])] := by
      refine ⟨fun z hz => ?_, fun z hz => ?_, trivial⟩
      · simp only [List.mem_singleton] at hz; subst hz; exact x1.2 _ (by omega)
      · simp only [List.mem_singleton] at hz; subst hz; exact x2.2 _ (by omega)
    have aa : AllApart [([ob], rdOf (some (rb, offC d p n i * 128)))] := ⟨fun z hz hz2 => by
      simp only [rdOf, List.mem_singleton] at hz hz2; omega, trivial⟩
    have hb2 : h2 bid = some ⟨[.slice sa (colN d p n) sc, .int .i64 (p : Int), .int .i64 ((bw d p n 0 : Nat) : Int)], 3, true⟩ := (xr2.2 bid hbl).trans hb
    have hb4 : h4 bid = some ⟨[.slice sa (colN d p n) sc, .int .i64 (p : Int), .int .i64 ((bw d p n 0 : Nat) : Int)], 3, true⟩ := by rw [hh4, put_ne (by omega)]; exact (xr3.2 bid hbl).trans hb
    rw [F16_L1_eq, if_pos (by simp; omega)]
    simp only [mst_]
    rw [ldr_all hbh (by simp)]
    simp only [mst_]
    rw [hsz]
    simp only [mst_]
    rw [u1, some_bind]
    dsimp only
    rw [e2]
    simp only [mst_]
    rw [ldr_all hb2 (by simp)]
    simp only [mst_]
    rw [hsz2]
    simp only [mst_]
    rw [v1, some_bind]
    dsimp only
    rw [if_pos ⟨by omega, by omega⟩, show 0 + Int.toNat ((p + i : Nat) : Int) * 1 = p + i from by omega, st_to hob3 rfl (by rw [tcells_len]; omega) hset, ← hh4, ifApart_pos aa, ifKept_pos ak]
    rw [ldr_all hb4 (by simp)]
    simp only [mst_]
    rw [if_pos ⟨by omega, by omega⟩, ld_at b4 (tcells_get (by omega))]
    have hPc : tcell (P' (p + i)) = .slice q.1 w q.2 := by rw [hP']; simp [tcell]
    rw [hPc]
    simp only [mst_]
    rw [e6]
    simp only [mst_]
    rw [s1, some_bind, s2, some_bind, hH, s4, wsucc (by omega), Nat.add_assoc, ← hEa]
    refine ih f (i + 1) _ P' Ea E.c H (n2 + 20 + 11 + 3) (by omega) (by omega) (by omega) ⟨by omega, fun j hj => ?_⟩ ?_ (fun k hk1 hk2 => ?_) ?_ (fun j z => by have := s7 j z; omega)
    · have : ¬ avL ob wa j := by
        rintro (z | z)
        · omega
        · have := (lo j z).1; omega
      rw [fH j (by omega) this, x.2 j hj]
    · rw [s6 ob (fun z => (lo ob z).2 rfl) (by omega) (by omega), x5.2 ob (by omega), b4]
    · by_cases ek : k = p + i
      · subst ek
        have hPk : P' (p + i) = (q.1, w, q.2) := by rw [hP']; simp
        rw [hPk, hw, show p + i - p = i from by omega, q1]
        have hHq : H qid = some ⟨ints .u8 (nints (pieceC Pd d p n i)), 1, true⟩ := by
          rw [s6 qid (fun z => by have := olt qid z; omega) (by omega) (by omega), x5.2 qid (by omega), qb4]
        refine ⟨rfl, Sl.ofBlk hHq (by simp [nints_len, pl, hw]) (by omega), fun _ pp hpp z => ?_⟩
        obtain rfl := Option.some.inj hpp
        rcases z with (z | z) | z
        · simp only at z; omega
        · have := s7 _ z; simp only at this; omega
        · simp only at z; omega
      · have hPk : P' k = P k := by rw [hP']; simp only [if_neg ek]
        rw [hPk]
        obtain ⟨z1, z2, z3⟩ := hc k hk1 (by omega)
        exact ⟨z1, z2.fr (z3.less fun _ z => .inl z) ⟨by omega, fH⟩, z3.go z2 fun j hj z => z.imp (av' j hj) id⟩
    · rw [wholeL_succ]
      refine s5.go (D := fun _ => False) ⟨by omega, fun _ _ _ => rfl⟩ (fun _ _ q => q) fun r c bb => bb.go (Y := fun j => avL ob wa j ∨ j = n2 + 17 ∨ j = n2 + 18) ⟨by omega, fun j hj hne => ?_⟩ (fun _ _ z => z) (fun j hj z => ?_)
      · exact s6 j (fun z => hne (.inl (.inr z))) (fun z => hne (.inr (.inl z))) (fun z => hne (.inr (.inr z)))
      · rcases z with z | z
        · exact .inl (.inl z)
        · exact .inr (.inr (s7 j z))

end Go.Proofs.Ytalfcokiooaliaa.T

namespace Go.Proofs.Ytalfcokiooaliaa.T
open Go Go.RowKit Go.Proofs

/-- Columns in a slice. -/
def ColsAt (h : AHeap) (nx N : Nat) (w : Nat → Nat) (v : Nat → List Nat) (P : Nat → Tri) : Prop := ∀ k, k < N → (P k).2.1 = w k ∧ (v k).length = w k ∧ Sl h nx (P k).1 (w k) 1 (ints .u8 (nints (v k)))
theorem ColsAt.ext {h h' : AHeap} {nx nx' N : Nat} {w : Nat → Nat} {v : Nat → List Nat} {P : Nat → Tri} (c : ColsAt h nx N w v P) (x : Ext h nx h' nx') : ColsAt h' nx' N w v P := fun k hk => ⟨(c k hk).1, (c k hk).2.1, (c k hk).2.2.ext x⟩

def colV (Pd : List Nat) (d p n c : Nat) : List Nat := if c < p then enc (wholeL Pd d p n (colN d p n - p)) c (bw d p n 0) else pieceC Pd d p n (c - p)
theorem whole_small {Pd : List Nat} (s : Small Pd) (d p n i : Nat) : SmallM (wholeL Pd d p n i) := by
  intro r hr
  obtain ⟨j, _, rfl⟩ := List.mem_map.1 hr
  exact padW_small (piece_small s _ _ _ _)
theorem whole_row {Pd : List Nat} {d p n i : Nat} (g : Geo d p n) (hP : Pd.length = n * 128) (hi : i ≤ colN d p n - p) : ∀ r ∈ wholeL Pd d p n i, r.length = bw d p n 0 := by
  intro r hr
  obtain ⟨j, hj, rfl⟩ := List.mem_map.1 hr
  have hj := List.mem_range.1 hj
  refine padW_len ?_
  rw [piece_len g hP (by omega)]
  exact bw_le g (by have := g.N8; omega)
theorem colV_len {Pd : List Nat} {d p n : Nat} (g : Geo d p n) (hP : Pd.length = n * 128) {c : Nat} (hc : c < colN d p n) : (colV Pd d p n c).length = bw d p n c := by
  have g8 := g.N8
  unfold colV
  by_cases h : c < p
  · rw [if_pos h, enc_len]; unfold bw; rw [g.par c (by omega) h]
  · rw [if_neg h, piece_len g hP (by omega), show p + (c - p) = c from by omega]
theorem colV_small {Pd : List Nat} (s : Small Pd) (d p n c : Nat) : Small (colV Pd d p n c) := by
  unfold colV; split
  · exact enc_small _ _ _
  · exact piece_small s _ _ _ _

theorem lay_spec {f : Nat} (hf : 5400 ≤ f) {d p a m n : Nat} (hd : 2 ≤ d) (hd' : d ≤ 8) (hp : 1 ≤ p) (hp' : p ≤ 3) (hpd : p < d) (ha : a ≤ 65536) (hm : 1 ≤ m) (hm' : m ≤ 4000) (hn : n = (m + 127) / 128) {D : List Nat} (hD : D.length = m) (sD : Small D) {da : Option (Nat × Nat)} (dc : Bool) {h : AHeap} {nx : Nat} (sl : Sl h nx da m 1 (ints .u8 (nints D))) :
    ∃ P ob oc h' nx', callP Try.prog keepT f Y0 16 [.int .i64 (d : Int), .int .i64 (p : Int), .int .i64 (a : Int), .slice da m dc] h nx = some (.tuple [.slice (some (ob, 0)) (colN d p n) oc, .int .i64 0], h', nx') ∧ Ext h nx h' nx' ∧ Sl h' nx' (some (ob, 0)) (colN d p n) 1 (tcells P (colN d p n)) ∧ ColsAt h' nx' (colN d p n) (bw d p n) (colV (padW (n * 128) D) d p n) P ∧ ∀ k, k < colN d p n → Av (fun j => j < nx) (P k).1 (bw d p n k) := by
  obtain ⟨f, rfl⟩ : ∃ m, f = m + 1 := ⟨f - 1, by omega⟩
  have hn1 : 1 ≤ n ∧ n ≤ 32 := by omega
  have hmn : m ≤ n * 128 := by omega
  have g := geo d p n hd' hp' (by omega) hd hp hpd (by omega)
  have gp := g.pN
  have g8 := g.N8
  have W4 := bw_max g
  have hP : (padW (n * 128) D).length = n * 128 := padW_len (by omega)
  have sP : Small (padW (n * 128) D) := padW_small sD
  obtain ⟨sa, sc, h1, n1, e1, s1, x1, si, sie, si0, si1⟩ := shaped_spec (f := f) (by omega) hd hd' hp hp' hpd ha hm (by omega) h (nx + 14)
  rw [← hn] at e1 s1
  change callP _ _ _ _ _ _ _ _ = some (.tuple [.agg [.slice sa (colN d p n) sc, .int .i64 (p : Int), .int .i64 ((bw d p n 0 : Nat) : Int)], .int .i64 0], h1, n1) at e1
  have y1 := x1.1
  rw [F16_eq, e1]
  simp only [mst_]
  rw [st_all (put_same _ _ _) (by simp) (by simp) (by simp [allOne, AV.one])]
  rw [if_neg (by decide), sectors_spec (by omega) m (by omega), ← hn]
  simp only [mst_]
  rw [show wrapA .i64 (((n : Nat) : Int) * 128) = ((n * 128 : Nat) : Int) from by rw [wA (by omega) (by omega)]; omega]
  rw [if_pos (by simp; omega), show Int.toNat ((n * 128 : Nat) : Int) = n * 128 from Int.toNat_natCast _, show (((n * 128 : Nat) : Int) == ((n * 128 : Nat) : Int)) = true from by simp, Nat.mul_one]
  have hz : madeA [AV.int .u8 0] (n * 128) = ints .u8 (nints (List.replicate (n * 128) 0)) := by
    rw [made1]; simp [ints, nints]
  rw [hz]
  obtain ⟨H1, hH1⟩ : ∃ H1, H1 = (AHeap.put (AHeap.put h1 (nx + 11) (some ⟨[.slice none 0 false, .int .i64 0, .int .i64 0], 3, true⟩)) (nx + 11) (some ⟨[.slice sa (colN d p n) sc, .int .i64 (p : Int), .int .i64 ((bw d p n 0 : Nat) : Int)], 3, true⟩)).put (n1 + 6) (some ⟨ints .u8 (nints (List.replicate (n * 128) 0)), 1, true⟩) := ⟨_, rfl⟩
  have xH1 : Ext h nx H1 (n1 + 7) := ⟨by omega, fun j hj => by rw [hH1, put_ne (by omega), put_ne (by omega), put_ne (by omega), x1.2 j (by omega)]⟩
  rw [← hH1]
  obtain ⟨rd, cp⟩ := copy_spec (h := H1) (d := n1 + 6) (n := n * 128) (k := m) hm hmn (by rw [hH1, put_same]) (by simp [nints_len]) (sl.ext xH1)
  rw [cp, some_bind]
  dsimp only
  obtain ⟨H2, hH2⟩ : ∃ H2, H2 = H1.puts [(n1 + 6, some ⟨ints .u8 (nints D) ++ (ints .u8 (nints (List.replicate (n * 128) 0))).drop m, 1, true⟩)] := ⟨_, rfl⟩
  rw [← hH2]
  have hrest : H2 (n1 + 6) = some ⟨ints .u8 (nints (padW (n * 128) D)), 1, true⟩ := by
    rw [hH2, puts_cons, puts_nil, put_same]
    congr 2
    simp only [padW, ints, nints, List.map_append, List.map_replicate, List.drop_replicate, hD]
  have hbid : H2 (nx + 11) = some ⟨[.slice sa (colN d p n) sc, .int .i64 (p : Int), .int .i64 ((bw d p n 0 : Nat) : Int)], 3, true⟩ := by
    rw [hH2, puts_cons, puts_nil, put_ne (by omega), hH1, put_ne (by omega), put_same]
  have xH2 : Ext h nx H2 (n1 + 14 + 6) := ⟨by omega, fun j hj => by rw [hH2, puts_cons, puts_nil, put_ne (by omega), xH1.2 j hj]⟩
  have sH2 : Shp H2 (n1 + 14 + 6) sa d p a n := by
    have : Frm (fun j => j = nx + 11 ∨ n1 ≤ j) h1 n1 H2 (n1 + 14 + 6) := ⟨by omega, fun j hj hne => by
      rw [hH2, puts_cons, puts_nil, put_ne (by omega), hH1, put_ne (by omega), put_ne (fun z => hne (.inl z)), put_ne (fun z => hne (.inl z))]⟩
    refine Sl.fr (D := fun j => j = nx + 11 ∨ n1 ≤ j) s1 (fun _ pp hpp z => ?_) this
    rw [sie] at hpp
    obtain rfl := Option.some.inj hpp
    simp only at z; omega
  rw [ld_at hbid rfl]
  simp only [mst_]
  rw [if_pos (by simp; omega), show Int.toNat ((colN d p n : Nat) : Int) = colN d p n from Int.toNat_natCast _, show (((colN d p n : Nat) : Int) == ((colN d p n : Nat) : Int)) = true from by simp, Nat.mul_one, tcells_zero]
  obtain ⟨H3, hH3⟩ : ∃ H3, H3 = H2.put (n1 + 8 + 6 + 6) (some ⟨tcells (fun _ => (none, 0, false)) (colN d p n), 1, true⟩) := ⟨_, rfl⟩
  rw [← hH3]
  have lo0 := fun (P : Nat → Tri) (x : Ext H2 (n1 + 14 + 6) H3 (n1 + 8 + 6 + 11)) (hb : H3 (n1 + 8 + 6 + 6) = some ⟨tcells P (colN d p n), 1, true⟩) (c0 : _) => lay_loop (k0 := f) (by omega) f g hP sc (sa := sa) (bid := nx + 11) (rb := n1 + 6) (ob := n1 + 8 + 6 + 6) true (h0 := H2) (n0 := n1 + 14 + 6) hbid (by omega) sH2 (Sl.ofBlk hrest (by simp [nints_len, hP]) (by omega)) (by omega) (by omega) (colN d p n - p) f 0 true P none false H3 (n1 + 8 + 6 + 11) (by omega) (by omega) (by omega) x hb c0 (OwnRows.nil _ _ _ _) (fun j ⟨_, z⟩ => by cases z)
  obtain ⟨f', ra, rn, rc, P, wa, wc, h4, n4, e4, ob4, x4, b4, c4, o4, l4⟩ := lo0 (fun _ => (none, 0, false)) ⟨by omega, fun j hj => by rw [hH3, put_ne (by omega)]⟩ (by rw [hH3, put_same]) (fun k hk1 hk2 => by omega)
  change F16_L1 _ _ _ _ _ _ (some (n1 + 6, 0 * 128)) ((n - 0) * 128) _ _ _ _ _ _ _ ((p : Nat) : Int) _ _ = _ at e4
  rw [Nat.zero_mul, Nat.sub_zero] at e4
  rw [e4, F16_L1_eq, if_neg (by simp)]
  have y4 := x4.1
  have hwl := wholeL_len (padW (n * 128) D) d p n (colN d p n - p)
  have mm : Mat h4 n4 .u8 wa (wholeL (padW (n * 128) D) d p n (colN d p n - p)) (bw d p n 0) := by
    have := o4.mat (D := fun x => x) (kd := .u8) (w := bw d p n 0) fun x _ r b => b.rw
    rwa [List.map_id'] at this
  obtain ⟨oS, cS, h5, n5, e5, mS, x5⟩ := encode_spec (f := f) (by omega) (M := wholeL (padW (n * 128) D) d p n (colN d p n - p)) (w := bw d p n 0) (by omega) (by omega) W4 (whole_small sP _ _ _ _) wc (h := h4) (nx := n4 + 12) (a := wa) (mm.ext ⟨by omega, fun _ _ => rfl⟩) p (by omega) (by omega)
  rw [hwl] at e5
  rw [e5]
  simp only [mst_]
  have y5 := x5.1
  obtain ⟨qs, ro, ss, nn, dd⟩ := mS
  rw [encs_len] at ss
  have b5 : h5 (n1 + 8 + 6 + 6) = some ⟨tcells P (colN d p n), 1, true⟩ := by rw [x5.2 _ (by omega), b4]
  obtain ⟨rd2, cp2⟩ := copy_spec (h := h5) (d := n1 + 8 + 6 + 6) (n := colN d p n) (k := p) hp (by omega) b5 (tcells_len _ _) ss.sl
  rw [cp2, some_bind]
  have hql : qs.length = p := by
    have := ro.rows.length
    rw [this, encs_len]
  obtain ⟨P', hP'⟩ : ∃ P' : Nat → Tri, P' = fun k => if k < p then ((qs.getD k (none, false)).1, bw d p n 0, (qs.getD k (none, false)).2) else P k := ⟨_, rfl⟩
  have hcells : qs.map (rcell (bw d p n 0)) ++ (tcells P (colN d p n)).drop p = tcells P' (colN d p n) := by
    apply List.ext_getElem
    · simp [tcells, hql]; omega
    · intro i i1 i2
      have hi : i < colN d p n := by rw [tcells_len] at i2; exact i2
      by_cases hip : i < p
      · rw [List.getElem_append_left (by simp [hql]; exact hip)]
        simp only [tcells, List.getElem_map, List.getElem_range, hP', if_pos hip]
        rw [getD_at (by omega)]; rfl
      · rw [List.getElem_append_right (by simp [hql]; omega)]
        simp only [List.length_map, hql, List.getElem_drop, tcells, List.getElem_map, List.getElem_range, hP', if_neg hip]
        rw [show p + (i - p) = i from by omega]
  rw [hcells]
  refine ⟨P', n1 + 8 + 6 + 6, true, _, n5 + 6, rfl, ?_, ?_, ?_, ?_⟩
  · exact ⟨by omega, fun j hj => by rw [puts_cons, puts_nil, put_ne (by omega), x5.2 j (by omega), x4.2 j (by omega), xH2.2 j hj]⟩
  · exact Sl.ofBlk (by rw [puts_cons, puts_nil, put_same]) (by rw [tcells_len]; omega) (by omega)
  · intro k hk
    have fr : Frm (fun j => j = n1 + 8 + 6 + 6) h5 n5 (h5.puts [(n1 + 8 + 6 + 6, some ⟨tcells P' (colN d p n), 1, true⟩)]) (n5 + 6) := ⟨by omega, fun j hj hne => by rw [puts_cons, puts_nil, put_ne hne]⟩
    by_cases hkp : k < p
    · have hPk : P' k = ((qs.getD k (none, false)).1, bw d p n 0, (qs.getD k (none, false)).2) := by rw [hP']; simp only [if_pos hkp]
      have hbk : bw d p n k = bw d p n 0 := by unfold bw; rw [g.par k (by omega) hkp]
      obtain ⟨q, q1, q2⟩ := ro.getO (i := k) (by rw [encs_len]; exact hkp)
      have hqd : qs.getD k (none, false) = q := by simp [List.getD, q1]
      rw [hPk, hqd, hbk]
      refine ⟨rfl, by rw [colV_len g hP hk, hbk], ?_⟩
      have ev : colV (padW (n * 128) D) d p n k = (encs (wholeL (padW (n * 128) D) d p n (colN d p n - p)) (bw d p n 0) p)[k]'(by rw [encs_len]; exact hkp) := by
        rw [encs_get _ _ _ hkp]; unfold colV; rw [if_pos hkp]
      rw [ev]
      refine q2.sl.fr (D := fun j => j = n1 + 8 + 6 + 6) (fun _ pp hpp z => ?_) fr
      have := (q2.in (id := pp.1) (o := pp.2) (by rw [hpp])).1
      omega
    · have hPk : P' k = P k := by rw [hP']; simp only [if_neg hkp]
      rw [hPk]
      obtain ⟨z1, z2, z3⟩ := c4 k (by omega) hk
      have ev : colV (padW (n * 128) D) d p n k = pieceC (padW (n * 128) D) d p n (k - p) := by unfold colV; rw [if_neg hkp]
      refine ⟨z1, colV_len g hP hk, ?_⟩
      rw [ev]
      exact (z2.ext (h' := h5) (nx' := n5) ⟨by omega, fun j hj => x5.2 j (by omega)⟩).fr (D := fun j => j = n1 + 8 + 6 + 6) (fun w0 pp hpp z => z3 w0 pp hpp (.inl (.inl z))) fr
  · intro k hk
    by_cases hkp : k < p
    · have hPk : P' k = ((qs.getD k (none, false)).1, bw d p n 0, (qs.getD k (none, false)).2) := by rw [hP']; simp only [if_pos hkp]
      obtain ⟨q, q1, q2⟩ := ro.getO (i := k) (by rw [encs_len]; exact hkp)
      have hqd : qs.getD k (none, false) = q := by simp [List.getD, q1]
      rw [hPk, hqd]
      intro _ pp hpp z
      have := (q2.in (id := pp.1) (o := pp.2) (by rw [hpp])).1
      omega
    · have hPk : P' k = P k := by rw [hP']; simp only [if_neg hkp]
      rw [hPk]
      exact (c4 k (by omega) hk).2.2.less fun j z => .inr (by omega)

end Go.Proofs.Ytalfcokiooaliaa.T
