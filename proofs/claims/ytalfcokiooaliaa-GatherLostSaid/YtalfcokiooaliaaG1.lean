import Derived.Test.YtalfcokiooaliaaEA3
import Derived.Test.YtalfcokiooaliaaEB1
set_option linter.unusedVariables false
set_option linter.unusedSimpArgs false
namespace Go.Proofs.Ytalfcokiooaliaa.T
open Go Go.RowKit Go.Proofs

/-! ### the shape of a block -/
def lenC (d p n c : Nat) : Nat := (if (c : Int) < B.longOf d p n then (n : Int) / ((d : Int) - p) + 1 else (n : Int) / ((d : Int) - p)).toNat
def colN (d p n : Nat) : Nat := (B.manyOf d p n).toNat
/-- Sectors of data columns ahead of column c. -/
def offC (d p n : Nat) : Nat → Nat
  | 0 => 0
  | i + 1 => offC d p n i + lenC d p n (p + i)
def geoOk (d p n : Nat) : Bool := decide (p < colN d p n) && decide (colN d p n ≤ 8) && decide (1 ≤ lenC d p n 0) && decide (lenC d p n 0 ≤ 32) && ((List.range 8).all fun c => decide (lenC d p n c ≤ lenC d p n 0) && (!decide (c < p) || decide (lenC d p n c = lenC d p n 0)) && (!decide (c < colN d p n) || decide (1 ≤ lenC d p n c))) && decide (offC d p n (colN d p n - p) = n) && decide (0 ≤ (n : Int) / ((d : Int) - p))
theorem geoAll : ((List.range 9).all fun d => (List.range 4).all fun p => (List.range 33).all fun n => !(decide (2 ≤ d) && decide (1 ≤ p) && decide (p < d) && decide (1 ≤ n)) || geoOk d p n) = true := by decide +kernel
structure Geo (d p n : Nat) : Prop where
  pN : p < colN d p n
  N8 : colN d p n ≤ 8
  l1 : 1 ≤ lenC d p n 0
  l32 : lenC d p n 0 ≤ 32
  le : ∀ c, c < 8 → lenC d p n c ≤ lenC d p n 0
  par : ∀ c, c < 8 → c < p → lenC d p n c = lenC d p n 0
  pos : ∀ c, c < colN d p n → 1 ≤ lenC d p n c
  sum : offC d p n (colN d p n - p) = n
  q0 : 0 ≤ (n : Int) / ((d : Int) - p)
theorem geo (d p n : Nat) (hd : d ≤ 8) (hp : p ≤ 3) (hn : n ≤ 32) (h1 : 2 ≤ d) (h2 : 1 ≤ p) (hpd : p < d) (h3 : 1 ≤ n) : Geo d p n := by
  have h := List.all_eq_true.1 (List.all_eq_true.1 (List.all_eq_true.1 geoAll d (List.mem_range.2 (by omega))) p (List.mem_range.2 (by omega))) n (List.mem_range.2 (by omega))
  simp only [geoOk, h1, h2, h3, hpd, decide_true, Bool.and_self, Bool.not_true, Bool.false_or, Bool.and_eq_true, decide_eq_true_eq, Bool.or_eq_true, Bool.not_eq_true', decide_eq_false_iff_not, List.all_eq_true, List.mem_range] at h
  obtain ⟨⟨⟨⟨⟨⟨a1, a2⟩, a3⟩, a4⟩, a5⟩, a6⟩, a7⟩ := h
  exact ⟨a1, a2, a3, a4, fun c hc => (a5 c hc).1.1, fun c hc hcp => ((a5 c hc).1.2).resolve_left (fun y => y hcp), fun c hc => ((a5 c (by omega)).2).resolve_left (fun y => y hc), a6, a7⟩

def Shp (h : AHeap) (nx : Nat) (sa : Option (Nat × Nat)) (d p a n : Nat) : Prop := Sl h nx sa (colN d p n) 4 (B.cols d p a ((n : Int) / ((d : Int) - p)) (B.longOf d p n) (colN d p n))
theorem Shp.ext {h h' : AHeap} {nx nx' d p a n : Nat} {sa : Option (Nat × Nat)} (s : Shp h nx sa d p a n) (x : Ext h nx h' nx') : Shp h' nx' sa d p a n := Sl.ext s x
theorem Shp.len {R : Type} {h : AHeap} {nx d p a n : Nat} {sa : Option (Nat × Nat)} (g : Geo d p n) (s : Shp h nx sa d p a n) {c : Nat} (hc : c < colN d p n) (K : AV → Option R) :
    (sa.bind fun q => if 0 ≤ (c : Int) ∧ (c : Int) < ((colN d p n : Nat) : Int) then (ldA h q.1 ((q.2 + Int.toNat (c : Int) * 4) + 2)).bind K else none) = K (.int .i64 ((lenC d p n c : Nat) : Int)) := by
  have z := g.q0
  refine Sl.read s (by omega) (by omega) (by omega) ?_ K
  rw [Int.toNat_natCast, B.cols_at _ _ _ _ _ _ _ _ hc (by omega)]
  unfold lenC
  show some (AV.int .i64 (if (c : Int) < B.longOf d p n then (n : Int) / ((d : Int) - p) + 1 else (n : Int) / ((d : Int) - p))) = _
  rw [Int.toNat_of_nonneg (by split <;> omega)]

theorem size_spec {f : Nat} (hf : 1 ≤ f) {d p a n : Nat} (g : Geo d p n) {sa : Option (Nat × Nat)} (sc : Bool) (P W : Int) {h : AHeap} {nx : Nat} (s : Shp h nx sa d p a n) {c : Nat} (hc : c < colN d p n) :
    callP Try.prog keepT f Y0 18 [.agg [.slice sa (colN d p n) sc, .int .i64 P, .int .i64 W], .int .i64 (c : Int)] h nx = some (.int .i64 ((lenC d p n c * 128 : Nat) : Int), h.put nx (some ⟨[.slice sa (colN d p n) sc, .int .i64 P, .int .i64 W], 3, true⟩), nx + 10) := by
  obtain ⟨f, rfl⟩ : ∃ m, f = m + 1 := ⟨f - 1, by omega⟩
  have x : Ext h nx (h.put nx (some ⟨[.slice sa (colN d p n) sc, .int .i64 P, .int .i64 W], 3, true⟩)) (nx + 1) := ⟨by omega, fun j hj => put_ne (by omega)⟩
  have l := g.le c (by have := g.N8; omega)
  have l2 := g.l32
  rw [F18_eq]
  dsimp only
  rw [ld_at (put_same _ _ _) rfl]
  simp only [mst_]
  rw [Shp.len g (s.ext x) hc]
  simp only [mst_]
  have e : wrapA .i64 (((lenC d p n c : Nat) : Int) * 128) = ((lenC d p n c * 128 : Nat) : Int) := by
    generalize lenC d p n c = L at *
    rw [wA (by omega) (by omega)]; omega
  rw [e]

theorem sectors_spec {f : Nat} (hf : 1 ≤ f) (m : Nat) (hm : m ≤ 100000) (h : AHeap) (nx : Nat) : callP Try.prog keepT f Y0 23 [.int .i64 (m : Int)] h nx = some (.int .i64 (((m + 127) / 128 : Nat) : Int), h, nx + 6) := by
  obtain ⟨f, rfl⟩ : ∃ m, f = m + 1 := ⟨f - 1, by omega⟩
  rw [F23_eq, wA (x := (m : Int) + 128) (by omega) (by omega), wA (x := (m : Int) + 128 - 1) (by omega) (by omega), Int.tdiv_eq_ediv_of_nonneg (by omega), wA (by omega) (by omega), show ((m : Int) + 128 - 1) / 128 = (((m + 127) / 128 : Nat) : Int) from by omega]

theorem shaped_spec {f : Nat} (hf : 30 ≤ f) {d p a m : Nat} (hd : 2 ≤ d) (hd' : d ≤ 8) (hp : 1 ≤ p) (hp' : p ≤ 3) (hpd : p < d) (ha : a ≤ 65536) (hm : 1 ≤ m) (hm' : m ≤ 4096) (h : AHeap) (nx : Nat) :
    ∃ sa sc h' nx', callP Try.prog keepT f Y0 17 [.int .i64 (d : Int), .int .i64 (p : Int), .int .i64 (a : Int), .int .i64 (m : Int)] h nx = some (.tuple [.agg [.slice sa (colN d p ((m + 127) / 128)) sc, .int .i64 (p : Int), .int .i64 ((lenC d p ((m + 127) / 128) 0 * 128 : Nat) : Int)], .int .i64 0], h', nx') ∧ Shp h' nx' sa d p a ((m + 127) / 128) ∧ Ext h nx h' nx' ∧ ∃ i, sa = some (i, 0) ∧ nx ≤ i ∧ i < nx' := by
  obtain ⟨f, rfl⟩ : ∃ m, f = m + 1 := ⟨f - 1, by omega⟩
  obtain ⟨k, rfl⟩ : ∃ m, f = m + 1 := ⟨f - 1, by omega⟩
  have hn : 1 ≤ (m + 127) / 128 ∧ (m + 127) / 128 ≤ 32 := by omega
  obtain ⟨n, hnn⟩ : ∃ n, n = (m + 127) / 128 := ⟨_, rfl⟩
  have g := geo d p n hd' hp' (by omega) hd hp hpd (by omega)
  have hx : Ext h nx (h.put nx (some ⟨[.slice none 0 false, .int .i64 0, .int .i64 0], 3, true⟩)) (nx + 5 + 8 + 11 + 6) := ⟨by omega, fun j hj => put_ne (by omega)⟩
  obtain ⟨sa, sc, h1, n1, e1, o1, x1⟩ := B.columns_spec (k := k + 1) (by omega) (d : Int) (p : Int) (a : Int) (n : Int) (h.put nx (some ⟨[.slice none 0 false, .int .i64 0, .int .i64 0], 3, true⟩)) (nx + 5 + 8 + 11 + 6) (by omega) (by omega) (by omega) (by omega) (by omega) (by omega) (by omega) (by omega) (by omega)
  have y1 := x1.1
  have s1 : Shp h1 n1 sa d p a n := o1.sl
  have l0 := g.l32
  rw [← hnn]
  rw [F17_eq]
  dsimp only
  rw [F27_eq, if_pos (by simp; omega), decide_eq_true (by omega)]
  simp only [mst_]
  rw [sectors_spec (by omega) m (by omega), ← hnn]
  simp only [mst_]
  rw [e1]
  simp only [mst_]
  change ∃ sa' sc' h' nx', (if ((0 : Int) != 0) = true then _ else (sa.bind fun q => if 0 ≤ ((0 : Nat) : Int) ∧ ((0 : Nat) : Int) < ((colN d p n : Nat) : Int) then (ldA h1 q.1 ((q.2 + Int.toNat ((0 : Nat) : Int) * 4) + 2)).bind _ else none)) = _ ∧ _
  rw [if_neg (by simp), Shp.len g s1 (by have := g.pN; omega)]
  simp only [mst_]
  have hb : h1 nx = some ⟨[.slice none 0 false, .int .i64 0, .int .i64 0], 3, true⟩ := by rw [x1.2 nx (by omega), put_same]
  rw [wA (by omega) (by omega), show ((lenC d p n 0 : Nat) : Int) * 128 = ((lenC d p n 0 * 128 : Nat) : Int) from by omega, st_all hb (by simp) (by simp) (by simp [allOne, AV.one])]
  rw [ldr_all (put_same _ _ _) (by simp)]
  simp only [mst_]
  refine ⟨sa, sc, h1.put nx (some ⟨[.slice sa (colN d p n) sc, .int .i64 (p : Int), .int .i64 ((lenC d p n 0 * 128 : Nat) : Int)], 3, true⟩), n1 + 12, rfl, ?_, ?_, ?_⟩
  · refine Sl.fr (D := fun i => i = nx) s1 ?_ ⟨by omega, fun j hj hne => put_ne hne⟩
    intro h0 q hq e
    rcases o1.2 with ⟨_, z⟩ | ⟨i, z, z1, _⟩
    · have := g.pN; unfold colN at this; omega
    · rw [z] at hq
      have := congrArg Prod.fst (Option.some.inj hq)
      simp only at this; omega
  · exact ⟨by omega, fun j hj => by rw [put_ne (by omega), x1.2 j (by omega), put_ne (by omega)]⟩
  · rcases o1.2 with ⟨_, z⟩ | ⟨i, z, z1, z2, _⟩
    · have := g.pN; unfold colN at this; omega
    · exact ⟨i, z, by omega, by omega⟩

end Go.Proofs.Ytalfcokiooaliaa.T
