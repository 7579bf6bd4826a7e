import Derived.Test.YtalfcokiooaliaaTJ
import Derived.Test.YtalfcokiooaliaaPg
set_option linter.unusedVariables false
set_option linter.unusedSimpArgs false
namespace Go.Proofs.Ytalfcokiooaliaa.T.B
open Go Go.RowKit Go.Proofs

theorem picked_spec {k : Nat} (hk : 1 ≤ k) (a n : Int) (h : AHeap) (nx : Nat) (h0 : 0 < n) (h1 : n ≤ 4611686018427387904) : ∃ nx', callP Try.prog keepT k Y0 8 [.int .i64 a, .int .i64 n] h nx = some (.int .i64 (a % n), h, nx') ∧ nx ≤ nx' := by
  obtain ⟨k, rfl⟩ : ∃ m, k = m + 1 := ⟨k - 1, by omega⟩
  rw [F8_eq, if_neg (by omega)]
  have e := Int.tmod_eq_emod (a := a) (b := n)
  have b0 := Int.emod_nonneg a (show n ≠ 0 by omega)
  have b1 := Int.emod_lt_of_pos a h0
  by_cases c : 0 ≤ a ∨ n ∣ a
  · rw [if_pos c] at e
    rw [if_neg (by simp; omega)]
    exact ⟨_, by rw [show Int.tmod a n = a % n by omega], by omega⟩
  · rw [if_neg c] at e
    rw [if_pos (by simp; omega), wA (by omega) (by omega)]
    exact ⟨_, by rw [show Int.tmod a n + n = a % n by omega], by omega⟩

theorem shape_spec {k : Nat} (hk : 2 ≤ k) (a b : Int) (h : AHeap) (nx : Nat) : ∃ d p nx', nx ≤ nx' ∧ 2 ≤ d ∧ d ≤ 8 ∧ 1 ≤ p ∧ p ≤ 3 ∧ p < d ∧ callP Try.prog keepT k Y0 7 [.int .i64 a, .int .i64 b] h nx = some (.tuple [.int .i64 d, .int .i64 p], h, nx') := by
  obtain ⟨k, rfl⟩ : ∃ m, k = m + 1 := ⟨k - 1, by omega⟩
  rw [F7_eq]
  obtain ⟨n1, e1, l1⟩ := picked_spec (k := k) (by omega) a 7 h (nx + 6) (by omega) (by omega)
  have b0 := Int.emod_nonneg a (show (7:Int) ≠ 0 by omega)
  have b1 := Int.emod_lt_of_pos a (show (0:Int) < 7 by omega)
  rw [e1]
  simp only [Option.bind_some, asI, if_true]
  rw [wA (x := 2 + a % 7) (by omega) (by omega), wA (x := 2 + a % 7 - 1) (by omega) (by omega)]
  obtain ⟨m, hm, hm0, hm1, hm2⟩ : ∃ m : Int, (if 2 + a % 7 - 1 < 3 then 2 + a % 7 - 1 else 3) = m ∧ 1 ≤ m ∧ m ≤ 3 ∧ m < 2 + a % 7 := ⟨_, rfl, by split <;> omega, by split <;> omega, by split <;> omega⟩
  rw [hm]
  obtain ⟨n2, e2, l2⟩ := picked_spec (k := k) (by omega) b m h (n1 + 9) (by omega) (by omega)
  have c0 := Int.emod_nonneg b (show m ≠ 0 by omega)
  have c1 := Int.emod_lt_of_pos b (show 0 < m by omega)
  rw [e2]
  simp only [Option.bind_some, asI, if_true]
  rw [wA (x := 1 + b % m) (by omega) (by omega)]
  exact ⟨_, _, _, by omega, by omega, by omega, by omega, by omega, by omega, rfl⟩

theorem may_spec {k : Nat} (hk : 1 ≤ k) (d p : Int) (h : AHeap) (nx : Nat) (hd : 2 ≤ d) (hd' : d ≤ 8) (hp : 1 ≤ p) (hp' : p ≤ 3) (hpd : p < d) : ∃ h' nx', Ext h nx h' nx' ∧ callP Try.prog keepT k Y0 38 [.agg [.int .i64 d, .int .i64 p]] h nx = some (.bool true, h', nx') := by
  obtain ⟨k, rfl⟩ : ∃ m, k = m + 1 := ⟨k - 1, by omega⟩
  rw [F38_eq]
  simp only [ldA_put, List.getElem?_cons_zero, List.getElem?_cons_succ, Option.bind_some, asI, if_true]
  rw [if_pos (by simpa using hd), if_pos (by simpa using hd'), if_pos (by simpa using hp), if_pos (by simpa using hp'), decide_eq_true hpd]
  exact ⟨_, _, (Ext.refl h nx).put (Nat.le_refl _) (by omega), rfl⟩
theorem counted_spec {k : Nat} (hk : 1 ≤ k) (n : Int) (h : AHeap) (nx : Nat) (hn : 1 ≤ n) (hn' : n ≤ 32) : callP Try.prog keepT k Y0 39 [.int .i64 n] h nx = some (.bool true, h, nx + 8) := by
  obtain ⟨k, rfl⟩ : ∃ m, k = m + 1 := ⟨k - 1, by omega⟩
  rw [F39_eq, if_pos (by simpa using hn), decide_eq_true hn']
theorem addressed_spec {k : Nat} (hk : 1 ≤ k) (n : Int) (h : AHeap) (nx : Nat) (hn : 0 ≤ n) (hn' : n ≤ 65536) : callP Try.prog keepT k Y0 40 [.int .i64 n] h nx = some (.bool true, h, nx + 8) := by
  obtain ⟨k, rfl⟩ : ∃ m, k = m + 1 := ⟨k - 1, by omega⟩
  rw [F40_eq, if_pos (by simpa using hn), decide_eq_true hn']

/-! ### columns -/
structure Col where
  drive : Int
  at_ : Int
  len : Int
  par : Bool
def Col.cells (c : Col) : List AV := [.int .i64 c.drive, .int .i64 c.at_, .int .i64 c.len, .bool c.par]
def col (d p a q long : Int) (c : Nat) : Col := ⟨(a + c) % d, (a + c) / d, if (c : Int) < long then q + 1 else q, decide ((c : Int) < p)⟩
def cols (d p a q long : Int) (n : Nat) : List AV := (List.range n).flatMap fun c => (col d p a q long c).cells

theorem cols_succ (d p a q long : Int) (n : Nat) : cols d p a q long (n + 1) = cols d p a q long n ++ (col d p a q long n).cells := by
  simp [cols, List.range_succ]
theorem cols_len (d p a q long : Int) (n : Nat) : (cols d p a q long n).length = n * 4 := by
  induction n with
  | zero => rfl
  | succ n ih => rw [cols_succ, List.length_append, ih]; simp [Col.cells]; omega
theorem cols_at (d p a q long : Int) (n c f : Nat) (hc : c < n) (hf : f < 4) : (cols d p a q long n)[c * 4 + f]? = (col d p a q long c).cells[f]? := by
  induction n with
  | zero => omega
  | succ n ih =>
    rw [cols_succ]
    by_cases e : c < n
    · rw [List.getElem?_append_left (by rw [cols_len]; omega)]; exact ih e
    · obtain rfl : c = n := by omega
      rw [List.getElem?_append_right (by rw [cols_len]; omega), cols_len]
      congr 1; omega

theorem columns_loop (call : YldF → CallF) (lf : Nat) (d p a q long : Int) (n : Nat) (hd : 2 ≤ d) (hd' : d ≤ 8) (ha : 0 ≤ a) (ha' : a ≤ 65536) (hq : 0 ≤ q) (hq' : q ≤ 32) (hn : (n : Int) ≤ 8) (h0 : AHeap) (nx0 : Nat) (m : Nat) :
    ∀ (k c : Nat) (sa : Option (Nat × Nat)) (sc : Bool) (h : AHeap) (nx : Nat), c + m = n → m < k → OwnSl h nx0 nx sa c 4 (cols d p a q long c) → Ext h0 nx0 h nx →
    ∃ sa' sc' h' nx', F28_L4 call Y0 lf k d p a q long sa c sc n c h nx = some (.tuple [.slice sa' n sc', .int .i64 0], h', nx') ∧ OwnSl h' nx0 nx' sa' n 4 (cols d p a q long n) ∧ Ext h0 nx0 h' nx' := by
  induction m with
  | zero =>
    intro k c sa sc h nx e hk hs hx
    obtain ⟨k, rfl⟩ : ∃ m, k = m + 1 := ⟨k - 1, by omega⟩
    obtain rfl : c = n := by omega
    rw [F28_L4_eq, if_neg (by simp)]
    exact ⟨_, _, _, _, rfl, ⟨hs.1, hs.2.imp id fun ⟨i, e1, e2, e3, e4⟩ => ⟨i, e1, e2, by omega, e4⟩⟩, hx.le (by omega)⟩
  | succ m ih =>
    intro k c sa sc h nx e hk hs hx
    obtain ⟨k, rfl⟩ : ∃ m, k = m + 1 := ⟨k - 1, by omega⟩
    have w1 : wrapA .i64 ((c : Int) + 1) = ((c + 1 : Nat) : Int) := by rw [wA (by omega) (by omega)]; omega
    have w2 : wrapA .i64 (a + (c : Int)) = a + (c : Int) := wA (by omega) (by omega)
    have t1 : Int.tmod (a + (c : Int)) d = (a + (c : Int)) % d := Int.tmod_eq_emod_of_nonneg (by omega)
    have t2 : Int.tdiv (a + (c : Int)) d = (a + (c : Int)) / d := Int.tdiv_eq_ediv_of_nonneg (by omega)
    have e1 : (a + (c : Int)) / d ≤ a + (c : Int) := Int.ediv_le_self d (by omega)
    have e2 : 0 ≤ (a + (c : Int)) / d := Int.ediv_nonneg (by omega) (by omega)
    have w3 : wrapA .i64 ((a + (c : Int)) / d) = (a + (c : Int)) / d := wA (by omega) (by omega)
    have w4 : wrapA .i64 (q + 1) = q + 1 := wA (by omega) (by omega)
    have next : ∀ (hh : AHeap) (nn : Nat), nx + 19 ≤ nn → (∀ i, i < nx + 18 → hh i = h i) → hh (nx + 18) = some ⟨(col d p a q long c).cells, 4, true⟩ →
        ∃ sa' sc' h' nx', F28_J5 call Y0 lf k d p a q long sa c sc (some (nx + 18, 0)) n c hh nn = some (.tuple [.slice sa' n sc', .int .i64 0], h', nx') ∧ OwnSl h' nx0 nx' sa' n 4 (cols d p a q long n) ∧ Ext h0 nx0 h' nx' := by
      intro hh nn hnn hold hnew
      rw [F28_J5_eq]
      simp only [Option.bind_some]
      rw [ldR_at hnew (by simp [Col.cells])]
      simp only [Col.cells, List.drop_zero, Option.bind_some, asAgg, List.take, List.length_cons, List.length_nil, if_true, List.getD_cons_zero, List.getD_cons_succ, asI, asB]
      have hs' : OwnSl (hh.put (nn + 2) (some ⟨(col d p a q long c).cells, 4, true⟩)) nx0 (nn + 3) sa c 4 (cols d p a q long c) := ⟨hs.1, hs.2.imp id fun ⟨i, f1, f2, f3, f4⟩ => ⟨i, f1, f2, by omega, (put_ne (by omega)).trans ((hold i (by omega)).trans f4)⟩⟩
      have hsrc : srcS (hh.put (nn + 2) (some ⟨[.int .i64 (col d p a q long c).drive, .int .i64 (col d p a q long c).at_, .int .i64 (col d p a q long c).len, .bool (col d p a q long c).par], 4, true⟩)) (some (nn + 2, 0)) 1 4 = some (1, (col d p a q long c).cells, [nn + 2]) := by
        simp [srcS, Col.cells]
      rw [hsrc]
      simp only [Option.bind_some]
      obtain ⟨ee, f1, f2, f3, f4⟩ := hs'.append (c := sc) (bytes := 32) (id := nn + 3) (k := 1) (ws := (col d p a q long c).cells) (rd := [nn + 2]) (by omega) (by simp [Col.cells]) (growOk_of (by omega) (by omega)) (by have := hx.1; omega) (by omega)
      have f1' := f1
      simp only [Col.cells] at f1'
      rw [← cols_succ] at f3
      simp only [Col.cells] at f3 f4 ⊢
      rw [f1']
      simp only [Option.bind_some]
      rw [w1, f2]
      refine ih k (c + 1) ee.a ee.c _ _ (by omega) (by omega) ⟨f3.1, f3.2.imp id fun ⟨i, g1, g2, g3, g4⟩ => ⟨i, g1, g2, by omega, g4⟩⟩ ?_
      have hx1 : Ext h0 nx0 hh nn := ⟨by have := hx.1; omega, fun i hi => (hold i (by have := hx.1; omega)).trans (hx.2 i hi)⟩
      have hx2 : Ext h0 nx0 (hh.put (nn + 2) (some ⟨[.int .i64 (col d p a q long c).drive, .int .i64 (col d p a q long c).at_, .int .i64 (col d p a q long c).len, .bool (col d p a q long c).par], 4, true⟩)) (nn + 3) := hx1.put (by have := hx.1; omega) (by omega)
      exact ⟨by have := f4.1; omega, fun i hi => (f4.2 i hi).trans (hx2.2 i hi)⟩
    rw [F28_L4_eq, if_pos (by simp; omega), if_neg (by omega), if_neg (by omega), w2, t1, t2, w3]
    simp only [stA, put_same, Option.bind_some]
    rw [if_pos (by simp [storeOk, AV.cells, allOne, AV.one])]
    simp only [Option.bind_some]
    have hsp : splice [AV.int .i64 0, .int .i64 0, .int .i64 0, .bool false] 0 (AV.agg [.int .i64 ((a + (c : Int)) % d), .int .i64 ((a + (c : Int)) / d), .int .i64 q, .bool (decide ((c : Int) < p))]).cells = [.int .i64 ((a + (c : Int)) % d), .int .i64 ((a + (c : Int)) / d), .int .i64 q, .bool (decide ((c : Int) < p))] := by simp [splice, AV.cells]
    rw [hsp]
    by_cases hc : (c : Int) < long
    · rw [if_pos (by simpa using hc)]
      simp only [ldA_put, List.getElem?_cons_zero, List.getElem?_cons_succ, Option.bind_some, asI, if_true, w4, put_same]
      rw [if_pos (by simp [storeOk, AV.cells, allOne, AV.one])]
      simp only [Option.bind_some]
      refine next _ _ (by omega) (fun i hi => by rw [put_ne (by omega), put_ne (by omega), put_ne (by omega)]) ?_
      simp [splice, AV.cells, Col.cells, col, hc]
    · rw [if_neg (by simpa using hc)]
      refine next _ _ (by omega) (fun i hi => by rw [put_ne (by omega), put_ne (by omega)]) ?_
      simp [Col.cells, col, hc]

end Go.Proofs.Ytalfcokiooaliaa.T.B

namespace Go.Proofs.Ytalfcokiooaliaa.T.B
open Go Go.RowKit Go.Proofs

/-- How many columns, how long: of d drives, parity p, count n. -/
def longOf (d p n : Int) : Int := if n % (d - p) > 0 then n % (d - p) + p else 0
def manyOf (d p n : Int) : Int := if n / (d - p) = 0 then longOf d p n else d

theorem columns_spec {k : Nat} (hk : 20 ≤ k) (d p a n : Int) (h : AHeap) (nx : Nat) (hd : 2 ≤ d) (hd' : d ≤ 8) (hp : 1 ≤ p) (hp' : p ≤ 3) (hpd : p < d) (ha : 0 ≤ a) (ha' : a ≤ 65536) (hn : 1 ≤ n) (hn' : n ≤ 32) :
    ∃ sa sc h' nx', callP Try.prog keepT k Y0 28 [.int .i64 d, .int .i64 p, .int .i64 a, .int .i64 n] h nx = some (.tuple [.slice sa (manyOf d p n).toNat sc, .int .i64 0], h', nx') ∧
      OwnSl h' nx nx' sa (manyOf d p n).toNat 4 (cols d p a (n / (d - p)) (longOf d p n) (manyOf d p n).toNat) ∧ Ext h nx h' nx' := by
  obtain ⟨k, rfl⟩ : ∃ m, k = m + 1 := ⟨k - 1, by omega⟩
  have w1 : wrapA .i64 (d - p) = d - p := wA (by omega) (by omega)
  have t1 : Int.tmod n (d - p) = n % (d - p) := Int.tmod_eq_emod_of_nonneg (by omega)
  have t2 : Int.tdiv n (d - p) = n / (d - p) := Int.tdiv_eq_ediv_of_nonneg (by omega)
  have e1 : n / (d - p) ≤ n := Int.ediv_le_self _ (by omega)
  have e2 : 0 ≤ n / (d - p) := Int.ediv_nonneg (by omega) (by omega)
  have m0 := Int.emod_nonneg n (show d - p ≠ 0 by omega)
  have m1 := Int.emod_lt_of_pos n (show 0 < d - p by omega)
  have w2 : wrapA .i64 (n / (d - p)) = n / (d - p) := wA (by omega) (by omega)
  have w3 : wrapA .i64 (n % (d - p) + p) = n % (d - p) + p := wA (by omega) (by omega)
  have hl0 : 0 ≤ longOf d p n := by unfold longOf; split <;> omega
  have hl1 : longOf d p n ≤ d := by unfold longOf; split <;> omega
  have hm0 : 0 ≤ manyOf d p n := by unfold manyOf; split <;> omega
  have hm1 : manyOf d p n ≤ d := by unfold manyOf; split <;> omega
  rw [F28_eq]
  simp only [stA, put_same, Option.bind_some]
  rw [if_pos (by simp [storeOk, AV.cells, allOne, AV.one])]
  simp only [mst_]
  have hsp : splice [AV.int .i64 0, AV.int .i64 0] 0 (AV.agg [.int .i64 d, .int .i64 p]).cells = [.int .i64 d, .int .i64 p] := by simp [splice, AV.cells]
  rw [hsp, ldR_at (put_same _ _ _) (by simp)]
  rw [show (([AV.int .i64 d, AV.int .i64 p].drop 0).take 2) = [AV.int .i64 d, AV.int .i64 p] from by simp]
  simp only [mst_]
  obtain ⟨h1, n1, x1, c1⟩ := may_spec (k := k) (by omega) d p (((h.put (nx + 5) (some ⟨[.int .i64 0, .int .i64 0], 2, true⟩)).put (nx + 5) (some ⟨[.int .i64 d, .int .i64 p], 2, true⟩))) (nx + 20) hd hd' hp hp' hpd
  rw [c1]
  simp only [mst_]
  rw [counted_spec (by omega) n _ _ hn hn']
  simp only [mst_]
  rw [addressed_spec (by omega) a _ _ ha ha']
  simp only [mst_]
  have hx : Ext h nx h1 n1 := ⟨by have := x1.1; omega, fun i hi => (x1.2 i (by omega)).trans (by rw [put_ne (by omega), put_ne (by omega)])⟩
  have lp := fun nn (hnn : n1 ≤ nn) => columns_loop (callP Try.prog keepT k) k d p a (n / (d - p)) (longOf d p n) (manyOf d p n).toNat hd hd' ha ha' e2 (by omega) (by omega) h nx (manyOf d p n).toNat k 0 none false h1 nn (by omega) (by omega) (by simp [cols]; exact OwnSl.nil _ _ _ _) (hx.le hnn)
  rw [Int.toNat_of_nonneg hm0] at lp
  have big : ∀ nn, ∀ r : Option (AV × AHeap × Nat), r = F28_L4 (callP Try.prog keepT k) Y0 k k d p a (n / (d - p)) (longOf d p n) none 0 false (manyOf d p n) 0 h1 nn → n1 ≤ nn → ∃ sa sc h' nx', r = some (.tuple [.slice sa (manyOf d p n).toNat sc, .int .i64 0], h', nx') ∧
      OwnSl h' nx nx' sa (manyOf d p n).toNat 4 (cols d p a (n / (d - p)) (longOf d p n) (manyOf d p n).toNat) ∧ Ext h nx h' nx' := by
    intro nn r hr hnn
    obtain ⟨sa, sc, h', nx', f1, f2, f3⟩ := lp nn hnn
    exact ⟨sa, sc, h', nx', hr.trans f1, f2, f3⟩
  rw [F28_J1_eq, w1, if_neg (by omega), if_neg (by omega), t1, t2, w2, w3]
  by_cases hr : n % (d - p) > 0
  · have el : longOf d p n = n % (d - p) + p := by unfold longOf; rw [if_pos hr]
    rw [if_pos (by simpa using hr), F28_J2_eq, ← el]
    by_cases hq : n / (d - p) = 0
    · have em : manyOf d p n = longOf d p n := by unfold manyOf; rw [if_pos hq]
      rw [if_pos (by simpa using hq), F28_J3_eq]
      refine big _ _ (by rw [em]) ?_
      omega
    · have em : manyOf d p n = d := by unfold manyOf; rw [if_neg hq]
      rw [if_neg (by simpa using hq), F28_J3_eq]
      refine big _ _ (by rw [em]) ?_
      omega
  · have el : longOf d p n = 0 := by unfold longOf; rw [if_neg hr]
    rw [if_neg (by simpa using hr), F28_J2_eq]
    by_cases hq : n / (d - p) = 0
    · have em : manyOf d p n = longOf d p n := by unfold manyOf; rw [if_pos hq]
      rw [if_pos (by simpa using hq), F28_J3_eq]
      refine big _ _ (by rw [em, el]) ?_
      omega
    · have em : manyOf d p n = d := by unfold manyOf; rw [if_neg hq]
      rw [if_neg (by simpa using hq), F28_J3_eq]
      refine big _ _ (by rw [em, el]) ?_
      omega

end Go.Proofs.Ytalfcokiooaliaa.T.B

namespace Go.Proofs.Ytalfcokiooaliaa.T.B
open Go Go.RowKit Go.Proofs

/-- The four sums, exact. -/
structure Sm where
  a : Int
  b : Int
  c : Int
  d : Int
def Sm.step (s : Sm) (w : Int) : Sm := ⟨s.a + w, s.b + (s.a + w), s.c + (s.b + (s.a + w)), s.d + (s.c + (s.b + (s.a + w)))⟩
/-- Their cells, wrapped. -/
def Sm.cells (s : Sm) : List AV := [.int .i64 (wrapA .i64 s.a), .int .i64 (wrapA .i64 s.b), .int .i64 (wrapA .i64 s.c), .int .i64 (wrapA .i64 s.d)]
theorem wrap_add (x y : Int) : wrapA .i64 (wrapA .i64 x + wrapA .i64 y) = wrapA .i64 (x + y) := by
  show wrap64 (wrap64 x + wrap64 y) = wrap64 (x + y); unfold wrap64; omega
theorem wrap_addl (x y : Int) : wrapA .i64 (wrapA .i64 x + y) = wrapA .i64 (x + y) := by
  show wrap64 (wrap64 x + y) = wrap64 (x + y); unfold wrap64; omega
theorem wrap_addr (x y : Int) : wrapA .i64 (x + wrapA .i64 y) = wrapA .i64 (x + y) := by
  show wrap64 (x + wrap64 y) = wrap64 (x + y); unfold wrap64; omega
theorem w01 : wrapA .i64 (0 + 1) = 1 := by decide
theorem w12 : wrapA .i64 (1 + 1) = 2 := by decide
theorem w23 : wrapA .i64 (2 + 1) = 3 := by decide
theorem w34 : wrapA .i64 (3 + 1) = 4 := by decide
theorem n0 : Int.toNat 0 * 1 = 0 := by decide
theorem n1 : Int.toNat 1 * 1 = 1 := by decide
theorem n2 : Int.toNat 2 * 1 = 2 := by decide
theorem n3 : Int.toNat 3 * 1 = 3 := by decide

theorem word_spec {k : Nat} (hk : 6 ≤ k) (s : Sm) (w : Int) (h : AHeap) (nx : Nat) :
    ∃ h' nx', callP Try.prog keepT k Y0 33 [.agg s.cells, .int .i64 w] h nx = some (.agg (s.step w).cells, h', nx') ∧ Ext h nx h' nx' := by
  obtain ⟨k, rfl⟩ : ∃ m, k = m + 1 := ⟨k - 1, by omega⟩
  obtain ⟨lf, hlf⟩ : ∃ m, k = m + 5 := ⟨k - 5, by omega⟩
  rw [F33_eq, if_pos (by simp [Sm.cells, allOne, AV.one])]
  dsimp only
  generalize callP Try.prog keepT k Y0 = call
  rw [hlf]
  have ne1 : nx ≠ nx + 1 := by omega
  rw [F33_L1_eq, if_pos (by decide), some_bind, if_pos (by decide), n0, ld_at ((put_ne ne1).trans (put_same _ _ _)) rfl]
  simp only [mst_]
  rw [if_pos (by decide), st_one ((put_ne ne1).trans (put_same _ _ _)) rfl (by simp [Sm.cells])]
  rw [if_pos (by decide), ld_at (put_same _ _ _) rfl]
  simp only [mst_]
  rw [w01]
  rw [F33_L1_eq, if_pos (by decide), some_bind, if_pos (by decide), n1, ld_at (put_same _ _ _) rfl]
  simp only [mst_]
  rw [if_pos (by decide), st_one (put_same _ _ _) rfl (by simp [Sm.cells]), put_put]
  rw [if_pos (by decide), ld_at (put_same _ _ _) rfl]
  simp only [mst_]
  rw [w12]
  rw [F33_L1_eq, if_pos (by decide), some_bind, if_pos (by decide), n2, ld_at (put_same _ _ _) rfl]
  simp only [mst_]
  rw [if_pos (by decide), st_one (put_same _ _ _) rfl (by simp [Sm.cells]), put_put]
  rw [if_pos (by decide), ld_at (put_same _ _ _) rfl]
  simp only [mst_]
  rw [w23]
  rw [F33_L1_eq, if_pos (by decide), some_bind, if_pos (by decide), n3, ld_at (put_same _ _ _) rfl]
  simp only [mst_]
  rw [if_pos (by decide), st_to (cs' := (s.step w).cells) (put_same _ _ _) rfl (by simp [Sm.cells]) (by simp [Sm.cells, Sm.step, wrap_add, wrap_addl, wrap_addr]), put_put]
  rw [if_pos (by decide), ld_at (put_same _ _ _) rfl]
  simp only [mst_]
  rw [w34]
  rw [F33_L1_eq, if_neg (by decide), some_bind, ldr_all (put_same _ _ _) (by rfl), some_bind, st_all ((put_ne (by omega)).trans (put_same _ _ _)) (by rfl) (by rfl) (by rfl), some_bind, ldr_all (put_same _ _ _) (by rfl)]
  refine ⟨_, _, rfl, by omega, ?_⟩
  intro i hi
  rw [put_ne (by omega), put_ne (by omega), put_ne (by omega), put_ne (by omega)]

theorem sum_spec {k : Nat} (hk : 1 ≤ k) (s : Sm) (h : AHeap) (nx : Nat) : ∃ h' nx', callP Try.prog keepT k Y0 34 [.agg s.cells] h nx = some (.agg s.cells, h', nx') ∧ Ext h nx h' nx' := by
  obtain ⟨k, rfl⟩ : ∃ m, k = m + 1 := ⟨k - 1, by omega⟩
  have ne1 : nx ≠ nx + 1 := by omega
  rw [F34_eq, if_pos (by simp [Sm.cells, allOne, AV.one])]
  rw [if_pos (by decide), n0, ld_at ((put_ne ne1).trans (put_same _ _ _)) rfl]
  simp only [mst_]
  rw [if_pos (by decide), n1, ld_at ((put_ne ne1).trans (put_same _ _ _)) rfl]
  simp only [mst_]
  rw [if_pos (by decide), n2, ld_at ((put_ne ne1).trans (put_same _ _ _)) rfl]
  simp only [mst_]
  rw [if_pos (by decide), n3, ld_at ((put_ne ne1).trans (put_same _ _ _)) rfl]
  simp only [mst_]
  rw [st_all (put_same _ _ _) (by rfl) (by rfl) (by rfl)]
  rw [ldr_all (put_same _ _ _) (by rfl)]
  simp only [mst_]
  refine ⟨_, _, rfl, by omega, ?_⟩
  intro i hi
  rw [put_ne (by omega), put_ne (by omega), put_ne (by omega)]

theorem of_spec {k : Nat} (hk : 1 ≤ k) (s : Sm) (h : AHeap) (nx : Nat) : ∃ h', callP Try.prog keepT k Y0 32 [.agg s.cells] h nx = some (.agg s.cells, h', nx + 12) ∧ Ext h nx h' (nx + 12) := by
  obtain ⟨k, rfl⟩ : ∃ m, k = m + 1 := ⟨k - 1, by omega⟩
  have ne1 : nx ≠ nx + 1 := by omega
  show ∃ h', callP Try.prog keepT (k + 1) Y0 32 [.agg [.int .i64 (wrapA .i64 s.a), .int .i64 (wrapA .i64 s.b), .int .i64 (wrapA .i64 s.c), .int .i64 (wrapA .i64 s.d)]] h nx = _ ∧ _
  rw [F32_eq]
  rw [ld_at ((put_ne ne1).trans (put_same _ _ _)) rfl]
  simp only [mst_]
  rw [ld_at ((put_ne ne1).trans (put_same _ _ _)) rfl]
  simp only [mst_]
  rw [ld_at ((put_ne ne1).trans (put_same _ _ _)) rfl]
  simp only [mst_]
  rw [ld_at ((put_ne ne1).trans (put_same _ _ _)) rfl]
  simp only [mst_]
  rw [st_all (put_same _ _ _) (by rfl) (by rfl) (by rfl)]
  rw [ldr_all (put_same _ _ _) (by rfl)]
  refine ⟨_, rfl, by omega, ?_⟩
  intro i hi
  rw [put_ne (by omega), put_ne (by omega), put_ne (by omega)]

end Go.Proofs.Ytalfcokiooaliaa.T.B

namespace Go.Proofs.Ytalfcokiooaliaa.T.B
open Go Go.RowKit Go.Proofs

theorem or_low {i : Nat} (hi : i ≤ 31) (x y : Int) (hx0 : 0 ≤ x) (hx : x < 2 ^ i) (hy0 : 0 ≤ y) (hy : y % 2 ^ i = 0) (hy1 : y < 4294967296) : bits .or .i64 x y = x + y := by
  have hk : ∀ n : Int, 0 ≤ n → n < 2 ^ 32 → IntKind.i64.wrap n = n := fun n h0 h1 => by rw [IntKind.wrap_i64]; omega
  obtain ⟨a, rfl⟩ := Int.eq_ofNat_of_zero_le hx0
  obtain ⟨b, rfl⟩ := Int.eq_ofNat_of_zero_le hy0
  have hp : (2 : Int) ^ i ≤ 2 ^ 31 := by
    have : (2 : Nat) ^ i ≤ 2 ^ 31 := Nat.pow_le_pow_right (by decide) hi
    exact_mod_cast this
  have ha : (a : Int) < 4294967296 := by omega
  have e := bits_join .i64 32 (by decide) hk i (b : Int) (a : Int) (by omega) hy (by omega) (by omega) hx (by omega)
  rw [(bits_nat .i64 32 (by decide) hk b a (by omega) (by omega)).2] at e
  rw [(bits_nat .i64 32 (by decide) hk a b (by omega) (by omega)).2, Nat.or_comm, e, Int.add_comm]

def wordOf (a b c d : Int) : Int := a + b * 256 + c * 65536 + d * 16777216
theorem word_bits (a b c d : Int) (ha : 0 ≤ a ∧ a < 256) (hb : 0 ≤ b ∧ b < 256) (hc : 0 ≤ c ∧ c < 256) (hd : 0 ≤ d ∧ d < 256) :
    bits .or .i64 (bits .or .i64 (bits .or .i64 (wrapA .i64 a) (wrapA .i64 ((wrapA .i64 b) * (2:Int) ^ min (Int.toNat 8) (IntKind.bits .i64)))) (wrapA .i64 ((wrapA .i64 c) * (2:Int) ^ min (Int.toNat 16) (IntKind.bits .i64)))) (wrapA .i64 ((wrapA .i64 d) * (2:Int) ^ min (Int.toNat 24) (IntKind.bits .i64))) = wordOf a b c d := by
  have e8 : (2:Int) ^ min (Int.toNat 8) (IntKind.bits .i64) = 256 := by decide
  have e16 : (2:Int) ^ min (Int.toNat 16) (IntKind.bits .i64) = 65536 := by decide
  have e24 : (2:Int) ^ min (Int.toNat 24) (IntKind.bits .i64) = 16777216 := by decide
  rw [e8, e16, e24, wA (x := a) (by omega) (by omega), wA (x := b) (by omega) (by omega), wA (x := c) (by omega) (by omega), wA (x := d) (by omega) (by omega), wA (x := b * 256) (by omega) (by omega), wA (x := c * 65536) (by omega) (by omega), wA (x := d * 16777216) (by omega) (by omega)]
  rw [or_low (i := 8) (by decide) a (b * 256) (by omega) (by omega) (by omega) (by omega) (by omega)]
  rw [or_low (i := 16) (by decide) (a + b * 256) (c * 65536) (by omega) (by omega) (by omega) (by omega) (by omega)]
  rw [or_low (i := 24) (by decide) (a + b * 256 + c * 65536) (d * 16777216) (by omega) (by omega) (by omega) (by omega) (by omega)]
  rfl

def wordsOf : List Int → List Int
  | a :: b :: c :: d :: r => wordOf a b c d :: wordsOf r
  | _ => []
def Bytes (l : List Int) : Prop := ∀ x ∈ l, 0 ≤ x ∧ x < 256
theorem wordsOf_append : ∀ (m : Nat) (l r : List Int), l.length = 4 * m → wordsOf (l ++ r) = wordsOf l ++ wordsOf r
  | 0, l, r, h => by
    have : l = [] := List.length_eq_zero_iff.1 (by omega)
    subst this; rfl
  | m + 1, l, r, h => by
    obtain ⟨a, b, c, d, l', rfl⟩ : ∃ a b c d l', l = a :: b :: c :: d :: l' := by
      match l, h with
      | a :: b :: c :: d :: l', _ => exact ⟨a, b, c, d, l', rfl⟩
    simp only [List.cons_append, wordsOf]
    rw [wordsOf_append m l' r (by simp at h; omega)]
def Sm.fold (s : Sm) (ws : List Int) : Sm := ws.foldl Sm.step s

theorem more_loop {k0 : Nat} (hk0 : 6 ≤ k0) (lf : Nat) {h0 : AHeap} {nx0 i4 i6 : Nat} (hi4 : nx0 ≤ i4) (hi6 : nx0 ≤ i6) (h46 : i4 ≠ i6) (m : Nat) :
    ∀ (l : List Int) (s : Sm) (r : Nat) (a : Option (Nat × Nat)) (c : Bool) (h : AHeap) (nx : Nat) (cs : List AV), l.length = 4 * m → m < r → Bytes l → Sl h0 nx0 a l.length 1 (ints .u8 l) → Ext h0 nx0 h nx → i4 < nx → i6 < nx → h i6 = some ⟨s.cells, 1, true⟩ → h i4 = some ⟨cs, 4, true⟩ → cs.length = 4 →
    ∃ h' nx', F22_L1 (callP Try.prog keepT k0) Y0 lf r a l.length c (some (i4, 0)) (some (i6, 0)) h nx = some (.tuple [.agg (s.fold (wordsOf l)).cells, .int .i64 0], h', nx') ∧ Ext h0 nx0 h' nx' := by
  induction m with
  | zero =>
    intro l s r a c h nx cs hl hr hb hs hx h4 h6 b6 b4 hcs
    obtain ⟨r, rfl⟩ : ∃ m, r = m + 1 := ⟨r - 1, by omega⟩
    have hl0 : l = [] := List.length_eq_zero_iff.1 (by omega)
    subst hl0
    obtain ⟨h1, n1, e1, x1⟩ := sum_spec (k := k0) (by omega) s h (nx + 7)
    have b4' : h1 i4 = some ⟨cs, 4, true⟩ := (x1.2 i4 (by omega)).trans b4
    have x1' := x1.1
    rw [F22_L1_eq, if_neg (by simp), some_bind, ldr_all b6 (by rfl), e1]
    simp only [mst_]
    show ∃ h' nx', ((asAgg 4 (AV.agg [.int .i64 (wrapA .i64 s.a), .int .i64 (wrapA .i64 s.b), .int .i64 (wrapA .i64 s.c), .int .i64 (wrapA .i64 s.d)])).bind _ = _) ∧ _
    rw [asAgg_4]
    simp only [mst_]
    rw [st_all b4' (by rfl) hcs (by rfl), ldr_all (put_same _ _ _) (by rfl), asAgg_4]
    simp only [mst_]
    refine ⟨_, _, rfl, by have := hx.1; omega, fun i hi => ?_⟩
    rw [put_ne (by omega), x1.2 i (by have := hx.1; omega), hx.2 i hi]
  | succ m ih =>
    intro l s r a c h nx cs hl hr hb hs hx h4 h6 b6 b4 hcs
    obtain ⟨r, rfl⟩ : ∃ m, r = m + 1 := ⟨r - 1, by omega⟩
    obtain ⟨w0, w1, w2, w3, l', rfl⟩ : ∃ a b c d l', l = a :: b :: c :: d :: l' := by
      match l, hl with
      | a :: b :: c :: d :: l', _ => exact ⟨a, b, c, d, l', rfl⟩
    generalize hL : w0 :: w1 :: w2 :: w3 :: l' = L at *
    have hlen : L.length = l'.length + 4 := by rw [← hL]; simp
    have hsx := hs.ext hx
    have g0 := Sl.readI (R := AV × AHeap × Nat) hsx (i := 0) (by omega)
    have g1 := Sl.readI (R := AV × AHeap × Nat) hsx (i := 1) (by omega)
    have g2 := Sl.readI (R := AV × AHeap × Nat) hsx (i := 2) (by omega)
    have g3 := Sl.readI (R := AV × AHeap × Nat) hsx (i := 3) (by omega)
    rw [show L[0] = w0 from by subst hL; rfl] at g0
    rw [show L[1] = w1 from by subst hL; rfl] at g1
    rw [show L[2] = w2 from by subst hL; rfl] at g2
    rw [show L[3] = w3 from by subst hL; rfl] at g3
    have q0 := hb w0 (by rw [← hL]; simp)
    have q1 := hb w1 (by rw [← hL]; simp)
    have q2 := hb w2 (by rw [← hL]; simp)
    have q3 := hb w3 (by rw [← hL]; simp)
    rw [F22_L1_eq, if_pos (by simp; omega), some_bind, ldr_all b6 (by rfl)]
    erw [g0]
    simp only [mst_]
    erw [g1]
    simp only [mst_]
    erw [g2]
    simp only [mst_]
    erw [g3]
    simp only [mst_]
    rw [word_bits w0 w1 w2 w3 q0 q1 q2 q3]
    obtain ⟨h1, n1, e1, x1⟩ := word_spec (k := k0) (by omega) s (wordOf w0 w1 w2 w3) h (nx + 28)
    have x1' := x1.1
    have hx' := hx.1
    have b6' : h1 i6 = some ⟨s.cells, 1, true⟩ := (x1.2 i6 (by omega)).trans b6
    have b4' : h1 i4 = some ⟨cs, 4, true⟩ := (x1.2 i4 (by omega)).trans b4
    rw [e1]
    simp only [mst_]
    rw [show asRow (AV.agg (s.step (wordOf w0 w1 w2 w3)).cells) = some (s.step (wordOf w0 w1 w2 w3)).cells from rfl, some_bind, st_all b6' (by rfl) (by rfl) (by rfl)]
    have hx2 : Ext h0 nx0 (h1.put i6 (some ⟨(s.step (wordOf w0 w1 w2 w3)).cells, 1, true⟩)) (n1 + 3) := ⟨by omega, fun i hi => by rw [put_ne (by omega), x1.2 i (by omega), hx.2 i hi]⟩
    obtain ⟨ce, _, _⟩ := (hs.ext hx2).cut c (lo := 4) (hi := L.length) (by omega) (Nat.le_refl _) (l := some (.int .i64 4)) (r := none) (by simp [boundA]; omega) bound_none
    obtain ⟨_, cs', _⟩ := hs.cut c (lo := 4) (hi := L.length) (by omega) (Nat.le_refl _) (l := some (.int .i64 4)) (r := none) (by simp [boundA]; omega) bound_none
    rw [ce]
    simp only [mst_]
    have hd : ((ints .u8 L).drop (4 * 1)).take ((L.length - 4) * 1) = ints .u8 l' := by
      rw [show (L.length - 4) * 1 = l'.length by omega, ← hL]
      show (ints .u8 l').take l'.length = _
      rw [List.take_of_length_le (by simp [ints])]
    rw [hd] at cs'
    have hll : L.length - 4 = l'.length := by omega
    rw [hll] at cs' ⊢
    have fw : s.fold (wordsOf L) = (s.step (wordOf w0 w1 w2 w3)).fold (wordsOf l') := by rw [← hL]; rfl
    rw [fw]
    exact ih l' _ r _ _ _ (n1 + 3) cs (by omega) (by omega) (fun x hxm => hb x (by rw [← hL]; simp [hxm])) cs' hx2 (by omega) (by omega) (put_same _ _ _) ((put_ne h46).trans b4') hcs

theorem more_spec {k : Nat} (s : Sm) (l : List Int) (m : Nat) (hl : l.length = 4 * m) (hk : m + 10 ≤ k) (hb : Bytes l) {a : Option (Nat × Nat)} (c : Bool) {h : AHeap} {nx : Nat} (hs : Sl h nx a l.length 1 (ints .u8 l)) :
    ∃ h' nx', callP Try.prog keepT k Y0 22 [.agg s.cells, .slice a l.length c] h nx = some (.tuple [.agg (s.fold (wordsOf l)).cells, .int .i64 0], h', nx') ∧ Ext h nx h' nx' := by
  obtain ⟨k, rfl⟩ : ∃ m, k = m + 1 := ⟨k - 1, by omega⟩
  have ne1 : nx ≠ nx + 1 := by omega
  have hmod : Int.tmod ((l.length : Nat) : Int) 4 = 0 := by rw [Int.tmod_eq_emod_of_nonneg (by omega)]; omega
  show ∃ h' nx', callP Try.prog keepT (k + 1) Y0 22 [.agg [.int .i64 (wrapA .i64 s.a), .int .i64 (wrapA .i64 s.b), .int .i64 (wrapA .i64 s.c), .int .i64 (wrapA .i64 s.d)], .slice a l.length c] h nx = _ ∧ _
  rw [F22_eq, hmod, if_neg (by decide), ldr_all ((put_ne ne1).trans (put_same _ _ _)) (by rfl), asAgg_4]
  simp only [mst_]
  generalize hH : (h.put nx (some ⟨[.int .i64 (wrapA .i64 s.a), .int .i64 (wrapA .i64 s.b), .int .i64 (wrapA .i64 s.c), .int .i64 (wrapA .i64 s.d)], 4, true⟩)).put (nx + 1) (some ⟨[.int .i64 0, .int .i64 0, .int .i64 0, .int .i64 0], 4, true⟩) = H
  have hH1 : H (nx + 1) = some ⟨[.int .i64 0, .int .i64 0, .int .i64 0, .int .i64 0], 4, true⟩ := by rw [← hH, put_same]
  have hxH : Ext h nx H (nx + 11) := ⟨by omega, fun i hi => by rw [← hH, put_ne (by omega), put_ne (by omega)]⟩
  obtain ⟨h1, e1, x1⟩ := of_spec (k := k) (by omega) s H (nx + 11)
  have e1' : callP Try.prog keepT k Y0 32 [.agg [.int .i64 (wrapA .i64 s.a), .int .i64 (wrapA .i64 s.b), .int .i64 (wrapA .i64 s.c), .int .i64 (wrapA .i64 s.d)]] H (nx + 11) = some (.agg s.cells, h1, nx + 11 + 12) := e1
  rw [e1']
  simp only [mst_]
  rw [show asRow (AV.agg s.cells) = some s.cells from rfl, some_bind, st_all (put_same _ _ _) (by rfl) (by rfl) (by rfl)]
  have hx2 : Ext h nx ((h1.put (nx + 9) (some ⟨[.int .i64 0, .int .i64 0, .int .i64 0, .int .i64 0], 1, true⟩)).put (nx + 9) (some ⟨s.cells, 1, true⟩)) (nx + 11 + 12) :=
    ⟨by omega, fun i hi => by rw [put_ne (by omega), put_ne (by omega), x1.2 i (by omega), hxH.2 i hi]⟩
  obtain ⟨h', nx', e2, x2⟩ := more_loop (k0 := k) (by omega) k (h0 := h) (nx0 := nx) (i4 := nx + 1) (i6 := nx + 9) (by omega) (by omega) (by omega) m l s k a c _ (nx + 11 + 12) _ hl (by omega) hb hs hx2 (by omega) (by omega) (put_same _ _ _) ((put_ne (by omega)).trans ((put_ne (by omega)).trans ((x1.2 (nx + 1) (by omega)).trans hH1))) rfl
  exact ⟨h', nx', e2, x2⟩

def Sm.zero : Sm := ⟨0, 0, 0, 0⟩
theorem ofb_spec {k : Nat} (l : List Int) (m : Nat) (hl : l.length = 4 * m) (hk : m + 20 ≤ k) (hb : Bytes l) {a : Option (Nat × Nat)} (c : Bool) {h : AHeap} {nx : Nat} (hs : Sl h nx a l.length 1 (ints .u8 l)) :
    ∃ h' nx', callP Try.prog keepT k Y0 14 [.slice a l.length c] h nx = some (.tuple [.agg (Sm.zero.fold (wordsOf l)).cells, .int .i64 0], h', nx') ∧ Ext h nx h' nx' := by
  obtain ⟨k, rfl⟩ : ∃ m, k = m + 1 := ⟨k - 1, by omega⟩
  have hx : Ext h nx (h.put nx (some ⟨[.int .i64 0, .int .i64 0, .int .i64 0, .int .i64 0], 4, true⟩)) (nx + 9) := ⟨by omega, fun i hi => put_ne (by omega)⟩
  obtain ⟨h1, n1, e1, x1⟩ := more_spec (k := k) Sm.zero l m hl (by omega) hb c (hs.ext hx)
  have e1' : callP Try.prog keepT k Y0 22 [.agg [.int .i64 0, .int .i64 0, .int .i64 0, .int .i64 0], .slice a l.length c] (h.put nx (some ⟨[.int .i64 0, .int .i64 0, .int .i64 0, .int .i64 0], 4, true⟩)) (nx + 9) = _ := e1
  have x1' := x1.1
  rw [F14_eq]
  dsimp only
  rw [e1']
  simp only [mst_]
  generalize Sm.zero.fold (wordsOf l) = s
  rw [show asAgg 4 (AV.agg s.cells) = some [.int .i64 (wrapA .i64 s.a), .int .i64 (wrapA .i64 s.b), .int .i64 (wrapA .i64 s.c), .int .i64 (wrapA .i64 s.d)] from asAgg_4 _ _ _ _]
  simp only [mst_]
  rw [st_all ((x1.2 nx (by omega)).trans (put_same _ _ _)) (by rfl) (by rfl) (by rfl), ldr_all (put_same _ _ _) (by rfl), asAgg_4]
  simp only [mst_]
  exact ⟨_, _, rfl, by omega, fun i hi => by rw [put_ne (by omega), x1.2 i (by omega), put_ne (by omega)]⟩

end Go.Proofs.Ytalfcokiooaliaa.T.B
