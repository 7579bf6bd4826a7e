import Derived.Test.YtdjbhonncjcbjaaTJ
import Derived.Test.YtdjbhonncjcbjaaPb
set_option linter.unusedVariables false
set_option linter.unusedSimpArgs false
namespace Go.Proofs.Ytdjbhonncjcbjaa.T
open Go Go.RowKit Go.Proofs

theorem picked_spec {k : Nat} (hk : 1 ≤ k) (a n : Int) (h : AHeap) (nx : Nat) (h0 : 0 < n) (h1 : n ≤ 4611686018427387904) : ∃ nx', callP Try.prog keepT k Y0 15 [.int .i64 a, .int .i64 n] h nx = some (.int .i64 (a % n), h, nx') ∧ nx ≤ nx' := by
  obtain ⟨k, rfl⟩ : ∃ m, k = m + 1 := ⟨k - 1, by omega⟩
  rw [F15_eq, if_neg (by omega)]
  have e := Int.tmod_eq_emod (a := a) (b := n)
  have b0 := Int.emod_nonneg a (show n ≠ 0 by omega)
  have b1 := Int.emod_lt_of_pos a h0
  by_cases c : 0 ≤ a ∨ n ∣ a
  · rw [if_pos c] at e
    rw [if_neg (by simp; omega)]
    exact ⟨_, by rw [show Int.tmod a n = a % n by omega], by omega⟩
  · rw [if_neg c] at e
    rw [if_pos (by simp; omega), wA (by omega) (by omega)]
    exact ⟨_, by rw [show Int.tmod a n + n = a % n by omega], by omega⟩

theorem shape_spec {k : Nat} (hk : 2 ≤ k) (a b : Int) (h : AHeap) (nx : Nat) : ∃ d p nx', nx ≤ nx' ∧ 2 ≤ d ∧ d ≤ 8 ∧ 1 ≤ p ∧ p ≤ 3 ∧ p < d ∧ callP Try.prog keepT k Y0 14 [.int .i64 a, .int .i64 b] h nx = some (.tuple [.int .i64 d, .int .i64 p], h, nx') := by
  obtain ⟨k, rfl⟩ : ∃ m, k = m + 1 := ⟨k - 1, by omega⟩
  rw [F14_eq]
  obtain ⟨n1, e1, l1⟩ := picked_spec (k := k) (by omega) a 7 h (nx + 6) (by omega) (by omega)
  have b0 := Int.emod_nonneg a (show (7:Int) ≠ 0 by omega)
  have b1 := Int.emod_lt_of_pos a (show (0:Int) < 7 by omega)
  rw [e1]
  simp only [Option.bind_some, asI, if_true]
  rw [wA (x := 2 + a % 7) (by omega) (by omega), wA (x := 2 + a % 7 - 1) (by omega) (by omega)]
  obtain ⟨m, hm, hm0, hm1, hm2⟩ : ∃ m : Int, (if 2 + a % 7 - 1 < 3 then 2 + a % 7 - 1 else 3) = m ∧ 1 ≤ m ∧ m ≤ 3 ∧ m < 2 + a % 7 := ⟨_, rfl, by split <;> omega, by split <;> omega, by split <;> omega⟩
  rw [hm]
  obtain ⟨n2, e2, l2⟩ := picked_spec (k := k) (by omega) b m h (n1 + 9) (by omega) (by omega)
  have c0 := Int.emod_nonneg b (show m ≠ 0 by omega)
  have c1 := Int.emod_lt_of_pos b (show 0 < m by omega)
  rw [e2]
  simp only [Option.bind_some, asI, if_true]
  rw [wA (x := 1 + b % m) (by omega) (by omega)]
  exact ⟨_, _, _, by omega, by omega, by omega, by omega, by omega, by omega, rfl⟩

theorem may_spec {k : Nat} (hk : 1 ≤ k) (d p : Int) (h : AHeap) (nx : Nat) (hd : 2 ≤ d) (hd' : d ≤ 8) (hp : 1 ≤ p) (hp' : p ≤ 3) (hpd : p < d) : ∃ h' nx', Ext h nx h' nx' ∧ callP Try.prog keepT k Y0 33 [.agg [.int .i64 d, .int .i64 p]] h nx = some (.bool true, h', nx') := by
  obtain ⟨k, rfl⟩ : ∃ m, k = m + 1 := ⟨k - 1, by omega⟩
  rw [F33_eq]
  simp only [ldA_put, List.getElem?_cons_zero, List.getElem?_cons_succ, Option.bind_some, asI, if_true]
  rw [if_pos (by simpa using hd), if_pos (by simpa using hd'), if_pos (by simpa using hp), if_pos (by simpa using hp'), decide_eq_true hpd]
  exact ⟨_, _, (Ext.refl h nx).put (Nat.le_refl _) (by omega), rfl⟩
theorem counted_spec {k : Nat} (hk : 1 ≤ k) (n : Int) (h : AHeap) (nx : Nat) (hn : 1 ≤ n) (hn' : n ≤ 32) : callP Try.prog keepT k Y0 34 [.int .i64 n] h nx = some (.bool true, h, nx + 8) := by
  obtain ⟨k, rfl⟩ : ∃ m, k = m + 1 := ⟨k - 1, by omega⟩
  rw [F34_eq, if_pos (by simpa using hn), decide_eq_true hn']
theorem addressed_spec {k : Nat} (hk : 1 ≤ k) (n : Int) (h : AHeap) (nx : Nat) (hn : 0 ≤ n) (hn' : n ≤ 65536) : callP Try.prog keepT k Y0 32 [.int .i64 n] h nx = some (.bool true, h, nx + 8) := by
  obtain ⟨k, rfl⟩ : ∃ m, k = m + 1 := ⟨k - 1, by omega⟩
  rw [F32_eq, if_pos (by simpa using hn), decide_eq_true hn']

/-! ### columns -/
structure Col where
  drive : Int
  at_ : Int
  len : Int
  par : Bool
def Col.cells (c : Col) : List AV := [.int .i64 c.drive, .int .i64 c.at_, .int .i64 c.len, .bool c.par]
def col (d p a q long : Int) (c : Nat) : Col := ⟨(a + c) % d, (a + c) / d, if (c : Int) < long then q + 1 else q, decide ((c : Int) < p)⟩
def cols (d p a q long : Int) (n : Nat) : List AV := (List.range n).flatMap fun c => (col d p a q long c).cells

theorem cols_succ (d p a q long : Int) (n : Nat) : cols d p a q long (n + 1) = cols d p a q long n ++ (col d p a q long n).cells := by
  simp [cols, List.range_succ]
theorem cols_len (d p a q long : Int) (n : Nat) : (cols d p a q long n).length = n * 4 := by
  induction n with
  | zero => rfl
  | succ n ih => rw [cols_succ, List.length_append, ih]; simp [Col.cells]; omega
theorem cols_at (d p a q long : Int) (n c f : Nat) (hc : c < n) (hf : f < 4) : (cols d p a q long n)[c * 4 + f]? = (col d p a q long c).cells[f]? := by
  induction n with
  | zero => omega
  | succ n ih =>
    rw [cols_succ]
    by_cases e : c < n
    · rw [List.getElem?_append_left (by rw [cols_len]; omega)]; exact ih e
    · obtain rfl : c = n := by omega
      rw [List.getElem?_append_right (by rw [cols_len]; omega), cols_len]
      congr 1; omega

theorem columns_loop (call : YldF → CallF) (lf : Nat) (d p a q long : Int) (n : Nat) (hd : 2 ≤ d) (hd' : d ≤ 8) (ha : 0 ≤ a) (ha' : a ≤ 65536) (hq : 0 ≤ q) (hq' : q ≤ 32) (hn : (n : Int) ≤ 8) (h0 : AHeap) (nx0 : Nat) (m : Nat) :
    ∀ (k c : Nat) (sa : Option (Nat × Nat)) (sc : Bool) (h : AHeap) (nx : Nat), c + m = n → m < k → OwnSl h nx0 nx sa c 4 (cols d p a q long c) → Ext h0 nx0 h nx →
    ∃ sa' sc' h' nx', F23_L4 call Y0 lf k d p a q long sa c sc n c h nx = some (.tuple [.slice sa' n sc', .int .i64 0], h', nx') ∧ OwnSl h' nx0 nx' sa' n 4 (cols d p a q long n) ∧ Ext h0 nx0 h' nx' := by
  induction m with
  | zero =>
    intro k c sa sc h nx e hk hs hx
    obtain ⟨k, rfl⟩ : ∃ m, k = m + 1 := ⟨k - 1, by omega⟩
    obtain rfl : c = n := by omega
    rw [F23_L4_eq, if_neg (by simp)]
    exact ⟨_, _, _, _, rfl, ⟨hs.1, hs.2.imp id fun ⟨i, e1, e2, e3, e4⟩ => ⟨i, e1, e2, by omega, e4⟩⟩, hx.le (by omega)⟩
  | succ m ih =>
    intro k c sa sc h nx e hk hs hx
    obtain ⟨k, rfl⟩ : ∃ m, k = m + 1 := ⟨k - 1, by omega⟩
    have w1 : wrapA .i64 ((c : Int) + 1) = ((c + 1 : Nat) : Int) := by rw [wA (by omega) (by omega)]; omega
    have w2 : wrapA .i64 (a + (c : Int)) = a + (c : Int) := wA (by omega) (by omega)
    have t1 : Int.tmod (a + (c : Int)) d = (a + (c : Int)) % d := Int.tmod_eq_emod_of_nonneg (by omega)
    have t2 : Int.tdiv (a + (c : Int)) d = (a + (c : Int)) / d := Int.tdiv_eq_ediv_of_nonneg (by omega)
    have e1 : (a + (c : Int)) / d ≤ a + (c : Int) := Int.ediv_le_self d (by omega)
    have e2 : 0 ≤ (a + (c : Int)) / d := Int.ediv_nonneg (by omega) (by omega)
    have w3 : wrapA .i64 ((a + (c : Int)) / d) = (a + (c : Int)) / d := wA (by omega) (by omega)
    have w4 : wrapA .i64 (q + 1) = q + 1 := wA (by omega) (by omega)
    have next : ∀ (hh : AHeap) (nn : Nat), nx + 19 ≤ nn → (∀ i, i < nx + 18 → hh i = h i) → hh (nx + 18) = some ⟨(col d p a q long c).cells, 4, true⟩ →
        ∃ sa' sc' h' nx', F23_J5 call Y0 lf k d p a q long sa c sc (some (nx + 18, 0)) n c hh nn = some (.tuple [.slice sa' n sc', .int .i64 0], h', nx') ∧ OwnSl h' nx0 nx' sa' n 4 (cols d p a q long n) ∧ Ext h0 nx0 h' nx' := by
      intro hh nn hnn hold hnew
      rw [F23_J5_eq]
      simp only [Option.bind_some]
      rw [ldR_at hnew (by simp [Col.cells])]
      simp only [Col.cells, List.drop_zero, Option.bind_some, asAgg, List.take, List.length_cons, List.length_nil, if_true, List.getD_cons_zero, List.getD_cons_succ, asI, asB]
      have hs' : OwnSl (hh.put (nn + 2) (some ⟨(col d p a q long c).cells, 4, true⟩)) nx0 (nn + 3) sa c 4 (cols d p a q long c) := ⟨hs.1, hs.2.imp id fun ⟨i, f1, f2, f3, f4⟩ => ⟨i, f1, f2, by omega, (put_ne (by omega)).trans ((hold i (by omega)).trans f4)⟩⟩
      have hsrc : srcS (hh.put (nn + 2) (some ⟨[.int .i64 (col d p a q long c).drive, .int .i64 (col d p a q long c).at_, .int .i64 (col d p a q long c).len, .bool (col d p a q long c).par], 4, true⟩)) (some (nn + 2, 0)) 1 4 = some (1, (col d p a q long c).cells, [nn + 2]) := by
        simp [srcS, Col.cells]
      rw [hsrc]
      simp only [Option.bind_some]
      obtain ⟨ee, f1, f2, f3, f4⟩ := hs'.append (c := sc) (bytes := 32) (id := nn + 3) (k := 1) (ws := (col d p a q long c).cells) (rd := [nn + 2]) (by omega) (by simp [Col.cells]) (growOk_of (by omega) (by omega)) (by have := hx.1; omega) (by omega)
      have f1' := f1
      simp only [Col.cells] at f1'
      rw [← cols_succ] at f3
      simp only [Col.cells] at f3 f4 ⊢
      rw [f1']
      simp only [Option.bind_some]
      rw [w1, f2]
      refine ih k (c + 1) ee.a ee.c _ _ (by omega) (by omega) ⟨f3.1, f3.2.imp id fun ⟨i, g1, g2, g3, g4⟩ => ⟨i, g1, g2, by omega, g4⟩⟩ ?_
      have hx1 : Ext h0 nx0 hh nn := ⟨by have := hx.1; omega, fun i hi => (hold i (by have := hx.1; omega)).trans (hx.2 i hi)⟩
      have hx2 : Ext h0 nx0 (hh.put (nn + 2) (some ⟨[.int .i64 (col d p a q long c).drive, .int .i64 (col d p a q long c).at_, .int .i64 (col d p a q long c).len, .bool (col d p a q long c).par], 4, true⟩)) (nn + 3) := hx1.put (by have := hx.1; omega) (by omega)
      exact ⟨by have := f4.1; omega, fun i hi => (f4.2 i hi).trans (hx2.2 i hi)⟩
    rw [F23_L4_eq, if_pos (by simp; omega), if_neg (by omega), if_neg (by omega), w2, t1, t2, w3]
    simp only [stA, put_same, Option.bind_some]
    rw [if_pos (by simp [storeOk, AV.cells, allOne, AV.one])]
    simp only [Option.bind_some]
    have hsp : splice [AV.int .i64 0, .int .i64 0, .int .i64 0, .bool false] 0 (AV.agg [.int .i64 ((a + (c : Int)) % d), .int .i64 ((a + (c : Int)) / d), .int .i64 q, .bool (decide ((c : Int) < p))]).cells = [.int .i64 ((a + (c : Int)) % d), .int .i64 ((a + (c : Int)) / d), .int .i64 q, .bool (decide ((c : Int) < p))] := by simp [splice, AV.cells]
    rw [hsp]
    by_cases hc : (c : Int) < long
    · rw [if_pos (by simpa using hc)]
      simp only [ldA_put, List.getElem?_cons_zero, List.getElem?_cons_succ, Option.bind_some, asI, if_true, w4, put_same]
      rw [if_pos (by simp [storeOk, AV.cells, allOne, AV.one])]
      simp only [Option.bind_some]
      refine next _ _ (by omega) (fun i hi => by rw [put_ne (by omega), put_ne (by omega), put_ne (by omega)]) ?_
      simp [splice, AV.cells, Col.cells, col, hc]
    · rw [if_neg (by simpa using hc)]
      refine next _ _ (by omega) (fun i hi => by rw [put_ne (by omega), put_ne (by omega)]) ?_
      simp [Col.cells, col, hc]

end Go.Proofs.Ytdjbhonncjcbjaa.T
