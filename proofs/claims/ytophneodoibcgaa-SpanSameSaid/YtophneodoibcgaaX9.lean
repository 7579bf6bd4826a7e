/- Picked, RangeOf, SetOf, sameRanges. -/
import Derived.Test.YtophneodoibcgaaX8
set_option linter.unusedVariables false
set_option linter.unusedSimpArgs false
namespace Go.Proofs.Ytophneodoibcgaa.T
open Go Go.RowKit Go.Proofs

def pickL (x n : Int) : Int := if Int.tmod x n < 0 then Int.tmod x n + n else Int.tmod x n
theorem pickL_in {x n : Int} (h : 0 < n) : 0 ≤ pickL x n ∧ pickL x n < n := by
  have h1 : Int.tmod x n < n := Int.tmod_lt_of_pos x h
  have h2 : -n < Int.tmod x n := by have := Int.lt_tmod_of_pos x h; omega
  unfold pickL
  split <;> omega
def pickK (x n : Int) : Nat := if Int.tmod x n < 0 then 11 else 9
theorem picked_spec {f : Nat} (hf : 1 ≤ f) (Y : YldF) (x n : Int) (h0 : 0 < n) (h1 : n ≤ 100000000) (h : AHeap) (nx : Nat) : callP Try.prog keepT f Y 7 [.int .i64 x, .int .i64 n] h nx = some (.int .i64 (pickL x n), h, nx + pickK x n) := by
  obtain ⟨f, rfl⟩ : ∃ m, f = m + 1 := ⟨f - 1, by omega⟩
  have h2 : Int.tmod x n < n := Int.tmod_lt_of_pos x h0
  have h3 : -n < Int.tmod x n := by have := Int.lt_tmod_of_pos x h0; omega
  rw [F7_eq, if_neg (by omega)]
  unfold pickL pickK
  by_cases c : Int.tmod x n < 0
  · rw [if_pos (decide_eq_true c), if_pos c, if_pos c, wA (by omega) (by omega)]
  · rw [if_neg (by rw [decide_eq_true_eq]; exact c), if_neg c, if_neg c]

def rangeP (p : Int × Int) : Int × Int := (pickL p.1 300, pickL p.1 300 + 1 + pickL p.2 60)
theorem rangeP_ok (p : Int × Int) : 0 ≤ (rangeP p).1 ∧ (rangeP p).1 < (rangeP p).2 ∧ (rangeP p).2 ≤ 360 := by
  have h1 := pickL_in (x := p.1) (n := 300) (by decide)
  have h2 := pickL_in (x := p.2) (n := 60) (by decide)
  unfold rangeP
  simp only
  omega
theorem rangeP_max (p : Int × Int) : 0 ≤ (rangeP p).1 ∧ (rangeP p).1 < (rangeP p).2 ∧ (rangeP p).2 ≤ MAXC := by
  have := rangeP_ok p
  have hM : MAXC = 1048576 := rfl
  omega
theorem range_spec {f : Nat} (hf : 2 ≤ f) (Y : YldF) (p : Int × Int) (h : AHeap) (nx : Nat) :
    ∃ h' nx', callP Try.prog keepT f Y 10 [.int .i64 p.1, .int .i64 p.2] h nx = some (.agg [.int .i64 (rangeP p).1, .int .i64 (rangeP p).2], h', nx') ∧ Ext h nx h' nx' := by
  obtain ⟨f, rfl⟩ : ∃ m, f = m + 1 := ⟨f - 1, by omega⟩
  have h1 := pickL_in (x := p.1) (n := 300) (by decide)
  have h2 := pickL_in (x := p.2) (n := 60) (by decide)
  rw [F10_eq]
  dsimp only
  rw [picked_spec (by omega) Y p.1 300 (by decide) (by decide)]
  simp only [mst_]
  rw [picked_spec (by omega) Y p.2 60 (by decide) (by decide)]
  simp only [mst_]
  rw [wA (x := pickL p.1 300 + 1) (by omega) (by omega), wA (x := pickL p.1 300 + 1 + pickL p.2 60) (by omega) (by omega), st_all (put_same _ _ _) (by rfl) (by rfl) (by rfl), put_put, ldr_all (put_same _ _ _) (n := 2) rfl]
  simp only [mst_]
  exact ⟨_, _, rfl, ⟨by omega, fun j hj => put_ne (by omega)⟩⟩

/-! ### SetOf -/
def pairsL : List Int → RL
  | a :: b :: r => (a, b) :: pairsL r
  | _ => []
theorem pairsL_len : ∀ l : List Int, (pairsL l).length = l.length / 2
  | [] => rfl
  | [_] => by simp [pairsL]
  | a :: b :: r => by
    show (pairsL r).length + 1 = (r.length + 2) / 2
    rw [pairsL_len r]; omega
theorem pairsL_get : ∀ (l : List Int) (i : Nat) (h : 2 * i + 1 < l.length), (pairsL l)[i]? = some (l[2 * i], l[2 * i + 1])
  | [], i, h => by simp at h
  | [_], i, h => by simp at h
  | a :: b :: r, 0, _ => rfl
  | a :: b :: r, i + 1, h => by
    have := pairsL_get r i (by simp at h; omega)
    show (pairsL r)[i]? = _
    rw [this]
    rfl
noncomputable def setL (ps : RL) : RL := ps.foldl (fun l p => addL l (rangeP p)) []
theorem setL_snoc (ps : RL) (p : Int × Int) : setL (ps ++ [p]) = addL (setL ps) (rangeP p) := by unfold setL; rw [List.foldl_append]; rfl
theorem setL_ok (B : Int) (hB : 360 ≤ B) : ∀ (ps : RL), Set' B ps.length (setL ps) ∧ ∀ k, Hs (setL ps) k ↔ ∃ p ∈ ps, (rangeP p).1 ≤ k ∧ k < (rangeP p).2 := fun ps => by
  induction h : ps.length generalizing ps with
  | zero =>
    have : ps = [] := List.length_eq_zero_iff.1 h
    subst this
    exact ⟨⟨Cn.nil, fun r hr => (by cases hr), Nat.le_refl _⟩, fun k => ⟨fun q => absurd q (Hs_nil k), fun ⟨_, q, _⟩ => by cases q⟩⟩
  | succ n ih =>
    obtain ⟨qs, p, rfl⟩ : ∃ qs p, ps = qs ++ [p] := ⟨ps.dropLast, ps.getLast (by intro e; rw [e] at h; cases h), (List.dropLast_concat_getLast _).symm⟩
    rw [List.length_append, List.length_singleton] at h
    obtain ⟨i1, i2⟩ := ih qs (by omega)
    rw [setL_snoc]
    have hr := rangeP_ok p
    obtain ⟨a1, a2⟩ := add_set i1 (r := rangeP p) ⟨hr.1, hr.2.1, by omega⟩
    refine ⟨a1, fun k => ?_⟩
    rw [a2, i2]
    constructor
    · rintro (⟨q, hq, z⟩ | z)
      · exact ⟨q, List.mem_append_left _ hq, z⟩
      · exact ⟨p, by simp, z⟩
    · rintro ⟨q, hq, z⟩
      rcases List.mem_append.1 hq with hq | hq
      · exact .inl ⟨q, hq, z⟩
      · simp at hq; subst hq; exact .inr z
theorem setL_max (ps : RL) : Set' MAXC ps.length (setL ps) := (setL_ok MAXC (by decide) ps).1

theorem set_loop {f lf : Nat} (hf : 1300 ≤ f) (Y : YldF) {h0 : AHeap} {n0 : Nat} {a : Option (Nat × Nat)} {c : Option Nat} {L : List Int} {n : Nat} (hn : n ≤ 100) (s : Sl h0 n0 a L.length 1 (ints .i64 L)) (hL : L.length ≤ 100000000000000) (d : Nat) :
    ∀ (q i : Nat) (h : AHeap) (nx : Nat) (oa : Option (Nat × Nat)) (oc : Option Nat), i + d = n → i ≤ (pairsL L).length → d < q → Ext h0 n0 h nx → OwnSl h n0 nx oa (setL ((pairsL L).take i)).length 2 (pairCells (setL ((pairsL L).take i))) →
      ∃ oa' oc' h' nx', F8_L1 (callP Try.prog keepT f) Y lf q a L.length c (n : Int) oa (setL ((pairsL L).take i)).length oc ((2 * i : Nat) : Int) h nx = some (.tuple [.slice oa' (setL ((pairsL L).take n)).length oc', .bool true], h', nx') ∧ OwnSl h' n0 nx' oa' (setL ((pairsL L).take n)).length 2 (pairCells (setL ((pairsL L).take n))) ∧ Ext h0 n0 h' nx' := by
  have fin : ∀ (i : Nat) (h : AHeap) (nx : Nat) (oa : Option (Nat × Nat)) (oc : Option Nat), (pairsL L).take i = (pairsL L).take n → Ext h0 n0 h nx → OwnSl h n0 nx oa (setL ((pairsL L).take i)).length 2 (pairCells (setL ((pairsL L).take i))) →
      ∃ oa' oc' h' nx', F8_J3 (callP Try.prog keepT f) Y lf oa (setL ((pairsL L).take i)).length oc h nx = some (.tuple [.slice oa' (setL ((pairsL L).take n)).length oc', .bool true], h', nx') ∧ OwnSl h' n0 nx' oa' (setL ((pairsL L).take n)).length 2 (pairCells (setL ((pairsL L).take n))) ∧ Ext h0 n0 h' nx' := fun i h nx oa oc e x w => by
    have hx1 := x.1
    rw [e] at w ⊢
    have hl : ((pairsL L).take n).length ≤ 100 := by rw [List.length_take]; omega
    obtain ⟨h1, n1, r1, x1⟩ := may_spec (f := f) (by omega) Y oc (by omega) (setL_max ((pairsL L).take n)) (nx := nx + 5) (w.sl.ext ⟨by omega, fun _ _ => rfl⟩)
    have hx2 := x1.1
    rw [F8_J3_eq, r1]
    simp only [mst_]
    exact ⟨oa, oc, h1, n1, rfl, w.ext ⟨by omega, fun j hj => x1.2 j (by omega)⟩, ⟨by omega, fun j hj => (x1.2 j (by omega)).trans (x.2 j hj)⟩⟩
  have hpl := pairsL_len L
  induction d with
  | zero =>
    intro q i h nx oa oc e hi hq x w
    obtain ⟨q, rfl⟩ : ∃ m, q = m + 1 := ⟨q - 1, by omega⟩
    obtain rfl : i = n := by omega
    have hx1 := x.1
    rw [F8_L1_eq, wsucc (by omega)]
    have e2 : wrapA .i64 (2 * (i : Int)) = 2 * i := wA (by omega) (by omega)
    rw [e2]
    by_cases c1 : 2 * i + 1 < L.length
    · rw [if_pos (decide_eq_true (by omega)), if_neg (by rw [decide_eq_true_eq]; omega)]
      exact fin i h _ oa oc rfl (x.le (by omega)) (w.le (by omega))
    · rw [if_neg (by rw [decide_eq_true_eq]; omega)]
      exact fin i h _ oa oc rfl (x.le (by omega)) (w.le (by omega))
  | succ d ih =>
    intro q i h nx oa oc e hi hq x w
    obtain ⟨q, rfl⟩ : ∃ m, q = m + 1 := ⟨q - 1, by omega⟩
    have hx1 := x.1
    rw [F8_L1_eq, wsucc (by omega)]
    have e2 : wrapA .i64 (2 * (n : Int)) = 2 * n := wA (by omega) (by omega)
    rw [e2]
    by_cases c1 : 2 * i + 1 < L.length
    · rw [if_pos (decide_eq_true (by omega)), if_pos (decide_eq_true (by omega)), F8_J2_eq]
      have sx := s.ext x
      have g0 : (ints .i64 L)[2 * i * 1]? = some (.int .i64 L[2 * i]) := ints_get (by omega)
      have g1 : (ints .i64 L)[(2 * i + 1) * 1]? = some (.int .i64 L[2 * i + 1]) := ints_get c1
      rw [sx.read0 (i := ((2 * i : Nat) : Int)) (v := .int .i64 L[2 * i]) (by omega) (by omega) (by omega) (by rw [Int.toNat_natCast]; exact g0)]
      simp only [mst_]
      rw [wsucc (by omega), sx.read0 (i := ((2 * i + 1 : Nat) : Int)) (v := .int .i64 L[2 * i + 1]) (by omega) (by omega) (by omega) (by rw [Int.toNat_natCast]; exact g1)]
      simp only [mst_]
      have hp := pairsL_get L i c1
      have hpi : i < (pairsL L).length := by omega
      have htk : (pairsL L).take (i + 1) = (pairsL L).take i ++ [(L[2 * i], L[2 * i + 1])] := by rw [List.take_add_one, hp]; rfl
      obtain ⟨h1, n1, r1, x1⟩ := range_spec (f := f) (by omega) Y (L[2 * i], L[2 * i + 1]) h (nx + 11 + 17)
      have hx2 := x1.1
      rw [r1]
      simp only [mst_]
      have hl : ((pairsL L).take i).length ≤ 100 := by rw [List.length_take]; omega
      have w1 : OwnSl h1 n0 n1 oa (setL ((pairsL L).take i)).length 2 (pairCells (setL ((pairsL L).take i))) := w.ext ⟨by omega, fun j hj => x1.2 j (by omega)⟩
      obtain ⟨oa2, oc2, h2, n2, r2, w2, x2⟩ := add_spec (f := f) (by omega) Y oc (by omega) (setL_max ((pairsL L).take i)) (rangeP_max (L[2 * i], L[2 * i + 1])) w1.sl
      have hx3 := x2.1
      rw [r2]
      simp only [mst_]
      rw [if_neg (by decide), ← setL_snoc, ← htk, wA (x := ((2 * i : Nat) : Int) + 2) (by omega) (by omega)]
      rw [← setL_snoc, ← htk] at w2
      have := ih q (i + 1) h2 (n2 + 7) oa2 oc2 (by omega) (by omega) (by omega) ⟨by omega, fun j hj => by rw [x2.2 j (by omega), x1.2 j (by omega)]; exact x.2 j hj⟩ ((w2.from (by omega)).le (by omega))
      rw [show ((2 * (i + 1) : Nat) : Int) = ((2 * i : Nat) : Int) + 2 by omega] at this
      exact this
    · rw [if_neg (by rw [decide_eq_true_eq]; omega)]
      exact fin i h _ oa oc (by rw [List.take_of_length_le (by omega), List.take_of_length_le (by omega)]) (x.le (by omega)) (w.le (by omega))

theorem set_spec {f : Nat} (hf : 1400 ≤ f) (Y : YldF) {h : AHeap} {nx : Nat} {a : Option (Nat × Nat)} (c : Option Nat) {L : List Int} {n : Nat} (hn : n ≤ 100) (s : Sl h nx a L.length 1 (ints .i64 L)) (hL : L.length ≤ 100000000000000) :
    ∃ oa oc h' nx', callP Try.prog keepT f Y 8 [.slice a L.length c, .int .i64 (n : Int)] h nx = some (.tuple [.slice oa (setL ((pairsL L).take n)).length oc, .bool true], h', nx') ∧ OwnSl h' nx nx' oa (setL ((pairsL L).take n)).length 2 (pairCells (setL ((pairsL L).take n))) ∧ Ext h nx h' nx' := by
  obtain ⟨f, rfl⟩ : ∃ m, f = m + 1 := ⟨f - 1, by omega⟩
  rw [F8_eq]
  exact set_loop (f := f) (lf := f) (by omega) Y (c := c) hn s hL n f 0 h (nx + 4) none none (by omega) (by omega) (by omega) ⟨by omega, fun _ _ => rfl⟩ (OwnSl.nil _ _ _ _)

theorem same_loop {f lf : Nat} {Y : YldF} {h : AHeap} {n0 : Nat} {a b : Option (Nat × Nat)} {c e : Option Nat} {l : RL} (hl : l.length ≤ 1000) (s : RS h n0 a l) (t : RS h n0 b l) (d : Nat) :
    ∀ (q i nx : Nat), i + d = l.length → d < q → n0 ≤ nx → ∃ nx', F9_L1 (callP Try.prog keepT f) Y lf q a l.length c b l.length e (i : Int) h nx = some (.bool true, h, nx') ∧ nx ≤ nx' := by
  induction d with
  | zero =>
    intro q i nx e hq hn
    obtain ⟨q, rfl⟩ : ∃ m, q = m + 1 := ⟨q - 1, by omega⟩
    rw [F9_L1_eq, if_neg (by rw [decide_eq_true_eq]; omega)]
    exact ⟨_, rfl, by omega⟩
  | succ d ih =>
    intro q i nx e hq hn
    obtain ⟨q, rfl⟩ : ∃ m, q = m + 1 := ⟨q - 1, by omega⟩
    have hi : i < l.length := by omega
    obtain ⟨_, _, r3⟩ := s.rd (R := Res) (List.getElem?_eq_getElem hi)
    obtain ⟨_, _, t3⟩ := t.rd (R := Res) (List.getElem?_eq_getElem hi)
    rw [F9_L1_eq, if_pos (decide_eq_true (by omega)), r3]
    simp only [mst_]
    rw [t3]
    simp only [mst_]
    rw [if_neg (by simp [eqCells, eqA1]), wsucc (by omega)]
    obtain ⟨n', z1, z2⟩ := ih q (i + 1) (nx + 16) (by omega) (by omega) (by omega)
    exact ⟨n', z1, by omega⟩
theorem same_spec {f : Nat} (hf : 1100 ≤ f) (Y : YldF) {h : AHeap} {nx : Nat} {a b : Option (Nat × Nat)} (c e : Option Nat) {l : RL} (hl : l.length ≤ 1000) (s : RS h nx a l) (t : RS h nx b l) :
    ∃ nx', callP Try.prog keepT f Y 9 [.slice a l.length c, .slice b l.length e] h nx = some (.bool true, h, nx') ∧ nx ≤ nx' := by
  obtain ⟨f, rfl⟩ : ∃ m, f = m + 1 := ⟨f - 1, by omega⟩
  rw [F9_eq, if_neg (by simp)]
  obtain ⟨n', z1, z2⟩ := same_loop (f := f) (lf := f) (Y := Y) (c := c) (e := e) hl s t l.length f 0 (nx + 7) (by omega) (by omega) (by omega)
  exact ⟨n', z1, by omega⟩

end Go.Proofs.Ytophneodoibcgaa.T
